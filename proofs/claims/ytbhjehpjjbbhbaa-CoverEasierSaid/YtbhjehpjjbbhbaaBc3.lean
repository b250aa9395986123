/- Operations on maps and arrays: abstract and real agree / All operations but calls of functions: abstract and real agree / Regions over abstract values: one order stands for all / The order of a region's operations: over abstract values one order stands for all -/
import Derived.Test.YtbhjehpjjbbhbaaBc2
import Derived.Laws.NewFold
import Derived.Maps.RangeRun
import Derived.Test.YtbhjehpjjbbhbaaBc1
set_option linter.unusedSimpArgs false
set_option linter.unusedVariables false
namespace Go.Proofs.Ytbhjehpjjbbhbaa
open Go.RowKit
variable {F:Nat → Prop}

abbrev setBlk (w:World) (b:Nat) (o:Obj):World:={ w with heap:=w.heap.setIfInBounds b o }
theorem Chg.setBlk (w:World) (b:Nat) (o:Obj):Chg (fun y=>y = b) w (setBlk w b o) :=
 ⟨rfl,rfl,rfl,by simp,fun x _ hn=>by simp [Ne.symm hn]⟩
theorem setBlk_get {w:World} {b:Nat} {o o':Obj} (h:w.heap[b]? = some o):(setBlk w b o').heap[b]? = some o':=by
 have:=lt_of_heap h
 simp [this]
theorem aidx_keys (L:List (List Int × AV)) (l:List Int):(L.map (·.1)).findIdx? (· == l) = aidx L l:=by
 unfold aidx
 rw [List.findIdx?_map];rfl
theorem aidx_some {L:List (List Int × AV)} {l:List Int} {i:Nat} (h:aidx L l = some i):i < L.length ∧ (L.getD i default).1 = l ∧ alook L l = some (L.getD i default).2 ∧ ∀ v,aput L l v = L.set i (l,v):=by
 induction L generalizing i with
 | nil=>simp [aidx] at h
 | cons p L ih =>
  simp only [aidx,List.findIdx?_cons] at h
  by_cases hp:p.1 = l
  ·have hb:(p.1 == l) = true:=by simpa using hp
   rw [hb] at h
   simp only [if_true,Option.some.injEq] at h
   subst h
   exact ⟨by simp,by simpa using hp,by simp [alook,hb],fun v=>by simp [aput,hp]⟩
  ·have hb:(p.1 == l) = false:=by simpa using hp
   rw [hb] at h
   simp only [Bool.false_eq_true,if_false,Option.map_eq_some_iff] at h
   obtain ⟨j,hj,rfl⟩:=h
   obtain ⟨h1,h2,h3,h4⟩:=ih hj
   refine ⟨by simpa using h1,by simpa using h2,?_,fun v=>?_⟩
   ·simp only [alook,List.find?_cons,hb] at h3 ⊢
    simpa using h3
   ·simp [aput,hp,h4 v]
theorem aidx_none {L:List (List Int × AV)} {l:List Int} (h:aidx L l = none):l ∉ L.map (·.1) ∧ alook L l = none ∧ ∀ v,aput L l v = L ++ [(l,v)]:=by
 induction L with
 | nil=>exact ⟨by simp,rfl,fun v=>rfl⟩
 | cons p L ih =>
  simp only [aidx,List.findIdx?_cons] at h
  by_cases hp:p.1 = l
  ·have hb:(p.1 == l) = true:=by simpa using hp
   rw [hb] at h;simp at h
  ·have hb:(p.1 == l) = false:=by simpa using hp
   rw [hb] at h
   simp only [Bool.false_eq_true,if_false,Option.map_eq_none_iff] at h
   obtain ⟨h1,h2,h3⟩:=ih h
   refine ⟨by simp only [List.map_cons,List.mem_cons,not_or];exact ⟨fun e=>hp e.symm,h1⟩,?_,fun v=>by simp [aput,hp,h3 v]⟩
   simp only [alook,List.find?_cons,hb] at h2 ⊢
   exact h2
section
variable {P:Program} {g:GM} {h:List AB} {w:World}

theorem set_same {α:Type} {h:List α} {d:Nat} {x:α} (hd:h[d]? = some x):h.set d x = h:=by
 apply List.ext_getElem?
 intro i
 rw [List.getElem?_set]
 split
 ·rename_i e
  subst e
  rw [hd]
  split
  ·rfl
  ·rename_i hn
   rw [List.getElem?_eq_none (by omega)] at hd
   cases hd
 ·rfl
theorem MapOK.keys {M:Nat → Prop} {kt:Nat} {L:List (List Int × AV)} {es:Array MapEntry} (m:MapOK M w kt L es):es.toList.map (·.key) = (L.map (·.1)).map (keyV kt):=by
 apply List.ext_getElem?
 intro i
 rw [List.getElem?_map,List.map_map,List.getElem?_map]
 rcases Nat.lt_or_ge i L.length with hi|hi
 ·obtain ⟨e,a,_,c,_⟩:=m.ent i hi
  have:es.toList[i]? = some e:=by simpa using a
  rw [this,List.getElem?_eq_getElem hi]
  simp only [Option.map_some,c,Function.comp,List.getD,List.getElem?_eq_getElem hi,Option.getD_some]
 ·rw [List.getElem?_eq_none (by simpa [m.len] using hi),List.getElem?_eq_none hi];rfl
theorem MapOK.keyOK {M:Nat → Prop} {kt:Nat} {L:List (List Int × AV)} {es:Array MapEntry} (m:MapOK M w kt L es):∀ x ∈ L.map (·.1),KeyOK kt x:=fun x hx=>by
 obtain ⟨p,hp,rfl⟩:=List.mem_map.1 hx
 exact m.one p hp
theorem MapOK.find {M:Nat → Prop} {kt:Nat} {L:List (List Int × AV)} {es:Array MapEntry} {t k e:TypeId} (m:MapOK M w kt L es) (hT:mapT P t = some (kt,k,e)) {l:List Int} (hl:KeyOK kt l) :
  (∃ i y,aidx L l = some i ∧ es[i]? = some y ∧ (Instr.findKey k (keyV kt l) es.toList).run P w = .ok (some (i,y.val)) w) ∨ (aidx L l = none ∧ (Instr.findKey k (keyV kt l) es.toList).run P w = .ok none w):=by
 have:=find_ok hT w hl es.toList (L.map (·.1)) m.keys m.keyOK
 rw [aidx_keys] at this
 cases hi:aidx L l with
 | none=>rw [hi] at this;exact .inr ⟨rfl,this⟩
 | some i =>
  rw [hi] at this
  obtain ⟨y,a,_⟩:=m.ent i (aidx_some hi).1
  have a':es.toList[i]? = some y:=by simpa using a
  refine .inl ⟨i,y,rfl,a,?_⟩
  rw [this];simp only [Option.bind_some,a',Option.map_some]
/-- An entry is written over, or a new one comes. -/
theorem MapOK.set {M:Nat → Prop} {kt:Nat} {L:List (List Int × AV)} {es:Array MapEntry} (m:MapOK M w kt L es) {i:Nat} {v:AV} {x:Value} (hi:i < L.length) (hv:rep M w v g0 x):MapOK M w kt (L.set i ((L.getD i default).1,v)) (es.modify i fun e=>{ e with key:=keyV kt (L.getD i default).1,val:=x }):=by
 have hk:(L.set i ((L.getD i default).1,v)).map (·.1) = L.map (·.1):=by
  apply List.ext_getElem?
  intro j
  rw [List.getElem?_map,List.getElem?_map,List.getElem?_set]
  split
  ·rename_i e;subst e;simp [hi,List.getD]
  ·rfl
 refine ⟨by simp [m.len],fun j hj=>?_,by rw [hk];exact m.nod,fun p hp=>?_⟩
 ·rw [List.length_set] at hj
  obtain ⟨e,a,b,c,d⟩:=m.ent j hj
  rw [Array.getElem?_modify,a]
  by_cases hij:i = j
  ·subst hij
   refine ⟨{ e with key:=keyV kt (L.getD i default).1,val:=x },by simp,?_,?_,?_⟩
   ·exact b
   ·simp [List.getD,hi]
   ·simpa [List.getD,hi] using hv
  ·refine ⟨e,by simp [hij],b,?_,?_⟩
   ·rw [c];simp [List.getD,List.getElem?_set,hij]
   ·simpa [List.getD,List.getElem?_set,hij] using d
 ·have:p.1 ∈ (L.set i ((L.getD i default).1,v)).map (·.1):=List.mem_map.2 ⟨p,hp,rfl⟩
  rw [hk] at this
  exact m.keyOK _ this
theorem MapOK.push {M:Nat → Prop} {kt:Nat} {L:List (List Int × AV)} {es:Array MapEntry} (m:MapOK M w kt L es) {l:List Int} (hl:KeyOK kt l) (hn:l ∉ L.map (·.1)) {v:AV} {x:Value} (hv:rep M w v g0 x):MapOK M w kt (L ++ [(l,v)]) (es.push { key:=keyV kt l,val:=x,born:=es.size }):=by
 refine ⟨by simp [m.len],fun j hj=>?_,?_,fun p hp=>?_⟩
 ·rw [List.length_append,List.length_singleton] at hj
  by_cases hjl:j < L.length
  ·obtain ⟨e,a,b,c,d⟩:=m.ent j hjl
   have hx:j < es.size:=by rw [m.len];exact hjl
   refine ⟨e,by rw [Array.getElem?_push,if_neg (by omega)];exact a,b,?_,?_⟩
   ·rw [c];simp [List.getD,List.getElem?_append_left hjl]
   ·simpa [List.getD,List.getElem?_append_left hjl] using d
  ·obtain rfl:j = L.length:=by omega
   refine ⟨_,by rw [Array.getElem?_push,if_pos m.len.symm],m.len,?_,?_⟩
   ·simp [List.getD]
   ·simpa [List.getD] using hv
 ·rw [List.map_append,List.nodup_append]
  exact ⟨m.nod,by simp,fun a ha b hb=>by simp at hb;subst hb;exact fun e=>hn (e ▸ ha)⟩
 ·rcases List.mem_append.1 hp with hp|hp
  ·exact m.one p hp
  ·simp at hp;subst hp;exact hl
theorem map_upd (k:HOK F g w h) {d b cap:Nat} {kt:Nat} {L L':List (List Int × AV)} {es es':Array MapEntry} (hd:h[d]? = some (.mp kt L)) (hg:g d = some (b,cap)) (hb:w.heap[b]? = some (.map es es.size)) (m:MapOK (MM F g h) w kt L' es') :
  Tr F g h w g (h.set d (.mp kt L')) (setBlk w b (.map es' es'.size)):=by
 have hl:live h d:=⟨_,hd,trivial⟩
 have hch:Chg (MM F g h) w (setBlk w b (.map es' es'.size)):=(Chg.setBlk w b _).weak (fun x _ e=>by subst e;exact .inr ⟨d,cap,hl,hg⟩)
 exact Tr.upd k hl hg trivial (Chg.setBlk w b _) ⟨es',setBlk_get hb,m.mono hch (fun _ _ h=>h)⟩
theorem run_getObj' {b c:Nat} {es:Array MapEntry} (hb:w.heap[b]? = some (.map es c)):(getObj b).run P w = .ok (.map es c) w:=by
 simp [getObj,Sem.run,hb]
theorem run_setObj' {b c:Nat} {es:Array MapEntry} {o':Obj} (hb:w.heap[b]? = some (.map es c)):(setObj b o').run P w = .ok () (setBlk w b o'):=by
 simp [setObj,Sem.run,hb]

theorem val_mkm (k:HOK F g w h) (kt:Nat) {t:TypeId}:∃ u' w' g',(Instr.makeMap t none).run P w = .ok u' w' ∧ rep (MM F g' (h ++ [.mp kt []])) w' (.mpv h.length) g' u' ∧ Tr F g h w g' (h ++ [.mp kt []]) w' :=
 ⟨.map (some w.heap.size),w.alloc (.map #[] 0),g.push h.length (w.heap.size,0),by simp only [Instr.makeMap,Sem.run_bind,Sem.run_pure,Result.andThen_ok,run_newObj_alloc],⟨w.heap.size,0,by simp [GM.push],rfl⟩,
  Tr.push k (Chg.alloc' _ _) (Nat.le_refl _) ⟨#[],heap_alloc_new _ _,⟨rfl,fun i hi=>absurd hi (Nat.not_lt_zero i),List.nodup_nil,fun p hp=>by cases hp⟩⟩⟩
section
variable {t kT eT:TypeId} {kt:Nat} (hT:mapT P t = some (kt,kT,eT)) (k:HOK F g w h) {d b cap:Nat} {L:List (List Int × AV)} (hd:h[d]? = some (.mp kt L)) (hg:g d = some (b,cap)) {l:List Int} (hl:KeyOK kt l)
include hT k hd hg hl
theorem val_ins {v:AV} {x:Value} (hp:v.pure) (hv:rep (MM F g h) w v g x):∃ w',(Instr.mapUpdate t (.map (some b)) (keyV kt l) x).run P w = .ok () w' ∧ Tr F g h w g (h.set d (.mp kt (aput L l v))) w':=by
 obtain ⟨es,hb,m⟩:=k.mp d kt L b cap hd hg
 have hu:=(mapT_some hT).1
 have hv0:=rep_pure v hp hv
 rcases m.find hT hl with ⟨i,y,h1,h2,h3⟩|⟨h1,h3⟩
 ·obtain ⟨a1,a2,_,a4⟩:=aidx_some h1
  have hkey:((es[i]?).map (·.key)).getD (keyV kt l) = keyV kt l:=by
   obtain ⟨e,b1,_,b3,_⟩:=m.ent i a1
   rw [b1];simp only [Option.map_some,Option.getD_some];rw [b3,a2]
  have m2:=m.set (v:=v) a1 hv0
  rw [a2] at m2
  refine ⟨_,?_,by rw [a4 v];exact map_upd k hd hg hb m2⟩
  simp only [Instr.mapUpdate,Sem.run_bind,run_underlying hu,Result.andThen_ok,run_getObj' hb,checkKey_ok hT w hl false,h3,hkey,keyV_stays,run_setObj' hb,Array.size_modify]
 ·obtain ⟨a1,_,a4⟩:=aidx_none h1
  refine ⟨_,?_,by rw [a4 v];exact map_upd k hd hg hb (m.push hl a1 hv0)⟩
  simp only [Instr.mapUpdate,Sem.run_bind,run_underlying hu,Result.andThen_ok,run_getObj' hb,checkKey_ok hT w hl false,h3,run_setObj' hb,Array.size_push]
theorem val_lkp {ok:Bool} {i:TypeInfo} {z:Value} (hi:P.info? eT = some i) (hz:i.zero = some z):∃ u',(Instr.lookup t (.map (some b)) (keyV kt l) ok).run P w = .ok u' w ∧ rep (MM F g h) w (lkres ok (ofV z) (alook L l)) g u':=by
 obtain ⟨es,hb,m⟩:=k.mp d kt L b cap hd hg
 have hu:=(mapT_some hT).1
 have fin:∀ (v:AV) (x:Value) (q:Bool) (o:Option AV),rep (MM F g h) w v g x → lkres ok (ofV z) o = (match ok with|true=>.tup 2 (ofL [v,.bool q])|false=>v) → rep (MM F g h) w (lkres ok (ofV z) o) g (if ok = true then .tuple #[x,.bool q] else x):=fun v x q o hx he=>by
  rw [he]
  cases ok
  ·simpa using hx
  ·refine ⟨#[x,.bool q],by simp,rfl,fun j hj=>?_⟩
   rcases (show j = 0 ∨ j = 1 by omega) with rfl|rfl
   ·exact ⟨x,rfl,hx⟩
   ·exact ⟨.bool q,rfl,rfl⟩
 rcases m.find hT hl with ⟨j,y,h1,h2,h3⟩|⟨h1,h3⟩
 ·obtain ⟨a1,a2,a3,_⟩:=aidx_some h1
  obtain ⟨e,b1,_,_,b4⟩:=m.ent j a1
  rw [h2] at b1
  injection b1 with b1
  subst b1
  refine ⟨if ok = true then .tuple #[y.val,.bool true] else y.val,?_,fin (L.getD j default).2 y.val true _ (rep_up (g0_le g) b4) (by rw [a3];cases ok <;> rfl)⟩
  simp only [Instr.lookup,Sem.run_bind,run_underlying hu,Result.andThen_ok,run_getObj' hb,Sem.run_pure,checkKey_ok hT w hl es.isEmpty,h3]
 ·obtain ⟨_,a3,_⟩:=aidx_none h1
  refine ⟨if ok = true then .tuple #[z,.bool false] else z,?_,fin (ofV z) z false _ (rep_ofV _ _ _ _) (by rw [a3];cases ok <;> rfl)⟩
  have hzr:(zeroValue eT).run P w = .ok z w:=by simp [zeroValue,typeInfo,hi,hz]
  simp only [Instr.lookup,Sem.run_bind,run_underlying hu,Result.andThen_ok,run_getObj' hb,Sem.run_pure,checkKey_ok hT w hl es.isEmpty,h3,hzr]
theorem val_ment {i:TypeInfo} {z:Value} (hi:P.info? eT = some i) (hz:i.zero = some z) (hp:(ofV z).pure) :
  (∀ j,aidx L l = some j → ∃ u' w',(Instr.mapEntry t (.map (some b)) (keyV kt l)).run P w = .ok u' w' ∧ Tr F g h w g h w' ∧ rep (MM F g h) w' (.tup 2 (ofL [(L.getD j default).2,.int .i64 j])) g u') ∧
  (aidx L l = none → ∃ u' w',(Instr.mapEntry t (.map (some b)) (keyV kt l)).run P w = .ok u' w' ∧ Tr F g h w g (h.set d (.mp kt (L ++ [(l,ofV z)]))) w' ∧ rep (MM F g (h.set d (.mp kt (L ++ [(l,ofV z)])))) w' (.tup 2 (ofL [ofV z,.int .i64 L.length])) g u'):=by
 obtain ⟨es,hb,m⟩:=k.mp d kt L b cap hd hg
 have hu:=(mapT_some hT).1
 have two:∀ {M:Nat → Prop} {W:World} {v:AV} {x:Value} {n:Int},rep M W v g x → rep M W (.tup 2 (ofL [v,.int .i64 n])) g (.tuple #[x,.int .i64 n]):=fun {M W v x n} hx=>by
  refine ⟨_,rfl,rfl,fun j hj=>?_⟩
  rcases (show j = 0 ∨ j = 1 by omega) with rfl|rfl
  ·exact ⟨x,rfl,hx⟩
  ·exact ⟨.int .i64 n,rfl,rfl⟩
 refine ⟨fun j hj=>?_,fun hj=>?_⟩
 ·rcases m.find hT hl with ⟨j',y,h1,h2,h3⟩|⟨h1,h3⟩
  ·rw [h1] at hj
   injection hj with hj
   subst hj
   obtain ⟨a1,a2,a3,_⟩:=aidx_some h1
   obtain ⟨e,b1,b2,b3,b4⟩:=m.ent j' a1
   rw [h2] at b1
   injection b1 with b1
   subst b1
   have hkey:((es[j']?).map (·.key)).getD (keyV kt l) = keyV kt l:=by rw [h2];simp only [Option.map_some,Option.getD_some];rw [b3,a2]
   have hbn:((es[j']?).map (·.born)).getD 0 = j':=by rw [h2];simp [b2]
   have hbn2:((es[j']?).map (fun x=>(x.born:Int))).getD 0 = (j':Int):=by rw [h2];simp [b2]
   have hes:es.modify j' (fun e=>{ e with key:=keyV kt l }) = es:=by
    apply Array.ext
    ·simp
    ·intro q q1 q2
     rw [Array.getElem_modify]
     split
     ·rename_i e
      subst e
      have:es[j'] = y:=by rw [Array.getElem?_eq_getElem q2] at h2;injection h2
      rw [this]
      cases y
      simp only [MapEntry.mk.injEq,and_true,true_and] at *
      rw [b3,a2]
     ·rfl
   have T:=map_upd k hd hg hb m
   have hset:h.set d (.mp kt L) = h:=set_same hd
   rw [hset] at T
   refine ⟨.tuple #[y.val,.int .i64 (j':Nat)],_,?_,T,two (rep_mono (T.mchg) (fun _ _ h=>h) _ (GM.le_refl _) (rep_up (g0_le g) b4))⟩
   simp only [Instr.mapEntry,Sem.run_bind,run_underlying hu,Result.andThen_ok,run_getObj' hb,checkKey_ok hT w hl false,h3,hkey,keyV_stays,run_setObj' hb,hbn,hbn2,hes,Sem.run_pure,goInt]
  ·rw [h1] at hj;cases hj
 ·rcases m.find hT hl with ⟨j',y,h1,h2,h3⟩|⟨h1,h3⟩
  ·rw [h1] at hj;cases hj
  ·obtain ⟨a1,_,_⟩:=aidx_none h1
   have hzr:(zeroValue eT).run P w = .ok z w:=by simp [zeroValue,typeInfo,hi,hz]
   refine ⟨.tuple #[z,.int .i64 L.length],_,?_,map_upd k hd hg hb (m.push hl a1 (rep_pure _ hp (rep_ofV _ _ g0 z))),two (rep_ofV _ _ _ _)⟩
   simp only [Instr.mapEntry,Sem.run_bind,run_underlying hu,Result.andThen_ok,run_getObj' hb,checkKey_ok hT w hl false,h3,hzr,run_setObj' hb,Sem.run_pure,goInt,Array.size_push,m.len]
end
theorem val_est {t:TypeId} {kt:Nat} (k:HOK F g w h) {d b cap:Nat} {L:List (List Int × AV)} (hd:h[d]? = some (.mp kt L)) (hg:g d = some (b,cap)) {i:Int} (h0:0 ≤ i) (h1:i < L.length) {v:AV} {x:Value} (hp:v.pure) (hv:rep (MM F g h) w v g x) :
  ∃ w',(Instr.entryStore t (.map (some b)) (.int .i64 i) x).run P w = .ok () w' ∧ Tr F g h w g (h.set d (.mp kt (L.set i.toNat ((L.getD i.toNat default).1,v)))) w':=by
 obtain ⟨es,hb,m⟩:=k.mp d kt L b cap hd hg
 have hi:i.toNat < L.length:=by omega
 obtain ⟨e,b1,b2,b3,b4⟩:=m.ent i.toNat hi
 have hfind:es.findIdx? (fun e=>(e.born:Int) == i) = some i.toNat:=by
  rw [Array.findIdx?_eq_some_iff_getElem]
  have hlt:i.toNat < es.size:=by rw [m.len];exact hi
  refine ⟨hlt,?_,fun j hj=>?_⟩
  ·rw [Array.getElem?_eq_getElem hlt] at b1
   injection b1 with b1
   rw [b1,b2]
   simp;omega
  ·obtain ⟨e',c1,c2,_⟩:=m.ent j (by omega)
   have hjs:j < es.size:=by omega
   rw [Array.getElem?_eq_getElem hjs] at c1
   injection c1 with c1
   rw [c1,c2]
   simp;omega
 have m2:=m.set (v:=v) hi (rep_pure v hp hv)
 have hes:(es.modify i.toNat fun e=>{ e with key:=keyV kt (L.getD i.toNat default).1,val:=x }) = es.modify i.toNat fun e=>{ e with val:=x }:=by
  apply Array.ext
  ·simp
  ·intro q q1 q2
   rw [Array.getElem_modify,Array.getElem_modify]
   split
   ·rename_i hq
    have hq2:q < es.size:=by simpa using q2
    have:es[q]? = some e:=by rw [← hq];exact b1
    rw [Array.getElem?_eq_getElem hq2] at this
    injection this with this
    rw [this,← b3]
   ·rfl
 rw [hes] at m2
 refine ⟨_,?_,map_upd k hd hg hb m2⟩
 simp only [Instr.entryStore,Sem.run_bind,run_getObj' hb,Result.andThen_ok,asInt,asIntOf,Sem.run_pure,hfind,run_setObj' hb,Array.size_modify]
theorem val_rng {t kT eT:TypeId} {kt:Nat} (hT:mapT P t = some (kt,kT,eT)) (k:HOK F g w h) {d b cap kt':Nat} {L:List (List Int × AV)} (hd:h[d]? = some (.mp kt' L)) (hg:g d = some (b,cap)) :
  ∃ u' w' g',(Instr.range t (.map (some b))).run P w = .ok u' w' ∧ rep (MM F g' (h ++ [.mit (.mpv d) L.length []])) w' (.ptr h.length 0) g' u' ∧ Tr F g h w g' (h ++ [.mit (.mpv d) L.length []]) w':=by
 obtain ⟨es,hb,m⟩:=k.mp d kt' L b cap hd hg
 have hu:=(mapT_some hT).1
 refine ⟨.pointer (some ⟨w.heap.size,0,none⟩),w.alloc (.mapIter (some b) es.size #[] es.size),g.push h.length (w.heap.size,0),?_,⟨w.heap.size,0,by simp [GM.push],rfl⟩,Tr.push k (Chg.alloc' _ _) (Nat.le_refl _) ⟨List.nodup_nil,fun i hi=>(by cases hi),b,⟨b,cap,GM.le_push k _ _ _ hg,rfl⟩,?_⟩⟩
 ·simp only [Instr.range,Sem.run_bind,Sem.run_pure,Result.andThen_ok,run_underlying hu,run_getObj' hb,run_newObj_alloc]
 ·rw [← m.len];exact heap_alloc_new _ _
theorem val_mlen {t ty:TypeId} {x:Value} {m:AV} {r:AV} {h':List AB} {kt:Nat} {kT eT:TypeId} (hT:mapT P t = some (kt,kT,eT)) (k:HOK F g w h) (hm:rep (MM F g h) w m g x)
  (H:xop (.mlen (.k m)) (fun y=>y.ev (fun _=>.bot)) h (fun a b=>a = r ∧ b = h')):(Builtin.len_ #[t] ty #[x]).run P w = .ok (.int .i64 (match x with | .map (some b)=>(match w.heap[b]? with|some (.map es _)=>(es.size:Int)|_=>0)|_=>0)) w ∧ rep (MM F g h) w r g (.int .i64 (match x with | .map (some b)=>(match w.heap[b]? with|some (.map es _)=>(es.size:Int)|_=>0)|_=>0)) ∧ h = h':=by
 simp only [xop,AX.ev] at H
 split at H
 ·rename_i d
  split at H
  ·rename_i kt' L hd
   obtain ⟨rfl,rfl⟩:=H
   obtain ⟨b,cap,hg,rfl⟩:=hm
   obtain ⟨es,hb,m⟩:=k.mp d kt' L b cap hd hg
   have hu:=(mapT_some hT).1
   refine ⟨?_,?_,rfl⟩
   ·simp [Builtin.len_,run_underlying hu,run_getObj' hb,hb,goInt]
   ·simp only [hb,m.len];rfl
  ·exact H.elim
 ·exact H.elim
theorem val_boxr {t:TypeId} {n:Nat} (ha:arrZ P t = some n) (k:HOK F g w h):∃ u' w' g',(Instr.alloc t true (.tuple #[])).run P w = .ok u' w' ∧ rep (MM F g' (h ++ [.row n 1 fun _ _=>.int .i64 0])) w' (.rp h.length 1 0 0) g' u' ∧ Tr F g h w g' (h ++ [.row n 1 fun _ _=>.int .i64 0]) w':=by
 unfold arrZ at ha
 split at ha
 ·rename_i n' e hu
  split at ha
  ·rename_i q ie it hq hie hit
   split at ha
   ·rename_i cs hz
    split at ha
    ·rename_i hc
     injection ha with ha
     obtain ⟨_,_,h3,h4,h5⟩:=hc
     subst ha
     refine ⟨.pointer (some ⟨w.heap.size,0,none⟩),w.alloc (.cells cs t),g.push h.length (w.heap.size,n'),?_,⟨w.heap.size,n',by simp [GM.push],by simp⟩,Tr.newBlock k (Chg.alloc' _ _) (heap_alloc_new _ _) n' (.row n' 1 fun _ _=>.int .i64 0) ⟨Nat.le_refl _,by unfold maxLen;omega,by omega,fun i hi o ho=>?_⟩⟩
     ·simp [Instr.alloc,newVar,newRow,zeroValue,typeInfo,hit,hz,Value.cells]
     ·obtain rfl:o = 0:=by omega
      have hi':i < cs.size:=by omega
      refine ⟨cs[i],by simp [hi'],?_⟩
      rw [List.all_eq_true] at h5
      have:=h5 cs[i] (by simp)
      split at this
      ·rename_i a he
       have ha:a = 0:=by simpa using this
       subst ha
       rw [he];exact ⟨rfl,rfl⟩
      ·cases this
    ·cases ha
   ·cases ha
  ·cases ha
 ·cases ha
theorem val_iaa {t e:TypeId} {n sz:Nat} {v j:AV} {u x:Value} {r:AV} {h':List AB} (hu:P.underlying t = some (.array n e)) (hs:tySz P e = some sz) (hr:rep (MM F g h) w v g u) (hj:rep (MM F g h) w j g x)
  (H:xop (.iaa n sz (.k v) (.k j)) (fun x=>x.ev (fun _=>.bot)) h (fun a b=>a = r ∧ b = h')):∃ u',(Instr.indexAt t u x).run P w = .ok u' w ∧ rep (MM F g h) w r g u' ∧ h = h':=by
 have hsz:∀ w:World,(sizeOf e).run P w = .ok sz w:=fun w=>tySz_run hs w
 simp only [xop,AX.ev] at H
 split at H
 ·rename_i d sz' kk o
  obtain ⟨rfl,rfl,rfl,h0,h1,rfl,rfl⟩:=H
  obtain rfl:=hj
  obtain ⟨b,cap,hg,rfl⟩:=hr
  rename_i jj
  exact ⟨.pointer (some ⟨b,jj.toNat * sz',none⟩),by simp [Instr.indexAt,asIntOf,run_underlying hu,h0,h1,hsz,Instr.sureAddr,Addr.add_lit],⟨b,cap,hg,by simp⟩,rfl⟩
 ·rename_i d o
  obtain ⟨h0,h1,rfl,rfl⟩:=H
  obtain rfl:=hj
  obtain ⟨b,cap,hg,rfl⟩:=hr
  rename_i jj
  exact ⟨.pointer (some ⟨b,o + jj.toNat * sz,none⟩),by simp [Instr.indexAt,asIntOf,run_underlying hu,h0,h1,hsz,Instr.sureAddr,Addr.add_lit],⟨b,cap,hg,rfl⟩,rfl⟩
 ·rename_i m c o
  obtain ⟨h0,h1,rfl,rfl⟩:=H
  obtain rfl:=hj
  obtain ⟨b,off,rfl,hb,hn,hc⟩:=hr
  rename_i jj
  exact ⟨.pointer (some ⟨b,off + (o + jj.toNat * sz),none⟩),by simp [Instr.indexAt,asIntOf,run_underlying hu,h0,h1,hsz,Instr.sureAddr,Addr.add_lit,Nat.add_assoc],⟨b,off,rfl,hb,hn,hc⟩,rfl⟩
 ·exact H.elim
theorem val_idx {t e:TypeId} {n sz:Nat} {m':Option Nat} {v j:AV} {u x:Value} {r:AV} {h':List AB} (hu:P.underlying t = some (.array n e)) (hs:tySz P e = some sz) (ht:(m' = none ∧ tyAgg P e = some false) ∨ (m' = some sz ∧ tyAgg P e = some true)) (hr:rep (MM F g h) w v g u) (hj:rep (MM F g h) w j g x)
  (H:xop (.idx n sz m' (.k v) (.k j)) (fun x=>x.ev (fun _=>.bot)) h (fun a b=>a = r ∧ b = h')):∃ u',(Instr.index t u x).run P w = .ok u' w ∧ rep (MM F g h) w r g u' ∧ h = h':=by
 have hsz:∀ w:World,(sizeOf e).run P w = .ok sz w:=fun w=>tySz_run hs w
 simp only [xop,AX.ev] at H
 split at H
 ·rename_i N c
  obtain ⟨h0,h1,h2,h3,H⟩:=H
  obtain rfl:=hj
  obtain ⟨cs,rfl,hm,hc⟩:=hr
  rename_i kk jj
  have hlt:jj.toNat * sz + sz ≤ N:=by
   have:(jj.toNat + 1) * sz ≤ n * sz:=Nat.mul_le_mul_right sz (by omega)
   rw [Nat.succ_mul] at this
   omega
  rcases ht with ⟨rfl,ht⟩|⟨rfl,ht⟩
  ·obtain ⟨rfl,rfl⟩:=H
   obtain ⟨y,hy,_,hyr⟩:=hc (jj.toNat * sz) (by omega)
   exact ⟨y,by simp [Instr.index,asIntOf,run_underlying hu,h0,h1,hsz,part,tyAgg_run ht,hy],hyr,rfl⟩
  ·obtain ⟨_,rfl,rfl⟩:=H
   refine ⟨.agg (cs.extract (jj.toNat * sz) (jj.toNat * sz + sz)),by simp [Instr.index,asIntOf,run_underlying hu,h0,h1,hsz,part,tyAgg_run ht],⟨_,rfl,by simp;omega,fun i hi=>?_⟩,rfl⟩
   obtain ⟨y,hy,hy1,hyr⟩:=hc (jj.toNat * sz + i) (by omega)
   refine ⟨y,?_,hy1,by rw [tab_get hi];exact hyr⟩
   rw [Array.getElem?_extract,if_pos (by omega)]
   exact hy
 ·exact H.elim
theorem rep_keyA {M:Nat → Prop} {g:GM} {w:World} {kt:Nat} {l:List Int} (hl:KeyOK kt l):rep M w (keyA kt l) g (keyV kt l):=by
 cases kt with
 | zero=>rfl
 | succ n =>
  have:=hl.1
  refine ⟨_,rfl,by simp;omega,fun i hi=>?_⟩
  have hi':i < l.length:=by omega
  exact ⟨.int .i64 l[i],by simp [hi'],rfl,by rw [ofL_get (v:=.int .i64 l[i]) (by simp [hi'])];rfl⟩
theorem MapOK.born {M:Nat → Prop} {kt:Nat} {L:List (List Int × AV)} {es:Array MapEntry} (m:MapOK M w kt L es) {x:MapEntry} (hx:x ∈ es.toList):x.born < L.length ∧ es[x.born]? = some x:=by
 obtain ⟨i,hi,rfl⟩:=List.getElem_of_mem hx
 have hi':i < es.size:=by simpa using hi
 obtain ⟨e,a,b,_⟩:=m.ent i (by rw [← m.len];exact hi')
 rw [Array.getElem?_eq_getElem hi'] at a
 injection a with a
 have e1:es.toList[i] = e:=by rw [Array.getElem_toList];exact a
 rw [e1,b]
 exact ⟨by rw [← m.len];exact hi',by rw [Array.getElem?_eq_getElem hi',a]⟩
theorem MapOK.borns {M:Nat → Prop} {kt:Nat} {L:List (List Int × AV)} {es:Array MapEntry} (m:MapOK M w kt L es):es.toList.map (·.born) = List.range L.length:=by
 apply List.ext_getElem?
 intro i
 rw [List.getElem?_map]
 rcases Nat.lt_or_ge i L.length with hi|hi
 ·obtain ⟨e,a,b,_⟩:=m.ent i hi
  have:es.toList[i]? = some e:=by simpa using a
  rw [this,List.getElem?_range hi,Option.map_some,b]
 ·rw [List.getElem?_eq_none (by simpa [m.len] using hi),List.getElem?_eq_none (by simpa using hi)];rfl
theorem three {M:Nat → Prop} {W:World} {v v':AV} {x y:Value} {q:Bool} (h1:rep M W v g x) (h2:rep M W v' g y):rep M W (.tup 3 (ofL [.bool q,v,v'])) g (.tuple #[.bool q,x,y]):=by
 refine ⟨_,rfl,rfl,fun j hj=>?_⟩
 rcases (show j = 0 ∨ j = 1 ∨ j = 2 by omega) with rfl|rfl|rfl
 ·exact ⟨.bool q,rfl,rfl⟩
 ·exact ⟨x,rfl,h1⟩
 ·exact ⟨y,rfl,h2⟩
theorem two {M:Nat → Prop} {W:World} {v v':AV} {x y:Value} (h1:rep M W v g x) (h2:rep M W v' g y):rep M W (.tup 2 (ofL [v,v'])) g (.tuple #[x,y]):=by
 refine ⟨_,rfl,rfl,fun j hj=>?_⟩
 rcases (show j = 0 ∨ j = 1 by omega) with rfl|rfl
 ·exact ⟨x,rfl,h1⟩
 ·exact ⟨y,rfl,h2⟩
theorem nodup_le : ∀ {l l':List Nat},l.Nodup → (∀ x ∈ l,x ∈ l') → l.length ≤ l'.length
 | [],l',_,_=>Nat.zero_le _
 | x :: xs,l',hn,hs=>by
  rw [List.nodup_cons] at hn
  obtain ⟨a,b,rfl⟩:=List.append_of_mem (hs x List.mem_cons_self)
  have:=nodup_le (l:=xs) (l':=a ++ b) hn.2 fun y hy=>by
   have h1:=hs y (List.mem_cons_of_mem _ hy)
   simp only [List.mem_append,List.mem_cons] at h1 ⊢
   rcases h1 with h1|h1|h1
   ·exact .inl h1
   ·exact (hn.1 (h1 ▸ hy)).elim
   ·exact .inr h1
  simp at this ⊢;omega
theorem val_nxt {ty:TypeId} {it:AV} {u:Value} {K:AV → List AB → Prop} (k:HOK F g w h) (hr:rep (MM F g h) w it g u) (H:anext it h K) :
  ∃ r h' u' w' g',K r h' ∧ (Instr.next u false ty).run P w = .ok u' w' ∧ rep (MM F g' h') w' r g' u' ∧ Tr F g h w g' h' w':=by
 unfold anext at H
 split at H
 ·rename_i d
  split at H
  ·rename_i d2 n seen hd
   split at H
   ·rename_i kt L hd2
    obtain ⟨hn,H1,H2⟩:=H
    obtain ⟨b,cap,hg,rfl⟩:=hr
    obtain ⟨s1,s2,mb,⟨mb',capm,hgm,he⟩,hb⟩:=k.mit d _ n seen b cap hd hg
    injection he with he
    injection he with he
    subst he
    obtain ⟨es,hbm,m⟩:=k.mp d2 kt L mb capm hd2 hgm
    have hlen:es.size = n:=by rw [m.len,hn]
    have hold:∀ x ∈ es.toList,x.born < n:=fun x hx=>by rw [← hn];exact (m.born hx).1
    rcases run_next_at (P:=P) w ty b mb n n seen.toArray es es.size hb hbm hold (Nat.le_refl _) with ⟨h0,hrun⟩|⟨x,hx,w1,hw1,hrun⟩
    ·have hall:∀ i,i < n → i ∈ seen:=fun i hi=>by
      obtain ⟨e,a,b',_⟩:=m.ent i (by omega)
      have hm:e ∈ es.toList:=by
       have:es.toList[i]? = some e:=by simpa using a
       exact List.mem_of_getElem? this
      have hemp:leftOf es seen.toArray = #[]:=Array.eq_empty_of_size_eq_zero h0
      unfold leftOf at hemp
      rw [Array.filter_eq_empty_iff] at hemp
      have:=hemp e (by simpa using hm)
      simp only [Bool.not_eq_true',Bool.not_eq_false,Array.contains_toList] at this
      have h3:e.born ∈ seen:=by simpa using this
      rw [b'] at h3;exact h3
     have hsl:seen.length = n:=by
      have h1:(List.range n).length ≤ seen.length:=nodup_le List.nodup_range (fun i hi=>hall i (List.mem_range.1 hi))
      have h2:seen.length ≤ (List.range n).length:=nodup_le s1 (fun i hi=>List.mem_range.2 (s2 i hi))
      simp at h1 h2;omega
     refine ⟨_,_,_,w,g,H1 hsl,hrun,⟨_,rfl,rfl,fun j hj=>?_⟩,Tr.refl k⟩
     obtain rfl:j = 0:=by omega
     exact ⟨.bool false,rfl,rfl⟩
    ·unfold leftOf at hx
     have hx':x ∈ es.toList ∧ x.born ∉ seen:=by simpa using hx
     obtain ⟨hxe,hxs⟩:=hx'
     obtain ⟨hbn,hget⟩:=m.born hxe
     obtain ⟨e,a,_,c,dv⟩:=m.ent x.born hbn
     rw [hget] at a
     injection a with a
     subst a
     have hch1:Chg (fun y=>y = b) w (ChangeMaps.setBlock w1 b (.mapIter (some mb) n (seen.toArray.push x.born) es.size)):=by
      rcases hw1 with rfl|rfl
      ·exact Chg.setBlk _ b _
      ·have c:=Chg.setBlk w.drew b (.mapIter (some mb) n (seen.toArray.push x.born) es.size)
       exact ⟨c.os,c.tape,c.output,c.size,c.block⟩
     have hl:live h d:=⟨_,hd,trivial⟩
     have hch:Chg (MM F g h) w (ChangeMaps.setBlock w1 b (.mapIter (some mb) n (seen.toArray.push x.born) es.size)):=hch1.weak (fun y _ e=>by subst e;exact .inr ⟨d,cap,hl,hg⟩)
     have T:Tr F g h w g (h.set d (.mit (.mpv d2) n (seen ++ [x.born]))) (ChangeMaps.setBlock w1 b (.mapIter (some mb) n (seen.toArray.push x.born) es.size)):=by
      refine Tr.upd k hl hg trivial hch1 ⟨?_,fun i hi=>?_,mb,⟨mb,capm,hgm,rfl⟩,?_⟩
      ·rw [List.nodup_append]
       exact ⟨s1,by simp,fun a ha b' hb'=>by simp at hb';subst hb';exact fun e=>hxs (e ▸ ha)⟩
      ·rcases List.mem_append.1 hi with hi|hi
       ·exact s2 i hi
       ·simp at hi;subst hi;omega
      ·have hlt:=lt_of_heap hb
       have:b < w1.heap.size:=by rcases hw1 with rfl|rfl <;> exact hlt
       simp [ChangeMaps.setBlock,this,hlen]
     have hMe:rep (MM F g (h.set d (.mit (.mpv d2) n (seen ++ [x.born])))) (ChangeMaps.setBlock w1 b (.mapIter (some mb) n (seen.toArray.push x.born) es.size)) (L.getD x.born default).2 g x.val:=T.hold (rep_up (g0_le g) dv)
     refine ⟨_,_,_,_,g,H2 x.born (by omega) hxs,hrun,three ?_ hMe,T⟩
     rw [c]
     refine rep_keyA ?_
     have:=m.one (L.getD x.born default) (by simp only [List.getD,List.getElem?_eq_getElem hbn,Option.getD_some];exact List.getElem_mem hbn)
     exact this
   ·exact H.elim
  ·exact H.elim
 ·exact H.elim
theorem val_ent {it:AV} {u:Value} {r:AV} {h':List AB} (k:HOK F g w h) (hr:rep (MM F g h) w it g u) (H:xop (.ent (.k it)) (fun y=>y.ev (fun _=>.bot)) h (fun a b=>a = r ∧ b = h')):∃ u',(Instr.entry u).run P w = .ok u' w ∧ rep (MM F g h) w r g u' ∧ h = h':=by
 simp only [xop,AX.ev] at H
 split at H
 ·rename_i d
  split at H
  ·rename_i d2 n seen hd
   split at H
   ·rename_i kt L i hd2 hlast
    obtain ⟨hn,rfl,rfl⟩:=H
    obtain ⟨b,cap,hg,rfl⟩:=hr
    obtain ⟨s1,s2,mb,⟨mb',capm,hgm,he⟩,hb⟩:=k.mit d _ n seen b cap hd hg
    injection he with he
    injection he with he
    subst he
    obtain ⟨es,hbm,m⟩:=k.mp d2 kt L mb capm hd2 hgm
    obtain ⟨pre,rfl⟩:∃ pre,seen = pre ++ [i]:=⟨seen.dropLast,by
     have hne:seen ≠ []:=by intro e;rw [e] at hlast;cases hlast
     rw [List.getLast?_eq_some_getLast hne] at hlast
     injection hlast with hlast
     rw [← hlast,List.dropLast_concat_getLast]⟩
    have hi:i < L.length:=by rw [hn];exact s2 i (by simp)
    obtain ⟨e,a,b',c,dv⟩:=m.ent i hi
    have hm:e ∈ es.toList:=by
     have:es.toList[i]? = some e:=by simpa using a
     exact List.mem_of_getElem? this
    have hb':w.heap[b]? = some (.mapIter (some mb) n (pre.toArray.push e.born) es.size):=by
     rw [hb,b',m.len,hn];simp
    refine ⟨_,run_entry_at (P:=P) w b mb n pre.toArray es es.size e hb' hbm hm (by rw [m.borns];exact List.nodup_range),two ?_ (rep_up (g0_le g) dv),rfl⟩
    rw [c]
    refine rep_keyA ?_
    exact m.one (L.getD i default) (by simp only [List.getD,List.getElem?_eq_getElem hi,Option.getD_some];exact List.getElem_mem hi)
   ·exact H.elim
  ·exact H.elim
 ·exact H.elim
theorem val_cpy {t ty e : TypeId} {i : TypeInfo} {v y : AV} {u u2 : Value} {r : AV} {h' : List AB} (k : HOK F g w h) (ht : tyEl P t = some (e, i)) (hr : rep (MM F g h) w v g u) (hy : rep (MM F g h) w y g u2)
    (H : xop (.cpy i.size (.k v) (.k y)) (fun x => x.ev (fun _ => .bot)) h (fun a b => a = r ∧ b = h')) : ∃ u' w', (Builtin.copy_ #[t, t] ty #[u, u2]).run P w = .ok u' w' ∧ rep (MM F g h') w' r g u' ∧ Tr F g h w g h' w' := by
  obtain ⟨hu, hi⟩ := tyEl_some ht
  simp only [xop, AX.ev] at H
  obtain ⟨h0, H⟩ := H
  have core : ∀ (d lo n b cap p q : Nat), g d = some (b, cap) → u = .slice (some ⟨b, p, none⟩) n q → (lo < cap → p = lo * i.size) → lo + n ≤ cap → (asrc i.size h y fun q m c' => match h[d]? with
      | some (AB.row N sz2 c) => q = false ∧ sz2 = i.size ∧ lo + n ≤ N ∧ AV.int .i64 (min m n : Nat) = r ∧ h.set d (.row N i.size (cpc lo (min m n) c c')) = h'
      | _ => False) → ∃ u' w', (Builtin.copy_ #[t, t] ty #[u, u2]).run P w = .ok u' w' ∧ rep (MM F g h') w' r g u' ∧ Tr F g h w g h' w' := fun d lo n b cap p q hg hue hp hcap H => by
    obtain ⟨qq, m, c', hs, H⟩ := asrc_e H
    split at H
    · rename_i N sz2 c hd
      obtain ⟨rfl, rfl, hN, rfl, rfl⟩ := H
      obtain ⟨B, cap2, hu2, hB, cs, hcl, hcell, h1c, hcv⟩ := src_cells k h0 hs hy
      obtain ⟨hn', hcm, cur, t', hh, hsize, hrow⟩ := k.row d N _ c b cap hd hg
      obtain ⟨kk, hkk⟩ : ∃ kk, kk = min m n := ⟨_, rfl⟩
      rw [← hkk]
      obtain ⟨vs, hvs⟩ : ∃ vs, vs = cs.take (kk * i.size) := ⟨_, rfl⟩
      have hkm : kk * i.size ≤ m * i.size := Nat.mul_le_mul_right _ (by omega)
      have hvl : vs.length = kk * i.size := by rw [hvs, List.length_take, hcl]; omega
      have hvc : ∀ v ∈ vs, v.oneCell' = true := fun v hv => h1c v (by rw [hvs] at hv; exact List.mem_of_mem_take hv)
      have hfit : kk = 0 ∨ (p = lo * i.size ∧ p + kk * i.size ≤ cur.size) := by
        rcases Nat.eq_zero_or_pos kk with h | h
        · exact .inl h
        · right
          have hpl := hp (by omega)
          refine ⟨hpl, ?_⟩
          have : (lo + kk) * i.size ≤ cap * i.size := Nat.mul_le_mul_right _ (by omega)
          rw [Nat.add_mul] at this
          rw [hpl, hsize]; exact this
      have hmin : Nat.min m n = kk := hkk.symm
      have hsz : (sizeOf e).run P w = .ok i.size w := tySz_run (by simp [tySz, hi]) w
      have hload : ∀ a, B = some a → (loadCells a (kk * i.size)).run P w = .ok vs.toArray w := fun a ha => by
        have := run_loadCells_list (P := P) w a vs (fun j v hj => by
          rw [hvs, List.getElem?_take] at hj
          split at hj
          · exact hcell a ha j v hj
          · cases hj)
        rw [hvl] at this; exact this
      have hfirst : (Builtin.firstCells i.size kk u2).run P w = .ok vs.toArray w := by
        rw [hu2]
        cases hBB : B with
        | none =>
          have hm0 := hB hBB
          have : vs = [] := List.eq_nil_of_length_eq_zero (by rw [hvl]; have : kk = 0 := by omega
                                                              rw [this, Nat.zero_mul])
          simp [Builtin.firstCells, this]
        | some a => simpa [Builtin.firstCells] using hload a hBB
      have hlen : (Builtin.lenOf u2).run P w = .ok m w := by rw [hu2]; rfl
      have hl : live h d := ⟨_, hd, trivial⟩
      obtain ⟨w2, hst, hT, hval⟩ : ∃ w2, (storeCells ⟨b, p, none⟩ vs).run P w = .ok () w2 ∧ Tr F g h w g (h.set d (.row N i.size (cpc lo kk c c'))) w2 ∧ True := by
        rcases hfit with hk0 | ⟨hpl, hfit⟩
        · have hv0 : vs = [] := List.eq_nil_of_length_eq_zero (by rw [hvl, hk0, Nat.zero_mul])
          have hc0 : cpc lo kk c c' = c := by funext x o; simp only [cpc]; rw [if_neg (by omega)]
          refine ⟨w, by rw [hv0]; rfl, ?_, trivial⟩
          rw [hc0, set_same hd]
          exact Tr.refl k
        · have hrun := run_storeCells_at P b p t' vs 0 cur w hh (by omega) hvc
          refine ⟨w.setRow b (overs cur p vs.toArray), by simpa [overs] using hrun, ?_, trivial⟩
          have hfo : p + vs.toArray.size ≤ cur.size := by simpa [hvl] using hfit
          have hch : Chg (MM F g h) w (w.setRow b (overs cur p vs.toArray)) := (Chg.setRow w b _).weak (fun x _ e => by subst e; exact .inr ⟨d, cap, hl, hg⟩)
          refine Tr.upd k hl hg trivial (Chg.setRow _ _ _) ⟨hn', hcm, _, t', setRow_heap _ _ _ _ _ _ hh, by rw [overs_size hfo]; exact hsize, fun x hx o ho => ?_⟩
          simp only [cpc]
          by_cases hin : lo ≤ x ∧ x < lo + kk
          · rw [if_pos hin]
            obtain ⟨z, a1, a2, a3⟩ := hcv (x - lo) (by omega) o ho
            have hoff : (x - lo) * i.size + o < kk * i.size := by
              have : (x - lo + 1) * i.size ≤ kk * i.size := Nat.mul_le_mul_right _ (by omega)
              rw [Nat.succ_mul] at this; omega
            refine ⟨z, ?_, a2, rep_mono hch (fun _ _ h => h) _ (GM.le_refl _) a3⟩
            have e1 : x * i.size + o = p + ((x - lo) * i.size + o) := by
              rw [hpl, ← Nat.add_assoc, ← Nat.add_mul]; congr 2; omega
            rw [e1, overs_in hfo (by simpa [hvl] using hoff)]
            simp only [List.getElem?_toArray, hvs, List.getElem?_take, if_pos hoff]
            exact a1
          · rw [if_neg hin]
            obtain ⟨z, a1, a2, a3⟩ := hrow x hx o ho
            refine ⟨z, ?_, a2, rep_mono hch (fun _ _ h => h) _ (GM.le_refl _) a3⟩
            rw [overs_out hfo]
            · exact a1
            · have hs2 : vs.toArray.size = kk * i.size := by simpa using hvl
              rw [hs2, hpl]
              rcases Nat.lt_or_ge x lo with hlt | hge
              · left
                have : (x + 1) * i.size ≤ lo * i.size := Nat.mul_le_mul_right _ (by omega)
                rw [Nat.succ_mul] at this; omega
              · right
                have : (lo + kk) * i.size ≤ x * i.size := Nat.mul_le_mul_right _ (by omega)
                rw [Nat.add_mul] at this; omega
      refine ⟨.int .i64 (kk : Nat), w2, ?_, rfl, hT⟩
      rw [hue]
      simp only [Builtin.copy_, List.getElem?_toArray, List.getElem?_cons_zero, List.getElem?_cons_succ, Sem.run_bind, run_underlying hu, Result.andThen_ok, hlen, hmin, hsz, hfirst, hst, Sem.run_pure, goInt]
    · exact H.elim
  unfold adst at H
  split at H
  · obtain ⟨b, cap, hg, rfl, hcap⟩ := hr
    exact core _ 0 _ b cap 0 cap hg rfl (fun _ => by simp) (by omega) H
  · obtain ⟨b, cap, p, hg, rfl, hcap, hp⟩ := hr
    obtain ⟨rfl, H⟩ := H
    exact core _ _ _ b cap p _ hg rfl hp hcap H
  · exact H.elim
end
end Go.Proofs.Ytbhjehpjjbbhbaa

namespace Go.Proofs.Ytbhjehpjjbbhbaa
open Go.RowKit
variable {F:Nat → Prop}

section
variable {P:Program} {g:GM} {h:List AB} {w:World} {r:AV} {h':List AB}

theorem RunsTo.of_val {s:Sem Value} {u:Value} {w':World} {g':GM} (hs:s.run P w = .ok u w') (hr:rep (MM F g' h') w' r g' u) (t:Tr F g h w g' h' w'):RunsTo F P (do pure (.value (← s))) g h w r h' :=
 ⟨u,w',g',.inl (by simp [hs]),hr,t⟩
theorem RunsTo.of_same {s:Sem Value} {u:Value} (k:HOK F g w h) (hs:s.run P w = .ok u w) (hr:rep (MM F g h) w r g u) (he:h = h'):RunsTo F P (do pure (.value (← s))) g h w r h':=by
 subst he
 exact RunsTo.of_val hs hr (Tr.refl k)
theorem partsOf_all {t:TypeId}:∀ {ps:List (Nat × Operand)} {l:List (Nat × Nat × AX)},partsOf P t ps = some l → l.length = ps.length ∧ ∀ (j:Nat) (p:Nat × Operand),ps[j]? = some p → ∃ f s,tyFld P t p.1 = some f ∧ tySz P f.type = some s ∧ l[j]? = some (f.offset,s,cx p.2)
 | [],l,h=>by
  simp only [partsOf,Option.some.injEq] at h
  subst h
  exact ⟨rfl,fun j p hp=>by simp at hp⟩
 | (i,x) :: ps,l,h=>by
  obtain ⟨f,s,l',h1,h2,h3,rfl⟩:=partsOf_cons h
  obtain ⟨a,b⟩:=partsOf_all h3
  refine ⟨by simp [a],fun j p hp=>?_⟩
  cases j with
  | zero=>simp only [List.getElem?_cons_zero,Option.some.injEq] at hp;subst hp;exact ⟨f,s,h1,h2,rfl⟩
  | succ j=>exact b j p hp
theorem tyFld_some {s:TypeId} {f:Nat} {fd:Field} (hf:tyFld P s f = some fd):∃ fs,P.underlying s = some (.struct fs) ∧ fs[f]? = some fd:=by
 unfold tyFld at hf
 split at hf
 ·rename_i fs hfs;exact ⟨fs,hfs,hf⟩
 ·cases hf

theorem pub_ok {v:AV} {u:Value} {K:AV → List AB → Prop} (k:HOK F g w h) (hr:rep (MM F g h) w v g u) (H:apub h v K):∃ v' h1,K v' h1 ∧ Tr F g h w g h1 w ∧ rep (MM F g h1) w v' g u ∧ v'.pure:=by
 have keep:∀ v:AV,v.pure ∧ K v h → rep (MM F g h) w v g u → ∃ v' h1,K v' h1 ∧ Tr F g h w g h1 w ∧ rep (MM F g h1) w v' g u ∧ v'.pure:=fun v hh hr=>⟨v,h,hh.2,Tr.refl k,hr,hh.1⟩
 cases v
 case own d n =>
  simp only [apub] at H
  split at H
  ·rename_i N sz c hd
   obtain ⟨hn,H⟩:=H
   obtain ⟨b,cap,hg,rfl,hcap⟩:=hr
   obtain ⟨_,_,cs,t,hh,hs,hc⟩:=k.row d N sz c b cap hd hg
   have T:=Tr.kill k d
   have hM:¬ MM F g (h.set d .dead) b:=by
    rintro (hF|hO)
    ·exact (k.fr b hF).2 ⟨d,cap,⟨_,hd,trivial⟩,hg⟩
    ·exact MM_kill k ⟨_,hd,trivial⟩ hg hO
   refine ⟨_,_,H,T,⟨_,cap,rfl,by simp,by simp,fun h=>(by cases h),hcap,fun kk hk o ho=>?_⟩,trivial⟩
   obtain ⟨x,e1,e2,e3⟩:=hc kk (by omega) o ho
   refine ⟨b,0,x,rfl,lt_of_heap hh,hM,?_,e2,rep_mono (Chg.refl _ w) (fun y hy hM=>T.old y hy hM) _ (GM.le_refl _) e3⟩
   rw [Nat.zero_add];exact cell_of_heap hh e1
  ·exact H.elim
 case ptr d o =>
  simp only [apub] at H
  split at H
  ·rename_i m c hd
   obtain ⟨hp,H⟩:=H
   obtain ⟨b,cap,hg,rfl⟩:=hr
   obtain ⟨cs,t,hh,hs,hc⟩:=k.box d m c b cap hd hg
   have T:=Tr.kill k d
   have hM:¬ MM F g (h.set d .dead) b:=by
    rintro (hF|hO)
    ·exact (k.fr b hF).2 ⟨d,cap,⟨_,hd,trivial⟩,hg⟩
    ·exact MM_kill k ⟨_,hd,trivial⟩ hg hO
   refine ⟨_,_,H,T,⟨b,0,by rw [Nat.zero_add],lt_of_heap hh,hM,fun i hi=>?_⟩,trivial⟩
   obtain ⟨x,e1,e2,e3⟩:=hc i hi
   refine ⟨x,?_,e2,rep_mono (Chg.refl _ w) (fun y hy hM=>T.old y hy hM) _ (GM.le_refl _) (rep_pure _ (hp i hi) e3)⟩
   rw [Nat.zero_add];exact cell_of_heap hh e1
  ·exact H.elim
 all_goals exact keep _ H hr
theorem pubs_ok {e:AX → AV} {ρ:Operand → Value}:∀ (ps:List (Nat × Operand)) {h:List AB} {K:List (Nat × AV) → List AB → Prop},HOK F g w h → (∀ x,rep (MM F g h) w (e (cx x)) g (ρ x)) → apubs e (ps.map fun p=>(p.1,cx p.2)) h K →
  ∃ l h1,K l h1 ∧ Tr F g h w g h1 w ∧ l.length = ps.length ∧ (∀ (j:Nat) (p:Nat × Operand) (a:Nat × AV),ps[j]? = some p → l[j]? = some a → p.1 = a.1 ∧ rep (MM F g h1) w a.2 g (ρ p.2)) ∧ ∀ a ∈ l,a.2.pure
 | [],h,K,k,hv,H=>⟨[],h,H,Tr.refl k,rfl,fun j p a hp=>by simp at hp,fun a ha=>by cases ha⟩
 | (i,x) :: ps,h,K,k,hv,H=>by
  obtain ⟨v,h1,H1,T1,r1,p1⟩:=pub_ok k (hv x) H
  obtain ⟨l,h2,H2,T2,e1,e2,e3⟩:=pubs_ok ps T1.ok (fun y=>T1.hold (hv y)) H1
  refine ⟨_,_,H2,T1.trans T2,by simp [e1],fun j p a hp ha=>?_,fun a ha=>?_⟩
  ·cases j with
   | zero =>
    simp only [List.getElem?_cons_zero,Option.some.injEq] at hp ha
    subst hp;subst ha
    exact ⟨rfl,T2.hold r1⟩
   | succ j=>exact e2 j p a hp ha
  ·rcases List.mem_cons.1 ha with rfl|ha
   ·exact p1
   ·exact e3 a ha
theorem call_ok {c:Call} {ty:TypeId} {ρ:Operand → Value} {e:AX → AV} (k:HOK F g w h) (hv:∀ x,rep (MM F g h) w (e (cx x)) g (ρ x)) (H:aop (compCall P c) e h (fun a b=>a = r ∧ b = h')) :
  RunsTo F P (do let d ← resolve ρ c ty;invoke d.target d.args) g h w r h':=by
 obtain ⟨callee,args,ats⟩:=c
 cases callee with
 | invoke a b=>exact H.elim
 | value f=>cases f <;> exact H.elim
 | builtin b =>
  have hrun:(do let d ← resolve ρ ⟨.builtin b,args,ats⟩ ty;invoke d.target d.args:Sem Next).run P w = (builtin b ats ty (args.map fun | .const _=>true|_=>false) (args.map ρ)).run P w:=by
   simp only [resolve,Sem.run_bind,Sem.run_pure,Result.andThen_ok,invoke]
   rfl
  have fin:∀ {s:Sem Value} {u:Value} {w':World} {g':GM},(builtin b ats ty (args.map fun | .const _=>true|_=>false) (args.map ρ)) = (do pure (.value (← s))) → s.run P w = .ok u w' → rep (MM F g' h') w' r g' u → Tr F g h w g' h' w' → RunsTo F P (do let d ← resolve ρ ⟨.builtin b,args,ats⟩ ty;invoke d.target d.args) g h w r h':=fun hb hs hr ht =>
   ⟨_,_,_,.inl (by rw [hrun,hb];simp [hs]),hr,ht⟩
  have args2:∀ {x y:Operand},args.toList = [x,y] → args.map ρ = #[ρ x,ρ y]:=fun hl=>by
   apply Array.ext'
   simp [hl]
  cases b <;> simp only [compCall] at H
  case len =>
   split at H
   ·rename_i x el hl ht
    simp only [aop] at H
    have hx:=hv x
    obtain ⟨t,ht0,ht1⟩:∃ t,ats[0]? = some t ∧ tyEl P t = some el:=by
     cases h0:ats[0]? with
     | none=>rw [h0] at ht;cases ht
     | some t=>rw [h0] at ht;exact ⟨t,rfl,ht⟩
    obtain ⟨hu,_⟩:=tyEl_some (e:=el.1) (i:=el.2) ht1
    have ha:args.map ρ = #[ρ x]:=by
     apply Array.ext'
     simp [hl]
    have key:∀ A n cap,ρ x = .slice A n cap → (Builtin.len_ ats ty (args.map ρ)).run P w = .ok (.int .i64 n) w:=fun A n cap he=>by
     rw [ha,he]
     simp [Builtin.len_,ht0,run_underlying hu,goInt]
    generalize e (cx x) = v at H hx
    cases v <;> simp only at H
    ·obtain ⟨A,cap,he,_⟩:=hx
     obtain ⟨rfl,rfl⟩:=H
     exact fin rfl (key _ _ _ he) rfl (Tr.refl k)
    ·obtain ⟨b,cap,_,he,_⟩:=hx
     obtain ⟨rfl,rfl⟩:=H
     exact fin rfl (key _ _ _ he) rfl (Tr.refl k)
    ·obtain ⟨b,cap,p,_,he,_⟩:=hx
     obtain ⟨rfl,rfl⟩:=H
     exact fin rfl (key _ _ _ he) rfl (Tr.refl k)
   ·rename_i x el hl _ ht
    obtain ⟨kt,kT,eT⟩:=el
    obtain ⟨t,ht0,ht1⟩:∃ t,ats[0]? = some t ∧ mapT P t = some (kt,kT,eT):=by
     cases h0:ats[0]? with
     | none=>rw [h0] at ht;cases ht
     | some t=>rw [h0] at ht;exact ⟨t,rfl,ht⟩
    have ha:args.map ρ = #[ρ x]:=by
     apply Array.ext'
     simp [hl]
    obtain ⟨b1,b2,b3⟩:=val_mlen (P:=P) (ty:=ty) (m:=e (cx x)) ht1 k (hv x) H
    subst b3
    refine fin rfl ?_ b2 (Tr.refl k)
    rw [ha]
    have:∀ a:Array Value,(Builtin.len_ ats ty a).run P w = (Builtin.len_ #[t] ty a).run P w:=fun a=>by simp [Builtin.len_,ht0]
    rw [this];exact b1
   ·exact H.elim
  case clear =>
   split at H
   ·rename_i x el i hl ht
    split at H
    ·rename_i zs hz
     obtain ⟨t,ht0,ht1⟩:∃ t,ats[0]? = some t ∧ tyEl P t = some (el,i):=by
      cases h0:ats[0]? with
      | none=>rw [h0] at ht;cases ht
      | some t=>rw [h0] at ht;exact ⟨t,rfl,ht⟩
     obtain ⟨hu,hi⟩:=tyEl_some ht1
     have ha:args.map ρ = #[ρ x]:=by
      apply Array.ext'
      simp [hl]
     obtain ⟨w',b1,rfl,b3⟩:=val_clr (P:=P) (ty:=ty) k ht0 hu hi (zcells_some hz) (hv x) H
     refine fin (u:=.tuple #[]) rfl ?_ ⟨#[],rfl,rfl,fun i hi=>by omega⟩ b3
     rw [ha];exact b1
    ·exact H.elim
   ·exact H.elim
  case copy =>
   split at H
   ·rename_i x y t t' hl hat
    split at H
    ·rename_i htt
     subst htt
     split at H
     ·rename_i el i ht
      have ha:ats = #[t,t]:=by
       apply Array.ext'
       simp [hat]
      obtain ⟨u',w',b1,b2,b3⟩:=val_cpy (P:=P) (ty:=ty) k ht (hv x) (hv y) H
      refine fin (u:=u') rfl ?_ b2 b3
      rw [args2 hl,ha]
      exact b1
     ·exact H.elim
    ·exact H.elim
   ·exact H.elim
  case max =>
   split at H
   ·rename_i x y hl
    simp only [aop] at H
    have hx:=hv x
    have hy:=hv y
    generalize e (cx x) = v at H hx
    generalize e (cx y) = u at H hy
    cases v <;> cases u <;> simp only at H
    rename_i kk a k' b
    have hx':ρ x = .int kk a:=hx
    have hy':ρ y = .int k' b:=hy
    obtain ⟨rfl,rfl⟩:=H
    refine fin (u:=.int kk (max a b)) rfl ?_ rfl (Tr.refl k)
    rw [args2 hl,hx',hy',run_max_int2]
    congr 2
    split <;> omega
   ·exact H.elim
  case min =>
   split at H
   ·rename_i x y hl
    simp only [aop] at H
    have hx:=hv x
    have hy:=hv y
    generalize e (cx x) = v at H hx
    generalize e (cx y) = u at H hy
    cases v <;> cases u <;> simp only at H
    rename_i kk a k' b
    have hx':ρ x = .int kk a:=hx
    have hy':ρ y = .int k' b:=hy
    obtain ⟨rfl,rfl⟩:=H
    refine fin (u:=.int kk (min a b)) rfl ?_ rfl (Tr.refl k)
    rw [args2 hl,hx',hy',run_min_int2]
    congr 2
    split <;> omega
   ·exact H.elim
  case append =>
   split at H
   ·rename_i x y t t' hl hat
    split at H
    ·rename_i htt
     subst htt
     split at H
     ·rename_i el i ht
      split at H
      ·rename_i zs hz
       have ha:ats = #[t,t]:=by
        apply Array.ext'
        simp [hat]
       obtain ⟨u',w',g',b1,b2,b3⟩:=val_app (P:=P) (ty:=ty) k ht hz (hv x) (hv y) H
       refine fin (u:=u') rfl ?_ b2 b3
       rw [args2 hl,ha]
       exact b1
      ·exact H.elim
     ·exact H.elim
    ·exact H.elim
   ·exact H.elim
  all_goals exact H.elim
theorem aop_ok (o:Oper) {ρ:Operand → Value} {e:AX → AV} (k:HOK F g w h) (hv:∀ x,rep (MM F g h) w (e (cx x)) g (ρ x)) (hk:∀ v,e (.k v) = v) (H:aop (compOp P o.op) e h (fun a b=>a = r ∧ b = h')) :
  RunsTo F P (execOp ρ o) g h w r h':=by
 cases hop:o.op <;> simp only [hop,compOp] at H <;> simp only [execOp,hop]
 case move x=>obtain ⟨rfl,rfl⟩:=H;exact RunsTo.same k rfl (hv x)
 case assign x=>obtain ⟨rfl,rfl⟩:=H;exact RunsTo.same k rfl (hv x)
 case pick c a b =>
  simp only [aop] at H
  have hc:=hv c
  generalize e (cx c) = v at H hc
  cases v <;> simp only at H
  rename_i q
  have hc':ρ c = .bool q:=hc
  cases q
  ·obtain ⟨rfl,rfl⟩:=H
   exact RunsTo.same k (u:=ρ b) (by simp [hc',asBool]) (hv b)
  ·obtain ⟨rfl,rfl⟩:=H
   exact RunsTo.same k (u:=ρ a) (by simp [hc',asBool]) (hv a)
 case nilCheck x =>
  simp only [aop] at H
  have hx:=hv x
  generalize e (cx x) = v at H hx
  cases v <;> simp only at H
  case ptr=>obtain ⟨b,cap,hg,he⟩:=hx;obtain ⟨rfl,rfl⟩:=H;rw [he];exact RunsTo.same k rfl ⟨b,cap,hg,rfl⟩
  case ip=>have hx':=hx;obtain ⟨b,off,he,_⟩:=hx;obtain ⟨rfl,rfl⟩:=H;rw [he] at hx' ⊢;exact RunsTo.same k rfl hx'
  case rp=>have hx':=hx;obtain ⟨b,off,_,he⟩:=hx;obtain ⟨rfl,rfl⟩:=H;rw [he] at hx' ⊢;exact RunsTo.same k rfl hx'
  case fn=>have hx':=hx;obtain ⟨cs,he,_⟩:=hx;obtain ⟨rfl,rfl⟩:=H;rw [he] at hx' ⊢;exact RunsTo.same k rfl hx'
 case alloc t =>
  split at H
  ·rename_i n ha
   obtain ⟨rfl,rfl⟩:=H
   obtain ⟨u',w',g',h1,h2,h3⟩:=val_boxr (P:=P) ha k
   exact RunsTo.of_val h1 h2 h3
  split at H
  ·rename_i i hi
   split at H
   ·rename_i z hz
    obtain ⟨u',w',g',h1,h2,h3⟩:=val_box (P:=P) (t:=t) (r:=r) (h':=h') k (rep_ofV (MM F g h) w g z) (by simpa only [aop,hk,AX.ev] using H)
    refine RunsTo.of_val (u:=u') ?_ h2 h3
    rw [← h1]
    simp [Instr.alloc,Instr.box,zeroValue,typeInfo,hi,hz]
   ·exact H.elim
  ·exact H.elim
 case box t x =>
  obtain ⟨u',w',g',h1,h2,h3⟩:=val_box (P:=P) (t:=t) (r:=r) (h':=h') k (hv x) H
  exact RunsTo.of_val h1 h2 h3
 case build t ps =>
  split at H
  ·rename_i fs hu
   split at H
   ·rename_i hall
    split at H
    ·rename_i zs l hz hl
     obtain ⟨i,hi,hzc⟩:∃ i,P.info? t = some i ∧ zcells i = some zs:=by
      cases hi:P.info? t with
      | none=>rw [hi] at hz;cases hz
      | some i=>rw [hi] at hz;exact ⟨i,rfl,hz⟩
     obtain ⟨h1,h2,rfl,rfl⟩:=H
     obtain ⟨l1,l2⟩:=partsOf_all hl
     obtain ⟨u',b1,b2⟩:=val_build (P:=P) (w:=w) (g:=g) (h:=h) (ps:=ps.toList.map fun p=>(p.1,ρ p.2)) (as:=l.map fun p=>(p.1,p.2.1,e p.2.2)) hi hu hzc (fun f hf=>List.all_eq_true.1 hall f hf) (by simp [l1]) (fun j p a hp ha=>by
       rw [List.getElem?_map] at hp ha
       cases hq:ps.toList[j]? with
       | none=>rw [hq] at hp;cases hp
       | some q =>
        obtain ⟨f,s,c1,c2,c3⟩:=l2 j q hq
        rw [hq] at hp
        rw [c3] at ha
        injection hp with hp
        injection ha with ha
        subst hp;subst ha
        obtain ⟨fs',d1,d2⟩:=tyFld_some c1
        rw [hu] at d1
        injection d1 with d1
        injection d1 with d1
        subst d1
        exact ⟨⟨f,d2,rfl,c2⟩,hv q.2⟩) (fun p hp=>by obtain ⟨q,hq,rfl⟩:=List.mem_map.1 hp;exact h1 q hq) (fun p hp=>by obtain ⟨q,hq,rfl⟩:=List.mem_map.1 hp;simpa using h2 q hq)
     have e1:(ps.map fun x=>match x with|(i,x)=>(i,ρ x)) = (ps.toList.map fun p=>(p.1,ρ p.2)).toArray:=by
      apply Array.ext'
      simp
     rw [e1]
     simp only [List.length_map]
     exact RunsTo.of_same k b1 b2 rfl
    ·exact H.elim
   ·exact H.elim
  ·exact H.elim
 case buildSlice t n ps =>
  split at H
  ·rename_i el i ht
   split at H
   ·rename_i zs hz
    split at H
    ·rename_i hsz
     have e1:(ps.map fun x=>match x with|(i,x)=>(i,ρ x)) = (ps.toList.map fun p=>(p.1,ρ p.2)).toArray:=by
      apply Array.ext'
      simp
     split at H
     ·rcases H with H|H
      ·obtain ⟨l,h1,⟨g1,rfl,rfl⟩,T1,l1,l2,l3⟩:=pubs_ok ps.toList k hv H
       obtain ⟨u',w',b1,b2,b3⟩:=val_bsl (P:=P) (w:=w) (g:=g) (h:=h1) (n:=n) (ps:=ps.toList.map fun p=>(p.1,ρ p.2)) (es:=l) T1.ok ht hz hsz (by simp [l1]) (fun j p a hp ha=>by
        rw [List.getElem?_map] at hp
        cases hq:ps.toList[j]? with
        | none=>rw [hq] at hp;cases hp
        | some q =>
         rw [hq] at hp
         injection hp with hp
         subst hp
         exact l2 j q a hq ha) (fun p hp=>⟨(g1 p hp).1,l3 p hp⟩) (fun p hp=>(g1 p hp).2)
       rw [e1]
       exact RunsTo.of_val b1 b2 (T1.trans b3)
      ·obtain ⟨h1,rfl,rfl⟩:=H
       obtain ⟨u',w',g',b1,b2,b3⟩:=val_bslk (P:=P) (w:=w) (g:=g) (h:=h) (n:=n) (ps:=ps.toList.map fun p=>(p.1,ρ p.2)) (es:=ps.toList.map fun p=>(p.1,e (cx p.2))) k ht hz hsz (by simp) (fun j p a hp ha=>by
        rw [List.getElem?_map] at hp ha
        cases hq:ps.toList[j]? with
        | none=>rw [hq] at hp;cases hp
        | some q =>
         rw [hq] at hp ha
         injection hp with hp
         injection ha with ha
         subst hp;subst ha
         exact ⟨rfl,hv q.2⟩) (fun p hp=>by
        obtain ⟨q,hq,rfl⟩:=List.mem_map.1 hp
        exact (h1 (q.1,cx q.2) (List.mem_map.2 ⟨q,hq,rfl⟩)).1) (fun p hp=>by
        obtain ⟨q,hq,rfl⟩:=List.mem_map.1 hp
        exact (h1 (q.1,cx q.2) (List.mem_map.2 ⟨q,hq,rfl⟩)).2)
       rw [e1]
       simp only [List.map_map]
       exact RunsTo.of_val b1 b2 b3
     obtain ⟨h1,h2,rfl,rfl⟩:=H
     obtain ⟨u',w',b1,b2,b3⟩:=val_bsl (P:=P) (w:=w) (g:=g) (h:=h) (n:=n) (ps:=ps.toList.map fun p=>(p.1,ρ p.2)) (es:=ps.toList.map fun p=>(p.1,e (cx p.2))) k ht hz hsz (by simp) (fun j p a hp ha=>by
       rw [List.getElem?_map] at hp ha
       cases hq:ps.toList[j]? with
       | none=>rw [hq] at hp;cases hp
       | some q =>
        rw [hq] at hp ha
        injection hp with hp
        injection ha with ha
        subst hp;subst ha
        exact ⟨rfl,hv q.2⟩) (fun p hp=>by
       obtain ⟨q,hq,rfl⟩:=List.mem_map.1 hp
       exact h1 (q.1,cx q.2) (List.mem_map.2 ⟨q,hq,rfl⟩)) (fun p hp=>by
       obtain ⟨q,hq,rfl⟩:=List.mem_map.1 hp
       exact h2 (q.1,cx q.2) (List.mem_map.2 ⟨q,hq,rfl⟩))
     rw [e1]
     simp only [List.map_map] at b2 ⊢
     exact RunsTo.of_val b1 b2 b3
    ·exact H.elim
   ·exact H.elim
  ·exact H.elim
 case load t a =>
  split at H
  ·rename_i ht
   split at H
   ·rename_i m hs
    obtain ⟨u',h1,h2,h3⟩:=val_ld (P:=P) (t:=t) (m':=some m) k (.inr ⟨m,rfl,ht,hs⟩) (hv a) H
    exact RunsTo.of_same k h1 h2 h3
   ·exact H.elim
  ·rename_i ht
   obtain ⟨u',h1,h2,h3⟩:=val_ld (P:=P) (t:=t) (m':=none) k (.inl ⟨rfl,ht⟩) (hv a) H
   exact RunsTo.of_same k h1 h2 h3
  ·exact H.elim
 case store t a x =>
  split at H
  ·rename_i m hs
   obtain ⟨w',h1,rfl,h3⟩:=val_st (P:=P) (t:=t) k hs (hv a) (hv x) H
   exact ⟨undef,w',g,.inr ⟨by simp [h1],rfl⟩,⟨#[],rfl,rfl,fun i hi=>by omega⟩,h3⟩
  ·exact H.elim
 case fieldAddr s x f =>
  split at H
  ·rename_i fd hf
   split at H
   ·rename_i n hs
    obtain ⟨u',h1,h2,h3⟩:=val_fa (P:=P) hf hs (hv x) H
    exact RunsTo.of_same k h1 h2 h3
   ·exact H.elim
  ·exact H.elim
 case field s x f =>
  split at H
  ·rename_i fd hf
   split at H
   ·rename_i ht
    split at H
    ·rename_i m hs
     obtain ⟨u',h1,h2,h3⟩:=val_fld (P:=P) hf (.inr ⟨m,rfl,ht,hs⟩) (hv x) H
     exact RunsTo.of_same k h1 h2 h3
    ·exact H.elim
   ·rename_i ht
    obtain ⟨u',h1,h2,h3⟩:=val_fld (P:=P) hf (.inl ⟨rfl,ht⟩) (hv x) H
    exact RunsTo.of_same k h1 h2 h3
   ·exact H.elim
  ·exact H.elim
 case indexAddr t x i =>
  split at H
  ·rename_i el n ht
   obtain ⟨u',h1,h2,h3⟩:=val_ia (P:=P) ht (hv x) (hv i) H
   exact RunsTo.of_same k h1 h2 h3
  ·split at H
   ·rename_i n el hu
    split at H
    ·rename_i sz hs
     obtain ⟨u',h1,h2,h3⟩:=val_iaa (P:=P) hu hs (hv x) (hv i) H
     exact RunsTo.of_same k h1 h2 h3
    ·exact H.elim
   ·exact H.elim
 case index t x i =>
  split at H
  ·rename_i n el hu
   split at H
   ·rename_i sz ht hs
    obtain ⟨u',h1,h2,h3⟩:=val_idx (P:=P) hu hs (.inr ⟨rfl,ht⟩) (hv x) (hv i) H
    exact RunsTo.of_same k h1 h2 h3
   ·rename_i ht hs
    obtain ⟨u',h1,h2,h3⟩:=val_idx (P:=P) hu hs (.inl ⟨rfl,ht⟩) (hv x) (hv i) H
    exact RunsTo.of_same k h1 h2 h3
   ·exact H.elim
  ·exact H.elim
 case makeMap t rs =>
  cases rs with
  | some _=>exact H.elim
  | none =>
   simp only at H
   split at H
   ·obtain ⟨rfl,rfl⟩:=H
    rename_i kt _ _ _
    obtain ⟨u',w',g',h1,h2,h3⟩:=val_mkm (P:=P) (t:=t) k kt
    exact RunsTo.of_val h1 h2 h3
   ·exact H.elim
 case range t m =>
  split at H
  ·rename_i q hT
   obtain ⟨kt,kT,eT⟩:=q
   simp only [aop,xop] at H
   have hm:=hv m
   generalize e (cx m) = v at H hm
   split at H
   ·split at H
    ·rename_i d kt' L hd
     obtain ⟨rfl,rfl⟩:=H
     obtain ⟨b,cap,hg,he⟩:=hm
     obtain ⟨u',w',g',h1,h2,h3⟩:=val_rng (P:=P) hT k hd hg
     rw [he]
     exact RunsTo.of_val h1 h2 h3
    ·exact H.elim
   ·exact H.elim
  ·exact H.elim
 case lookup t m x ok =>
  split at H
  ·rename_i kt kT eT hT
   split at H
   ·rename_i z hz
    obtain ⟨i,hi,hz⟩:∃ i,P.info? eT = some i ∧ i.zero = some z:=by
     cases hi:P.info? eT with
     | none=>rw [hi] at hz;cases hz
     | some i=>rw [hi] at hz;exact ⟨i,rfl,hz⟩
    simp only [aop,xop,hk,AX.ev] at H
    have hm:=hv m
    generalize e (cx m) = v at H hm
    split at H
    ·split at H
     ·rename_i d kt' L hd
      obtain ⟨rfl,H⟩:=H
      obtain ⟨l,⟨rfl,rfl⟩,hl,hkey,_⟩:=akey_one H
      obtain ⟨b,cap,hg,he⟩:=hm
      have hx:=hkey _ _ _ _ (hv x)
      obtain ⟨u',h1,h2⟩:=val_lkp (P:=P) (ok:=ok) hT k hd hg hl hi hz
      rw [he,hx]
      exact RunsTo.of_same k h1 h2 rfl
     ·exact H.elim
    ·exact H.elim
   ·exact H.elim
  ·exact H.elim
 case mapEntry t m x =>
  split at H
  ·rename_i kt kT eT hT
   split at H
   ·rename_i z hz
    obtain ⟨i,hi,hz⟩:∃ i,P.info? eT = some i ∧ i.zero = some z:=by
     cases hi:P.info? eT with
     | none=>rw [hi] at hz;cases hz
     | some i=>rw [hi] at hz;exact ⟨i,rfl,hz⟩
    simp only [aop,xop] at H
    have hm:=hv m
    generalize e (cx m) = v at H hm
    split at H
    ·split at H
     ·rename_i d kt' L hd
      obtain ⟨rfl,hp,H⟩:=H
      obtain ⟨l,H,hl,hkey,_⟩:=akey_one H
      obtain ⟨b,cap,hg,he⟩:=hm
      have hx:=hkey _ _ _ _ (hv x)
      obtain ⟨v1,v2⟩:=val_ment (P:=P) hT k hd hg hl hi hz hp
      rw [he,hx]
      cases hj:aidx L l with
      | some j =>
       rw [hj] at H
       obtain ⟨rfl,rfl⟩:=H
       obtain ⟨u',w',h1,h2,h3⟩:=v1 j hj
       exact RunsTo.of_val h1 h3 h2
      | none =>
       rw [hj] at H
       obtain ⟨rfl,rfl⟩:=H
       obtain ⟨u',w',h1,h2,h3⟩:=v2 hj
       exact RunsTo.of_val h1 h3 h2
     ·exact H.elim
    ·exact H.elim
   ·exact H.elim
  ·exact H.elim
 case entryStore t m s x =>
  simp only [aop,xop] at H
  have hm:=hv m
  have hs:=hv s
  generalize e (cx m) = v at H hm
  generalize e (cx s) = u at H hs
  split at H
  ·split at H
   ·rename_i d i _ kt L hd
    obtain ⟨h0,h1,hp,rfl,rfl⟩:=H
    obtain ⟨b,cap,hg,he⟩:=hm
    have hs':ρ s = .int .i64 i:=hs
    obtain ⟨w',h2,h3⟩:=val_est (P:=P) (t:=t) k hd hg h0 h1 hp (hv x)
    rw [he,hs']
    exact ⟨undef,w',g,.inr ⟨by simp [h2],rfl⟩,⟨#[],rfl,rfl,fun i hi=>by omega⟩,h3⟩
   ·exact H.elim
  ·exact H.elim
 case mapUpdate t m kk x =>
  split at H
  ·rename_i kt kT eT hT
   simp only [aop,xop] at H
   have hm:=hv m
   generalize e (cx m) = v at H hm
   split at H
   ·split at H
    ·rename_i d kt' L hd
     obtain ⟨rfl,hp,H⟩:=H
     obtain ⟨l,⟨rfl,rfl⟩,hl,hkey,_⟩:=akey_one H
     obtain ⟨b,cap,hg,he⟩:=hm
     have hx:=hkey _ _ _ _ (hv kk)
     obtain ⟨w',h2,h3⟩:=val_ins (P:=P) hT k hd hg hl hp (hv x)
     rw [he,hx]
     exact ⟨undef,w',g,.inr ⟨by simp [h2],rfl⟩,⟨#[],rfl,rfl,fun i hi=>by omega⟩,h3⟩
    ·exact H.elim
   ·exact H.elim
  ·exact H.elim
 case insert t m kk x =>
  split at H
  ·rename_i kt kT eT hT
   simp only [aop,xop] at H
   have hm:=hv m
   generalize e (cx m) = v at H hm
   split at H
   ·split at H
    ·rename_i d kt' L hd
     obtain ⟨rfl,hp,H⟩:=H
     obtain ⟨l,⟨rfl,rfl⟩,hl,hkey,_⟩:=akey_one H
     obtain ⟨b,cap,hg,he⟩:=hm
     have hx:=hkey _ _ _ _ (hv kk)
     obtain ⟨w',h2,h3⟩:=val_ins (P:=P) hT k hd hg hl hp (hv x)
     rw [he,hx]
     exact ⟨undef,w',g,.inr ⟨by simp [h2],rfl⟩,⟨#[],rfl,rfl,fun i hi=>by omega⟩,h3⟩
    ·exact H.elim
   ·exact H.elim
  ·exact H.elim
 case slice t x lo hi mx =>
  cases mx with
  | some _=>exact H.elim
  | none =>
   simp only at H
   split at H
   ·rename_i el n ht
    have hm:∀ (a:Option Operand),(match (a.map fun x=>e (cx x)),(a.map ρ) with|none,none=>True|some a,some x=>rep (MM F g h) w a g x|_,_=>False):=fun a=>by
     cases a with
     | none=>trivial
     | some x=>exact hv x
    obtain ⟨u',h1,h2,h3⟩:=val_slc (P:=P) (lo:=lo.map fun x=>e (cx x)) (hi:=hi.map fun x=>e (cx x)) (ulo:=lo.map ρ) (uhi:=hi.map ρ) ht (hv x) (hm lo) (hm hi) (by
     cases lo <;> cases hi <;> exact H)
    exact RunsTo.of_same k h1 h2 h3
   ·exact H.elim
 case binOp op t x y ty =>
  split at H
  ·simp only [aop] at H
   have:abin op (e (cx x)) (e (cx y)) (fun a=>a = r) ∧ h = h':=by
    obtain ⟨r',a,b⟩:=abin_one H
    obtain ⟨rfl,b⟩:=b
    exact ⟨a,b⟩
   obtain ⟨u',h1,h2⟩:=val_bin (P:=P) (t:=t) (x:=x) (y:=y) (hv x) (hv y) this.1
   exact RunsTo.of_same k h1 h2 this.2
  ·rename_i ht
   have key:∀ neg:Bool,aop (.binb neg (cx x) (cx y)) e h (fun a b=>a = r ∧ b = h') → RunsTo F P (do pure (.value (← (do eqGuard (if neg then .neq else .eql) t x y (ρ x) (ρ y);binOp (if neg then .neq else .eql) t (ρ x) (ρ y):Sem Value)))) g h w r h':=fun neg H=>by
    simp only [aop] at H
    have hx:=hv x
    have hy:=hv y
    generalize e (cx x) = v at H hx
    generalize e (cx y) = u at H hy
    cases v <;> cases u <;> simp only at H
    rename_i a b
    have hx':ρ x = .bool a:=hx
    have hy':ρ y = .bool b:=hy
    obtain ⟨rfl,rfl⟩:=H
    rw [hx',hy']
    exact RunsTo.of_same k (val_binb (w:=w) ht) rfl rfl
   cases op <;> simp only at H <;> first|exact key false H|exact key true H|exact H.elim
  ·rename_i d hn1 hn2 ht
   split at H
   ·rename_i tag hd
    have key:∀ neg:Bool,aop (.eqz tag neg (cx x) (cx y)) e h (fun a b=>a = r ∧ b = h') → RunsTo F P (do pure (.value (← (do eqGuard (if neg then .neq else .eql) t x y (ρ x) (ρ y);binOp (if neg then .neq else .eql) t (ρ x) (ρ y):Sem Value)))) g h w r h':=fun neg H=>by
     obtain ⟨q,a,b,c⟩:=aeqz_one (show aeqz tag (e (cx x)) (e (cx y)) (fun b=>(.bool (if neg then !b else b)) = r ∧ h = h') from H)
     subst b
     exact RunsTo.of_same k (val_eqz (P:=P) (x:=x) (y:=y) ht hd (hv x) (hv y) a) rfl c
    cases op <;> simp only at H <;> first|exact key false H|exact key true H|exact H.elim
   ·split at H
    ·rename_i fs hnt
     split at H
     ·rename_i hf
      have key:∀ neg:Bool,aop (.eqa fs.size neg (cx x) (cx y)) e h (fun a b=>a = r ∧ b = h') → RunsTo F P (do pure (.value (← (do eqGuard (if neg then .neq else .eql) t x y (ρ x) (ρ y);binOp (if neg then .neq else .eql) t (ρ x) (ρ y))))) g h w r h':=fun neg H=>by
       simp only [aop] at H
       have hx:=hv x
       have hy:=hv y
       generalize e (cx x) = v at H hx
       generalize e (cx y) = u at H hy
       cases v <;> cases u <;> simp only at H
       obtain ⟨rfl,h2,h3⟩:=H
       subst h2
       obtain ⟨q,⟨rfl,h4⟩,k1⟩:=eqcs_one h3
       exact RunsTo.of_same k (val_eqa (P:=P) (x:=x) (y:=y) ht hf rfl hx hy (k1 (fun b=>b = q) rfl)) rfl h4
      cases op <;> simp only at H <;> first|exact key false H|exact key true H|exact H.elim
     ·exact H.elim
    ·exact H.elim
  ·exact H.elim
 case unOp op t x =>
  simp only [aop] at H
  have hx:=hv x
  generalize e (cx x) = v at H hx
  cases op <;> cases v <;> simp only at H
  ·rename_i kk n
   have hx':ρ x = .int kk n:=hx
   obtain ⟨rfl,rfl⟩:=H
   rw [hx']
   exact RunsTo.of_same k (u:=.int kk (kk.wrap (0 - n))) (by simp [Op.unary,Op.intArith]) rfl rfl
  ·rename_i b
   have hx':ρ x = .bool b:=hx
   obtain ⟨rfl,rfl⟩:=H
   rw [hx']
   exact RunsTo.of_same k (u:=.bool !b) (by simp [Op.unary]) rfl rfl
 case convert s d x =>
  split at H
  ·rename_i ds kk hs hd
   simp only [aop] at H
   have hx:=hv x
   generalize e (cx x) = v at H hx
   cases v <;> simp only at H
   rename_i k' n
   have hx':ρ x = .int k' n:=hx
   obtain ⟨rfl,rfl⟩:=H
   rw [hx']
   exact RunsTo.of_same k (u:=.int kk (kk.wrap n)) (by simp [convert,run_underlying hs,run_underlying hd,Conv.intToInt]) rfl rfl
  ·exact H.elim
 case makeFunc fn first cap =>
  cases fn with
  | func f =>
   simp only at H
   split at H
   ·rename_i hf
    obtain ⟨rfl,rfl⟩:=H
    have hfe:first = #[]:=by
     apply Array.ext'
     simpa using hf
    subst hfe
    refine RunsTo.of_same k (u:=.func (.func f) #[] (cap.map ρ)) (by simp [Instr.makeFunc]) ⟨_,rfl,by simp,fun i hi=>?_⟩ rfl
    have hi':i < cap.size:=by simpa using hi
    refine ⟨ρ cap[i],by simp [hi'],?_⟩
    rw [ofL_get (v:=e (cx cap[i])) (by simp [hi'])]
    exact hv _
   ·split at H
    ·rename_i hf
     obtain ⟨hp,rfl,rfl⟩:=H
     have hfe:cap = #[]:=by
      apply Array.ext'
      simpa using hf
     subst hfe
     refine RunsTo.of_same k (u:=.func (.func f) (first.map ρ) #[]) (by simp [Instr.makeFunc]) ⟨_,rfl,by simp,fun i hi=>?_⟩ rfl
     have hi':i < first.size:=by simpa using hi
     refine ⟨ρ first[i],by simp [hi'],?_⟩
     rw [ofL_get (v:=e (cx first[i])) (by simp [hi'])]
     exact rep_pure _ (hp _ (List.mem_map.2 ⟨first[i],by simp,rfl⟩)) (hv _)
    ·exact H.elim
  | _=>exact H.elim
 case makeSlice t l c =>
  split at H
  ·rename_i el i ht
   split at H
   ·rename_i zs hz
    split at H
    ·rename_i hsz
     simp only [aop] at H
     have hl:=hv l
     have hc:=hv c
     generalize e (cx l) = v at H hl
     generalize e (cx c) = u at H hc
     split at H
     ·rename_i n n'
      have hl':ρ l = .int .i64 n:=hl
      have hc':ρ c = .int .i64 n':=hc
      obtain ⟨h0,h1,h2,h3,h4,rfl,rfl⟩:=H
      rw [hl',hc']
      obtain ⟨u',w',g',b1,b2,b3⟩:=val_msl (P:=P) k ht hz h1 h2 h3 h4
      exact RunsTo.of_val b1 b2 b3
     ·exact H.elim
    ·exact H.elim
   ·exact H.elim
  ·exact H.elim
 case extract t i =>
  simp only [aop] at H
  have hx:=hv t
  generalize e (cx t) = v at H hx
  cases v <;> simp only at H
  obtain ⟨hi,rfl,rfl⟩:=H
  obtain ⟨cs,he,hm,hc⟩:=hx
  obtain ⟨x,hx,hr⟩:=hc i hi
  rw [he]
  exact RunsTo.of_same k (u:=x) (by simp [Instr.extract,hx]) hr rfl
 case next it s=>cases s <;> exact H.elim
 case entry it =>
  obtain ⟨u',h1,h2,h3⟩:=val_ent (P:=P) k (hv it) H
  exact RunsTo.of_same k h1 h2 h3
 case call c=>exact call_ok k hv (by simpa only [hop] using H)
 all_goals exact H.elim
end
end Go.Proofs.Ytbhjehpjjbbhbaa

namespace Go.Proofs.Ytbhjehpjjbbhbaa
open Go.RowKit

def AOp.xs : AOp → List AX
 | .mv x | .nilck x | .box x | .ld _ x | .fa x _ | .fld x _ _ | .un _ x | .conv _ x | .len x | .ext x _ | .clr _ x=>[x]
 | .pick c a b=>[c,a,b]
 | .build _ ps=>ps.map (·.2.2)
 | .bsl _ _ _ ps | .bslp _ _ _ ps=>ps.map (·.2)
 | .st _ x y | .ia _ x y | .bin _ x y | .binb _ x y | .eqz _ _ x y | .eqa _ _ x y | .msl _ _ _ x y | .app _ _ x y | .mx x y | .mn x y=>[x,y]
 | .slc _ x lo hi=>x :: (lo.toList ++ hi.toList)
 | .mkf _ xs | .call _ xs=>xs
 | .calv x xs=>x :: xs
 | .xt X=>X.xs
 | .nxt x=>[x]
 | .no=>[]
/-- It may change the call's own blocks. -/
def AOp.chg : AOp → Bool
 | .bslp .. | .box _ | .st .. | .msl .. | .app .. | .clr .. | .call .. | .calv .. | .nxt _=>true
 | .xt X=>X.chg
 | _=>false
/-- It looks at them. -/
def AOp.rds : AOp → Bool
 | .ld ..=>true
 | .xt X=>X.rds
 | o=>o.chg

theorem map_congr_ev {α:Type} {ps:List α} {f:α → AX} {e e':AX → AV} (h:∀ x ∈ ps.map f,e x = e' x) {β:Type} (g:α → AV → β):(ps.map fun p=>g p (e (f p))) = ps.map fun p=>g p (e' (f p)) :=
 List.map_congr_left fun p hp=>by rw [h (f p) (List.mem_map.2 ⟨p,hp,rfl⟩)]
theorem apubs_env {e e':AX → AV}:∀ {ps:List (Nat × AX)} {h:List AB} {K:List (Nat × AV) → List AB → Prop},(∀ x ∈ ps.map (·.2),e x = e' x) → apubs e ps h K → apubs e' ps h K
 | [],_,_,_,H=>H
 | (i,x) :: ps,h,K,hx,H=>by
  simp only [apubs] at H ⊢
  rw [← hx x (by simp)]
  obtain ⟨v,h1,H1,k1⟩:=apub_one H
  exact k1 _ (apubs_env (fun y hy=>hx y (List.mem_cons_of_mem _ hy)) H1)
theorem aop_env (o:AOp) {e e':AX → AV} {h:List AB} {K:AV → List AB → Prop} (hx:∀ x ∈ o.xs,e x = e' x) (H:aop o e h K):aop o e' h K:=by
 cases o <;> simp only [AOp.xs,List.mem_cons,List.not_mem_nil,or_false,forall_eq,forall_eq_or_imp] at hx
 case build zs ps =>
  simp only [aop] at H ⊢
  have h1:=map_congr_ev (f:=fun p:Nat × Nat × AX=>p.2.2) hx (fun p v=>(p.1,p.2.1,v))
  refine ⟨fun p hp=>?_,H.2.1,?_⟩
  ·rw [← hx _ (List.mem_map.2 ⟨p,hp,rfl⟩)];exact H.1 p hp
  ·rw [← h1];exact H.2.2
 case bsl n sz zs ps =>
  simp only [aop] at H ⊢
  have h1:=map_congr_ev (f:=fun p:Nat × AX=>p.2) hx (fun p v=>(p.1,v))
  refine ⟨fun p hp=>?_,H.2.1,?_⟩
  ·rw [← hx _ (List.mem_map.2 ⟨p,hp,rfl⟩)];exact H.1 p hp
  ·rw [← h1];exact H.2.2
 case bslp n sz zs ps =>
  rcases H with H|H
  ·exact .inl (apubs_env hx H)
  ·refine .inr ⟨fun p hp=>?_,?_⟩
   ·rw [← hx _ (List.mem_map.2 ⟨p,hp,rfl⟩)];exact H.1 p hp
   ·rw [← map_congr_ev (f:=fun p:Nat × AX=>p.2) hx (fun p v=>(p.1,v))];exact H.2
 case slc sz x lo hi =>
  obtain ⟨h1,h2⟩:=hx
  have hlo:lo.map e = lo.map e':=by
   cases lo with
   | none=>rfl
   | some a=>simp only [Option.map_some];rw [h2 a (by simp)]
  have hhi:hi.map e = hi.map e':=by
   cases hi with
   | none=>rfl
   | some a=>simp only [Option.map_some];rw [h2 a (by simp)]
  simp only [aop] at H ⊢
  rw [← h1,← hlo,← hhi];exact H
 case mkf f xs =>
  simp only [aop] at H ⊢
  rw [← List.map_congr_left hx];exact H
 case ld m x=>cases m <;> (simp only [aop] at H ⊢;rw [← hx];exact H)
 case call=>exact H
 case calv=>exact H
 case xt X=>exact xop_env hx H
 case nxt=>exact H
 case no=>exact H
 case pick c a b =>
  obtain ⟨h1,h2,h3⟩:=hx
  simp only [aop] at H ⊢
  rw [← h1,← h2,← h3];exact H
 all_goals
  first
  | (simp only [aop] at H ⊢;rw [← hx];exact H)
  | (obtain ⟨h1,h2⟩:=hx;simp only [aop] at H ⊢;rw [← h1,← h2];exact H)
theorem asplit_env (o:AOp) {e e':AX → AV} {h:List AB} {K:AV → List AB → Prop} (hx:∀ x ∈ o.xs,e x = e' x) (H:asplit o e h K):asplit o e' h K:=by
 cases o <;> simp only [asplit] at H ⊢
 case app sz b x y =>
  simp only [AOp.xs,List.mem_cons,List.not_mem_nil,or_false,forall_eq,forall_eq_or_imp] at hx
  obtain ⟨h1,h2⟩:=hx
  rw [← h1,← h2];exact H
theorem aop_mono (o:AOp) {e:AX → AV} {h:List AB} {K K':AV → List AB → Prop} (hk:∀ r h',K r h' → K' r h') (H:aop o e h K):aop o e h K':=by
 obtain ⟨r,h',h1,h2⟩:=aop_one o e h K H
 have h3:=hk r h' h2
 clear H h2
 have key:∀ {K1:AV → List AB → Prop},aop o e h K1 → (∀ a b,K1 a b → K' a b) → aop o e h K':=by
  clear h1 h3 hk
  intro K1 H hm
  cases o <;> simp only [aop] at H ⊢
  case mv=>exact hm _ _ H
  case pick c a b =>
   generalize e c = v at H ⊢
   cases v <;> simp only at H ⊢
   case bool q=>cases q <;> exact hm _ _ H
  case nilck x =>
   generalize e x = v at H ⊢
   cases v <;> simp only at H ⊢ <;> exact hm _ _ H
  case box x =>
   generalize e x = v at H ⊢
   cases v <;> simp only at H ⊢ <;> exact hm _ _ H
  case xt X =>
   obtain ⟨r,h',h1,_,h2,_⟩:=xop_one H
   exact h2 _ (hm _ _ h1)
  case build=>exact ⟨H.1,H.2.1,hm _ _ H.2.2⟩
  case bsl=>exact ⟨H.1,H.2.1,hm _ _ H.2.2⟩
  case bslp =>
   rcases H with H|H
   ·obtain ⟨l,h',H1,k1⟩:=apubs_one H
    exact .inl (k1 _ ⟨H1.1,hm _ _ H1.2⟩)
   ·exact .inr ⟨H.1,hm _ _ H.2⟩
  case ld m x =>
   cases m <;> simp only at H ⊢ <;> generalize e x = v at H ⊢ <;> cases v <;> simp only at H ⊢
   case none.ip=>exact ⟨H.1,hm _ _ H.2⟩
   case some.ip=>exact ⟨H.1,hm _ _ H.2⟩
   case none.ptr=>split at H <;> first|exact ⟨H.1,hm _ _ H.2⟩|exact H.elim
   case some.ptr=>split at H <;> first|exact ⟨H.1,hm _ _ H.2⟩|exact H.elim
   case none.rp=>split at H <;> first|exact ⟨H.1,H.2.1,H.2.2.1,hm _ _ H.2.2.2⟩|exact H.elim
   case some.rp d sz k o =>
    split at H
    ·cases hb:(sz == 1 && o == 0) <;> simp only [hb] at H ⊢
     ·exact ⟨H.1,H.2.1,H.2.2.1,hm _ _ H.2.2.2⟩
     ·exact ⟨H.1,H.2.1,hm _ _ H.2.2⟩
    ·exact ⟨H.1,H.2.1,H.2.2.1,hm _ _ H.2.2.2⟩
    ·exact H.elim
  case st m x y =>
   generalize e x = v at H ⊢
   cases v <;> simp only at H ⊢
   case ptr=>split at H <;> first|exact ⟨H.1,H.2.1,hm _ _ H.2.2⟩|exact H.elim
   case rp =>
    split at H
    ·exact ⟨H.1,H.2.1,H.2.2.1,H.2.2.2.1,H.2.2.2.2.imp (fun h=>⟨h.1,h.2.1,hm _ _ h.2.2⟩) (fun h=>⟨h.1,h.2.1,hm _ _ h.2.2⟩)⟩
    ·exact ⟨H.1,H.2.1,H.2.2.1,H.2.2.2.imp (fun h=>⟨h.1,h.2.1,hm _ _ h.2.2⟩) (fun h=>⟨h.1,h.2.1,hm _ _ h.2.2⟩)⟩
    ·exact H.elim
  case fa x off =>
   generalize e x = v at H ⊢
   cases v <;> simp only at H ⊢ <;> exact hm _ _ H
  case fld x off m =>
   generalize e x = v at H ⊢
   cases v <;> simp only at H ⊢
   case agg=>cases m <;> exact ⟨H.1,hm _ _ H.2⟩
  case ia sz x i =>
   generalize e x = v at H ⊢
   generalize e i = j at H ⊢
   cases j <;> cases v <;> simp only at H ⊢
   ·exact ⟨H.1,H.2.1,H.2.2.1,H.2.2.2.1,hm _ _ H.2.2.2.2⟩
   ·exact ⟨H.1,H.2.1,hm _ _ H.2.2⟩
   ·exact ⟨H.1,H.2.1,H.2.2.1,hm _ _ H.2.2.2⟩
  case slc sz x lo hi =>
   generalize e x = v at H ⊢
   cases v <;> simp only at H ⊢
   case sl =>
    refine ⟨H.1,?_⟩
    have H:=H.2
    split at H
    ·exact hm _ _ H
    ·exact ⟨H.1,H.2.1,hm _ _ H.2.2⟩
    ·exact ⟨H.1,H.2.1,hm _ _ H.2.2⟩
    ·exact ⟨H.1,H.2.1,H.2.2.1,hm _ _ H.2.2.2⟩
    ·exact H.elim
   case own =>
    split at H
    ·exact hm _ _ H
    ·exact ⟨H.1,H.2.1,hm _ _ H.2.2⟩
    ·exact ⟨H.1,H.2.1,hm _ _ H.2.2⟩
    ·exact H.elim
   case osl =>
    refine ⟨H.1,?_⟩
    have H:=H.2
    split at H
    ·exact ⟨H.1,H.2.1,hm _ _ H.2.2⟩
    ·exact H.elim
  case eqa m neg x y =>
   generalize e x = v at H ⊢
   generalize e y = u at H ⊢
   cases v <;> cases u <;> simp only at H ⊢
   obtain ⟨q,g1,k1⟩:=eqcs_one H.2.2
   exact ⟨H.1,H.2.1,k1 _ (hm _ _ g1)⟩
  case clr sz x =>
   generalize e x = v at H ⊢
   cases v <;> simp only at H ⊢
   split at H
   ·exact ⟨H.1,H.2.1,H.2.2.1,hm _ _ H.2.2.2⟩
   ·exact H.elim
  case bin op x y =>
   obtain ⟨r,h1,h2⟩:=abin_one H
   have:∀ {A B:AV → Prop} {x y:AV},(∀ r,A r → B r) → abin op x y A → abin op x y B:=fun {A B x y} hab hh=>by
    cases x <;> cases y <;> simp only [abin] at hh ⊢
    cases op <;> simp only [ishift,ibin] at hh ⊢ <;> first|exact ⟨hh.1,hh.2.1,hab _ hh.2.2⟩|exact ⟨hh.1,hab _ hh.2⟩|exact hab _ hh
   exact this (fun r hr=>hm _ _ hr) H
  case binb neg x y =>
   generalize e x = v at H ⊢
   generalize e y = u at H ⊢
   cases v <;> cases u <;> simp only at H ⊢ <;> exact hm _ _ H
  case eqz tag neg x y =>
   unfold aeqz at H ⊢
   split at H <;> first|exact hm _ _ H|exact H.elim
  case un op x =>
   generalize e x = v at H ⊢
   cases op <;> cases v <;> simp only at H ⊢ <;> exact hm _ _ H
  case conv k x =>
   generalize e x = v at H ⊢
   cases v <;> simp only at H ⊢ <;> exact hm _ _ H
  case mkf=>exact hm _ _ H
  case msl sz bytes zs x y =>
   split at H
   ·rename_i h1 h2
    exact ⟨H.1,H.2.1,H.2.2.1,H.2.2.2.1,H.2.2.2.2.1,hm _ _ H.2.2.2.2.2⟩
   ·exact H.elim
  case len x =>
   generalize e x = v at H ⊢
   cases v <;> simp only at H ⊢ <;> exact hm _ _ H
  case app sz bytes x y =>
   refine ⟨H.1,?_⟩
   obtain ⟨q,m,c',hs,H⟩:=asrc_e H.2
   refine asrc_i hs ?_
   generalize e x = v at H ⊢
   cases v <;> simp only at H ⊢
   case sl=>exact ⟨H.1,H.2.1,fun h0=>hm _ _ (H.2.2.1 h0),fun h0=>⟨(H.2.2.2 h0).1,(H.2.2.2 h0).2.1,hm _ _ (H.2.2.2 h0).2.2⟩⟩
   case own =>
    split at H
    ·exact ⟨H.1,H.2.1,H.2.2.1,H.2.2.2.1,hm _ _ H.2.2.2.2⟩
    ·exact ⟨H.1,H.2.1,H.2.2.1,H.2.2.2.1,hm _ _ H.2.2.2.2⟩
    ·exact H.elim
  case mx x y =>
   generalize e x = v at H ⊢
   generalize e y = u at H ⊢
   cases v <;> cases u <;> simp only at H ⊢ <;> exact hm _ _ H
  case mn x y =>
   generalize e x = v at H ⊢
   generalize e y = u at H ⊢
   cases v <;> cases u <;> simp only at H ⊢ <;> exact hm _ _ H
  case ext x i =>
   generalize e x = v at H ⊢
   cases v <;> simp only at H ⊢
   exact ⟨H.1,hm _ _ H.2⟩
 exact key h1 (fun a b ⟨ha,hb⟩=>by rw [ha,hb];exact h3)
theorem asplit_mono (o:AOp) {e:AX → AV} {h:List AB} {K K':AV → List AB → Prop} (hk:∀ r h',K r h' → K' r h') (H:asplit o e h K):asplit o e h K':=by
 cases o <;> simp only [asplit] at H ⊢
 case app sz b x y =>
  refine ⟨H.1,?_⟩
  obtain ⟨q,m,c',hs,hq,H⟩:=asrc_e H.2
  refine asrc_i hs ⟨hq,?_⟩
  generalize e x = vx at H ⊢
  split at H
  ·split at H
   ·exact ⟨H.1,H.2.1,H.2.2.1,H.2.2.2.1,hk _ _ H.2.2.2.2.1,hk _ _ H.2.2.2.2.2⟩
   ·exact H.elim
  ·split at H
   ·exact ⟨H.1,H.2.1,H.2.2.1,H.2.2.2.1,H.2.2.2.2.1,hk _ _ H.2.2.2.2.2.1,hk _ _ H.2.2.2.2.2.2⟩
   ·exact H.elim
  ·exact H.elim
/-- An operation that does not change the call's own blocks: one value, the same blocks; and, if it does not look at them, in any. -/
theorem aop_quiet (o:AOp) (hc:o.chg = false) {e:AX → AV} {h:List AB} {K:AV → List AB → Prop} (H:aop o e h K):∃ r,K r h ∧ aop o e h (fun a b=>a = r ∧ b = h) ∧ (o.rds = false → ∀ h2 (K2:AV → List AB → Prop),K2 r h2 → aop o e h2 K2):=by
 obtain ⟨r,h',h1,h2⟩:=aop_one o e h K H
 have key:h' = h ∧ (o.rds = false → ∀ h2 (K2:AV → List AB → Prop),K2 r h2 → aop o e h2 K2):=by
  clear H h2
  cases o <;> simp only [AOp.chg,Bool.true_eq_false,reduceCtorEq] at hc <;> simp only [aop] at h1 ⊢
  case mv=>obtain ⟨rfl,rfl⟩:=h1;exact ⟨rfl,fun _ h2 K2 hk=>hk⟩
  case pick c a b =>
   generalize e c = v at h1 ⊢
   cases v <;> simp only at h1 ⊢
   case bool q=>cases q <;> (obtain ⟨rfl,rfl⟩:=h1;exact ⟨rfl,fun _ h2 K2 hk=>hk⟩)
  case nilck x =>
   generalize e x = v at h1 ⊢
   cases v <;> simp only at h1 ⊢ <;> (obtain ⟨rfl,rfl⟩:=h1;exact ⟨rfl,fun _ h2 K2 hk=>hk⟩)
  case xt X =>
   obtain ⟨r2,h2',⟨rfl,rfl⟩,k2,_,k4⟩:=xop_one h1
   exact ⟨k2 hc,fun hr=>k4 hr⟩
  case build=>obtain ⟨a,b,rfl,rfl⟩:=h1;exact ⟨rfl,fun _ h2 K2 hk=>⟨a,b,hk⟩⟩
  case bsl=>obtain ⟨a,b,rfl,rfl⟩:=h1;exact ⟨rfl,fun _ h2 K2 hk=>⟨a,b,hk⟩⟩
  case ld m x =>
   refine ⟨?_,fun hr=>by cases hr⟩
   cases m <;> simp only at h1 <;> generalize e x = v at h1 <;> cases v <;> simp only at h1
   case none.ip=>exact h1.2.2.symm
   case some.ip=>exact h1.2.2.symm
   case none.ptr=>split at h1 <;> first|exact h1.2.2.symm|exact h1.elim
   case some.ptr=>split at h1 <;> first|exact h1.2.2.symm|exact h1.elim
   case none.rp=>split at h1 <;> first|exact h1.2.2.2.2.symm|exact h1.elim
   case some.rp d sz k o =>
    split at h1
    ·cases hb:(sz == 1 && o == 0) <;> simp only [hb] at h1
     ·exact h1.2.2.2.2.symm
     ·exact h1.2.2.2.symm
    ·exact h1.2.2.2.2.symm
    ·exact h1.elim
  case fa x off =>
   generalize e x = v at h1 ⊢
   cases v <;> simp only at h1 ⊢ <;> (obtain ⟨rfl,rfl⟩:=h1;exact ⟨rfl,fun _ h2 K2 hk=>hk⟩)
  case fld x off m =>
   generalize e x = v at h1 ⊢
   cases v <;> simp only at h1 ⊢
   case agg=>cases m <;> (obtain ⟨a,rfl,rfl⟩:=h1;exact ⟨rfl,fun _ h2 K2 hk=>⟨a,hk⟩⟩)
  case ia sz x i =>
   generalize e x = v at h1 ⊢
   generalize e i = j at h1 ⊢
   cases j <;> cases v <;> simp only at h1 ⊢
   ·obtain ⟨a,b,c,d,rfl,rfl⟩:=h1;exact ⟨rfl,fun _ h2 K2 hk=>⟨a,b,c,d,hk⟩⟩
   ·obtain ⟨a,b,rfl,rfl⟩:=h1;exact ⟨rfl,fun _ h2 K2 hk=>⟨a,b,hk⟩⟩
   ·obtain ⟨a,b,c,rfl,rfl⟩:=h1;exact ⟨rfl,fun _ h2 K2 hk=>⟨a,b,c,hk⟩⟩
  case slc sz x lo hi =>
   generalize e x = v at h1 ⊢
   cases v <;> simp only at h1 ⊢
   case sl =>
    obtain ⟨h0,h1⟩:=h1
    generalize lo.map e = l at h1 ⊢
    generalize hi.map e = m at h1 ⊢
    split at h1
    ·obtain ⟨rfl,rfl⟩:=h1;exact ⟨rfl,fun _ h2 K2 hk=>⟨h0,hk⟩⟩
    ·obtain ⟨a,b,rfl,rfl⟩:=h1;exact ⟨rfl,fun _ h2 K2 hk=>⟨h0,a,b,hk⟩⟩
    ·obtain ⟨a,b,rfl,rfl⟩:=h1;exact ⟨rfl,fun _ h2 K2 hk=>⟨h0,a,b,hk⟩⟩
    ·obtain ⟨a,b,c,rfl,rfl⟩:=h1;exact ⟨rfl,fun _ h2 K2 hk=>⟨h0,a,b,c,hk⟩⟩
    ·exact h1.elim
   case own =>
    generalize lo.map e = l at h1 ⊢
    generalize hi.map e = m at h1 ⊢
    split at h1
    ·obtain ⟨rfl,rfl⟩:=h1;exact ⟨rfl,fun _ h2 K2 hk=>hk⟩
    ·obtain ⟨a,b,rfl,rfl⟩:=h1;exact ⟨rfl,fun _ h2 K2 hk=>⟨a,b,hk⟩⟩
    ·obtain ⟨a,b,rfl,rfl⟩:=h1;exact ⟨rfl,fun _ h2 K2 hk=>⟨a,b,hk⟩⟩
    ·exact h1.elim
   case osl =>
    obtain ⟨h0,h1⟩:=h1
    generalize lo.map e = l at h1 ⊢
    generalize hi.map e = m at h1 ⊢
    split at h1
    ·obtain ⟨a,b,rfl,rfl⟩:=h1;exact ⟨rfl,fun _ h2 K2 hk=>⟨h0,a,b,hk⟩⟩
    ·exact h1.elim
  case eqa m neg x y =>
   generalize e x = v at h1 ⊢
   generalize e y = u at h1 ⊢
   cases v <;> cases u <;> simp only at h1 ⊢
   obtain ⟨a,b,h1⟩:=h1
   obtain ⟨q,⟨rfl,rfl⟩,k1⟩:=eqcs_one h1
   exact ⟨rfl,fun _ h2 K2 hk=>⟨a,b,k1 _ hk⟩⟩
  case bin op x y =>
   obtain ⟨r',a,b⟩:=abin_one h1
   obtain ⟨rfl,rfl⟩:=b
   refine ⟨rfl,fun _ h2 K2 hk=>?_⟩
   have:∀ {A B:AV → Prop} {x y:AV},(∀ r,A r → B r) → abin op x y A → abin op x y B:=fun {A B x y} hab hh=>by
    cases x <;> cases y <;> simp only [abin] at hh ⊢
    cases op <;> simp only [ishift,ibin] at hh ⊢ <;> first|exact ⟨hh.1,hh.2.1,hab _ hh.2.2⟩|exact ⟨hh.1,hab _ hh.2⟩|exact hab _ hh
   exact this (fun r hr=>by rw [hr];exact hk) a
  case binb neg x y =>
   generalize e x = v at h1 ⊢
   generalize e y = u at h1 ⊢
   cases v <;> cases u <;> simp only at h1 ⊢ <;> (obtain ⟨rfl,rfl⟩:=h1;exact ⟨rfl,fun _ h2 K2 hk=>hk⟩)
  case eqz tag neg x y =>
   obtain ⟨q,a,b⟩:=aeqz_one h1
   obtain ⟨rfl,rfl⟩:=b
   refine ⟨rfl,fun _ h2 K2 hk=>?_⟩
   unfold aeqz at a ⊢
   split at a <;> first|(obtain rfl:=a;exact hk)|exact a.elim
  case un op x =>
   generalize e x = v at h1 ⊢
   cases op <;> cases v <;> simp only at h1 ⊢ <;> (obtain ⟨rfl,rfl⟩:=h1;exact ⟨rfl,fun _ h2 K2 hk=>hk⟩)
  case conv k x =>
   generalize e x = v at h1 ⊢
   cases v <;> simp only at h1 ⊢ <;> (obtain ⟨rfl,rfl⟩:=h1;exact ⟨rfl,fun _ h2 K2 hk=>hk⟩)
  case mkf=>obtain ⟨rfl,rfl⟩:=h1;exact ⟨rfl,fun _ h2 K2 hk=>hk⟩
  case len x =>
   generalize e x = v at h1 ⊢
   cases v <;> simp only at h1 ⊢ <;> (obtain ⟨rfl,rfl⟩:=h1;exact ⟨rfl,fun _ h2 K2 hk=>hk⟩)
  case mx x y =>
   generalize e x = v at h1 ⊢
   generalize e y = u at h1 ⊢
   cases v <;> cases u <;> simp only at h1 ⊢ <;> (obtain ⟨rfl,rfl⟩:=h1;exact ⟨rfl,fun _ h2 K2 hk=>hk⟩)
  case mn x y =>
   generalize e x = v at h1 ⊢
   generalize e y = u at h1 ⊢
   cases v <;> cases u <;> simp only at h1 ⊢ <;> (obtain ⟨rfl,rfl⟩:=h1;exact ⟨rfl,fun _ h2 K2 hk=>hk⟩)
  case ext x i =>
   generalize e x = v at h1 ⊢
   cases v <;> simp only at h1 ⊢
   obtain ⟨a,rfl,rfl⟩:=h1;exact ⟨rfl,fun _ h2 K2 hk=>⟨a,hk⟩⟩
 obtain ⟨rfl,k2⟩:=key
 exact ⟨r,h2,h1,k2⟩
end Go.Proofs.Ytbhjehpjjbbhbaa

namespace Go.Proofs.Ytbhjehpjjbbhbaa
open Go.RowKit

structure AO where
 dst:Option Nat
 op:AOp
 guard:Option (Nat × Bool)
 deriving Inhabited
abbrev Env := Nat → AV
def Env.put (e:Env):Option Nat → AV → Env
 | some d,v=>fun t=>if t = d then v else e t
 | none,_=>e
/-- What is known of calls, and of functions that yield values. -/
structure CallP where
 call:FuncId → List AV → List AB → (AV → List AB → Prop) → Prop
 iter:Bool → FuncId → List AV → List (List AV) → Prop
instance : CoeFun CallP (fun _=>FuncId → List AV → List AB → (AV → List AB → Prop) → Prop):=⟨CallP.call⟩
def CallP.Mono (C:CallP):Prop:=∀ f xs h (K K':AV → List AB → Prop),(∀ r h',K r h' → K' r h') → C f xs h K → C f xs h K'
def astep (C:CallP) (o:AOp) (e:Env) (h:List AB) (K:AV → List AB → Prop):Prop :=
 match o with
 | .call f xs=>C f (xs.map (AX.ev e)) h K
 | .calv x xs=>match x.ev e with
  | .fn f m c=>C f (xs.map (AX.ev e) ++ (List.range m).map c) h K
  | _=>False
 | .app sz b x y=>aop (.app sz b x y) (AX.ev e) h K ∨ asplit (.app sz b x y) (AX.ev e) h K
 | .nxt x=>anext (x.ev e) h K
 | o=>aop o (AX.ev e) h K
def gstep (C:CallP) (o:AO) (e:Env) (h:List AB) (K:AV → List AB → Prop):Prop :=
 match o.guard with
 | none=>astep C o.op e h K
 | some (t,b)=>match e t with
  | .bool q=>acond (q == b) (astep C o.op e h K) (K und h)
  | .tup 0 _=>K und h
  | _=>False
def AX.tmps : AX → List Nat
 | .t i=>[i]
 | .k _=>[]
def AO.looks (o:AO):List Nat:=o.op.xs.flatMap AX.tmps ++ (match o.guard with|some (t,_)=>[t]|none=>[])

theorem ev_congr {x:AX} {e e':Env} (h:∀ t ∈ x.tmps,e t = e' t):x.ev e = x.ev e':=by
 cases x with
 | t i=>exact h i (by simp [AX.tmps])
 | k v=>rfl
theorem astep_env {C:CallP} {o:AOp} {e e':Env} {h:List AB} {K:AV → List AB → Prop} (hx:∀ x ∈ o.xs,x.ev e = x.ev e') (H:astep C o e h K):astep C o e' h K:=by
 cases o
 case call f xs =>
  simp only [astep] at H ⊢
  have hm:xs.map (AX.ev e) = xs.map (AX.ev e'):=List.map_congr_left hx
  rw [← hm];exact H
 case calv x xs =>
  simp only [astep] at H ⊢
  have hm:xs.map (AX.ev e) = xs.map (AX.ev e'):=List.map_congr_left (fun y hy=>hx y (by simp [AOp.xs,hy]))
  rw [← hx x (by simp [AOp.xs]),← hm];exact H
 case app sz b x y=>exact H.imp (aop_env _ hx) (asplit_env _ hx)
 case nxt x =>
  simp only [astep] at H ⊢
  rw [← hx x (by simp [AOp.xs])];exact H
 all_goals (simp only [astep] at H ⊢;exact aop_env _ hx H)
theorem astep_mono {C:CallP} (hC:C.Mono) {o:AOp} {e:Env} {h:List AB} {K K':AV → List AB → Prop} (hk:∀ r h',K r h' → K' r h') (H:astep C o e h K):astep C o e h K':=by
 cases o
 case call f xs=>exact hC _ _ _ _ _ hk H
 case calv x xs =>
  simp only [astep] at H ⊢
  generalize x.ev e = v at H ⊢
  cases v <;> simp only at H ⊢
  exact hC _ _ _ _ _ hk H
 case app sz b x y=>exact H.imp (aop_mono _ hk) (asplit_mono _ hk)
 case nxt x=>exact anext_mono hk H
 all_goals (simp only [astep] at H ⊢;exact aop_mono _ hk H)
theorem astep_quiet {C:CallP} {o:AOp} (hc:o.chg = false) (e:Env) (h:List AB) (K:AV → List AB → Prop):astep C o e h K = aop o (AX.ev e) h K:=by
 cases o <;> first|rfl|(simp [AOp.chg] at hc)
theorem gstep_env {C:CallP} {o:AO} {e e':Env} {h:List AB} {K:AV → List AB → Prop} (hx:∀ t ∈ o.looks,e t = e' t) (H:gstep C o e h K):gstep C o e' h K:=by
 have hx1:∀ x ∈ o.op.xs,x.ev e = x.ev e':=fun x hx'=>ev_congr fun t ht=>hx t (List.mem_append_left _ (List.mem_flatMap.2 ⟨x,hx',ht⟩))
 unfold gstep at H ⊢
 cases hg:o.guard with
 | none=>rw [hg] at H;exact astep_env hx1 H
 | some p =>
  obtain ⟨t,b⟩:=p
  rw [hg] at H
  have ht:e t = e' t:=hx t (by simp [AO.looks,hg])
  simp only at H ⊢
  rw [← ht]
  generalize e t = v at H ⊢
  split at H
  ·exact acond_i (fun hq=>(acond_e H).elim (fun h=>astep_env hx1 h.2) (fun h=>by rw [h.1] at hq;cases hq)) (fun hq=>(acond_e H).elim (fun h=>by rw [h.1] at hq;cases hq) (fun h=>h.2))
  ·exact H
  ·exact H.elim
theorem gstep_mono {C:CallP} (hC:C.Mono) {o:AO} {e:Env} {h:List AB} {K K':AV → List AB → Prop} (hk:∀ r h',K r h' → K' r h') (H:gstep C o e h K):gstep C o e h K':=by
 unfold gstep at H ⊢
 cases hg:o.guard with
 | none=>rw [hg] at H;exact astep_mono hC hk H
 | some p =>
  obtain ⟨t,b⟩:=p
  rw [hg] at H
  simp only at H ⊢
  generalize e t = v at H ⊢
  split at H
  ·exact acond_i (fun hq=>(acond_e H).elim (fun h=>astep_mono hC hk h.2) (fun h=>by rw [h.1] at hq;cases hq)) (fun hq=>(acond_e H).elim (fun h=>by rw [h.1] at hq;cases hq) (fun h=>hk _ _ h.2))
  ·exact hk _ _ H
  ·exact H.elim
theorem gstep_quiet {C:CallP} {o:AO} (hc:o.op.chg = false) {e:Env} {h:List AB} {K:AV → List AB → Prop} (H:gstep C o e h K):∃ r,K r h ∧ gstep C o e h (fun a b=>a = r ∧ b = h) ∧ (o.op.rds = false → ∀ h2 (K2:AV → List AB → Prop),K2 r h2 → gstep C o e h2 K2):=by
 unfold gstep at H ⊢
 simp only [astep_quiet hc] at H ⊢
 cases hg:o.guard with
 | none=>rw [hg] at H;exact aop_quiet _ hc H
 | some p =>
  obtain ⟨t,b⟩:=p
  rw [hg] at H
  simp only at H ⊢
  generalize e t = v at H ⊢
  split at H
  ·rename_i q
   rcases acond_e H with ⟨h1,h2⟩|⟨h1,h2⟩
   ·simp only [h1,acond]
    exact aop_quiet _ hc h2
   ·simp only [h1,acond]
    exact ⟨und,h2,by simp,fun _ h2 K2 hk=>hk⟩
  ·exact ⟨und,H,by simp,fun _ h2 K2 hk=>hk⟩
  ·exact H.elim

theorem put_ne {e:Env} {dst:Option Nat} {v:AV} {t:Nat} (h:dst ≠ some t):e.put dst v t = e t:=by
 cases dst with
 | none=>rfl
 | some d=>simp only [Env.put];rw [if_neg (fun e=>h (by rw [e]))]
theorem put_eq {e:Env} {t:Nat} {v:AV}:e.put (some t) v t = v:=by simp [Env.put]
theorem put_comm {e:Env} {x y:Option Nat} {v u:AV} (h:∀ d,x = some d → y ≠ some d):(e.put x v).put y u = (e.put y u).put x v:=by
 cases x with
 | none=>rfl
 | some d =>
  cases y with
  | none=>rfl
  | some d' =>
   have hne:d' ≠ d:=fun e=>h d rfl (by rw [e])
   funext t
   simp only [Env.put]
   by_cases h1:t = d'
   ·subst h1;simp [hne]
   ·simp [h1]

/-- A look into the blocks gives what it gave. -/
def wat (C:CallP) (o:AO) (e:Env) (h:List AB):Prop:=∀ d,o.dst = some d → gstep C o e h (fun v _=>v = e d)
section
variable (C:CallP) (ao:Nat → AO) (W:Nat → List Nat)
def arun (l:List Nat) (D:Nat → Prop) (Q:Env → List AB → Prop) (e:Env) (h:List AB):Prop :=
 match l with
 | []=>Q e h
 | i :: rest=>gstep C (ao i) e h (fun r h'=>(∀ j ∈ W i,D j → wat C (ao j) e h') ∧ arun rest (fun k=>k = i ∨ D k) Q (e.put (ao i).dst r) h')
end
section
variable {C:CallP} {ao:Nat → AO} {W:Nat → List Nat}
theorem arun_anti (hC:C.Mono):∀ (l:List Nat) {D D':Nat → Prop} {Q:Env → List AB → Prop} {e:Env} {h:List AB},(∀ k,D' k → D k) → arun C ao W l D Q e h → arun C ao W l D' Q e h
 | [],_,_,_,_,_,_,H=>H
 | _ :: rest,_,_,_,_,_,hd,H=>gstep_mono hC (fun _ _ hh=>⟨fun j hj hDj=>hh.1 j hj (hd j hDj),arun_anti hC rest (fun k hk=>hk.imp id (hd k)) hh.2⟩) H
theorem wat_env {o:AO} {e:Env} {h:List AB} {dst:Option Nat} {v:AV} (h1:∀ d,dst = some d → d ∉ o.looks) (h2:∀ d,dst = some d → o.dst ≠ some d) (H:wat C o (e.put dst v) h):wat C o e h:=fun d hd=>by
 have h3:dst ≠ some d:=fun e=>h2 d e hd
 have:=H d hd
 rw [put_ne h3] at this
 exact gstep_env (fun t ht=>put_ne (fun e=>h1 t e ht)) this

/-- What a region's static look gives: clo: what must have come before. -/
structure Still (ao:Nat → AO) (W:Nat → List Nat) (clo:Nat → Nat → Prop) (N:Nat):Prop where
 apart:∀ k j,k < N → j < N → k ≠ j → ¬ clo k j → ¬ clo j k → ∀ d,(ao j).dst = some d → d ∉ (ao k).looks ∧ (ao k).dst ≠ some d
 wat:∀ i k j,i < N → k ∈ W i → j < N → k ≠ j → ¬ clo k j → ∀ d,(ao j).dst = some d → d ∉ (ao k).looks ∧ (ao k).dst ≠ some d
 self:∀ i j,i < N → j ∈ W i → ∀ d,(ao j).dst = some d → d ∉ (ao j).looks
 wq:∀ j,j < N → (ao j).op.chg = false → W j = []
def Pair (ao:Nat → AO) (W:Nat → List Nat) (clo:Nat → Nat → Prop) (j i:Nat):Prop :=
 j ≠ i ∧ ¬ clo j i ∧ ((ao j).op.chg = true → clo i j) ∧ ((ao i).op.chg = true → (ao j).op.rds = true → ¬ clo i j → j ∈ W i ∧ (ao j).dst ≠ none)

theorem pull (hC:C.Mono) {clo:Nat → Nat → Prop} {N:Nat} (S:Still ao W clo N) {i:Nat} (hiN:i < N) (rest:List Nat) (Q:Env → List AB → Prop):∀ (pre:List Nat) (D:Nat → Prop) (e:Env) (h:List AB),
  (∀ j ∈ pre,j < N) → (∀ k,D k → k < N) → pre.Pairwise (Pair ao W clo) → (∀ j ∈ pre,Pair ao W clo j i ∧ ¬ clo i j) → (∀ k,D k → ∀ j ∈ pre,¬ clo k j ∧ k ≠ j) →
  arun C ao W (pre ++ i :: rest) D Q e h →
  gstep C (ao i) e h (fun r h'=>(∀ j ∈ W i,D j → wat C (ao j) e h') ∧ arun C ao W (pre ++ rest) (fun k=>k = i ∨ D k) Q (e.put (ao i).dst r) h')
 | [],_,_,_,_,_,_,_,_,H=>H
 | j :: pre,D,e,h,hN,hDN,hpw,hpi,hD,H=>by
  obtain ⟨⟨hne,hji,hcj,hci⟩,hij⟩:=hpi j List.mem_cons_self
  have hjN:=hN j List.mem_cons_self
  have hq:(ao j).op.chg = false:=by
   cases hh:(ao j).op.chg with
   | false=>rfl
   | true=>exact (hij (hcj hh)).elim
  have H:gstep C (ao j) e h _:=H
  obtain ⟨rj,⟨_,Hj⟩,gj,nr⟩:=gstep_quiet hq H
  rw [List.pairwise_cons] at hpw
  have IH:=pull hC S hiN rest Q pre (fun k=>k = j ∨ D k) (e.put (ao j).dst rj) h (fun k hk=>hN k (List.mem_cons_of_mem _ hk)) (fun k hk=>hk.elim (fun e=>e ▸ hjN) (hDN k)) hpw.2 (fun k hk=>hpi k (List.mem_cons_of_mem _ hk))
   (fun k hk k' hk'=>hk.elim (fun e=>by subst e;exact ⟨(hpw.1 k' hk').2.1,(hpw.1 k' hk').1⟩) (fun hDk=>hD k hDk k' (List.mem_cons_of_mem _ hk'))) Hj
  have ai:=S.apart i j hiN hjN (Ne.symm hne) hij hji
  have aj:=S.apart j i hjN hiN hne hji hij
  have IH2:=gstep_env (e':=e) (fun t ht=>put_ne (fun ed=>(ai t ed).1 ht)) IH
  have fin:∀ ri hi,(∀ k ∈ W i,(k = j ∨ D k) → wat C (ao k) (e.put (ao j).dst rj) hi) → arun C ao W (pre ++ rest) (fun k=>k = i ∨ k = j ∨ D k) Q ((e.put (ao j).dst rj).put (ao i).dst ri) hi → gstep C (ao j) e hi (fun a b=>a = rj ∧ b = hi) →
    (∀ k ∈ W i,D k → wat C (ao k) e hi) ∧ arun C ao W (j :: pre ++ rest) (fun k=>k = i ∨ D k) Q (e.put (ao i).dst ri) hi:=by
   intro ri hi hw hr hg
   refine ⟨fun k hk hDk=>?_,?_⟩
   ·obtain ⟨n1,n2⟩:=hD k hDk j List.mem_cons_self
    have ak:=S.wat i k j hiN hk hjN n2 n1
    exact wat_env (fun d hd=>(ak d hd).1) (fun d hd=>(ak d hd).2) (hw k hk (.inr hDk))
   ·show gstep C (ao j) (e.put (ao i).dst ri) hi _
    refine gstep_mono hC ?_ (gstep_env (fun t ht=>(put_ne (fun ed=>(aj t ed).1 ht)).symm) hg)
    rintro r h' ⟨rfl,rfl⟩
    refine ⟨fun k hk=>(by rw [S.wq j hjN hq] at hk;cases hk),?_⟩
    rw [← put_comm (fun d hd=>(ai d hd).2)]
    exact arun_anti hC _ (fun k hk=>by rcases hk with h|h|h;exact .inr (.inl h);exact .inl h;exact .inr (.inr h)) hr
  cases hci':(ao i).op.chg with
  | false =>
   obtain ⟨ri,⟨k1,k2⟩,gi,_⟩:=gstep_quiet hci' IH2
   refine gstep_mono hC ?_ gi
   rintro r h' ⟨rfl,rfl⟩
   exact fin _ _ k1 k2 gj
  | true =>
   refine gstep_mono hC ?_ IH2
   rintro ri hi ⟨k1,k2⟩
   refine fin _ _ k1 k2 ?_
   cases hrd:(ao j).op.rds with
   | false=>exact nr hrd hi _ ⟨rfl,rfl⟩
   | true =>
    obtain ⟨m1,m2⟩:=hci hci' hrd hij
    obtain ⟨d,hd⟩:=Option.ne_none_iff_exists'.1 m2
    have h1:=k1 j m1 (.inl rfl) d hd
    rw [hd,put_eq] at h1
    obtain ⟨r,e1,e2,_⟩:=gstep_quiet hq h1
    subst e1
    refine gstep_env (fun t ht=>?_) e2
    exact put_ne (fun ed=>S.self i j hiN m1 t (by rw [hd];exact ed) ht)
end
end Go.Proofs.Ytbhjehpjjbbhbaa
