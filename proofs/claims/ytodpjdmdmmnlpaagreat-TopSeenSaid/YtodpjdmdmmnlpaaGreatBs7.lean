/- Operations on maps and arrays: abstract and real agree -/
import Derived.Test.YtodpjdmdmmnlpaaGreatBs5
import Derived.Test.YtodpjdmdmmnlpaaGreatBs6
import Derived.Laws.NewFold
import Derived.Maps.RangeRun
set_option linter.unusedSimpArgs false
set_option linter.unusedVariables false
namespace Go.Proofs.YtodpjdmdmmnlpaaGreat
open Go.RowKit
variable {F:Nat → Prop}

abbrev setBlk (w:World) (b:Nat) (o:Obj):World:={ w with heap:=w.heap.setIfInBounds b o }
theorem Chg.setBlk (w:World) (b:Nat) (o:Obj):Chg (fun y=>y = b) w (setBlk w b o) :=
 ⟨rfl,rfl,rfl,by simp,fun x _ hn=>by simp [Ne.symm hn]⟩
theorem setBlk_get {w:World} {b:Nat} {o o':Obj} (h:w.heap[b]? = some o):(setBlk w b o').heap[b]? = some o':=by
 have:=lt_of_heap h
 simp [this]
theorem aidx_keys (L:List (List Int × AV)) (l:List Int):(L.map (·.1)).findIdx? (· == l) = aidx L l:=by
 unfold aidx
 rw [List.findIdx?_map];rfl
theorem aidx_some {L:List (List Int × AV)} {l:List Int} {i:Nat} (h:aidx L l = some i):i < L.length ∧ (L.getD i default).1 = l ∧ alook L l = some (L.getD i default).2 ∧ ∀ v,aput L l v = L.set i (l,v):=by
 induction L generalizing i with
 | nil=>simp [aidx] at h
 | cons p L ih =>
  simp only [aidx,List.findIdx?_cons] at h
  by_cases hp:p.1 = l
  ·have hb:(p.1 == l) = true:=by simpa using hp
   rw [hb] at h
   simp only [if_true,Option.some.injEq] at h
   subst h
   exact ⟨by simp,by simpa using hp,by simp [alook,hb],fun v=>by simp [aput,hp]⟩
  ·have hb:(p.1 == l) = false:=by simpa using hp
   rw [hb] at h
   simp only [Bool.false_eq_true,if_false,Option.map_eq_some_iff] at h
   obtain ⟨j,hj,rfl⟩:=h
   obtain ⟨h1,h2,h3,h4⟩:=ih hj
   refine ⟨by simpa using h1,by simpa using h2,?_,fun v=>?_⟩
   ·simp only [alook,List.find?_cons,hb] at h3 ⊢
    simpa using h3
   ·simp [aput,hp,h4 v]
theorem aidx_none {L:List (List Int × AV)} {l:List Int} (h:aidx L l = none):l ∉ L.map (·.1) ∧ alook L l = none ∧ ∀ v,aput L l v = L ++ [(l,v)]:=by
 induction L with
 | nil=>exact ⟨by simp,rfl,fun v=>rfl⟩
 | cons p L ih =>
  simp only [aidx,List.findIdx?_cons] at h
  by_cases hp:p.1 = l
  ·have hb:(p.1 == l) = true:=by simpa using hp
   rw [hb] at h;simp at h
  ·have hb:(p.1 == l) = false:=by simpa using hp
   rw [hb] at h
   simp only [Bool.false_eq_true,if_false,Option.map_eq_none_iff] at h
   obtain ⟨h1,h2,h3⟩:=ih h
   refine ⟨by simp only [List.map_cons,List.mem_cons,not_or];exact ⟨fun e=>hp e.symm,h1⟩,?_,fun v=>by simp [aput,hp,h3 v]⟩
   simp only [alook,List.find?_cons,hb] at h2 ⊢
   exact h2
section
variable {P:Program} {g:GM} {h:List AB} {w:World}

theorem set_same {α:Type} {h:List α} {d:Nat} {x:α} (hd:h[d]? = some x):h.set d x = h:=by
 apply List.ext_getElem?
 intro i
 rw [List.getElem?_set]
 split
 ·rename_i e
  subst e
  rw [hd]
  split
  ·rfl
  ·rename_i hn
   rw [List.getElem?_eq_none (by omega)] at hd
   cases hd
 ·rfl
theorem MapOK.keys {M:Nat → Prop} {kt:Nat} {L:List (List Int × AV)} {es:Array MapEntry} (m:MapOK M w kt L es):es.toList.map (·.key) = (L.map (·.1)).map (keyV kt):=by
 apply List.ext_getElem?
 intro i
 rw [List.getElem?_map,List.map_map,List.getElem?_map]
 rcases Nat.lt_or_ge i L.length with hi|hi
 ·obtain ⟨e,a,_,c,_⟩:=m.ent i hi
  have:es.toList[i]? = some e:=by simpa using a
  rw [this,List.getElem?_eq_getElem hi]
  simp only [Option.map_some,c,Function.comp,List.getD,List.getElem?_eq_getElem hi,Option.getD_some]
 ·rw [List.getElem?_eq_none (by simpa [m.len] using hi),List.getElem?_eq_none hi];rfl
theorem MapOK.keyOK {M:Nat → Prop} {kt:Nat} {L:List (List Int × AV)} {es:Array MapEntry} (m:MapOK M w kt L es):∀ x ∈ L.map (·.1),KeyOK kt x:=fun x hx=>by
 obtain ⟨p,hp,rfl⟩:=List.mem_map.1 hx
 exact m.one p hp
theorem MapOK.find {M:Nat → Prop} {kt:Nat} {L:List (List Int × AV)} {es:Array MapEntry} {t k e:TypeId} (m:MapOK M w kt L es) (hT:mapT P t = some (kt,k,e)) {l:List Int} (hl:KeyOK kt l) :
  (∃ i y,aidx L l = some i ∧ es[i]? = some y ∧ (Instr.findKey k (keyV kt l) es.toList).run P w = .ok (some (i,y.val)) w) ∨ (aidx L l = none ∧ (Instr.findKey k (keyV kt l) es.toList).run P w = .ok none w):=by
 have:=find_ok hT w hl es.toList (L.map (·.1)) m.keys m.keyOK
 rw [aidx_keys] at this
 cases hi:aidx L l with
 | none=>rw [hi] at this;exact .inr ⟨rfl,this⟩
 | some i =>
  rw [hi] at this
  obtain ⟨y,a,_⟩:=m.ent i (aidx_some hi).1
  have a':es.toList[i]? = some y:=by simpa using a
  refine .inl ⟨i,y,rfl,a,?_⟩
  rw [this];simp only [Option.bind_some,a',Option.map_some]
/-- An entry is written over, or a new one comes. -/
theorem MapOK.set {M:Nat → Prop} {kt:Nat} {L:List (List Int × AV)} {es:Array MapEntry} (m:MapOK M w kt L es) {i:Nat} {v:AV} {x:Value} (hi:i < L.length) (hv:rep M w v g0 x):MapOK M w kt (L.set i ((L.getD i default).1,v)) (es.modify i fun e=>{ e with key:=keyV kt (L.getD i default).1,val:=x }):=by
 have hk:(L.set i ((L.getD i default).1,v)).map (·.1) = L.map (·.1):=by
  apply List.ext_getElem?
  intro j
  rw [List.getElem?_map,List.getElem?_map,List.getElem?_set]
  split
  ·rename_i e;subst e;simp [hi,List.getD]
  ·rfl
 refine ⟨by simp [m.len],fun j hj=>?_,by rw [hk];exact m.nod,fun p hp=>?_⟩
 ·rw [List.length_set] at hj
  obtain ⟨e,a,b,c,d⟩:=m.ent j hj
  rw [Array.getElem?_modify,a]
  by_cases hij:i = j
  ·subst hij
   refine ⟨{ e with key:=keyV kt (L.getD i default).1,val:=x },by simp,?_,?_,?_⟩
   ·exact b
   ·simp [List.getD,hi]
   ·simpa [List.getD,hi] using hv
  ·refine ⟨e,by simp [hij],b,?_,?_⟩
   ·rw [c];simp [List.getD,List.getElem?_set,hij]
   ·simpa [List.getD,List.getElem?_set,hij] using d
 ·have:p.1 ∈ (L.set i ((L.getD i default).1,v)).map (·.1):=List.mem_map.2 ⟨p,hp,rfl⟩
  rw [hk] at this
  exact m.keyOK _ this
theorem MapOK.push {M:Nat → Prop} {kt:Nat} {L:List (List Int × AV)} {es:Array MapEntry} (m:MapOK M w kt L es) {l:List Int} (hl:KeyOK kt l) (hn:l ∉ L.map (·.1)) {v:AV} {x:Value} (hv:rep M w v g0 x):MapOK M w kt (L ++ [(l,v)]) (es.push { key:=keyV kt l,val:=x,born:=es.size }):=by
 refine ⟨by simp [m.len],fun j hj=>?_,?_,fun p hp=>?_⟩
 ·rw [List.length_append,List.length_singleton] at hj
  by_cases hjl:j < L.length
  ·obtain ⟨e,a,b,c,d⟩:=m.ent j hjl
   have hx:j < es.size:=by rw [m.len];exact hjl
   refine ⟨e,by rw [Array.getElem?_push,if_neg (by omega)];exact a,b,?_,?_⟩
   ·rw [c];simp [List.getD,List.getElem?_append_left hjl]
   ·simpa [List.getD,List.getElem?_append_left hjl] using d
  ·obtain rfl:j = L.length:=by omega
   refine ⟨_,by rw [Array.getElem?_push,if_pos m.len.symm],m.len,?_,?_⟩
   ·simp [List.getD]
   ·simpa [List.getD] using hv
 ·rw [List.map_append,List.nodup_append]
  exact ⟨m.nod,by simp,fun a ha b hb=>by simp at hb;subst hb;exact fun e=>hn (e ▸ ha)⟩
 ·rcases List.mem_append.1 hp with hp|hp
  ·exact m.one p hp
  ·simp at hp;subst hp;exact hl
theorem map_upd (k:HOK F g w h) {d b cap:Nat} {kt:Nat} {L L':List (List Int × AV)} {es es':Array MapEntry} (hd:h[d]? = some (.mp kt L)) (hg:g d = some (b,cap)) (hb:w.heap[b]? = some (.map es es.size)) (m:MapOK (MM F g h) w kt L' es') :
  Tr F g h w g (h.set d (.mp kt L')) (setBlk w b (.map es' es'.size)):=by
 have hl:live h d:=⟨_,hd,trivial⟩
 have hch:Chg (MM F g h) w (setBlk w b (.map es' es'.size)):=(Chg.setBlk w b _).weak (fun x _ e=>by subst e;exact .inr ⟨d,cap,hl,hg⟩)
 exact Tr.upd k hl hg trivial (Chg.setBlk w b _) ⟨es',setBlk_get hb,m.mono hch (fun _ _ h=>h)⟩
theorem run_getObj' {b c:Nat} {es:Array MapEntry} (hb:w.heap[b]? = some (.map es c)):(getObj b).run P w = .ok (.map es c) w:=by
 simp [getObj,Sem.run,hb]
theorem run_setObj' {b c:Nat} {es:Array MapEntry} {o':Obj} (hb:w.heap[b]? = some (.map es c)):(setObj b o').run P w = .ok () (setBlk w b o'):=by
 simp [setObj,Sem.run,hb]

theorem val_mkm (k:HOK F g w h) (kt:Nat) {t:TypeId}:∃ u' w' g',(Instr.makeMap t none).run P w = .ok u' w' ∧ rep (MM F g' (h ++ [.mp kt []])) w' (.mpv h.length) g' u' ∧ Tr F g h w g' (h ++ [.mp kt []]) w' :=
 ⟨.map (some w.heap.size),w.alloc (.map #[] 0),g.push h.length (w.heap.size,0),by simp only [Instr.makeMap,Sem.run_bind,Sem.run_pure,Result.andThen_ok,run_newObj_alloc],⟨w.heap.size,0,by simp [GM.push],rfl⟩,
  Tr.push k (Chg.alloc' _ _) (Nat.le_refl _) ⟨#[],heap_alloc_new _ _,⟨rfl,fun i hi=>absurd hi (Nat.not_lt_zero i),List.nodup_nil,fun p hp=>by cases hp⟩⟩⟩
section
variable {t kT eT:TypeId} {kt:Nat} (hT:mapT P t = some (kt,kT,eT)) (k:HOK F g w h) {d b cap:Nat} {L:List (List Int × AV)} (hd:h[d]? = some (.mp kt L)) (hg:g d = some (b,cap)) {l:List Int} (hl:KeyOK kt l)
include hT k hd hg hl
theorem val_ins {v:AV} {x:Value} (hp:v.pure) (hv:rep (MM F g h) w v g x):∃ w',(Instr.mapUpdate t (.map (some b)) (keyV kt l) x).run P w = .ok () w' ∧ Tr F g h w g (h.set d (.mp kt (aput L l v))) w':=by
 obtain ⟨es,hb,m⟩:=k.mp d kt L b cap hd hg
 have hu:=(mapT_some hT).1
 have hv0:=rep_pure v hp hv
 rcases m.find hT hl with ⟨i,y,h1,h2,h3⟩|⟨h1,h3⟩
 ·obtain ⟨a1,a2,_,a4⟩:=aidx_some h1
  have hkey:((es[i]?).map (·.key)).getD (keyV kt l) = keyV kt l:=by
   obtain ⟨e,b1,_,b3,_⟩:=m.ent i a1
   rw [b1];simp only [Option.map_some,Option.getD_some];rw [b3,a2]
  have m2:=m.set (v:=v) a1 hv0
  rw [a2] at m2
  refine ⟨_,?_,by rw [a4 v];exact map_upd k hd hg hb m2⟩
  simp only [Instr.mapUpdate,Sem.run_bind,run_underlying hu,Result.andThen_ok,run_getObj' hb,checkKey_ok hT w hl false,h3,hkey,keyV_stays,run_setObj' hb,Array.size_modify]
 ·obtain ⟨a1,_,a4⟩:=aidx_none h1
  refine ⟨_,?_,by rw [a4 v];exact map_upd k hd hg hb (m.push hl a1 hv0)⟩
  simp only [Instr.mapUpdate,Sem.run_bind,run_underlying hu,Result.andThen_ok,run_getObj' hb,checkKey_ok hT w hl false,h3,run_setObj' hb,Array.size_push]
theorem val_lkp {ok:Bool} {i:TypeInfo} {z:Value} (hi:P.info? eT = some i) (hz:i.zero = some z):∃ u',(Instr.lookup t (.map (some b)) (keyV kt l) ok).run P w = .ok u' w ∧ rep (MM F g h) w (lkres ok (ofV z) (alook L l)) g u':=by
 obtain ⟨es,hb,m⟩:=k.mp d kt L b cap hd hg
 have hu:=(mapT_some hT).1
 have fin:∀ (v:AV) (x:Value) (q:Bool) (o:Option AV),rep (MM F g h) w v g x → lkres ok (ofV z) o = (match ok with|true=>.tup 2 (ofL [v,.bool q])|false=>v) → rep (MM F g h) w (lkres ok (ofV z) o) g (if ok = true then .tuple #[x,.bool q] else x):=fun v x q o hx he=>by
  rw [he]
  cases ok
  ·simpa using hx
  ·refine ⟨#[x,.bool q],by simp,rfl,fun j hj=>?_⟩
   rcases (show j = 0 ∨ j = 1 by omega) with rfl|rfl
   ·exact ⟨x,rfl,hx⟩
   ·exact ⟨.bool q,rfl,rfl⟩
 rcases m.find hT hl with ⟨j,y,h1,h2,h3⟩|⟨h1,h3⟩
 ·obtain ⟨a1,a2,a3,_⟩:=aidx_some h1
  obtain ⟨e,b1,_,_,b4⟩:=m.ent j a1
  rw [h2] at b1
  injection b1 with b1
  subst b1
  refine ⟨if ok = true then .tuple #[y.val,.bool true] else y.val,?_,fin (L.getD j default).2 y.val true _ (rep_up (g0_le g) b4) (by rw [a3];cases ok <;> rfl)⟩
  simp only [Instr.lookup,Sem.run_bind,run_underlying hu,Result.andThen_ok,run_getObj' hb,Sem.run_pure,checkKey_ok hT w hl es.isEmpty,h3]
 ·obtain ⟨_,a3,_⟩:=aidx_none h1
  refine ⟨if ok = true then .tuple #[z,.bool false] else z,?_,fin (ofV z) z false _ (rep_ofV _ _ _ _) (by rw [a3];cases ok <;> rfl)⟩
  have hzr:(zeroValue eT).run P w = .ok z w:=by simp [zeroValue,typeInfo,hi,hz]
  simp only [Instr.lookup,Sem.run_bind,run_underlying hu,Result.andThen_ok,run_getObj' hb,Sem.run_pure,checkKey_ok hT w hl es.isEmpty,h3,hzr]
theorem val_ment {i:TypeInfo} {z:Value} (hi:P.info? eT = some i) (hz:i.zero = some z) (hp:(ofV z).pure) :
  (∀ j,aidx L l = some j → ∃ u' w',(Instr.mapEntry t (.map (some b)) (keyV kt l)).run P w = .ok u' w' ∧ Tr F g h w g h w' ∧ rep (MM F g h) w' (.tup 2 (ofL [(L.getD j default).2,.int .i64 j])) g u') ∧
  (aidx L l = none → ∃ u' w',(Instr.mapEntry t (.map (some b)) (keyV kt l)).run P w = .ok u' w' ∧ Tr F g h w g (h.set d (.mp kt (L ++ [(l,ofV z)]))) w' ∧ rep (MM F g (h.set d (.mp kt (L ++ [(l,ofV z)])))) w' (.tup 2 (ofL [ofV z,.int .i64 L.length])) g u'):=by
 obtain ⟨es,hb,m⟩:=k.mp d kt L b cap hd hg
 have hu:=(mapT_some hT).1
 have two:∀ {M:Nat → Prop} {W:World} {v:AV} {x:Value} {n:Int},rep M W v g x → rep M W (.tup 2 (ofL [v,.int .i64 n])) g (.tuple #[x,.int .i64 n]):=fun {M W v x n} hx=>by
  refine ⟨_,rfl,rfl,fun j hj=>?_⟩
  rcases (show j = 0 ∨ j = 1 by omega) with rfl|rfl
  ·exact ⟨x,rfl,hx⟩
  ·exact ⟨.int .i64 n,rfl,rfl⟩
 refine ⟨fun j hj=>?_,fun hj=>?_⟩
 ·rcases m.find hT hl with ⟨j',y,h1,h2,h3⟩|⟨h1,h3⟩
  ·rw [h1] at hj
   injection hj with hj
   subst hj
   obtain ⟨a1,a2,a3,_⟩:=aidx_some h1
   obtain ⟨e,b1,b2,b3,b4⟩:=m.ent j' a1
   rw [h2] at b1
   injection b1 with b1
   subst b1
   have hkey:((es[j']?).map (·.key)).getD (keyV kt l) = keyV kt l:=by rw [h2];simp only [Option.map_some,Option.getD_some];rw [b3,a2]
   have hbn:((es[j']?).map (·.born)).getD 0 = j':=by rw [h2];simp [b2]
   have hbn2:((es[j']?).map (fun x=>(x.born:Int))).getD 0 = (j':Int):=by rw [h2];simp [b2]
   have hes:es.modify j' (fun e=>{ e with key:=keyV kt l }) = es:=by
    apply Array.ext
    ·simp
    ·intro q q1 q2
     rw [Array.getElem_modify]
     split
     ·rename_i e
      subst e
      have:es[j'] = y:=by rw [Array.getElem?_eq_getElem q2] at h2;injection h2
      rw [this]
      cases y
      simp only [MapEntry.mk.injEq,and_true,true_and] at *
      rw [b3,a2]
     ·rfl
   have T:=map_upd k hd hg hb m
   have hset:h.set d (.mp kt L) = h:=set_same hd
   rw [hset] at T
   refine ⟨.tuple #[y.val,.int .i64 (j':Nat)],_,?_,T,two (rep_mono (T.mchg) (fun _ _ h=>h) _ (GM.le_refl _) (rep_up (g0_le g) b4))⟩
   simp only [Instr.mapEntry,Sem.run_bind,run_underlying hu,Result.andThen_ok,run_getObj' hb,checkKey_ok hT w hl false,h3,hkey,keyV_stays,run_setObj' hb,hbn,hbn2,hes,Sem.run_pure,goInt]
  ·rw [h1] at hj;cases hj
 ·rcases m.find hT hl with ⟨j',y,h1,h2,h3⟩|⟨h1,h3⟩
  ·rw [h1] at hj;cases hj
  ·obtain ⟨a1,_,_⟩:=aidx_none h1
   have hzr:(zeroValue eT).run P w = .ok z w:=by simp [zeroValue,typeInfo,hi,hz]
   refine ⟨.tuple #[z,.int .i64 L.length],_,?_,map_upd k hd hg hb (m.push hl a1 (rep_pure _ hp (rep_ofV _ _ g0 z))),two (rep_ofV _ _ _ _)⟩
   simp only [Instr.mapEntry,Sem.run_bind,run_underlying hu,Result.andThen_ok,run_getObj' hb,checkKey_ok hT w hl false,h3,hzr,run_setObj' hb,Sem.run_pure,goInt,Array.size_push,m.len]
end
theorem val_est {t:TypeId} {kt:Nat} (k:HOK F g w h) {d b cap:Nat} {L:List (List Int × AV)} (hd:h[d]? = some (.mp kt L)) (hg:g d = some (b,cap)) {i:Int} (h0:0 ≤ i) (h1:i < L.length) {v:AV} {x:Value} (hp:v.pure) (hv:rep (MM F g h) w v g x) :
  ∃ w',(Instr.entryStore t (.map (some b)) (.int .i64 i) x).run P w = .ok () w' ∧ Tr F g h w g (h.set d (.mp kt (L.set i.toNat ((L.getD i.toNat default).1,v)))) w':=by
 obtain ⟨es,hb,m⟩:=k.mp d kt L b cap hd hg
 have hi:i.toNat < L.length:=by omega
 obtain ⟨e,b1,b2,b3,b4⟩:=m.ent i.toNat hi
 have hfind:es.findIdx? (fun e=>(e.born:Int) == i) = some i.toNat:=by
  rw [Array.findIdx?_eq_some_iff_getElem]
  have hlt:i.toNat < es.size:=by rw [m.len];exact hi
  refine ⟨hlt,?_,fun j hj=>?_⟩
  ·rw [Array.getElem?_eq_getElem hlt] at b1
   injection b1 with b1
   rw [b1,b2]
   simp;omega
  ·obtain ⟨e',c1,c2,_⟩:=m.ent j (by omega)
   have hjs:j < es.size:=by omega
   rw [Array.getElem?_eq_getElem hjs] at c1
   injection c1 with c1
   rw [c1,c2]
   simp;omega
 have m2:=m.set (v:=v) hi (rep_pure v hp hv)
 have hes:(es.modify i.toNat fun e=>{ e with key:=keyV kt (L.getD i.toNat default).1,val:=x }) = es.modify i.toNat fun e=>{ e with val:=x }:=by
  apply Array.ext
  ·simp
  ·intro q q1 q2
   rw [Array.getElem_modify,Array.getElem_modify]
   split
   ·rename_i hq
    have hq2:q < es.size:=by simpa using q2
    have:es[q]? = some e:=by rw [← hq];exact b1
    rw [Array.getElem?_eq_getElem hq2] at this
    injection this with this
    rw [this,← b3]
   ·rfl
 rw [hes] at m2
 refine ⟨_,?_,map_upd k hd hg hb m2⟩
 simp only [Instr.entryStore,Sem.run_bind,run_getObj' hb,Result.andThen_ok,asInt,asIntOf,Sem.run_pure,hfind,run_setObj' hb,Array.size_modify]
theorem val_rng {t kT eT:TypeId} {kt:Nat} (hT:mapT P t = some (kt,kT,eT)) (k:HOK F g w h) {d b cap kt':Nat} {L:List (List Int × AV)} (hd:h[d]? = some (.mp kt' L)) (hg:g d = some (b,cap)) :
  ∃ u' w' g',(Instr.range t (.map (some b))).run P w = .ok u' w' ∧ rep (MM F g' (h ++ [.mit (.mpv d) L.length []])) w' (.ptr h.length 0) g' u' ∧ Tr F g h w g' (h ++ [.mit (.mpv d) L.length []]) w':=by
 obtain ⟨es,hb,m⟩:=k.mp d kt' L b cap hd hg
 have hu:=(mapT_some hT).1
 refine ⟨.pointer (some ⟨w.heap.size,0,none⟩),w.alloc (.mapIter (some b) es.size #[] es.size),g.push h.length (w.heap.size,0),?_,⟨w.heap.size,0,by simp [GM.push],rfl⟩,Tr.push k (Chg.alloc' _ _) (Nat.le_refl _) ⟨List.nodup_nil,fun i hi=>(by cases hi),b,⟨b,cap,GM.le_push k _ _ _ hg,rfl⟩,?_⟩⟩
 ·simp only [Instr.range,Sem.run_bind,Sem.run_pure,Result.andThen_ok,run_underlying hu,run_getObj' hb,run_newObj_alloc]
 ·rw [← m.len];exact heap_alloc_new _ _
theorem val_mlen {t ty:TypeId} {x:Value} {m:AV} {r:AV} {h':List AB} {kt:Nat} {kT eT:TypeId} (hT:mapT P t = some (kt,kT,eT)) (k:HOK F g w h) (hm:rep (MM F g h) w m g x)
  (H:xop (.mlen (.k m)) (fun y=>y.ev (fun _=>.bot)) h (fun a b=>a = r ∧ b = h')):(Builtin.len_ #[t] ty #[x]).run P w = .ok (.int .i64 (match x with | .map (some b)=>(match w.heap[b]? with|some (.map es _)=>(es.size:Int)|_=>0)|_=>0)) w ∧ rep (MM F g h) w r g (.int .i64 (match x with | .map (some b)=>(match w.heap[b]? with|some (.map es _)=>(es.size:Int)|_=>0)|_=>0)) ∧ h = h':=by
 simp only [xop,AX.ev] at H
 split at H
 ·rename_i d
  split at H
  ·rename_i kt' L hd
   obtain ⟨rfl,rfl⟩:=H
   obtain ⟨b,cap,hg,rfl⟩:=hm
   obtain ⟨es,hb,m⟩:=k.mp d kt' L b cap hd hg
   have hu:=(mapT_some hT).1
   refine ⟨?_,?_,rfl⟩
   ·simp [Builtin.len_,run_underlying hu,run_getObj' hb,hb,goInt]
   ·simp only [hb,m.len];rfl
  ·exact H.elim
 ·exact H.elim
theorem val_boxr {t:TypeId} {n:Nat} (ha:arrZ P t = some n) (k:HOK F g w h):∃ u' w' g',(Instr.alloc t true (.tuple #[])).run P w = .ok u' w' ∧ rep (MM F g' (h ++ [.row n 1 fun _ _=>.int .i64 0])) w' (.rp h.length 1 0 0) g' u' ∧ Tr F g h w g' (h ++ [.row n 1 fun _ _=>.int .i64 0]) w':=by
 unfold arrZ at ha
 split at ha
 ·rename_i n' e hu
  split at ha
  ·rename_i q ie it hq hie hit
   split at ha
   ·rename_i cs hz
    split at ha
    ·rename_i hc
     injection ha with ha
     obtain ⟨_,_,h3,h4,h5⟩:=hc
     subst ha
     refine ⟨.pointer (some ⟨w.heap.size,0,none⟩),w.alloc (.cells cs t),g.push h.length (w.heap.size,n'),?_,⟨w.heap.size,n',by simp [GM.push],by simp⟩,Tr.newBlock k (Chg.alloc' _ _) (heap_alloc_new _ _) n' (.row n' 1 fun _ _=>.int .i64 0) ⟨Nat.le_refl _,by unfold maxLen;omega,by omega,fun i hi o ho=>?_⟩⟩
     ·simp [Instr.alloc,newVar,newRow,zeroValue,typeInfo,hit,hz,Value.cells]
     ·obtain rfl:o = 0:=by omega
      have hi':i < cs.size:=by omega
      refine ⟨cs[i],by simp [hi'],?_⟩
      rw [List.all_eq_true] at h5
      have:=h5 cs[i] (by simp)
      split at this
      ·rename_i a he
       have ha:a = 0:=by simpa using this
       subst ha
       rw [he];exact ⟨rfl,rfl⟩
      ·cases this
    ·cases ha
   ·cases ha
  ·cases ha
 ·cases ha
theorem val_iaa {t e:TypeId} {n sz:Nat} {v j:AV} {u x:Value} {r:AV} {h':List AB} (hu:P.underlying t = some (.array n e)) (hs:tySz P e = some sz) (hr:rep (MM F g h) w v g u) (hj:rep (MM F g h) w j g x)
  (H:xop (.iaa n sz (.k v) (.k j)) (fun x=>x.ev (fun _=>.bot)) h (fun a b=>a = r ∧ b = h')):∃ u',(Instr.indexAt t u x).run P w = .ok u' w ∧ rep (MM F g h) w r g u' ∧ h = h':=by
 have hsz:∀ w:World,(sizeOf e).run P w = .ok sz w:=fun w=>tySz_run hs w
 simp only [xop,AX.ev] at H
 split at H
 ·rename_i d sz' kk o
  obtain ⟨rfl,rfl,rfl,h0,h1,rfl,rfl⟩:=H
  obtain rfl:=hj
  obtain ⟨b,cap,hg,rfl⟩:=hr
  rename_i jj
  exact ⟨.pointer (some ⟨b,jj.toNat * sz',none⟩),by simp [Instr.indexAt,asIntOf,run_underlying hu,h0,h1,hsz,Instr.sureAddr,Addr.add_lit],⟨b,cap,hg,by simp⟩,rfl⟩
 ·rename_i d o
  obtain ⟨h0,h1,rfl,rfl⟩:=H
  obtain rfl:=hj
  obtain ⟨b,cap,hg,rfl⟩:=hr
  rename_i jj
  exact ⟨.pointer (some ⟨b,o + jj.toNat * sz,none⟩),by simp [Instr.indexAt,asIntOf,run_underlying hu,h0,h1,hsz,Instr.sureAddr,Addr.add_lit],⟨b,cap,hg,rfl⟩,rfl⟩
 ·rename_i m c o
  obtain ⟨h0,h1,rfl,rfl⟩:=H
  obtain rfl:=hj
  obtain ⟨b,off,rfl,hb,hn,hc⟩:=hr
  rename_i jj
  exact ⟨.pointer (some ⟨b,off + (o + jj.toNat * sz),none⟩),by simp [Instr.indexAt,asIntOf,run_underlying hu,h0,h1,hsz,Instr.sureAddr,Addr.add_lit,Nat.add_assoc],⟨b,off,rfl,hb,hn,hc⟩,rfl⟩
 ·exact H.elim
theorem val_idx {t e:TypeId} {n sz:Nat} {m':Option Nat} {v j:AV} {u x:Value} {r:AV} {h':List AB} (hu:P.underlying t = some (.array n e)) (hs:tySz P e = some sz) (ht:(m' = none ∧ tyAgg P e = some false) ∨ (m' = some sz ∧ tyAgg P e = some true)) (hr:rep (MM F g h) w v g u) (hj:rep (MM F g h) w j g x)
  (H:xop (.idx n sz m' (.k v) (.k j)) (fun x=>x.ev (fun _=>.bot)) h (fun a b=>a = r ∧ b = h')):∃ u',(Instr.index t u x).run P w = .ok u' w ∧ rep (MM F g h) w r g u' ∧ h = h':=by
 have hsz:∀ w:World,(sizeOf e).run P w = .ok sz w:=fun w=>tySz_run hs w
 simp only [xop,AX.ev] at H
 split at H
 ·rename_i N c
  obtain ⟨h0,h1,h2,h3,H⟩:=H
  obtain rfl:=hj
  obtain ⟨cs,rfl,hm,hc⟩:=hr
  rename_i kk jj
  have hlt:jj.toNat * sz + sz ≤ N:=by
   have:(jj.toNat + 1) * sz ≤ n * sz:=Nat.mul_le_mul_right sz (by omega)
   rw [Nat.succ_mul] at this
   omega
  rcases ht with ⟨rfl,ht⟩|⟨rfl,ht⟩
  ·obtain ⟨rfl,rfl⟩:=H
   obtain ⟨y,hy,_,hyr⟩:=hc (jj.toNat * sz) (by omega)
   exact ⟨y,by simp [Instr.index,asIntOf,run_underlying hu,h0,h1,hsz,part,tyAgg_run ht,hy],hyr,rfl⟩
  ·obtain ⟨_,rfl,rfl⟩:=H
   refine ⟨.agg (cs.extract (jj.toNat * sz) (jj.toNat * sz + sz)),by simp [Instr.index,asIntOf,run_underlying hu,h0,h1,hsz,part,tyAgg_run ht],⟨_,rfl,by simp;omega,fun i hi=>?_⟩,rfl⟩
   obtain ⟨y,hy,hy1,hyr⟩:=hc (jj.toNat * sz + i) (by omega)
   refine ⟨y,?_,hy1,by rw [tab_get hi];exact hyr⟩
   rw [Array.getElem?_extract,if_pos (by omega)]
   exact hy
 ·exact H.elim
theorem rep_keyA {M:Nat → Prop} {g:GM} {w:World} {kt:Nat} {l:List Int} (hl:KeyOK kt l):rep M w (keyA kt l) g (keyV kt l):=by
 cases kt with
 | zero=>rfl
 | succ n =>
  have:=hl.1
  refine ⟨_,rfl,by simp;omega,fun i hi=>?_⟩
  have hi':i < l.length:=by omega
  exact ⟨.int .i64 l[i],by simp [hi'],rfl,by rw [ofL_get (v:=.int .i64 l[i]) (by simp [hi'])];rfl⟩
theorem MapOK.born {M:Nat → Prop} {kt:Nat} {L:List (List Int × AV)} {es:Array MapEntry} (m:MapOK M w kt L es) {x:MapEntry} (hx:x ∈ es.toList):x.born < L.length ∧ es[x.born]? = some x:=by
 obtain ⟨i,hi,rfl⟩:=List.getElem_of_mem hx
 have hi':i < es.size:=by simpa using hi
 obtain ⟨e,a,b,_⟩:=m.ent i (by rw [← m.len];exact hi')
 rw [Array.getElem?_eq_getElem hi'] at a
 injection a with a
 have e1:es.toList[i] = e:=by rw [Array.getElem_toList];exact a
 rw [e1,b]
 exact ⟨by rw [← m.len];exact hi',by rw [Array.getElem?_eq_getElem hi',a]⟩
theorem MapOK.borns {M:Nat → Prop} {kt:Nat} {L:List (List Int × AV)} {es:Array MapEntry} (m:MapOK M w kt L es):es.toList.map (·.born) = List.range L.length:=by
 apply List.ext_getElem?
 intro i
 rw [List.getElem?_map]
 rcases Nat.lt_or_ge i L.length with hi|hi
 ·obtain ⟨e,a,b,_⟩:=m.ent i hi
  have:es.toList[i]? = some e:=by simpa using a
  rw [this,List.getElem?_range hi,Option.map_some,b]
 ·rw [List.getElem?_eq_none (by simpa [m.len] using hi),List.getElem?_eq_none (by simpa using hi)];rfl
theorem three {M:Nat → Prop} {W:World} {v v':AV} {x y:Value} {q:Bool} (h1:rep M W v g x) (h2:rep M W v' g y):rep M W (.tup 3 (ofL [.bool q,v,v'])) g (.tuple #[.bool q,x,y]):=by
 refine ⟨_,rfl,rfl,fun j hj=>?_⟩
 rcases (show j = 0 ∨ j = 1 ∨ j = 2 by omega) with rfl|rfl|rfl
 ·exact ⟨.bool q,rfl,rfl⟩
 ·exact ⟨x,rfl,h1⟩
 ·exact ⟨y,rfl,h2⟩
theorem two {M:Nat → Prop} {W:World} {v v':AV} {x y:Value} (h1:rep M W v g x) (h2:rep M W v' g y):rep M W (.tup 2 (ofL [v,v'])) g (.tuple #[x,y]):=by
 refine ⟨_,rfl,rfl,fun j hj=>?_⟩
 rcases (show j = 0 ∨ j = 1 by omega) with rfl|rfl
 ·exact ⟨x,rfl,h1⟩
 ·exact ⟨y,rfl,h2⟩
theorem nodup_le : ∀ {l l':List Nat},l.Nodup → (∀ x ∈ l,x ∈ l') → l.length ≤ l'.length
 | [],l',_,_=>Nat.zero_le _
 | x :: xs,l',hn,hs=>by
  rw [List.nodup_cons] at hn
  obtain ⟨a,b,rfl⟩:=List.append_of_mem (hs x List.mem_cons_self)
  have:=nodup_le (l:=xs) (l':=a ++ b) hn.2 fun y hy=>by
   have h1:=hs y (List.mem_cons_of_mem _ hy)
   simp only [List.mem_append,List.mem_cons] at h1 ⊢
   rcases h1 with h1|h1|h1
   ·exact .inl h1
   ·exact (hn.1 (h1 ▸ hy)).elim
   ·exact .inr h1
  simp at this ⊢;omega
theorem val_nxt {ty:TypeId} {it:AV} {u:Value} {K:AV → List AB → Prop} (k:HOK F g w h) (hr:rep (MM F g h) w it g u) (H:anext it h K) :
  ∃ r h' u' w' g',K r h' ∧ (Instr.next u false ty).run P w = .ok u' w' ∧ rep (MM F g' h') w' r g' u' ∧ Tr F g h w g' h' w':=by
 unfold anext at H
 split at H
 ·rename_i d
  split at H
  ·rename_i d2 n seen hd
   split at H
   ·rename_i kt L hd2
    obtain ⟨hn,H1,H2⟩:=H
    obtain ⟨b,cap,hg,rfl⟩:=hr
    obtain ⟨s1,s2,mb,⟨mb',capm,hgm,he⟩,hb⟩:=k.mit d _ n seen b cap hd hg
    injection he with he
    injection he with he
    subst he
    obtain ⟨es,hbm,m⟩:=k.mp d2 kt L mb capm hd2 hgm
    have hlen:es.size = n:=by rw [m.len,hn]
    have hold:∀ x ∈ es.toList,x.born < n:=fun x hx=>by rw [← hn];exact (m.born hx).1
    rcases run_next_at (P:=P) w ty b mb n n seen.toArray es es.size hb hbm hold (Nat.le_refl _) with ⟨h0,hrun⟩|⟨x,hx,w1,hw1,hrun⟩
    ·have hall:∀ i,i < n → i ∈ seen:=fun i hi=>by
      obtain ⟨e,a,b',_⟩:=m.ent i (by omega)
      have hm:e ∈ es.toList:=by
       have:es.toList[i]? = some e:=by simpa using a
       exact List.mem_of_getElem? this
      have hemp:leftOf es seen.toArray = #[]:=Array.eq_empty_of_size_eq_zero h0
      unfold leftOf at hemp
      rw [Array.filter_eq_empty_iff] at hemp
      have:=hemp e (by simpa using hm)
      simp only [Bool.not_eq_true',Bool.not_eq_false,Array.contains_toList] at this
      have h3:e.born ∈ seen:=by simpa using this
      rw [b'] at h3;exact h3
     have hsl:seen.length = n:=by
      have h1:(List.range n).length ≤ seen.length:=nodup_le List.nodup_range (fun i hi=>hall i (List.mem_range.1 hi))
      have h2:seen.length ≤ (List.range n).length:=nodup_le s1 (fun i hi=>List.mem_range.2 (s2 i hi))
      simp at h1 h2;omega
     refine ⟨_,_,_,w,g,H1 hsl,hrun,⟨_,rfl,rfl,fun j hj=>?_⟩,Tr.refl k⟩
     obtain rfl:j = 0:=by omega
     exact ⟨.bool false,rfl,rfl⟩
    ·unfold leftOf at hx
     have hx':x ∈ es.toList ∧ x.born ∉ seen:=by simpa using hx
     obtain ⟨hxe,hxs⟩:=hx'
     obtain ⟨hbn,hget⟩:=m.born hxe
     obtain ⟨e,a,_,c,dv⟩:=m.ent x.born hbn
     rw [hget] at a
     injection a with a
     subst a
     have hch1:Chg (fun y=>y = b) w (ChangeMaps.setBlock w1 b (.mapIter (some mb) n (seen.toArray.push x.born) es.size)):=by
      rcases hw1 with rfl|rfl
      ·exact Chg.setBlk _ b _
      ·have c:=Chg.setBlk w.drew b (.mapIter (some mb) n (seen.toArray.push x.born) es.size)
       exact ⟨c.os,c.tape,c.output,c.size,c.block⟩
     have hl:live h d:=⟨_,hd,trivial⟩
     have hch:Chg (MM F g h) w (ChangeMaps.setBlock w1 b (.mapIter (some mb) n (seen.toArray.push x.born) es.size)):=hch1.weak (fun y _ e=>by subst e;exact .inr ⟨d,cap,hl,hg⟩)
     have T:Tr F g h w g (h.set d (.mit (.mpv d2) n (seen ++ [x.born]))) (ChangeMaps.setBlock w1 b (.mapIter (some mb) n (seen.toArray.push x.born) es.size)):=by
      refine Tr.upd k hl hg trivial hch1 ⟨?_,fun i hi=>?_,mb,⟨mb,capm,hgm,rfl⟩,?_⟩
      ·rw [List.nodup_append]
       exact ⟨s1,by simp,fun a ha b' hb'=>by simp at hb';subst hb';exact fun e=>hxs (e ▸ ha)⟩
      ·rcases List.mem_append.1 hi with hi|hi
       ·exact s2 i hi
       ·simp at hi;subst hi;omega
      ·have hlt:=lt_of_heap hb
       have:b < w1.heap.size:=by rcases hw1 with rfl|rfl <;> exact hlt
       simp [ChangeMaps.setBlock,this,hlen]
     have hMe:rep (MM F g (h.set d (.mit (.mpv d2) n (seen ++ [x.born])))) (ChangeMaps.setBlock w1 b (.mapIter (some mb) n (seen.toArray.push x.born) es.size)) (L.getD x.born default).2 g x.val:=T.hold (rep_up (g0_le g) dv)
     refine ⟨_,_,_,_,g,H2 x.born (by omega) hxs,hrun,three ?_ hMe,T⟩
     rw [c]
     refine rep_keyA ?_
     have:=m.one (L.getD x.born default) (by simp only [List.getD,List.getElem?_eq_getElem hbn,Option.getD_some];exact List.getElem_mem hbn)
     exact this
   ·exact H.elim
  ·exact H.elim
 ·exact H.elim
theorem val_ent {it:AV} {u:Value} {r:AV} {h':List AB} (k:HOK F g w h) (hr:rep (MM F g h) w it g u) (H:xop (.ent (.k it)) (fun y=>y.ev (fun _=>.bot)) h (fun a b=>a = r ∧ b = h')):∃ u',(Instr.entry u).run P w = .ok u' w ∧ rep (MM F g h) w r g u' ∧ h = h':=by
 simp only [xop,AX.ev] at H
 split at H
 ·rename_i d
  split at H
  ·rename_i d2 n seen hd
   split at H
   ·rename_i kt L i hd2 hlast
    obtain ⟨hn,rfl,rfl⟩:=H
    obtain ⟨b,cap,hg,rfl⟩:=hr
    obtain ⟨s1,s2,mb,⟨mb',capm,hgm,he⟩,hb⟩:=k.mit d _ n seen b cap hd hg
    injection he with he
    injection he with he
    subst he
    obtain ⟨es,hbm,m⟩:=k.mp d2 kt L mb capm hd2 hgm
    obtain ⟨pre,rfl⟩:∃ pre,seen = pre ++ [i]:=⟨seen.dropLast,by
     have hne:seen ≠ []:=by intro e;rw [e] at hlast;cases hlast
     rw [List.getLast?_eq_some_getLast hne] at hlast
     injection hlast with hlast
     rw [← hlast,List.dropLast_concat_getLast]⟩
    have hi:i < L.length:=by rw [hn];exact s2 i (by simp)
    obtain ⟨e,a,b',c,dv⟩:=m.ent i hi
    have hm:e ∈ es.toList:=by
     have:es.toList[i]? = some e:=by simpa using a
     exact List.mem_of_getElem? this
    have hb':w.heap[b]? = some (.mapIter (some mb) n (pre.toArray.push e.born) es.size):=by
     rw [hb,b',m.len,hn];simp
    refine ⟨_,run_entry_at (P:=P) w b mb n pre.toArray es es.size e hb' hbm hm (by rw [m.borns];exact List.nodup_range),two ?_ (rep_up (g0_le g) dv),rfl⟩
    rw [c]
    refine rep_keyA ?_
    exact m.one (L.getD i default) (by simp only [List.getD,List.getElem?_eq_getElem hi,Option.getD_some];exact List.getElem_mem hi)
   ·exact H.elim
  ·exact H.elim
 ·exact H.elim
theorem val_cpy {t ty e : TypeId} {i : TypeInfo} {v y : AV} {u u2 : Value} {r : AV} {h' : List AB} (k : HOK F g w h) (ht : tyEl P t = some (e, i)) (hr : rep (MM F g h) w v g u) (hy : rep (MM F g h) w y g u2)
    (H : xop (.cpy i.size (.k v) (.k y)) (fun x => x.ev (fun _ => .bot)) h (fun a b => a = r ∧ b = h')) : ∃ u' w', (Builtin.copy_ #[t, t] ty #[u, u2]).run P w = .ok u' w' ∧ rep (MM F g h') w' r g u' ∧ Tr F g h w g h' w' := by
  obtain ⟨hu, hi⟩ := tyEl_some ht
  simp only [xop, AX.ev] at H
  obtain ⟨h0, H⟩ := H
  have core : ∀ (d lo n b cap p q : Nat), g d = some (b, cap) → u = .slice (some ⟨b, p, none⟩) n q → (lo < cap → p = lo * i.size) → lo + n ≤ cap → (asrc i.size h y fun q m c' => match h[d]? with
      | some (AB.row N sz2 c) => q = false ∧ sz2 = i.size ∧ lo + n ≤ N ∧ AV.int .i64 (min m n : Nat) = r ∧ h.set d (.row N i.size (cpc lo (min m n) c c')) = h'
      | _ => False) → ∃ u' w', (Builtin.copy_ #[t, t] ty #[u, u2]).run P w = .ok u' w' ∧ rep (MM F g h') w' r g u' ∧ Tr F g h w g h' w' := fun d lo n b cap p q hg hue hp hcap H => by
    obtain ⟨qq, m, c', hs, H⟩ := asrc_e H
    split at H
    · rename_i N sz2 c hd
      obtain ⟨rfl, rfl, hN, rfl, rfl⟩ := H
      obtain ⟨B, cap2, hu2, hB, cs, hcl, hcell, h1c, hcv⟩ := src_cells k h0 hs hy
      obtain ⟨hn', hcm, cur, t', hh, hsize, hrow⟩ := k.row d N _ c b cap hd hg
      obtain ⟨kk, hkk⟩ : ∃ kk, kk = min m n := ⟨_, rfl⟩
      rw [← hkk]
      obtain ⟨vs, hvs⟩ : ∃ vs, vs = cs.take (kk * i.size) := ⟨_, rfl⟩
      have hkm : kk * i.size ≤ m * i.size := Nat.mul_le_mul_right _ (by omega)
      have hvl : vs.length = kk * i.size := by rw [hvs, List.length_take, hcl]; omega
      have hvc : ∀ v ∈ vs, v.oneCell' = true := fun v hv => h1c v (by rw [hvs] at hv; exact List.mem_of_mem_take hv)
      have hfit : kk = 0 ∨ (p = lo * i.size ∧ p + kk * i.size ≤ cur.size) := by
        rcases Nat.eq_zero_or_pos kk with h | h
        · exact .inl h
        · right
          have hpl := hp (by omega)
          refine ⟨hpl, ?_⟩
          have : (lo + kk) * i.size ≤ cap * i.size := Nat.mul_le_mul_right _ (by omega)
          rw [Nat.add_mul] at this
          rw [hpl, hsize]; exact this
      have hmin : Nat.min m n = kk := hkk.symm
      have hsz : (sizeOf e).run P w = .ok i.size w := tySz_run (by simp [tySz, hi]) w
      have hload : ∀ a, B = some a → (loadCells a (kk * i.size)).run P w = .ok vs.toArray w := fun a ha => by
        have := run_loadCells_list (P := P) w a vs (fun j v hj => by
          rw [hvs, List.getElem?_take] at hj
          split at hj
          · exact hcell a ha j v hj
          · cases hj)
        rw [hvl] at this; exact this
      have hfirst : (Builtin.firstCells i.size kk u2).run P w = .ok vs.toArray w := by
        rw [hu2]
        cases hBB : B with
        | none =>
          have hm0 := hB hBB
          have : vs = [] := List.eq_nil_of_length_eq_zero (by rw [hvl]; have : kk = 0 := by omega
                                                              rw [this, Nat.zero_mul])
          simp [Builtin.firstCells, this]
        | some a => simpa [Builtin.firstCells] using hload a hBB
      have hlen : (Builtin.lenOf u2).run P w = .ok m w := by rw [hu2]; rfl
      have hl : live h d := ⟨_, hd, trivial⟩
      obtain ⟨w2, hst, hT, hval⟩ : ∃ w2, (storeCells ⟨b, p, none⟩ vs).run P w = .ok () w2 ∧ Tr F g h w g (h.set d (.row N i.size (cpc lo kk c c'))) w2 ∧ True := by
        rcases hfit with hk0 | ⟨hpl, hfit⟩
        · have hv0 : vs = [] := List.eq_nil_of_length_eq_zero (by rw [hvl, hk0, Nat.zero_mul])
          have hc0 : cpc lo kk c c' = c := by funext x o; simp only [cpc]; rw [if_neg (by omega)]
          refine ⟨w, by rw [hv0]; rfl, ?_, trivial⟩
          rw [hc0, set_same hd]
          exact Tr.refl k
        · have hrun := run_storeCells_at P b p t' vs 0 cur w hh (by omega) hvc
          refine ⟨w.setRow b (overs cur p vs.toArray), by simpa [overs] using hrun, ?_, trivial⟩
          have hfo : p + vs.toArray.size ≤ cur.size := by simpa [hvl] using hfit
          have hch : Chg (MM F g h) w (w.setRow b (overs cur p vs.toArray)) := (Chg.setRow w b _).weak (fun x _ e => by subst e; exact .inr ⟨d, cap, hl, hg⟩)
          refine Tr.upd k hl hg trivial (Chg.setRow _ _ _) ⟨hn', hcm, _, t', setRow_heap _ _ _ _ _ _ hh, by rw [overs_size hfo]; exact hsize, fun x hx o ho => ?_⟩
          simp only [cpc]
          by_cases hin : lo ≤ x ∧ x < lo + kk
          · rw [if_pos hin]
            obtain ⟨z, a1, a2, a3⟩ := hcv (x - lo) (by omega) o ho
            have hoff : (x - lo) * i.size + o < kk * i.size := by
              have : (x - lo + 1) * i.size ≤ kk * i.size := Nat.mul_le_mul_right _ (by omega)
              rw [Nat.succ_mul] at this; omega
            refine ⟨z, ?_, a2, rep_mono hch (fun _ _ h => h) _ (GM.le_refl _) a3⟩
            have e1 : x * i.size + o = p + ((x - lo) * i.size + o) := by
              rw [hpl, ← Nat.add_assoc, ← Nat.add_mul]; congr 2; omega
            rw [e1, overs_in hfo (by simpa [hvl] using hoff)]
            simp only [List.getElem?_toArray, hvs, List.getElem?_take, if_pos hoff]
            exact a1
          · rw [if_neg hin]
            obtain ⟨z, a1, a2, a3⟩ := hrow x hx o ho
            refine ⟨z, ?_, a2, rep_mono hch (fun _ _ h => h) _ (GM.le_refl _) a3⟩
            rw [overs_out hfo]
            · exact a1
            · have hs2 : vs.toArray.size = kk * i.size := by simpa using hvl
              rw [hs2, hpl]
              rcases Nat.lt_or_ge x lo with hlt | hge
              · left
                have : (x + 1) * i.size ≤ lo * i.size := Nat.mul_le_mul_right _ (by omega)
                rw [Nat.succ_mul] at this; omega
              · right
                have : (lo + kk) * i.size ≤ x * i.size := Nat.mul_le_mul_right _ (by omega)
                rw [Nat.add_mul] at this; omega
      refine ⟨.int .i64 (kk : Nat), w2, ?_, rfl, hT⟩
      rw [hue]
      simp only [Builtin.copy_, List.getElem?_toArray, List.getElem?_cons_zero, List.getElem?_cons_succ, Sem.run_bind, run_underlying hu, Result.andThen_ok, hlen, hmin, hsz, hfirst, hst, Sem.run_pure, goInt]
    · exact H.elim
  unfold adst at H
  split at H
  · obtain ⟨b, cap, hg, rfl, hcap⟩ := hr
    exact core _ 0 _ b cap 0 cap hg rfl (fun _ => by simp) (by omega) H
  · obtain ⟨b, cap, p, hg, rfl, hcap, hp⟩ := hr
    obtain ⟨rfl, H⟩ := H
    exact core _ _ _ b cap p _ hg rfl hp hcap H
  · exact H.elim
end
end Go.Proofs.YtodpjdmdmmnlpaaGreat
