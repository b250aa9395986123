/- Code and functions, read over abstract values -/
import Derived.Test.YtodpjdmdmmnlpaaGreatBs11
set_option linter.unusedSimpArgs false
set_option linter.unusedVariables false
namespace Go.Proofs.YtodpjdmdmmnlpaaGreat
open Go.RowKit

inductive ACo where
 | skip
 | reg (id:Nat) (l:List (AO × List AO))
 | regT (l:List AO) (T:THint)
 | wk (id:Nat)
 | seq (a b:ACo)
 | cond (c:AX) (a b:ACo)
 | block (id:Nat) (c:ACo)
 | loop (c:ACo)
 | exit (id:Nat)
 | ret
 | rf (it:AX) (ps:List Nat) (a b:ACo)
 | no
 deriving Inhabited
/-- What is said of a function's regions: the orders of some; before which of them a state may be weakened. -/
structure Hints where
 ord:List (Nat × Hint):=[]
 pub:List Nat:=[]
 alt:List (Nat × THint):=[]
def hintOf (hs:Hints) (id:Nat):Option Hint:=(hs.ord.find? (·.1 == id)).map (·.2)
def altOf (hs:Hints) (id:Nat):Option THint:=(hs.alt.find? (·.1 == id)).map (·.2)
/-- No loop over a function. -/
def noRf : Code → Bool
 | .seq a b=>noRf a && noRf b
 | .cond _ a b=>noRf a && noRf b
 | .block _ c=>noRf c
 | .loop c=>noRf c
 | .scope c=>noRf c
 | .rangeFunc ..=>false
 | _=>true
def acomp (P:Program) (n:Nat) (hs:Hints):Code → ACo
 | .skip=>.skip
 | .label _=>.skip
 | .region id ops _=>match altOf hs id with
  | some T=>(match ops.toList.mapM (compAO P n ops) with
   | some l=>if hs.pub.contains id then .seq (.wk id) (.regT l T) else .regT l T
   | none=>.no)
  | none=>(match compReg P n ops (hintOf hs id) with
   | some l=>if hs.pub.contains id then .seq (.wk id) (.reg id l) else .reg id l
   | none=>.no)
 | .seq a b=>.seq (acomp P n hs a) (acomp P n hs b)
 | .cond c a b=>.cond (cx c) (acomp P n hs a) (acomp P n hs b)
 | .block id c=>.block id (acomp P n hs c)
 | .loop c=>.loop (acomp P n hs c)
 | .scope c=>acomp P n hs c
 | .exit id=>.exit id
 | .ret=>.ret
 | .rangeFunc g ps a b=>match noRf a && noRf b && ps.toList.all (decide <| · < n) with
  | true=>.rf (cx g) ps.toList (acomp P n hs a) (acomp P n hs b)
  | false=>.no
 | _=>.no
/-- The orders of the regions that draw them count for nothing. -/
def okCode (P:Program) (n:Nat) (hs:Hints):Code → Bool
 | .region id ops d=>match altOf hs id with
  | some T=>d && okRegT P n ops T
  | none=>okReg P n ops d (hintOf hs id)
 | .seq a b=>okCode P n hs a && okCode P n hs b
 | .cond _ a b=>okCode P n hs a && okCode P n hs b
 | .block _ c=>okCode P n hs c
 | .loop c=>okCode P n hs c
 | .scope c=>okCode P n hs c
 | .rangeFunc _ _ a b=>okCode P n hs a && okCode P n hs b
 | _=>true
inductive AEx where
 | normal
 | exit (id:Nat)
 | ret
def AEx.ex : AEx → Exit
 | .normal=>.normal
 | .exit id=>.exit id
 | .ret=>.ret
def AEx.then (next:Env → List AB → Prop) (Q:AEx → Env → List AB → Prop):AEx → Env → List AB → Prop
 | .normal,e,h=>next e h
 | x,e,h=>Q x e h
def AEx.inBlock (id:Nat) (Q:AEx → Env → List AB → Prop):AEx → Env → List AB → Prop
 | .exit id',e,h=>if id' = id then Q .normal e h else Q (.exit id') e h
 | x,e,h=>Q x e h
/-- A state that says no more than another, in a call whose first N blocks are given. -/
def Wk (N:Nat) (e:Env) (h:List AB) (e2:Env) (h2:List AB):Prop :=
 ∀ F n gS hS wS a w,hS.length = N → Rel F n gS hS wS e h a w → Rel F n gS hS wS e2 h2 a w
theorem Wk.refl (N:Nat) (e:Env) (h:List AB):Wk N e h e h:=fun _ _ _ _ _ _ _ _ r=>r
theorem Wk.trans {N e h e2 h2 e3 h3} (a:Wk N e h e2 h2) (b:Wk N e2 h2 e3 h3):Wk N e h e3 h3:=fun _ _ _ _ _ _ _ q r=>b _ _ _ _ _ _ _ q (a _ _ _ _ _ _ _ q r)

/-- Values put into temporaries, one after another. -/
def putL (e:Env):List Nat → List AV → Env
 | p :: ps,v :: vs=>putL (fun t=>if t = p then v else e t) ps vs
 | _,_=>e
def rfA (K:Env → List AB → Prop):AEx → Env → List AB → Prop
 | .normal,e,h=>K e h
 | _,_,_=>False
/-- A round's end: the temporaries are those before the loop. -/
def rfB (N:Nat) (e1:Env) (K:Env → List AB → Prop) (Q:AEx → Env → List AB → Prop):AEx → Env → List AB → Prop
 | .normal,_,h=>∃ e2 h2,Wk N e1 h e2 h2 ∧ K e2 h2
 | .exit id,_,h=>Q (.exit id) e1 h
 | .ret,_,h=>Q .ret e1 h
/-- A function with what it has caught, or is bound to. -/
def fnv (mv:Bool) (gf m:Nat) (c:Nat → AV):AV:=match mv with
 | false=>.fn gf m c
 | true=>.mv gf m c
def awp (C:CallP) (N:Nat) (c:ACo) (Q:AEx → Env → List AB → Prop) (e:Env) (h:List AB):Prop :=
 match c with
 | .skip=>Q .normal e h
 | .reg _ l=>aregs C l (Q .normal) e h
 | .regT l T=>aregT C l T (Q .normal) e h
 | .wk _=>∃ e2 h2,Wk N e h e2 h2 ∧ Q .normal e2 h2
 | .seq a b=>awp C N a (AEx.then (fun e h=>awp C N b Q e h) Q) e h
 | .cond c a b=>match c.ev e with
  | .bool q=>acond q (awp C N a Q e h) (awp C N b Q e h)
  | _=>False
 | .block id c=>awp C N c (AEx.inBlock id Q) e h
 | .loop c=>∃ (I:Env → List AB → Prop) (μ:Env → List AB → Nat),(∃ e0 h0,Wk N e h e0 h0 ∧ I e0 h0) ∧
   ∀ e h,I e h → awp C N c (AEx.then (fun e' h'=>∃ e2 h2,Wk N e' h' e2 h2 ∧ I e2 h2 ∧ μ e2 h2 < μ e h) Q) e h
 | .exit id=>Q (.exit id) e h
 | .ret=>Q .ret e h
 | .rf it ps a b=>∃ (e0:Env) (h0:List AB) (mv:Bool) (gf m:Nat) (c:Nat → AV) (L:List (List AV)) (I:Nat → Env → List AB → Prop),Wk N e h e0 h0 ∧ I 0 e0 h0 ∧ it.ev e0 = fnv mv gf m c ∧ (∀ i,i < m → (c i).pure) ∧
   C.iter mv gf ((List.range m).map c) L ∧ (∀ x ∈ L,x.length = ps.length) ∧
   (∀ k e1 h1,k < L.length → I k e1 h1 → awp C h1.length a (rfA fun e h=>awp C h1.length b (rfB h0.length e1 (I (k + 1)) Q) e h) (putL e1 ps (L.getD k [])) h1) ∧
   ∀ e1 h1,I L.length e1 h1 → Q .normal e1 h1
 | .no=>False

section
variable {rd:Option Nat} {md:Nat} {F:Nat → Prop} {P:Program} {n:Nat} {gS:GM} {hS:List AB} {wS:World}
def PostR (F:Nat → Prop) (n:Nat) (gS:GM) (hS:List AB) (wS:World) (Q:AEx → Env → List AB → Prop) (x:Exit) (a:Act) (w:World):Prop :=
 ∃ ax e h,x = ax.ex ∧ Q ax e h ∧ Rel F n gS hS wS e h a w

theorem pair_fst {L:Hint} (hnd:(L.map (·.1)).Pairwise (· ≠ ·)):∀ p ∈ L,watchOf L p.1 = p.2:=by
 induction L with
 | nil=>intro p hp;cases hp
 | cons q L ih =>
  intro p hp
  rw [List.map_cons,List.pairwise_cons] at hnd
  unfold watchOf
  rw [List.find?_cons]
  rcases List.mem_cons.1 hp with rfl|hp'
  ·simp
  ·have hne:(q.1 == p.1) = false:=by
    have:=hnd.1 p.1 (List.mem_map.2 ⟨p,hp',rfl⟩)
    simpa using this
   rw [hne]
   exact ih hnd.2 p hp'
theorem reg_ok (hm:P.follows .mixedOrders = true) {id:Nat} {ops:Array Oper} {d:Bool} {hint:Option Hint} (hk:okReg P n ops d hint = true) {l:List (AO × List AO)} (hl:compReg P n ops hint = some l) {Q':Env → List AB → Prop} {Q:Exit → Act → World → Prop} (hQ:∀ e h a w,Q' e h → Rel F n gS hS wS e h a w → Q .normal a w)
  {e:Env} {h:List AB} {a:Act} {w:World} (H:aregs (ACalls P) l Q' e h) (hr:Rel F n gS hS wS e h a w):(Code.region id ops d).wpIn (Wd rd) md P Q a w:=by
 unfold compReg at hl
 split at hl
 ·cases hl
 ·rename_i l0 hl0
  have hget:=mapM_get hl0
  have hlen:l0.length = ops.size:=by
   have:=mapM_len hl0
   simpa using this
  have hao:∀ (i:Nat) (o:Oper),ops[i]? = some o → compAO P n ops o = some (l0.getD i default):=fun i o ho=>by
   obtain ⟨x,h1,h2⟩:=hget i o ho
   rw [h2];simp [h1]
  have hrange:(l0.map fun x=>(x,([]:List AO))) = (List.range ops.size).map fun i=>(l0.getD i default,[]):=by
   apply List.ext_getElem?
   intro i
   simp only [List.getElem?_map]
   by_cases hi:i < ops.size
   ·rw [List.getElem?_range hi]
    have:i < l0.length:=by omega
    simp [this]
   ·rw [List.getElem?_eq_none (by omega),List.getElem?_eq_none (by simp;omega)]
    rfl
  cases d with
  | false =>
   cases hint with
   | some L=>cases hk
   | none =>
    simp only at hl
    injection hl with hl
    subst hl
    rw [hrange] at H
    exact wpIn_region (plain_ok hao hQ _ _ _ _ _ (fun i hi=>by simpa using hi) hr H)
  | true =>
   simp only [okReg,hl0] at hk
   have hL:l = (hint.getD ((List.range ops.size).map fun i=>(i,[]))).map fun p=>(l0.getD p.1 default,p.2.map fun j=>l0.getD j default):=by
    cases hint with
    | some L=>simp only at hl;injection hl with hl;exact hl.symm
    | none =>
     simp only at hl
     injection hl with hl
     rw [← hl,hrange]
     simp
   generalize hint.getD ((List.range ops.size).map fun i=>(i,[])) = L at hk hL
   subst hL
   simp only [Bool.and_eq_true,beq_iff_eq,List.all_eq_true,List.contains_iff_mem,decide_eq_true_eq,List.mem_range] at hk
   obtain ⟨⟨⟨⟨⟨⟨c1,c2⟩,c3⟩,c4⟩,c7⟩,c5⟩,c6⟩:=hk
   have hW:∀ i,∀ k ∈ watchOf L i,k < ops.size:=fun i k hk=>by
    unfold watchOf at hk
    split at hk
    ·rename_i p hp
     exact c7 p (List.mem_of_find?_eq_some hp) k hk
    ·cases hk
   have hfalse:∀ j,(Array.replicate ops.size false).getD j false = false:=fun j=>by
    by_cases hj:j < ops.size <;> simp [hj]
   have hp:=pairs_of c6
   have hw:=pair_fst (hp.imp fun h=>h.1)
   have e1:(L.map fun p=>(l0.getD p.1 default,p.2.map fun j=>l0.getD j default)) = (L.map (·.1)).map fun i=>(l0.getD i default,(watchOf L i).map fun j=>l0.getD j default):=by
    rw [List.map_map]
    refine List.map_congr_left fun p hp=>?_
    simp only [Function.comp,hw p hp]
   rw [e1] at H
   refine wpIn_region_any hm (any_ok (ao:=fun i=>l0.getD i default) hao c1 (still_of hW c5) hQ ops.size _ _ e h a _ c2 (by simp) (fun j=>⟨fun hj=>⟨c4 j hj,hfalse j⟩,fun hj=>c3 j hj.1⟩) hp (fun k j _ hk=>?_) hr.drew (arun_of (ACalls.mono P) _ _ H))
   rw [hfalse k] at hk;cases hk

theorem regT_ok (hm:P.follows .mixedOrders = true) {id:Nat} {ops:Array Oper} {T:THint} (hk:okRegT P n ops T = true) {l:List AO} (hl0:ops.toList.mapM (compAO P n ops) = some l) {Q':Env → List AB → Prop} {Q:Exit → Act → World → Prop} (hQ:∀ e h a w,Q' e h → Rel F n gS hS wS e h a w → Q .normal a w)
  {e:Env} {h:List AB} {a:Act} {w:World} (H:aregT (ACalls P) l T Q' e h) (hr:Rel F n gS hS wS e h a w):(Code.region id ops true).wpIn (Wd rd) md P Q a w:=by
 have hget:=mapM_get hl0
 have hao:∀ (i:Nat) (o:Oper),ops[i]? = some o → compAO P n ops o = some (l.getD i default):=fun i o ho=>by
  obtain ⟨x,h1,h2⟩:=hget i o ho
  rw [h2];simp [h1]
 simp only [okRegT,hl0,Bool.and_eq_true] at hk
 obtain ⟨⟨⟨⟨⟨⟨⟨⟨c1,c2⟩,c3⟩,c4⟩,c5⟩,c6⟩,c7⟩,c8⟩,c9⟩:=hk
 have hW:∀ i,∀ k ∈ watchOf T.w i,k < ops.size:=fun i k hk=>by
  unfold watchOf at hk
  split at hk
  ·rename_i p hp
   simp only [List.all_eq_true,decide_eq_true_eq] at c3
   exact c3 p (List.mem_of_find?_eq_some hp) k hk
  ·cases hk
 have hfalse:∀ j,(Array.replicate ops.size false).getD j false = false:=fun j=>by
  by_cases hj:j < ops.size <;> simp [hj]
 simp only [sameB,Bool.and_eq_true,List.all_eq_true,List.contains_iff_mem,List.mem_range] at c4
 rw [nodB_ok] at c5
 have hlen:(T.qs ++ T.t.ops).length = ops.size:=by
  have e1:(T.qs ++ T.t.ops).length ≤ (List.range ops.size).length:=nodup_le c5 (fun x hx=>List.mem_range.2 (c4.1 x hx))
  have e2:(List.range ops.size).length ≤ (T.qs ++ T.t.ops).length:=nodup_le List.nodup_range (fun x hx=>c4.2 x (List.mem_range.1 hx))
  simp only [List.length_range] at e1 e2
  omega
 refine wpIn_region_any hm (tree_ok hao c1 (still_of hW c2) hQ ops.size T.qs T.t _ e h a _ hlen (by simp) (fun j=>⟨fun hj=>⟨c4.1 j hj,hfalse j⟩,fun hj=>c4.2 j hj.1⟩) c5 (fun j hj=>by
  rw [List.all_eq_true] at c6
  simpa using c6 j hj) (pairs_of c7) c8 c9 (fun k j _ hk=>?_) hr.drew (aregs_all (ACalls.mono P) H _))
 rw [hfalse k] at hk;cases hk

theorem rep_keepc {M:Nat → Prop} {w w':World} (hs:w.heap.size ≤ w'.heap.size) (hc:∀ a u,w.cell? a = some u → w'.cell? a = some u):∀ (v:AV) {g:GM} {u:Value},rep M w v g u → rep M w' v g u:=by
 intro v
 induction v with
 | sl z e n sz c ih =>
  intro g u h
  obtain ⟨A,cap,h1,h2,h3,h4,h4',h5⟩:=h
  refine ⟨A,cap,h1,h2,h3,h4,h4',fun k hk o ho=>?_⟩
  obtain ⟨b,off,x,hA,hb,hn,hcell,h1c,hr⟩:=h5 k hk o ho
  exact ⟨b,off,x,hA,Nat.lt_of_lt_of_le hb hs,hn,hc _ _ hcell,h1c,ih k o hr⟩
 | ip m c o ih =>
  intro g u h
  obtain ⟨b,off,h1,hb,hn,h5⟩:=h
  refine ⟨b,off,h1,Nat.lt_of_lt_of_le hb hs,hn,fun i hi=>?_⟩
  obtain ⟨x,hcell,h1c,hr⟩:=h5 i hi
  exact ⟨x,hc _ _ hcell,h1c,ih i hr⟩
 | fn f m c ih =>
  intro g u h
  obtain ⟨cs,h1,h2,h3⟩:=h
  refine ⟨cs,h1,h2,fun i hi=>?_⟩
  obtain ⟨x,hx,hr⟩:=h3 i hi
  exact ⟨x,hx,ih i hr⟩
 | agg m c ih =>
  intro g u h
  obtain ⟨cs,h1,h2,h3⟩:=h
  refine ⟨cs,h1,h2,fun i hi=>?_⟩
  obtain ⟨x,hx,h1c,hr⟩:=h3 i hi
  exact ⟨x,hx,h1c,ih i hr⟩
 | tup m c ih =>
  intro g u h
  obtain ⟨cs,h1,h2,h3⟩:=h
  refine ⟨cs,h1,h2,fun i hi=>?_⟩
  obtain ⟨x,hx,hr⟩:=h3 i hi
  exact ⟨x,hx,ih i hr⟩
 | mv f m c ih =>
  intro g u h
  obtain ⟨cs,h1,h2,h3⟩:=h
  refine ⟨cs,h1,h2,fun i hi=>?_⟩
  obtain ⟨x,hx,hr⟩:=h3 i hi
  exact ⟨x,hx,ih i hr⟩
 | _=>intro g u h;exact h
theorem cells_putObj {w:World} {l:Nat} {o o':Obj} (h:w.heap[l]? = some o) (hc:o.isCells = false):∀ a u,w.cell? a = some u → (w.putObj l o').cell? a = some u:=fun a u ha=>by
 by_cases e:a.block = l
 ·unfold World.cell? at ha
  rw [e,h] at ha
  cases o <;> simp_all [Obj.isCells]
 ·rw [World.cell?_of_block (World.putObj_heap_other e)];exact ha
theorem blocks_putObj {w:World} {l:Nat} {o o':Obj} (h:w.heap[l]? = some o) (hc:o.isCells = false):∀ (b:Nat) cs t f,w.heap[b]? = some (.cells cs t f) → (w.putObj l o').heap[b]? = some (.cells cs t f):=fun b cs t f hb=>by
 by_cases e:b = l
 ·subst e;rw [h] at hb;injection hb with hb;rw [hb] at hc;cases hc
 ·rw [World.putObj_heap_other e];exact hb
theorem HOK.obj {g:GM} {w:World} {h:List AB} (k:HOK F g w h) {l:Nat} {o o':Obj} (hl:w.heap[l]? = some o) (hc:ofar o = true):HOK F g (w.putObj l o') h:=by
 refine HOK.of_all k.dom k.lv k.inj (fun d b cap x hx hg=>?_) (fun b hb=>⟨by simpa using (k.fr b hb).1,(k.fr b hb).2⟩)
 have hr:∀ (v:AV) {g':GM} {u:Value},rep (MM F g h) w v g' u → rep (MM F g h) (w.putObj l o') v g' u:=fun v {g' u} hh=>rep_keepc (by simp) (cells_putObj hl (ofar_cells hc)) v hh
 have:=k.all hx hg
 cases x with
 | dead=>trivial
 | box m c =>
  obtain ⟨cs,t,h1,h2,h3⟩:=this
  refine ⟨cs,t,blocks_putObj hl (ofar_cells hc) _ _ _ _ h1,h2,fun i hi=>?_⟩
  obtain ⟨u,hu,h1c,hrr⟩:=h3 i hi
  exact ⟨u,hu,h1c,hr _ hrr⟩
 | row n sz c =>
  obtain ⟨hn,hm,cs,t,h1,h2,h3⟩:=this
  refine ⟨hn,hm,cs,t,blocks_putObj hl (ofar_cells hc) _ _ _ _ h1,h2,fun kk hk o ho=>?_⟩
  obtain ⟨u,hu,h1c,hrr⟩:=h3 kk hk o ho
  exact ⟨u,hu,h1c,hr _ hrr⟩
 | mp kt L =>
  obtain ⟨es,h1,h2⟩:=this
  have hne:b ≠ l:=fun e=>by subst e;rw [hl] at h1;injection h1 with h1;rw [h1] at hc;cases hc
  exact ⟨es,by rw [World.putObj_heap_other hne];exact h1,⟨h2.len,fun i hi=>by obtain ⟨e,a,b',c,dd⟩:=h2.ent i hi;exact ⟨e,a,b',c,hr _ dd⟩,h2.nod,h2.one⟩⟩
 | mit m n seen =>
  obtain ⟨h1,h2,mb,h3,h4⟩:=this
  have hne:b ≠ l:=fun e=>by subst e;rw [hl] at h4;injection h4 with h4;rw [h4] at hc;cases hc
  exact ⟨h1,h2,mb,hr _ h3,by rw [World.putObj_heap_other hne];exact h4⟩
 | rwg n sz c =>
  obtain ⟨hn,hm,cs,t,h1,h2,h3⟩:=this
  refine ⟨hn,hm,cs,t,blocks_putObj hl (ofar_cells hc) _ _ _ _ h1,h2,fun kk hk o ho=>?_⟩
  obtain ⟨u,hu,h1c,hrr⟩:=h3 kk hk o ho
  exact ⟨u,hu,h1c,hr _ hrr⟩
theorem Tr.obj {g g':GM} {h h':List AB} {w w':World} (T:Tr F g h w g' h' w') {l:Nat} {o o':Obj} (hl:w'.heap[l]? = some o) (hc:ofar o = true) (hw:w.heap.size ≤ l):Tr F g h w g' h' (w'.putObj l o') :=
 ⟨T.ok.obj hl hc,T.gle,⟨T.chg.os,T.chg.tape,T.chg.output,by simpa using T.chg.size,fun b hb hn=>by rw [World.putObj_heap_other (show b ≠ l by omega)];exact T.chg.block b hb hn⟩,T.new⟩
theorem Tr.obj2 {g g':GM} {h h':List AB} {w w':World} (k:HOK F g w h) (T:Tr F g h w g' h' w') {l:Nat} {o o' x:Obj} (hl:w.heap[l]? = some o) (hc:ofar o = true) (hl':w'.heap[l]? = some o') (hc':ofar o' = true):Tr F g h (w.putObj l x) g' h' (w'.putObj l x) :=
 ⟨T.ok.obj hl' hc',T.gle,⟨T.chg.os,T.chg.tape,T.chg.output,by simpa using T.chg.size,fun b hb hn=>by
  by_cases e:b = l
  ·subst e
   rw [World.putObj_heap_same (Array.getElem?_eq_some_iff.1 hl').1,World.putObj_heap_same (Array.getElem?_eq_some_iff.1 hl).1]
  ·rw [World.putObj_heap_other e,World.putObj_heap_other e];exact T.chg.block b (by simpa using hb) hn⟩,fun b hb=>by simpa using T.new b hb⟩
/-- The temporaries before a loop over a function, in a round of it. -/
structure RSt (F:Nat → Prop) (tm:Array Value) (g0:GM) (h0:List AB) (w:World) (e1:Env) (g1:GM) (h1:List AB) (W:World):Prop where
 T:Tr F g0 h0 w g1 h1 W
 v:∀ t,rep (MM F g1 h1) W (e1 t) g1 (tm.getD t undef)
theorem RSt.tr {tm:Array Value} {g0':GM} {h0:List AB} {w:World} {e1:Env} {g1 g2:GM} {h1 h2:List AB} {W W2:World} (s:RSt F tm g0' h0 w e1 g1 h1 W) (T:Tr F g1 h1 W g2 h2 W2):RSt F tm g0' h0 w e1 g2 h2 W2:=⟨s.T.trans T,fun t=>T.hold (s.v t)⟩
theorem RSt.obj {tm:Array Value} {g0':GM} {h0:List AB} {w:World} {e1:Env} {g1:GM} {h1:List AB} {W:World} (s:RSt F tm g0' h0 w e1 g1 h1 W) {l:Nat} {o o':Obj} (hl:W.heap[l]? = some o) (hc:ofar o = true) (hw:w.heap.size ≤ l):RSt F tm g0' h0 w e1 g1 h1 (W.putObj l o') :=
 ⟨s.T.obj hl hc hw,fun t=>rep_keepc (by simp) (cells_putObj hl (ofar_cells hc)) _ (s.v t)⟩
theorem Tr.keepObj {g g':GM} {h h':List AB} {w w':World} (k:HOK F g w h) (T:Tr F g h w g' h' w') {D:Nat} {o:Obj} (ho:w.heap[D]? = some o) (hc:ofar o = true):w'.heap[D]? = some o:=by
 rw [T.chg.block D (Array.getElem?_eq_some_iff.1 ho).1 (k.noMark ho hc)];exact ho
theorem puts_fold : ∀ (ps:List Nat) (vs:List Value) (tm:Array Value),((ps.zip vs).foldl (fun t (p:Nat × Value)=>t.setIfInBounds p.1 p.2) tm).size = tm.size
 | [],_,_=>rfl
 | _ :: _,[],_=>rfl
 | p :: ps,v :: vs,tm=>by rw [List.zip_cons_cons,List.foldl_cons,puts_fold ps vs];simp
theorem puts_rep {M:Nat → Prop} {W:World} {g:GM}:∀ (ps:List Nat) (vs:List Value) (xs:List AV) (tm:Array Value) (e:Env),(∀ p ∈ ps,p < tm.size) → vs.length = ps.length → xs.length = ps.length → (∀ (i:Nat) (x:AV),xs[i]? = some x → rep M W x g (vs.getD i undef)) → (∀ t,rep M W (e t) g (tm.getD t undef)) →
  ∀ t,rep M W (putL e ps xs t) g (((ps.zip vs).foldl (fun t (p:Nat × Value)=>t.setIfInBounds p.1 p.2) tm).getD t undef)
 | [],vs,xs,tm,e,_,_,_,_,he,t=>by
  have:putL e [] xs = e:=by cases xs <;> rfl
  rw [this];exact he t
 | p :: ps,[],xs,tm,e,_,hv,_,_,_,t=>by simp at hv
 | p :: ps,v :: vs,[],tm,e,_,_,hx,_,_,t=>by simp at hx
 | p :: ps,v :: vs,x :: xs,tm,e,hp,hv,hx,hr,he,t=>by
  rw [List.zip_cons_cons,List.foldl_cons]
  refine puts_rep ps vs xs _ _ (fun q hq=>by simpa using hp q (List.mem_cons_of_mem _ hq)) (by simpa using hv) (by simpa using hx) (fun i y hy=>?_) (fun t=>?_) t
  ·have:=hr (i + 1) y (by simpa using hy)
   simpa using this
  ·have hpt:=hp p List.mem_cons_self
   by_cases e1:t = p
   ·subst e1
    rw [if_pos rfl]
    have:(tm.setIfInBounds t v).getD t undef = v:=by simp [hpt]
    rw [this]
    have:=hr 0 x rfl
    simpa using this
   ·rw [if_neg e1]
    have:(tm.setIfInBounds p v).getD t undef = tm.getD t undef:=by
     simp [Array.getElem?_setIfInBounds_ne (Ne.symm e1)]
    rw [this];exact he t
def AEx.code : AEx → Code
 | .normal=>.skip
 | .exit id=>.exit id
 | .ret=>.ret
theorem range_ok {g:Operand} {ps:Array Tmp} {A B:Code} {acA acB:ACo} {md:Nat} (hps:∀ p ∈ ps.toList,p < n)
  (iA:∀ (l:Nat) (gS:GM) (hS:List AB) (wS:World) (Q:AEx → Env → List AB → Prop) (e:Env) (h:List AB) (a:Act) (w:World),awp (ACalls P) hS.length acA Q e h → Rel F n gS hS wS e h a w → A.wpIn (Wd (some l)) 0 P (PostR F n gS hS wS Q) a w)
  (iB:∀ (l:Nat) (gS:GM) (hS:List AB) (wS:World) (Q:AEx → Env → List AB → Prop) (e:Env) (h:List AB) (a:Act) (w:World),awp (ACalls P) hS.length acB Q e h → Rel F n gS hS wS e h a w → B.wpIn (Wd (some l)) 0 P (PostR F n gS hS wS Q) a w)
  {N:Nat} (hSN:hS.length = N) {Q:AEx → Env → List AB → Prop} {e:Env} {h:List AB} {a:Act} {w:World} (H:awp (ACalls P) N (.rf (cx g) ps.toList acA acB) Q e h) (hr:Rel F n gS hS wS e h a w):(Code.rangeFunc g ps A B).wpIn (Wd none) md P (PostR F n gS hS wS Q) a w:=by
 obtain ⟨e0,h0,mv,gf,m,c,L,I,hwk,hI0,hit,hpure,hiter,hlen,hround,hdone⟩:=H
 obtain ⟨⟨G0,T0,hv0⟩,dn,sz,dm⟩:=hwk _ _ _ _ _ _ _ hSN hr
 have hgv:rep (MM F G0 h0) w (fnv mv gf m c) G0 (a.eval g):=by
  have:=rep_eval hv0 g
  rw [hit] at this;exact this
 obtain ⟨lb,hg1,hlb,hcaps⟩:∃ lb,a.eval g = (match mv with|false=>Value.func (.func gf) #[] lb|true=>Value.func (.func gf) lb #[]) ∧ lb.size = m ∧ ∀ i,i < m → ∃ u,lb[i]? = some u ∧ rep (MM F G0 h0) w (c i) G0 u:=by
  cases mv
  ·exact hgv
  ·obtain ⟨lb,a1,a2,a3⟩:=hgv
   exact ⟨lb,a1,a2,fun i hi=>by obtain ⟨u,b1,b2⟩:=a3 i hi;exact ⟨u,b1,rep_up (g0_le _) b2⟩⟩
 obtain ⟨⟨fn,f1,f2,f3⟩,hseq⟩:=hiter
 obtain ⟨M,hM⟩:∃ M:Nat → Prop,∀ b,M b ↔ (MM F G0 h0 b ∨ w.heap.size ≤ b):=⟨_,fun _=>Iff.rfl⟩
 have hMlt:∀ b,b < w.heap.size → M b → MM F G0 h0 b:=fun b hb h=>((hM b).1 h).resolve_right (by omega)
 have hcap:∀ (i:Nat) (x:AV),((List.range m).map c)[i]? = some x → rep M w x g0 (lb.getD i undef):=fun i x hx=>by
  rw [List.getElem?_map] at hx
  have hi:i < m:=by
   rcases Nat.lt_or_ge i m with h'|h'
   ·exact h'
   ·rw [List.getElem?_eq_none (by simpa using h')] at hx;cases hx
  rw [List.getElem?_range hi] at hx
  injection hx with hx
  subst hx
  obtain ⟨u,hu,hrep⟩:=hcaps i hi
  have:lb.getD i undef = u:=by simp [hu]
  rw [this]
  exact rep_mono (Chg.refl _ w) hMlt _ (GM.le_refl _) (rep_pure _ (hpure i hi) hrep)
 have sub:∀ {g1:GM} {h1:List AB} {W:World},Tr F G0 h0 w g1 h1 W → ∀ b,MM F g1 h1 b → M b:=fun T b hb=>(hM b).2 (by
  rcases hb with hb|hb
  ·exact .inl (.inl hb)
  ·exact (T.new b hb).imp .inr id)
 have chgM:∀ {g1:GM} {h1:List AB} {W:World},Tr F G0 h0 w g1 h1 W → Chg M w W:=fun T=>T.chg.weak fun b _ hb=>(hM b).2 (.inl (.inr hb))
 refine wpIn_rangeFunc ?_
 intro fnid hfn
 obtain ⟨rc,hrc⟩:∃ rc:LoopState → Option Code → Loop,rc = fun st pe=>{ state:=st,pending:=pe,fn:=fnid,tmps:=a.tmps,params:=ps,assign:=A,body:=B,defers:=w.heap.size }:=⟨_,rfl⟩
 obtain ⟨W1,hW1⟩:∃ W1,(w.alloc (.deferred (some []))).alloc (.loop (rc .ready none)) = W1:=⟨_,rfl⟩
 have hsz1:W1.heap.size = w.heap.size + 2:=by rw [← hW1];simp
 have hL1:W1.heap[w.heap.size + 1]? = some (.loop (rc .ready none)):=by
  rw [← hW1];have:=World.alloc_heap_new (w.alloc (.deferred (some []))) (.loop (rc .ready none));rwa [World.size_alloc] at this
 have hK1:W1.heap[w.heap.size]? = some (.deferred (some [])):=by
  rw [← hW1];exact (Below.heap_alloc _ _ _ (by simp)).trans (World.alloc_heap_new w _)
 have hc1:Chg (fun _=>False) w W1:=by
  rw [← hW1];exact (Chg.alloc _ w _).trans (Chg.alloc _ _ _) (fun _ _ h=>h)
 have st1:RSt F a.tmps G0 h0 w e0 G0 h0 W1:=(⟨Tr.refl T0.ok,hv0⟩:RSt F a.tmps G0 h0 w e0 G0 h0 w).tr (Tr.keep T0.ok hc1)
 refine ⟨w.heap.size + 1,[{ target:=.collected w.heap.size,args:=#[] }],W1,(match mv with|false=>{ target:=.fn (.func gf) lb,args:=#[.func (.yield (w.heap.size + 1)) #[] #[]] }|true=>{ target:=.fn (.func gf) #[],args:=lb ++ #[.func (.yield (w.heap.size + 1)) #[] #[]] }),W1,gf,argsOf mv lb (.func (.yield (w.heap.size + 1)) #[] #[]),W1,?_,?_,fun _ _=>trivial,?_,fun h=>Wd.deep none h,?_⟩
 ·rw [← hW1,hrc];exact run_enterLoop_outer _ _ _ _ _
 ·simp only [resolve,hg1]
  cases mv <;> simp [go_sem,Deferred.ofValue]
 ·cases mv <;> simp [invoke,go_sem,enter_run f1 f2 f3,argsOf]
 have deep:∀ {e' w'},(CallsIn (Wd none) 0 P gf e' w' (rangePost (Wd none) md P (w.heap.size + 1) (PostR F n gS hS wS Q) { a with defers:=[{ target:=.collected w.heap.size,args:=#[] }] ++ a.defers })) → CallsIn (Wd none) (md - 1) P gf e' w' (rangePost (Wd none) md P (w.heap.size + 1) (PostR F n gS hS wS Q) { a with defers:=[{ target:=.collected w.heap.size,args:=#[] }] ++ a.defers }):=fun h=>⟨trivial,fun cs _=>h.2 cs (room_wide _)⟩
 refine deep ((hseq M w lb (by simpa using hlb) hcap (w.heap.size + 1)
  (fun k W=>(∃ e1 g1 h1,I k e1 h1 ∧ RSt F a.tmps G0 h0 w e1 g1 h1 W) ∧ W.heap[w.heap.size + 1]? = some (.loop (rc .ready none)) ∧ W.heap[w.heap.size]? = some (.deferred (some [])))
  (fun k W=>(∃ (x:AEx) (e1:Env) (g1:GM) (h1:List AB),x ≠ .normal ∧ Q x e1 h1 ∧ RSt F a.tmps G0 h0 w e1 g1 h1 W ∧ W.heap[w.heap.size + 1]? = some (.loop (rc .done (some x.code)))) ∧ W.heap[w.heap.size]? = some (.deferred (some [])))
  W1 (hc1.weak fun _ _ h=>h.elim) ?_ ?_ ?_ ⟨⟨e0,G0,h0,hI0,st1⟩,hL1,hK1⟩).mono ?_)
 ·rintro k X Y ⟨⟨e1,g1,h1,hi,st⟩,hl,hk⟩ hXY
  exact ⟨⟨e1,g1,h1,hi,st.tr (Tr.keep st.T.ok hXY)⟩,(hXY.block _ (Array.getElem?_eq_some_iff.1 hl).1 (fun h=>h)).trans hl,(hXY.block _ (Array.getElem?_eq_some_iff.1 hk).1 (fun h=>h)).trans hk⟩
 ·rintro k X Y ⟨⟨x,e1,g1,h1,hx,hi,st,hl⟩,hk⟩ hXY
  exact ⟨⟨x,e1,g1,h1,hx,hi,st.tr (Tr.keep st.T.ok hXY),(hXY.block _ (Array.getElem?_eq_some_iff.1 hl).1 (fun h=>h)).trans hl⟩,(hXY.block _ (Array.getElem?_eq_some_iff.1 hk).1 (fun h=>h)).trans hk⟩
 ·-- a round
  rintro k vs W hkL ⟨⟨e1,g1,h1,hi,st⟩,hl,hk⟩ hcW hvs hreps
  have hmem:L.getD k [] ∈ L:=by
   rw [show L.getD k [] = L[k] by simp [List.getD,hkL]];exact List.getElem_mem _
  have hLk:=hlen _ hmem
  have hy:=run_yield (P:=P) (args:=vs) hl (by rw [hrc];simpa using hvs.trans hLk)
  rw [hrc] at hy
  have hfold:(ps.zip vs).foldl (fun tmps (x:Nat × Value)=>tmps.setIfInBounds x.1 x.2) a.tmps = (ps.toList.zip vs.toList).foldl (fun tmps (x:Nat × Value)=>tmps.setIfInBounds x.1 x.2) a.tmps:=by
   rw [← Array.foldl_toList];simp
  have relA:Rel F n g1 h1 W (putL e1 ps.toList (L.getD k [])) h1 { tmps:=(ps.zip vs).foldl (fun tmps (x:Nat × Value)=>tmps.setIfInBounds x.1 x.2) a.tmps,defers:=[] } W:=by
   refine ⟨⟨g1,Tr.refl st.T.ok,fun t=>?_⟩,Marks.nil _ _,?_,fun d p hp=>st.T.ok.lt hp⟩
   ·simp only [hfold]
    refine puts_rep ps.toList vs.toList _ a.tmps e1 (fun p hp=>by rw [sz];exact hps p hp) (by simpa using hvs.trans hLk) (by simpa using hLk) (fun i x hx=>?_) st.v t
    have:=hreps i x hx
    have e2:vs.getD i undef = vs.toList.getD i undef:=by simp [List.getD]
    rw [e2] at this
    exact rep_mono (Chg.refl _ W) (fun b _ hb=>sub st.T b hb) _ (g0_le g1) this
   ·simp only [hfold,puts_fold];exact sz
  refine ⟨fnid,_,A,B,hy,roundIn_of_wpIn hfn (wpIn_mono (iA _ g1 h1 W _ _ _ _ _ (hround k e1 h1 hkL hi) relA) ?_)⟩
  rintro ex a1 w1 ⟨ax,e',h',rfl,hq,hr1⟩
  cases ax with
  | exit id=>exact hq.elim
  | ret=>exact hq.elim
  | normal =>
  obtain ⟨⟨g',T1,hv1⟩,dn1,sz1,_⟩:=hr1
  have hl1:=T1.keepObj st.T.ok hl rfl
  refine ⟨_,run_beginRound hl1 (by rw [hrc]),?_⟩
  have stB:RSt F a.tmps G0 h0 w e1 g1 h1 (W.putObj (w.heap.size + 1) (.loop { rc .ready none with state:=.busy })):=st.obj hl rfl (by omega)
  have TB:=T1.obj2 (x:=.loop { rc .ready none with state:=.busy }) st.T.ok hl rfl hl1 rfl
  have hlB:(W.putObj (w.heap.size + 1) (.loop { rc .ready none with state:=.busy })).heap[w.heap.size + 1]? = some (.loop { rc .ready none with state:=.busy }):=World.putObj_heap_same (Array.getElem?_eq_some_iff.1 hl).1
  have hkB:(W.putObj (w.heap.size + 1) (.loop { rc .ready none with state:=.busy })).heap[w.heap.size]? = some (.deferred (some [])):=(World.putObj_heap_other (by omega)).trans hk
  have relB:Rel F n g1 h1 (W.putObj (w.heap.size + 1) (.loop { rc .ready none with state:=.busy })) e' h' a1 (w1.putObj (w.heap.size + 1) (.loop { rc .ready none with state:=.busy })):=by
   refine ⟨⟨g',TB,fun t=>rep_keepc (by simp) (cells_putObj hl1 rfl) _ (hv1 t)⟩,?_,sz1,fun d p hp=>st.T.ok.lt hp⟩
   obtain ⟨Ds,d1,d2,d3⟩:=dn1.ex
   refine ⟨Ds,d1,d2,fun D hD=>⟨by simpa using (d3 D hD).1,?_⟩⟩
   have hne:D ≠ w.heap.size + 1:=fun e=>by
    have:=(d3 D hD).1
    have:=(Array.getElem?_eq_some_iff.1 hl).1
    omega
   rw [World.putObj_heap_other hne];exact (d3 D hD).2
  refine wpIn_mono (iB _ g1 h1 _ _ _ _ _ _ hq relB) ?_
  rintro ex a3 w3 ⟨ax,e3,h3,rfl,hq3,hr3⟩
  obtain ⟨⟨g3,T3,hv3⟩,_,_,_⟩:=hr3
  have st3:=stB.tr T3
  have hl3:=T3.keepObj stB.T.ok hlB rfl
  have hk3:=T3.keepObj stB.T.ok hkB rfl
  have hend:=fun (jump:Option Code)=>run_endRound (P:=P) jump hl3
  have lt3:=(Array.getElem?_eq_some_iff.1 hl3).1
  have st4:∀ o',RSt F a.tmps G0 h0 w e1 g3 h3 (w3.putObj (w.heap.size + 1) o'):=fun o'=>st3.obj hl3 rfl (by omega)
  cases ax with
  | normal =>
   obtain ⟨e2,h2,hw2,hi2⟩:=hq3
   have s4:=st4 (.loop (rc .ready none))
   obtain ⟨⟨g4,T4,hv4⟩,_,_,_⟩:=hw2 F n G0 h0 w { tmps:=a.tmps,defers:=[] } _ rfl ⟨⟨g3,s4.T,s4.v⟩,Marks.nil _ _,sz,fun d p hp=>T0.ok.lt hp⟩
   refine ⟨_,_,hend none,.inl ⟨rfl,⟨⟨e2,g4,h2,hi2,by rw [hrc] at T4 hv4 ⊢;exact ⟨T4,hv4⟩⟩,by rw [World.putObj_heap_same lt3,hrc];rfl,(World.putObj_heap_other (by omega)).trans hk3⟩,?_⟩⟩
   have c1:Chg M W (W.putObj (w.heap.size + 1) (.loop { rc .ready none with state:=.busy })):=⟨rfl,rfl,rfl,by simp,fun b hb hn=>World.putObj_heap_other (fun e=>hn ((hM b).2 (.inr (by omega))))⟩
   have c2:Chg M (W.putObj (w.heap.size + 1) (.loop { rc .ready none with state:=.busy })) w3:=T3.chg.weak fun b _ hb=>sub st.T b (.inr hb)
   exact (c1.trans c2 (fun _ _ h=>h)).trans ⟨rfl,rfl,rfl,by simp,fun b hb hn=>World.putObj_heap_other (fun e=>hn ((hM b).2 (.inr (by omega))))⟩ (fun _ _ h=>h)
  | exit id =>
   refine ⟨_,_,hend (some (.exit id)),.inr ⟨rfl,⟨.exit id,e1,g3,h3,by simp,hq3,st4 _,by rw [World.putObj_heap_same lt3,hrc];rfl⟩,(World.putObj_heap_other (by omega)).trans hk3⟩⟩
  | ret =>
   refine ⟨_,_,hend (some .ret),.inr ⟨rfl,⟨.ret,e1,g3,h3,by simp,hq3,st4 _,by rw [World.putObj_heap_same lt3,hrc];rfl⟩,(World.putObj_heap_other (by omega)).trans hk3⟩⟩
 ·-- behind the loop
  obtain ⟨Ds,d1,d2,d3⟩:=dn.ex
  have rel:∀ {e1:Env} {g1:GM} {h1:List AB} {W:World},RSt F a.tmps G0 h0 w e1 g1 h1 W → W.heap[w.heap.size]? = some (.deferred (some [])) → Rel F n gS hS wS e1 h1 { a with defers:=[{ target:=.collected w.heap.size,args:=#[] }] ++ a.defers } W:=fun {e1 g1 h1 W} st hk=>by
   refine ⟨⟨g1,T0.trans st.T,st.v⟩,⟨w.heap.size :: Ds,by rw [d1];rfl,List.nodup_cons.2 ⟨fun hD=>?_,d2⟩,fun D hD=>?_⟩,sz,dm⟩
   ·have:=(Array.getElem?_eq_some_iff.1 (d3 _ hD).2).1;omega
   ·rcases List.mem_cons.1 hD with rfl|hD
    ·exact ⟨T0.chg.size,hk⟩
    ·exact ⟨(d3 D hD).1,st.T.keepObj T0.ok (d3 D hD).2 rfl⟩
  rintro en W2 ⟨⟨v,rfl⟩,⟨⟨e1,g1,h1,hi,st⟩,hl,hk⟩|⟨k,hkL,⟨x,e1,g1,h1,hx,hi,st,hl⟩,hk⟩⟩
  ·refine ⟨none,_,by have:=run_endLoop (P:=P) hl (by rw [hrc];simp);rw [hrc] at this;exact this,?_⟩
   refine ⟨.normal,e1,h1,rfl,hdone e1 h1 hi,rel (st.obj hl rfl (by omega)) ((World.putObj_heap_other (by omega)).trans hk)⟩
  ·refine ⟨some x.code,_,by have:=run_endLoop (P:=P) hl (by rw [hrc];simp);rw [hrc] at this;exact this,?_⟩
   have hR:=rel (st.obj (o':=.loop { rc .done (some x.code) with state:=.exhausted }) hl rfl (by omega)) ((World.putObj_heap_other (by omega)).trans hk)
   rw [hrc] at hR
   cases x with
   | normal=>exact (hx rfl).elim
   | exit id=>exact wpIn_exit ⟨.exit id,e1,h1,rfl,hi,hR⟩
   | ret=>exact wpIn_ret ⟨.ret,e1,h1,rfl,hi,hR⟩
theorem wpIn_scope {Fc:Fence} {md:Nat} {PP:Program} {Q:Exit → Act → World → Prop} {a:Act} {w:World} {c:Code} (h:c.wpIn Fc md PP (Exit.noGoto Q) a w):(Code.scope c).wpIn Fc md PP Q a w:=by
 intro b k cs hro hb hr
 have h0:(lone (b.atR a (.code (.scope c) :: k)) cs w).fenced PP Fc:=fenced_calm hb hr rfl
 have s1:step PP (lone (b.atR a (.code (.scope c) :: k)) cs w) = .next (lone (b.atR a (.code c :: .inScope c :: k)) cs w):=step_lone_go (by simp [stepG,stepG.exec,Frame.atR])
 have s2:∀ {a' w'},step PP (lone (b.atR a' (.inScope c :: k)) cs w') = .next (lone (b.atR a' k) cs w'):=step_lone_go (by simp [stepG,stepG.exec,Frame.atR])
 obtain ⟨e,a₁,w₁,hq,harr⟩:=h b (.inScope c :: k) cs hro hb hr
 cases e with
 | normal=>exact ⟨.normal,a₁,w₁,hq,.head h0 s1 (StepsIn.trans harr (.one (fenced_calm hb hr rfl) s2))⟩
 | exit id =>
  have hx:exitTo id (.inScope c :: k) = exitTo id k:=by simp [exitTo]
  exact ⟨.exit id,a₁,w₁,hq,fun k' hk=>.head h0 s1 (harr.1 k' (by rw [hx];exact hk)),
   fun hr' hk=>let ⟨k₁,h1,h2⟩:=harr.2 hr' (by rw [hx];exact hk);⟨k₁,h1,.head h0 s1 h2⟩⟩
 | goto l=>exact hq.elim
 | ret=>exact ⟨_,a₁,w₁,hq,.of_steps (.one h0 s1) harr⟩
 | panic ch=>exact ⟨_,a₁,w₁,hq,.of_steps (.one h0 s1) harr⟩
 | outgrown=>exact ⟨_,a₁,w₁,hq,.of_steps (.one h0 s1) harr⟩
theorem code_ok (hm:P.follows .mixedOrders = true) {hs:Hints}:∀ (c:Code) (_:okCode P n hs c = true) {rd:Option Nat} {md:Nat} (_:rd = none ∨ noRf c = true) {gS:GM} {hS:List AB} {wS:World} {N:Nat} (_:hS.length = N) (Q:AEx → Env → List AB → Prop) (e:Env) (h:List AB) (a:Act) (w:World),awp (ACalls P) N (acomp P n hs c) Q e h → Rel F n gS hS wS e h a w → c.wpIn (Wd rd) md P (PostR F n gS hS wS Q) a w:=by
 intro c
 induction c with
 | skip=>intro hk rd md hrd gS hS wS N hSN Q e h a w H hr;exact wpIn_skip ⟨.normal,e,h,rfl,H,hr⟩
 | label l=>intro hk rd md hrd gS hS wS N hSN Q e h a w H hr;exact wpIn_label ⟨.normal,e,h,rfl,H,hr⟩
 | exit id=>intro hk rd md hrd gS hS wS N hSN Q e h a w H hr;exact wpIn_exit ⟨.exit id,e,h,rfl,H,hr⟩
 | ret=>intro hk rd md hrd gS hS wS N hSN Q e h a w H hr;exact wpIn_ret ⟨.ret,e,h,rfl,H,hr⟩
 | region id ops d =>
  intro hk rd md hrd gS hS wS N hSN Q e h a w H hr
  simp only [acomp] at H
  simp only [okCode] at hk
  split at H
  ·rename_i T hT
   rw [hT] at hk
   simp only [Bool.and_eq_true] at hk
   obtain ⟨rfl,hk⟩:=hk
   split at H
   ·rename_i l hl
    split at H
    ·obtain ⟨e2,h2,hw,H2⟩:=H
     exact regT_ok hm hk hl (fun e h a w hq hr=>⟨.normal,e,h,rfl,hq,hr⟩) H2 (hw _ _ _ _ _ _ _ hSN hr)
    ·exact regT_ok hm hk hl (fun e h a w hq hr=>⟨.normal,e,h,rfl,hq,hr⟩) H hr
   ·exact H.elim
  rename_i hT
  rw [hT] at hk
  simp only at hk
  split at H
  ·rename_i l hl
   split at H
   ·obtain ⟨e2,h2,hw,H2⟩:=H
    exact reg_ok hm hk hl (fun e h a w hq hr=>⟨.normal,e,h,rfl,hq,hr⟩) H2 (hw _ _ _ _ _ _ _ hSN hr)
   ·exact reg_ok hm hk hl (fun e h a w hq hr=>⟨.normal,e,h,rfl,hq,hr⟩) H hr
  ·exact H.elim
 | seq x y ix iy =>
  intro hk rd md hrd gS hS wS N hSN Q e h a w H hr
  simp only [okCode,noRf,Bool.and_eq_true] at hk hrd
  refine wpIn_seq (wpIn_mono (ix hk.1 (hrd.imp id fun h=>h.1) hSN _ e h a w H hr) ?_)
  rintro ex a1 w1 ⟨ax,e1,h1,rfl,hq,hr1⟩
  cases ax with
  | normal=>exact iy hk.2 (hrd.imp id fun h=>h.2) hSN Q e1 h1 a1 w1 hq hr1
  | exit id=>exact ⟨.exit id,e1,h1,rfl,hq,hr1⟩
  | ret=>exact ⟨.ret,e1,h1,rfl,hq,hr1⟩
 | cond c x y ix iy =>
  intro hk rd md hrd gS hS wS N hSN Q e h a w H hr
  simp only [okCode,noRf,Bool.and_eq_true] at hk hrd
  obtain ⟨g,T,hv⟩:=hr.ex
  have hc:=rep_eval hv c
  simp only [acomp,awp] at H
  generalize AX.ev e (cx c) = v at H hc
  cases v <;> simp only at H
  rename_i q
  rcases acond_e H with ⟨rfl,h1⟩|⟨rfl,h1⟩
  ·exact wpIn_cond_true hc (ix hk.1 (hrd.imp id fun h=>h.1) hSN Q e h a w h1 hr)
  ·exact wpIn_cond_false hc (iy hk.2 (hrd.imp id fun h=>h.2) hSN Q e h a w h1 hr)
 | block id c ic =>
  intro hk rd md hrd gS hS wS N hSN Q e h a w H hr
  refine wpIn_block (wpIn_mono (ic hk hrd hSN _ e h a w H hr) ?_)
  rintro ex a1 w1 ⟨ax,e1,h1,rfl,hq,hr1⟩
  cases ax with
  | normal=>exact ⟨.normal,e1,h1,rfl,hq,hr1⟩
  | exit id' =>
   simp only [AEx.inBlock] at hq
   simp only [AEx.ex,Exit.inBlock]
   split
   ·rename_i he
    rw [if_pos he] at hq
    exact ⟨.normal,e1,h1,rfl,hq,hr1⟩
   ·rename_i he
    rw [if_neg he] at hq
    exact ⟨.exit id',e1,h1,rfl,hq,hr1⟩
  | ret=>exact ⟨.ret,e1,h1,rfl,hq,hr1⟩
 | loop c ic =>
  intro hk rd md hrd gS hS wS N hSN Q e h a w H hr
  obtain ⟨I,μ,⟨e0,h0,hwk,hI⟩,round⟩:=H
  have hr0:=hwk _ _ _ _ _ _ _ hSN hr
  let In:Act → World → Nat → Prop:=fun a w k=>∃ e h,I e h ∧ Rel F n gS hS wS e h a w ∧ μ e h = k
  have min:∀ a w,(∃ k,In a w k) → ∃ k,In a w k ∧ ∀ k',In a w k' → k ≤ k':=by
   intro a w hk
   obtain ⟨k,hk⟩:=hk
   induction k using Nat.strongRecOn with
   | _ k ih =>
    by_cases hlt:∃ k',k' < k ∧ In a w k'
    ·obtain ⟨k',h1,h2⟩:=hlt
     exact ih k' h1 h2
    ·exact ⟨k,hk,fun k' hk'=>Nat.le_of_not_lt fun h=>hlt ⟨k',h,hk'⟩⟩
  refine wpIn_loop (fun a w=>∃ k,In a w k) (fun a w=>open Classical in if h:∃ k,In a w k then (min a w h).choose else 0) ⟨_,e0,h0,hI,hr0,rfl⟩ ?_
  intro a1 w1 hk1
  obtain ⟨⟨e1,h1,hI1,hr1,hμ⟩,hmin⟩:=(min a1 w1 hk1).choose_spec
  refine wpIn_mono (ic hk hrd hSN _ e1 h1 a1 w1 (round e1 h1 hI1) hr1) ?_
  rintro ex a2 w2 ⟨ax,e2,h2,rfl,hq,hr2⟩
  cases ax with
  | normal =>
   obtain ⟨e3,h3,hwk3,hI3,hlt⟩:=hq
   have hr3:=hwk3 _ _ _ _ _ _ _ hSN hr2
   have hex:∃ k,In a2 w2 k:=⟨_,e3,h3,hI3,hr3,rfl⟩
   refine ⟨hex,?_⟩
   rw [dif_pos hex,dif_pos hk1,← hμ]
   exact Nat.lt_of_le_of_lt ((min a2 w2 hex).choose_spec.2 _ ⟨e3,h3,hI3,hr3,rfl⟩) hlt
  | exit id=>exact ⟨.exit id,e2,h2,rfl,hq,hr2⟩
  | ret=>exact ⟨.ret,e2,h2,rfl,hq,hr2⟩
 | rangeFunc g ps x y ix iy =>
  intro hk rd md hrd gS hS wS N hSN Q e h a w H hr
  have hrd:rd = none:=hrd.resolve_right (by simp [noRf])
  subst hrd
  simp only [okCode,Bool.and_eq_true] at hk
  simp only [acomp] at H
  split at H
  ·rename_i hb
   simp only [Bool.and_eq_true,List.all_eq_true,decide_eq_true_eq] at hb
   exact range_ok hb.2 (fun l gS hS wS Q e h a w H hr=>ix hk.1 (.inr hb.1.1) rfl Q e h a w H hr) (fun l gS hS wS Q e h a w H hr=>iy hk.2 (.inr hb.1.2) rfl Q e h a w H hr) hSN H hr
  ·exact H.elim
 | scope c ic =>
  intro hk rd md hrd gS hS wS N hSN Q e h a w H hr
  refine wpIn_scope (wpIn_mono (ic hk hrd hSN Q e h a w H hr) ?_)
  rintro ex a1 w1 ⟨ax,e1,h1,rfl,hq,hr1⟩
  cases ax with
  | normal=>exact ⟨.normal,e1,h1,rfl,hq,hr1⟩
  | exit id=>exact ⟨.exit id,e1,h1,rfl,hq,hr1⟩
  | ret=>exact ⟨.ret,e1,h1,rfl,hq,hr1⟩
 | goto=>intro hk rd md hrd gS hS wS N hSN Q e h a w H hr;exact H.elim
 | refuse=>intro hk rd md hrd gS hS wS N hSN Q e h a w H hr;exact H.elim
end

inductive ARes where
 | tmp (t:Nat)
 | cell (t:Nat) (m:Option Nat)
def compRes (P:Program):List ResultVar → Option (List ARes)
 | []=>some []
 | .tmp t :: rs=>(compRes P rs).map (.tmp t :: ·)
 | .cell t ty :: rs=>match tyAgg P ty,tySz P ty,compRes P rs with
  | some true,some m,some l=>some (.cell t (some m) :: l)
  | some false,_,some l=>some (.cell t none :: l)
  | _,_,_=>none
def ares : List ARes → Env → List AB → (List AV → Prop) → Prop
 | [],_,_,K=>K []
 | .tmp t :: rs,e,h,K=>ares rs e h (fun l=>K (e t :: l))
 | .cell t m :: rs,e,h,K=>aop (.ld m (.t t)) (AX.ev e) h (fun v _=>ares rs e h (fun l=>K (v :: l)))
def tupOf : List AV → AV
 | [v]=>v
 | l=>.tup l.length (ofL l)
def afin (rs:List ARes) (K:AV → List AB → Prop):AEx → Env → List AB → Prop
 | .exit _,_,_=>False
 | _,e,h=>ares rs e h (fun l=>K (tupOf l) h)
def eArgs (xs:List AV):Env:=fun t=>xs.getD t und

section
variable {F:Nat → Prop} {P:Program}
theorem ld_pointer {m:Option Nat} {v:AV} {M:Nat → Prop} {w:World} {g:GM} {u:Value} {h:List AB} {K:AV → List AB → Prop} {x:AX} {e:AX → AV} (hx:e x = v) (H:aop (.ld m x) e h K) (hr:rep M w v g u):∃ a,u = .pointer (some a):=by
 cases m <;> simp only [aop] at H <;> rw [hx] at H <;> cases v <;> simp only at H <;> first|(obtain ⟨b,c,rfl,_⟩:=hr;exact ⟨_,rfl⟩)|(obtain ⟨b,c,_,rfl⟩:=hr;exact ⟨_,rfl⟩)
def resOf (tmps:Array Value):ResultVar → Sem Value
 | .tmp t=>pure (tmps.getD t undef)
 | .cell a t=>do loadVar t (← asAddr (tmps.getD a undef))
theorem results_eq (fn:Func) (tmps:Array Value):results fn tmps = (do
  let vs ← fn.results.mapM (resOf tmps)
  pure (if h:vs.size = 1 then vs[0] else .tuple vs)):=by
 unfold results
 congr 1
theorem ares_ok {g:GM} {h:List AB} {w:World} {e:Env} {tmps:Array Value} (hok:HOK F g w h) (hv:∀ t,rep (MM F g h) w (e t) g (tmps.getD t undef)):∀ (rvs:List ResultVar) (rs:List ARes) (K:List AV → Prop),compRes P rvs = some rs → ares rs e h K →
  ∃ vs l,(rvs.mapM (resOf tmps):Sem (List Value)).run P w = .ok vs w ∧ vs.length = l.length ∧ (∀ i (x:AV),l[i]? = some x → rep (MM F g h) w x g (vs.getD i undef)) ∧ K l
 | [],rs,K,hc,H=>by
  cases hc
  exact ⟨[],[],by simp,rfl,fun i x hx=>(by simp at hx),H⟩
 | .tmp t :: rvs,rs,K,hc,H=>by
  simp only [compRes] at hc
  cases hrs:compRes P rvs with
  | none=>rw [hrs] at hc;cases hc
  | some rs' =>
   rw [hrs] at hc
   cases hc
   obtain ⟨vs,l,h1,h2,h3,h4⟩:=ares_ok hok hv rvs rs' _ hrs H
   refine ⟨tmps.getD t undef :: vs,e t :: l,by simp only [List.mapM_cons,resOf,Sem.run_bind,Sem.run_pure,Result.andThen_ok,h1],by simp [h2],fun i x hx=>?_,h4⟩
   cases i with
   | zero=>simp only [List.getElem?_cons_zero,Option.some.injEq] at hx;subst hx;exact hv t
   | succ i=>exact h3 i x hx
 | .cell t ty :: rvs,rs,K,hc,H=>by
  have key:∀ (m:Option Nat) (rs':List ARes),compRes P rvs = some rs' → rs = .cell t m :: rs' → ((m = none ∧ tyAgg P ty = some false) ∨ ∃ k,m = some k ∧ tyAgg P ty = some true ∧ tySz P ty = some k) →
    ∃ vs l,((.cell t ty :: rvs).mapM (resOf tmps):Sem (List Value)).run P w = .ok vs w ∧ vs.length = l.length ∧ (∀ i (x:AV),l[i]? = some x → rep (MM F g h) w x g (vs.getD i undef)) ∧ K l:=by
   rintro m rs' hrs rfl hm
   simp only [ares] at H
   obtain ⟨r,h',e1,e2⟩:=aop_one _ _ _ _ H
   obtain ⟨u,hrun,hu,_⟩:=val_ld (P:=P) (t:=ty) (v:=e t) (m':=m) hok hm (hv t) (by cases m <;> exact e1)
   obtain ⟨ad,had⟩:=ld_pointer (x:=.t t) (e:=AX.ev e) rfl e1 (hv t)
   obtain ⟨vs,l,h1,h2,h3,h4⟩:=ares_ok hok hv rvs rs' _ hrs e2
   rw [had] at hrun
   have hrun':(loadVar ty ad).run P w = .ok u w:=by simpa [Instr.loadAt,Instr.sureAddr] using hrun
   refine ⟨u :: vs,r :: l,by simp only [List.mapM_cons,resOf,Sem.run_bind,had,asAddr,Sem.run_pure,Result.andThen_ok,hrun',h1],by simp [h2],fun i x hx=>?_,h4⟩
   cases i with
   | zero=>simp only [List.getElem?_cons_zero,Option.some.injEq] at hx;subst hx;exact hu
   | succ i=>exact h3 i x hx
  simp only [compRes] at hc
  split at hc
  ·rename_i m l h1 h2 h3
   cases hc
   exact key _ _ h3 rfl (.inr ⟨m,rfl,h1,h2⟩)
  ·rename_i o l h1 h3
   cases hc
   exact key _ _ h3 rfl (.inl ⟨rfl,h1⟩)
  ·cases hc

/-- The marks are taken off, one by one. -/
theorem leaves_marks {g g':GM} {h h':List AB} {w:World} {e:Env} {fn:Func} {tmps:Array Value} {R:Ending → World → Prop}:∀ (Ds:List Nat) (_:Ds.Nodup) {W:World} (_:Tr F g h w g' h' W) (_:∀ t,rep (MM F g' h') W (e t) g' (tmps.getD t undef)) (_:∀ D ∈ Ds,w.heap.size ≤ D ∧ W.heap[D]? = some (.deferred (some [])))
  (_:∀ w2,Tr F g h w g' h' w2 → (∀ t,rep (MM F g' h') w2 (e t) g' (tmps.getD t undef)) → ∃ v,(results fn tmps).run P w2 = .ok v w2 ∧ R (.returned v) w2),LeavesInM Fence.wide 0 P fn tmps R (Ds.map fun D=>{ target:=.collected D,args:=#[] }) .returning W
 | [],_,W,T,hv,_,K=>K W T hv
 | D :: Ds,hnd,W,T,hv,hD,K=>by
  obtain ⟨h1,h2⟩:=hD D List.mem_cons_self
  rw [List.nodup_cons] at hnd
  refine ⟨by simp,.inl ⟨D,_,rfl,run_takeDeferred h2,?_⟩⟩
  refine leaves_marks Ds hnd.2 (T.obj h2 rfl h1) (fun t=>rep_keepc (by simp) (cells_putObj h2 rfl) _ (hv t)) (fun D' hD'=>⟨(hD D' (List.mem_cons_of_mem _ hD')).1,?_⟩) K
  rw [World.putObj_heap_other (fun e=>hnd.1 (by rw [← e];exact hD'))]
  exact (hD D' (List.mem_cons_of_mem _ hD')).2
/-- A function's text, read: what a call of it does. -/
theorem acall_of (hm : P.follows .mixedOrders = true) {f : FuncId} {fn : Func} {c : Code} (hf : P.funcs[f]? = some fn) (hb : fn.body = some c) (hn : (fn.name == "runtime.NumGoroutine") = false) {hs : Hints} (hk : okCode P fn.ntmps hs c = true) {ac : ACo} (hc : acomp P fn.ntmps hs c = ac) {rs : List ARes} (hrs : compRes P fn.results.toList = some rs)
  {xs:List AV} {h:List AB} {K:AV → List AB → Prop} (hl:xs.length ≤ fn.ntmps) (H:awp (ACalls P) h.length ac (afin rs K) (eArgs xs) h):ACall P f xs h K:=by
 refine ⟨⟨fn,hf,hn,by rw [hb];rfl⟩,fun F g w vs hok hsz hv=>callsIn_wide (n:=0).1 (callsIn_of_wp_marks hf hb trivial ?_)⟩
 subst hc
 have hr:Rel F fn.ntmps g h w (eArgs xs) h { tmps:=vs ++ Array.replicate (fn.ntmps - vs.size) undef,defers:=[] } w:=by
  refine ⟨⟨g,Tr.refl hok,fun t=>?_⟩,Marks.nil _ _,by simp;omega,fun d p hp=>hok.lt hp⟩
  rcases Nat.lt_or_ge t xs.length with ht|ht
  ·have h1:xs[t]? = some xs[t]:=List.getElem?_eq_getElem ht
   have h2:=hv t _ h1
   have:(vs ++ Array.replicate (fn.ntmps - vs.size) undef).getD t undef = vs.getD t undef:=by
    simp [Array.getElem?_append_left (xs:=vs) (ys:=Array.replicate (fn.ntmps - vs.size) undef) (i:=t) (by omega)]
   rw [this]
   simpa [eArgs,h1] using h2
  ·have:(vs ++ Array.replicate (fn.ntmps - vs.size) undef).getD t undef = undef:=by
    by_cases hlt:t < fn.ntmps
    ·simp [Array.getElem?_append_right (xs:=vs) (ys:=Array.replicate (fn.ntmps - vs.size) undef) (i:=t) (by omega),show t - vs.size < fn.ntmps - vs.size by omega]
    ·simp [Array.getElem?_append_right (xs:=vs) (ys:=Array.replicate (fn.ntmps - vs.size) undef) (i:=t) (by omega),show ¬ t - vs.size < fn.ntmps - vs.size by omega]
   rw [this]
   have:eArgs xs t = und:=by simp [eArgs,List.getElem?_eq_none ht]
   rw [this]
   exact rep_undef
 refine wpIn_mono (code_ok (rd:=none) (md:=0) hm c hk (.inl rfl) rfl _ _ _ _ _ H hr) ?_
 rintro ex a w' ⟨ax,e,h',rfl,hq,hr'⟩
 have key:ares rs e h' (fun l=>K (tupOf l) h') → LeavesInM Fence.wide 0 P fn a.tmps (fun en w'=>∃ v r h' g',en = .returned v ∧ Tr F g h w g' h' w' ∧ rep (MM F g' h') w' r g' v ∧ K r h') a.defers .returning w':=fun hq=>by
  obtain ⟨⟨g',T,hv'⟩,dn,sz,_⟩:=hr'
  obtain ⟨Ds,hds,hnd,hD⟩:=dn.ex
  rw [hds]
  refine leaves_marks Ds hnd (W:=w') T hv' (fun D hD'=>hD D hD') fun w2 T2 hv2=>?_
  obtain ⟨vs',l,h1,h2,h3,h4⟩:=ares_ok (P:=P) T2.ok hv2 fn.results.toList rs _ hrs hq
  refine ⟨if hh:vs'.toArray.size = 1 then vs'.toArray[0] else .tuple vs'.toArray,?_,_,tupOf l,h',g',rfl,T2,?_,h4⟩
  ·rw [results_eq,Array.mapM_eq_mapM_toList]
   simp only [Sem.run_bind,Sem.run_map,h1,Result.andThen_ok,Sem.run_pure]
  ·match vs',l,h2,h3 with
   | [u],[x],_,h3=>exact h3 0 x rfl
   | [],[],_,_=>exact ⟨#[],rfl,rfl,fun i hi=>by simp at hi⟩
   | u :: u2 :: us,x :: x2 :: xs',h2,h3 =>
    refine ⟨_,rfl,by simpa using h2,fun i hi=>⟨(u :: u2 :: us).getD i undef,?_,?_⟩⟩
    ·have:i < (u :: u2 :: us).length:=by rw [h2];exact hi
     simp [List.getElem?_eq_getElem this]
    ·have:=h3 i ((x :: x2 :: xs')[i]) (List.getElem?_eq_getElem hi)
     rw [ofL_get (List.getElem?_eq_getElem hi)]
     exact this
 cases ax with
 | normal=>exact key hq
 | ret=>exact key hq
 | exit id=>exact hq.elim
end
end Go.Proofs.YtodpjdmdmmnlpaaGreat
