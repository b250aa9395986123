/- Keys of maps and the search for an entry -/
import Derived.Test.YtodpjdmdmmnlpaaGreatBs3
import Derived.DeepKeys3
import Derived.MapKept

namespace Go.Proofs.YtodpjdmdmmnlpaaGreat
open Go.RowKit

def litsOf (l:List Int):List Lit:=l.map (Lit.int .i64)
theorem litsOf_inj {a b:List Int} (h:litsOf a = litsOf b):a = b:=by
 unfold litsOf at h
 induction a generalizing b with
 | nil=>cases b with
  | nil=>rfl
  | cons=>simp at h
 | cons x xs ih=>cases b with
  | nil=>simp at h
  | cons y ys =>
   simp only [List.map_cons,List.cons.injEq,Lit.int.injEq,true_and] at h
   rw [h.1,ih h.2]
theorem lit_wf {a:Int} (h:in64 a):(Lit.int .i64 a).wf = true:=by
 have h1:IntKind.i64.min = -9223372036854775808:=by decide
 have h2:IntKind.i64.max = 9223372036854775807:=by decide
 simp only [Lit.wf,h1,h2,Bool.and_eq_true,decide_eq_true_eq]
 exact h
theorem mapM_some {α β:Type} {f:α → Option β} {g:α → β}:∀ {L:List α},(∀ x ∈ L,f x = some (g x)) → L.mapM f = some (L.map g)
 | [],_=>rfl
 | x :: L,h=>by
  rw [List.mapM_cons,h x List.mem_cons_self,mapM_some fun y hy=>h y (List.mem_cons_of_mem _ hy)];rfl
theorem chunks_flat {α:Type} (s:Nat):∀ (n:Nat) (l:List α),l.length = n * s → ((List.range n).map fun i=>(l.drop (i * s)).take s).flatten = l
 | 0,l,h=>by
  rw [Nat.zero_mul] at h
  rw [List.length_eq_zero_iff.1 h];rfl
 | n + 1,l,h=>by
  have e:(l.take (n * s)).length = n * s:=by rw [List.length_take,h,Nat.add_mul];omega
  have ih:=chunks_flat s n (l.take (n * s)) e
  have hc:∀ i ∈ List.range n,((l.take (n * s)).drop (i * s)).take s = (l.drop (i * s)).take s:=fun i hi=>by
   have hi:=List.mem_range.1 hi
   have:i * s + s ≤ n * s:=by rw [← Nat.succ_mul];exact Nat.mul_le_mul_right s hi
   rw [List.drop_take,List.take_take,Nat.min_eq_left (by omega)]
  rw [List.map_congr_left hc] at ih
  rw [List.range_succ,List.map_append,List.flatten_append,ih]
  simp only [List.map_cons,List.map_nil,List.flatten_cons,List.flatten_nil,List.append_nil]
  have h3:(l.drop (n * s)).take s = l.drop (n * s):=List.take_of_length_le (by rw [List.length_drop,h,Nat.add_mul];omega)
  rw [h3,List.take_append_drop]
section
variable {P:Program}
theorem chain_le : ∀ {fs:List Field} {a b:Nat},chainB P fs a b = true → a ≤ b ∧ ∀ f ∈ fs,f.offset + P.cellsOf f.type ≤ b
 | [],a,b,h=>by
  simp only [chainB,beq_iff_eq] at h
  exact ⟨by omega,fun f hf=>by cases hf⟩
 | f :: fs,a,b,h=>by
  simp only [chainB,Bool.and_eq_true,beq_iff_eq] at h
  obtain ⟨h1,h2⟩:=chain_le h.2
  refine ⟨by omega,fun g hg=>?_⟩
  rcases List.mem_cons.1 hg with rfl|hg
  ·omega
  ·exact h2 g hg
theorem chain_flat {α:Type} {l:List α}:∀ {fs:List Field} {a:Nat},chainB P fs a l.length = true → (fs.map fun f=>(l.drop f.offset).take (P.cellsOf f.type)).flatten = l.drop a
 | [],a,h=>by
  simp only [chainB,beq_iff_eq] at h
  rw [List.drop_eq_nil_of_le (by omega)];rfl
 | f :: fs,a,h=>by
  simp only [chainB,Bool.and_eq_true,beq_iff_eq] at h
  rw [List.map_cons,List.flatten_cons,chain_flat h.2,h.1,← List.drop_drop,List.take_append_drop]
theorem map_chunk {a s:Nat} (l:List Int):((l.map (Value.int .i64)).drop a).take s = ((l.drop a).take s).map (Value.int .i64):=by
 rw [List.map_take,List.map_drop]
theorem flat_map_lits (L:List (List Int)):(L.map litsOf).flatten = litsOf L.flatten:=by
 unfold litsOf
 rw [List.map_flatten]
theorem keyLits_i64 : ∀ (d:Nat) (t:TypeId),i64Key P d t = true → ∀ l:List Int,l.length = P.cellsOf t → (∀ a ∈ l,in64 a) → P.keyLits d t (l.map (Value.int .i64)) = some (litsOf l)
 | 0,t,h,l,_,_=>by simp [i64Key] at h
 | d + 1,t,h,l,hl,hr=>by
  unfold i64Key at h
  unfold Program.keyLits
  split at h
  ·rename_i q hu
   simp only [Bool.and_eq_true,decide_eq_true_eq,beq_iff_eq] at h
   obtain ⟨rfl,h1⟩:=h
   obtain ⟨a,rfl⟩:∃ a,l = [a]:=List.length_eq_one_iff.1 (by omega)
   simp only [hu,List.map_cons,List.map_nil]
   have hw:=lit_wf (hr a (by simp))
   simp [hw,litsOf]
  ·rename_i n e hu
   simp only [Bool.and_eq_true,beq_iff_eq] at h
   simp only [hu]
   rw [if_pos (by rw [List.length_map,hl])]
   have hc:∀ i ∈ List.range n,P.keyLits d e (((l.map (Value.int .i64)).drop (i * P.cellsOf e)).take (P.cellsOf e)) = some (litsOf ((l.drop (i * P.cellsOf e)).take (P.cellsOf e))):=fun i hi=>by
    have hi:=List.mem_range.1 hi
    have:i * P.cellsOf e + P.cellsOf e ≤ n * P.cellsOf e:=by rw [← Nat.succ_mul];exact Nat.mul_le_mul_right _ hi
    rw [map_chunk]
    refine keyLits_i64 d e h.1 _ ?_ fun a ha=>hr a (List.mem_of_mem_drop (List.mem_of_mem_take ha))
    rw [List.length_take,List.length_drop,hl,h.2];omega
   rw [mapM_some (g:=fun i=>litsOf ((l.drop (i * P.cellsOf e)).take (P.cellsOf e))) hc,Option.map_some]
   congr 1
   have e1:((List.range n).map fun i=>litsOf ((l.drop (i * P.cellsOf e)).take (P.cellsOf e))) = ((List.range n).map fun i=>(l.drop (i * P.cellsOf e)).take (P.cellsOf e)).map litsOf:=by rw [List.map_map];rfl
   rw [e1,flat_map_lits,chunks_flat (P.cellsOf e) n l (by rw [hl,h.2])]
  ·rename_i fs hu
   simp only [Bool.and_eq_true,List.all_eq_true,bne_iff_ne,ne_eq] at h
   obtain ⟨h1,h2⟩:=h
   simp only [hu]
   have hb : fs.all (fun f => f.name != "_") = true := by
    rw [Array.all_eq_true']
    intro f hf
    simpa using (h2 f (by simpa using hf)).1
   rw [if_pos ⟨by rw [List.length_map,hl],hb⟩]
   have hc:∀ f ∈ fs.toList,P.keyLits d f.type (((l.map (Value.int .i64)).drop f.offset).take (P.cellsOf f.type)) = some (litsOf ((l.drop f.offset).take (P.cellsOf f.type))):=fun f hf=>by
    have hle:=(chain_le h1).2 f hf
    rw [map_chunk]
    refine keyLits_i64 d f.type (h2 f hf).2 _ ?_ fun a ha=>hr a (List.mem_of_mem_drop (List.mem_of_mem_take ha))
    rw [List.length_take,List.length_drop,hl];omega
   rw [mapM_some (g:=fun f=>litsOf ((l.drop f.offset).take (P.cellsOf f.type))) hc,Option.map_some]
   congr 1
   have e1:(fs.toList.map fun f=>litsOf ((l.drop f.offset).take (P.cellsOf f.type))) = (fs.toList.map fun f=>(l.drop f.offset).take (P.cellsOf f.type)).map litsOf:=by rw [List.map_map];rfl
   rw [e1,flat_map_lits,chain_flat (by rw [hl];exact h1),List.drop_zero]
  ·cases h
/-- What a map's type says of its keys. -/
theorem mapT_some {t:TypeId} {kt:Nat} {k e:TypeId} (h:mapT P t = some (kt,k,e)):P.underlying t = some (.map k e) ∧ ((kt = 0 ∧ P.underlying k = some (.int .i64)) ∨ ((∃ n,kt = n + 1) ∧ P.cellsOf k = kt ∧ P.keyTypeAt 4 k = true ∧ i64Key P 4 k = true ∧ ∃ fs,P.underlying k = some (.struct fs))):=by
 unfold mapT at h
 split at h
 ·rename_i k' e' hu
  split at h
  ·rename_i q hk
   split at h
   ·rename_i hq
    simp only [Option.some.injEq,Prod.mk.injEq] at h
    obtain ⟨rfl,rfl,rfl⟩:=h
    subst hq
    exact ⟨hu,.inl ⟨rfl,hk⟩⟩
   ·cases h
  ·rename_i fs hk
   split at h
   ·rename_i n hn
    split at h
    ·rename_i hc
     simp only [Option.some.injEq,Prod.mk.injEq] at h
     obtain ⟨rfl,rfl,rfl⟩:=h
     simp only [Bool.and_eq_true] at hc
     exact ⟨hu,.inr ⟨⟨n,rfl⟩,hn,hc.1,hc.2,fs,hk⟩⟩
    ·cases h
   ·cases h
  ·cases h
 ·cases h
theorem mapsBits (n:Nat):∀ (l:List Int),((l.map (Value.int .i64)).zip (l.map (Value.int .i64))).all (fun p=>Instr.sameBits (n + 1) p.1 p.2) = true
 | []=>rfl
 | a :: l=>by simp [Instr.sameBits,mapsBits n l]
theorem sameKeyV (kt:Nat) (l:List Int):Instr.sameBits 10000 (keyV kt l) (keyV kt l) = true:=by
 cases kt with
 | zero=>simp [keyV,Instr.sameBits]
 | succ n =>
  simp only [keyV,Instr.sameBits,beq_self_eq_true,Bool.true_and]
  exact mapsBits 9998 l
theorem keyV_stays {kt:Nat} {l:List Int} {w:World}:(Instr.keyThatStays (keyV kt l) (keyV kt l)).run P w = .ok (keyV kt l) w:=by
 simp [Instr.keyThatStays,sameKeyV]
section
variable {t:TypeId} {kt:Nat} {k e:TypeId} (hT:mapT P t = some (kt,k,e)) (w:World)
include hT
theorem checkKey_ok {l:List Int} (hl:KeyOK kt l) (em:Bool):(Instr.checkKey em 10000 k (keyV kt l)).run P w = .ok () w:=by
 obtain ⟨_,⟨rfl,hk⟩|⟨⟨n,rfl⟩,hc,hkt,hi,fs,hk⟩⟩:=mapT_some hT
 ·exact MapKept.run_checkKey hk (by simp [MapKept.IsKey,keyV]) em 9999
 ·have:=run_checkKey_deep (P:=P) em 9996 4 k hkt w 4 (keyV (n + 1) l) (litsOf l) (by
   have hs:l.length = P.cellsOf k:=by rw [hc];have:=hl.1;omega
   simp [Value.formed,keyV,hk,hs]) (by
   have:=keyLits_i64 4 k hi l (by rw [hc];have:=hl.1;omega) hl.2
   simpa [keyV,Value.cells] using this)
  exact this
theorem find_ok {l:List Int} (hl:KeyOK kt l):∀ (es:List MapEntry) (ks:List (List Int)),es.map (·.key) = ks.map (keyV kt) → (∀ x ∈ ks,KeyOK kt x) →
  (Instr.findKey k (keyV kt l) es).run P w = .ok ((ks.findIdx? (· == l)).bind fun j=>(es[j]?).map fun y=>(j,y.val)) w:=by
 intro es ks he hks
 obtain ⟨_,⟨rfl,hk⟩|⟨⟨n,rfl⟩,hc,hkt,hi,fs,hk⟩⟩:=mapT_some hT
 ·have key:∀ (es:List MapEntry) (ks:List (List Int)) (i:Nat),es.map (·.key) = ks.map (keyV 0) → (∀ x ∈ ks,KeyOK 0 x) → Instr.findNow (.int .i64) (keyV 0 l) es i = some ((ks.findIdx? (· == l)).bind fun j=>(es[j]?).map fun y=>(i + j,y.val)):=by
   intro es
   induction es with
   | nil=>intro ks i he _;cases ks with
    | nil=>rfl
    | cons=>simp at he
   | cons y es ih =>
    intro ks i he hks
    cases ks with
    | nil=>simp at he
    | cons x ks =>
     simp only [List.map_cons,List.cons.injEq] at he
     have ih:=ih ks (i + 1) he.2 fun z hz=>hks z (List.mem_cons_of_mem _ hz)
     obtain ⟨a,rfl⟩:∃ a,l = [a]:=List.length_eq_one_iff.1 (by have:=hl.1;omega)
     obtain ⟨b,rfl⟩:∃ b,x = [b]:=List.length_eq_one_iff.1 (by have:=(hks x List.mem_cons_self).1;omega)
     have hy:y.key = .int .i64 b:=he.1
     simp only [Instr.findNow,keyV,hy,Instr.sameNow,if_true,List.getD_cons_zero]
     by_cases hab:a = b
     ·subst hab;simp [List.findIdx?_cons]
     ·have e1:(a == b) = false:=by simpa using hab
      have e2:([b] == [a]) = false:=by simpa using fun h=>hab h.symm
      rw [e1]
      simp only [keyV,List.getD_cons_zero] at ih
      simp only [ih,List.findIdx?_cons,e2]
      cases ks.findIdx? (fun x=>x == [a]) with
      | none=>simp
      | some j=>simp [Nat.add_assoc,Nat.add_comm 1 j]
  have:=key es ks 0 he hks
  simp only [Nat.zero_add] at this
  exact MapKept.run_findKey hk this
 ·have key:∀ (es:List MapEntry) (ks:List (List Int)) (i:Nat),es.map (·.key) = ks.map (keyV (n + 1)) → (∀ x ∈ ks,KeyOK (n + 1) x) → (Instr.findAsking k (keyV (n + 1) l) es i).run P w = .ok ((ks.findIdx? (· == l)).bind fun j=>(es[j]?).map fun y=>(i + j,y.val)) w:=by
   intro es
   induction es with
   | nil=>intro ks i he _;cases ks with
    | nil=>simp [Instr.findAsking]
    | cons=>simp at he
   | cons y es ih =>
    intro ks i he hks
    cases ks with
    | nil=>simp at he
    | cons x ks =>
     simp only [List.map_cons,List.cons.injEq] at he
     have ih:=ih ks (i + 1) he.2 fun z hz=>hks z (List.mem_cons_of_mem _ hz)
     have hx:=hks x List.mem_cons_self
     have frm:∀ l:List Int,KeyOK (n + 1) l → (keyV (n + 1) l).formed P k = true ∧ P.keyLits 4 k (keyV (n + 1) l).cells.toList = some (litsOf l):=fun l hl=>by
      have hs:l.length = P.cellsOf k:=by rw [hc];have:=hl.1;omega
      exact ⟨by simp [Value.formed,keyV,hk,hs],by simpa [keyV,Value.cells] using keyLits_i64 4 k hi l hs hl.2⟩
     obtain ⟨r,hr,hiff⟩:=run_equalIn_deep (P:=P) 9996 4 k hkt w 4 4 (keyV (n + 1) l) (keyV (n + 1) x) (litsOf l) (litsOf x) (frm l hl).1 (frm x hx).1 (frm l hl).2 (frm x hx).2
     have hr':(Op.equal k (keyV (n + 1) l) y.key).run P w = .ok r w:=by rw [he.1];exact hr
     simp only [Instr.findAsking,Sem.run_bind,hr',Result.andThen_ok]
     by_cases hlx:l = x
     ·subst hlx
      obtain rfl:r = true:=hiff.2 rfl
      simp [List.findIdx?_cons]
     ·have hrf:r = false:=by
       cases r
       ·rfl
       ·exact (hlx (litsOf_inj (hiff.1 rfl))).elim
      have e2:(x == l) = false:=by simpa using fun h=>hlx h.symm
      subst hrf
      simp only [Bool.false_eq_true,if_false,ih,List.findIdx?_cons,e2]
      cases ks.findIdx? (fun x=>x == l) with
      | none=>simp
      | some j=>simp [Nat.add_assoc,Nat.add_comm 1 j]
  cases es with
  | nil=>cases ks with
   | nil=>simp [Instr.findKey,run_underlying hk,Instr.findNow]
   | cons=>simp at he
  | cons y es =>
   have h1:Instr.findNow (.struct fs) (keyV (n + 1) l) (y :: es) 0 = none:=by simp [Instr.findNow,Instr.sameNow]
   have:=key (y :: es) ks 0 he hks
   simp only [Nat.zero_add] at this
   simp only [Instr.findKey,Sem.run_bind,run_underlying hk,Result.andThen_ok,h1]
   exact this
end
end
end Go.Proofs.YtodpjdmdmmnlpaaGreat
