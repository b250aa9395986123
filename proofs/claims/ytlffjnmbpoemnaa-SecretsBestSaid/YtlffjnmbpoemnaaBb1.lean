/- Secrets: without secrets; an amount alone / Secrets: more left out, more can be. Plain law. / Secrets: safe masks and good masks / Secrets: Size of the reference. / Secrets: Better of the reference. -/
import Derived.Test.YtlffjnmbpoemnaaBs14
set_option linter.unusedSimpArgs false
set_option linter.unusedVariables false
namespace Go.Proofs.Ytlffjnmbpoemnaa

theorem bit_two {o:Nat → Bool} {n i j:Nat} (hi:i < n) (hj:j < n) (ne:i ≠ j) (hoi:o i = true) (hoj:o j = true):2 ≤ sumTo (fun k=>if o k then 1 else 0) n:=by
 have e:sumTo (fun k=>if o k then 1 else 0) n = sumTo (fun k=>(if k = j then 1 else 0) + (if k = j then 0 else (if o k then 1 else 0))) n:=sumTo_congr fun k _=>by
  by_cases h:k = j
  ·subst h;rw [if_pos rfl,if_pos rfl,if_pos hoj];rfl
  ·rw [if_neg h,if_neg h];omega
 rw [e,sumTo_add (fun k=>if k = j then (1:Int) else 0) (fun k=>if k = j then (0:Int) else (if o k then 1 else 0))]
 have h1:=sumTo_hit (f:=fun k=>if k = j then (1:Int) else 0) hj fun k _ h=>if_neg h
 have h2:=sumTo_one (f:=fun k=>if k = j then (0:Int) else (if o k then 1 else 0)) hi fun k _ _=>by
  show 0 ≤ (if k = j then (0:Int) else (if o k then 1 else 0))
  split
  ·omega
  ·split <;> omega
 have h1':sumTo (fun k=>if k = j then (1:Int) else 0) n = 1:=h1.trans (if_pos rfl)
 have h2':(1:Int) ≤ sumTo (fun k=>if k = j then (0:Int) else (if o k then 1 else 0)) n:=by
  have e2:(if i = j then (0:Int) else (if o i then 1 else 0)) = 1:=by rw [if_neg ne,if_pos hoi]
  exact Int.le_trans (Int.le_of_eq e2.symm) h2
 omega
theorem alone_eq {f g:Nat → Int} {o:Nat → Bool} {n j:Nat} (hj:j < n) (heq:sumTo f n = sumTo g n) (hu:∀ i,i < n → o i = false → f i = g i) (hc:sumTo (fun k=>if o k then 1 else 0) n ≤ 1) (ho:o j = true):f j = g j:=by
 have oth:∀ i,i < n → i ≠ j → f i + -1 * g i = 0:=fun i hi ne=>by
  cases hoi:o i
  ·have:=hu i hi hoi;omega
  ·have:=bit_two hi hj ne hoi ho;omega
 have h1:=sumTo_hit (f:=fun i=>f i + -1 * g i) hj oth
 rw [sumTo_add f (fun i=>-1 * g i),sumTo_mul (-1) g,heq] at h1
 have h2:sumTo g n + -1 * sumTo g n = f j + -1 * g j:=h1
 omega
/-- How many amounts of a row, so far, are left out. -/
def cntR (m:List Int) (r c:Nat):Int:=sumTo (fun i=>if outS m r i then 1 else 0) c
theorem only_ag {s:Sheet} {m:List Int} {r c:Nat} (hr:r < s.R) (hc:c < s.C) (h:outS m r c = false ∨ cntR m r s.C ≤ 1 ∨ cntC m c s.R ≤ 1) {x:Nat → Nat → Int} (hx:Ag s m x):x r c = s.A r c:=by
 cases ho:outS m r c
 ·exact hx.un r c hr hc ho
 ·rcases h with h|h|h
  ·rw [ho] at h;cases h
  ·exact alone_eq (f:=x r) (g:=s.A r) (o:=outS m r) hc (hx.row r hr) (fun i hi h'=>hx.un r i hr hi h') h ho
  ·exact alone_eq (f:=fun i=>x i c) (g:=fun i=>s.A i c) (o:=fun i=>outS m i c) hr (hx.col c hc) (fun i hi h'=>hx.un i c hi hc h') h ho
theorem only_lo {s:Sheet} (hs:SheetOk s) {m:List Int} {r c:Nat} (hr:r < s.R) (hc:c < s.C) (h:outS m r c = false ∨ cntR m r s.C ≤ 1 ∨ cntC m c s.R ≤ 1):loV s m r c = s.A r c :=
 IsLo.eq ⟨⟨s.A,Ag.self hs m,rfl⟩,fun x hx=>by rw [only_ag hr hc h hx];omega⟩
theorem only_hi {s:Sheet} (hs:SheetOk s) {m:List Int} {r c:Nat} (hr:r < s.R) (hc:c < s.C) (h:outS m r c = false ∨ cntR m r s.C ≤ 1 ∨ cntC m c s.R ≤ 1):hiV s m r c = s.A r c :=
 IsHi.eq ⟨⟨s.A,Ag.self hs m,rfl⟩,fun x hx=>by rw [only_ag hr hc h hx];omega⟩
/-- The sheet without secrets. -/
def openS (s:Sheet):Sheet:=⟨s.amounts,List.replicate s.R 0,s.gap⟩
theorem rep_get (n k:Nat):(List.replicate n (0:Int)).getD k 0 = 0:=by
 by_cases h:k < n
 ·simp [List.getD,h]
 ·simp [List.getD,h]
theorem openS_ok {s:Sheet} (h:s.ok = true):(openS s).ok = true:=by
 have hp:(1:Nat) ≤ 2 ^ s.C:=Nat.two_pow_pos s.C
 unfold Sheet.ok Sheet.head at h ⊢
 simp only [Bool.and_eq_true] at h ⊢
 obtain ⟨⟨⟨⟨h1,h2⟩,h3⟩,h4⟩,h5⟩:=h
 refine ⟨⟨⟨⟨h1,h2⟩,h3⟩,?_⟩,h5⟩
 show maskS (openS s) (List.replicate s.R 0) = true
 unfold maskS
 simp only [Bool.and_eq_true,decide_eq_true_eq,List.all_eq_true]
 refine ⟨fun x hx=>?_,List.length_replicate⟩
 have:=List.eq_of_mem_replicate hx
 subst this
 have e:(openS s).C = s.C:=rfl
 rw [e]
 omega
theorem openS_near {s:Sheet} (h:Near s):Near (openS s):=⟨h.r,by show (List.replicate s.R (0:Int)).length ≤ 20;rw [List.length_replicate];exact h.r,h.c⟩
theorem mk0 (s:Sheet):mkS s 0 = List.replicate s.R 0:=by
 unfold mkS
 refine List.ext_getElem (by simp) fun i h1 h2=>?_
 simp
theorem rep_out (n r c:Nat):outS (List.replicate n 0) r c = false:=by unfold outS;rw [rep_get];exact Nat.zero_testBit c
theorem sum_zero {f:Nat → Int}:∀ {n:Nat},(∀ i,i < n → f i = 0) → sumTo f n = 0:=fun h=>by
 rw [sumTo_congr (g:=fun _=>0) h];exact sumTo_zero _
theorem good0 (s:Sheet):goodS (openS s) (List.replicate s.R 0) = true:=by
 unfold goodS
 simp only [Bool.and_eq_true,Bool.not_eq_true']
 refine ⟨⟨?_,?_⟩,?_⟩
 ·refine rall_yes fun r hr=>?_
  unfold coverR
  show decide (sdiff ((List.replicate s.R (0:Int)).getD r 0).toNat _ = 0) = true
  rw [rep_get];rfl
 ·unfold loneS
  rw [Bool.or_eq_false_iff]
  refine ⟨?_,?_⟩
  ·rw [List.any_eq_false]
   intro r _
   rw [rep_get];decide
  ·rw [List.any_eq_false]
   intro c _
   have:cntC (List.replicate s.R 0) c (openS s).R = 0:=sum_zero fun i _=>by rw [rep_out];rfl
   rw [this];decide
 ·refine rall_yes fun r hr=>rall_yes fun c hc=>?_
  unfold cellSafe
  show (!outS (List.replicate s.R 0) r c || _) = true
  rw [rep_out];rfl
theorem lex0 {z b:List Int} (hz:∀ k,z.getD k 0 = 0):∀ {n k:Nat},(∀ i,k ≤ i → i < k + n → 0 ≤ b.getD i 0) → ¬ lexK z b n k < 0 → ∀ i,k ≤ i → i < k + n → b.getD i 0 = 0
 | 0,k,_,_,i,h1,h2=>by omega
 | n + 1,k,hb,h,i,h1,h2=>by
  have hk:=hb k (by omega) (by omega)
  simp only [lexK,hz] at h
  by_cases e:0 = b.getD k 0
  ·rw [if_pos e] at h
   by_cases ei:i = k
   ·rw [ei];exact e.symm
   ·exact lex0 hz (n:=n) (k:=k + 1) (fun j h3 h4=>hb j (by omega) (by omega)) h i (by omega) (by omega)
  ·rw [if_neg e] at h
   unfold cmpI at h
   rw [if_pos (by omega)] at h
   exact absurd (by decide) h
theorem many0 (n r:Nat):manyTo (List.replicate n 0) r = 0:=sum_zero fun i _=>by rw [rep_get];rfl
theorem left0 (s:Sheet) (n r:Nat):leftTo s (List.replicate n 0) r = 0:=sum_zero fun i _=>sum_zero fun j _=>by rw [rep_out];rfl
theorem left_nn {s:Sheet} (hs:SheetOk s) (m:List Int):0 ≤ leftTo s m s.R:=sumTo_nn fun i hi=>(outTo_bd hs m hi (Nat.le_refl _)).1
theorem many_nn (m:List Int) (r:Nat):0 ≤ manyTo m r:=sumTo_nn fun i _=>Int.natCast_nonneg _
theorem none_best (w:Bool) {s:Sheet} (hk:s.ok = true):bestO w (openS s) = some (List.replicate s.R 0):=by
 have hs:=sheet_d (openS_ok hk)
 obtain ⟨N,hN⟩:∃ N,2 ^ ((openS s).C * (openS s).R) = N:=⟨_,rfl⟩
 have hp:0 < N:=by rw [← hN];exact Nat.two_pow_pos _
 have h:=bst_inv w (openS s) N
 have e:bestO w (openS s) = bstS w (openS s) N:=by unfold bestO;rw [hN]
 have m0:mkS (openS s) 0 = List.replicate s.R 0:=mk0 (openS s)
 have g0:=good0 s
 rw [e]
 cases hb:bstS w (openS s) N with
 | none=>rw [hb] at h;have:=h 0 hp;rw [m0,g0] at this;cases this
 | some b =>
  rw [hb] at h
  obtain ⟨h1,⟨k,hk',hbk⟩,h3⟩:=h
  have h4:=h3 0 hp (by rw [m0];exact g0)
  rw [m0,cmpM_lt] at h4
  have hbo:MaskOk (openS s) b:=by rw [hbk];exact mkS_ok _ k
  have z1:p1 w (openS s) (List.replicate s.R 0) = 0:=by unfold p1;cases w;exact many0 _ _;exact left0 _ _ _
  have z2:p2 w (openS s) (List.replicate s.R 0) = 0:=by unfold p2;cases w;exact left0 _ _ _;exact many0 _ _
  have n1:0 ≤ p1 w (openS s) b:=by unfold p1;cases w;exact many_nn _ _;exact left_nn hs b
  have n2:0 ≤ p2 w (openS s) b:=by unfold p2;cases w;exact left_nn hs b;exact many_nn _ _
  rw [z1,z2] at h4
  have h5:¬ lexK (List.replicate s.R 0) b (List.replicate s.R (0:Int)).length 0 < 0:=fun hl=>h4 (by
   by_cases q1:0 < p1 w (openS s) b
   ·exact .inl q1
   ·refine .inr ⟨by omega,?_⟩
    by_cases q2:0 < p2 w (openS s) b
    ·exact .inl q2
    ·exact .inr ⟨by omega,hl⟩)
  rw [List.length_replicate] at h5
  have h6:=lex0 (rep_get s.R) (fun i _ hi=>(hbo.bd i (by show i < s.R;omega)).1) h5
  have hl:b.length = s.R:=hbo.len
  refine congrArg some (List.ext_getElem (by rw [hl,List.length_replicate]) fun i q1 q2=>?_)
  have:=h6 i (Nat.zero_le _) (by omega)
  simp only [List.getD,List.getElem?_eq_getElem q1,Option.getD_some] at this
  rw [this,List.getElem_replicate]
theorem none_bestV (w:Bool) {s:Sheet} (hk:s.ok = true):bestV w (openS s) = .tup 2 (ofL [aInts false false (List.replicate s.R 0),AI 0]):=by
 unfold bestV;rw [if_pos (openS_ok hk),none_best w hk]
end Go.Proofs.Ytlffjnmbpoemnaa

namespace Go.Proofs.Ytlffjnmbpoemnaa
open Go.RowKit

theorem Ag.more {s:Sheet} {m m2:List Int} (hm:∀ r c,r < s.R → c < s.C → outS m r c = true → outS m2 r c = true) {x:Nat → Nat → Int} (h:Ag s m x):Ag s m2 x :=
 ⟨h.nn,fun r c hr hc ho=>h.un r c hr hc (by cases h2:outS m r c;rfl;rw [hm r c hr hc h2] at ho;cases ho),h.row,h.col⟩
theorem wider {s:Sheet} (hs:SheetOk s) {m m2:List Int} (hm:∀ r c,r < s.R → c < s.C → outS m r c = true → outS m2 r c = true) {r c:Nat} (hr:r < s.R) (hc:c < s.C):loV s m2 r c ≤ loV s m r c ∧ hiV s m r c ≤ hiV s m2 r c:=by
 obtain ⟨⟨x,hx,ex⟩,_⟩:=lo_is hs m hr hc
 obtain ⟨⟨y,hy,ey⟩,_⟩:=hi_is hs m hr hc
 have a:=(lo_is hs m2 hr hc).2 x (hx.more hm)
 have b:=(hi_is hs m2 hr hc).2 y (hy.more hm)
 omega
theorem safe_more {s:Sheet} (hs:SheetOk s) {m m2:List Int} (hm:∀ r c,r < s.R → c < s.C → outS m r c = true → outS m2 r c = true) (h:safeS s m = true):safeS s m2 = true:=by
 unfold safeS rowSafe at h ⊢
 refine rall_yes fun r hr=>rall_yes fun c hc=>?_
 have h1:=List.all_eq_true.1 (List.all_eq_true.1 h r (List.mem_range.2 hr)) c (List.mem_range.2 hc)
 unfold cellSafe at h1 ⊢
 simp only [Bool.or_eq_true,Bool.not_eq_true',Bool.and_eq_true,decide_eq_true_eq] at h1 ⊢
 rcases h1 with h1|⟨h1,h2⟩
 ·exact .inl h1
 ·have:=wider hs hm hr hc
  exact .inr ⟨hm r c hr hc h1,by omega⟩
end Go.Proofs.Ytlffjnmbpoemnaa

namespace Go.Proofs.Ytlffjnmbpoemnaa

/-- Numbers as one number. -/
def enc (C:Nat):(Nat → Nat) → Nat → Nat
 | _,0=>0
 | f,n + 1=>f 0 + 2 ^ C * enc C (fun i=>f (i + 1)) n
theorem enc_get (C:Nat):∀ (n:Nat) (f:Nat → Nat),(∀ i,i < n → f i < 2 ^ C) → ∀ r,r < n → enc C f n / 2 ^ (C * r) % 2 ^ C = f r
 | 0,_,_,r,h=>absurd h (Nat.not_lt_zero r)
 | n + 1,f,hf,0,_=>by
  have h0:=hf 0 (by omega)
  simp only [enc,Nat.mul_zero,Nat.pow_zero,Nat.div_one]
  rw [Nat.add_mul_mod_self_left,Nat.mod_eq_of_lt h0]
 | n + 1,f,hf,r + 1,hr=>by
  have h0:=hf 0 (by omega)
  have ih:=enc_get C n (fun i=>f (i + 1)) (fun i hi=>hf (i + 1) (by omega)) r (by omega)
  simp only [enc]
  rw [Nat.mul_succ,Nat.add_comm (C * r) C,Nat.pow_add,← Nat.div_div_eq_div_mul,Nat.add_mul_div_left _ _ (Nat.two_pow_pos C),Nat.div_eq_of_lt h0,Nat.zero_add]
  exact ih
theorem enc_lt (C:Nat):∀ (n:Nat) (f:Nat → Nat),(∀ i,i < n → f i < 2 ^ C) → enc C f n < 2 ^ (C * n)
 | 0,_,_=>by simp [enc]
 | n + 1,f,hf=>by
  have h0:=hf 0 (by omega)
  have ih:=enc_lt C n (fun i=>f (i + 1)) (fun i hi=>hf (i + 1) (by omega))
  simp only [enc]
  rw [Nat.mul_succ,Nat.add_comm (C * n) C,Nat.pow_add]
  have h1:=Nat.mul_le_mul_left (2 ^ C) (show enc C (fun i=>f (i + 1)) n + 1 ≤ 2 ^ (C * n) from ih)
  rw [Nat.mul_add,Nat.mul_one] at h1
  omega
theorem getD_at {l:List Int} {i:Nat} (h:i < l.length):l.getD i 0 = l[i]:=by simp [List.getD,List.getElem?_eq_getElem h]
theorem mk_of {s:Sheet} {m:List Int} (hm:MaskOk s m):∃ k,k < 2 ^ (s.C * s.R) ∧ m = mkS s k:=by
 have hb:∀ i,i < s.R → (m.getD i 0).toNat < 2 ^ s.C:=fun i hi=>by have:=hm.bd i hi;omega
 refine ⟨enc s.C (fun i=>(m.getD i 0).toNat) s.R,enc_lt _ _ _ hb,List.ext_getElem (by rw [hm.len,mkS_len]) fun i h1 h2=>?_⟩
 have hi:i < s.R:=by rw [← hm.len];exact h1
 rw [← getD_at h1,← getD_at h2,mkS_get hi,Nat.shiftRight_eq_div_pow,Nat.and_two_pow_sub_one_eq_mod,enc_get _ _ _ hb i hi]
 have:=hm.bd i hi
 omega
/-- A mask without one of its amounts. -/
def delM (s:Sheet) (m:List Int) (r c:Nat):List Int:=(List.range s.R).map fun i=>if i = r then (((m.getD i 0).toNat ^^^ 2 ^ c:Nat):Int) else m.getD i 0
theorem del_len (s:Sheet) (m:List Int) (r c:Nat):(delM s m r c).length = s.R:=by simp [delM]
theorem del_get {s:Sheet} {m:List Int} {r c i:Nat} (hi:i < s.R):(delM s m r c).getD i 0 = if i = r then (((m.getD i 0).toNat ^^^ 2 ^ c:Nat):Int) else m.getD i 0:=by
 unfold delM;simp [List.getD,hi]
theorem del_ok {s:Sheet} {m:List Int} {r c:Nat} (hm:MaskOk s m) (hc:c < s.C):MaskOk s (delM s m r c):=⟨del_len s m r c,fun i hi=>by
 rw [del_get hi]
 have a:=hm.bd i hi
 split
 ·have:=Nat.xor_lt_two_pow (show (m.getD i 0).toNat < 2 ^ s.C by omega) (Nat.pow_lt_pow_right (by omega) hc:2 ^ c < 2 ^ s.C)
  omega
 ·exact a⟩
theorem del_out {s:Sheet} {m:List Int} {r c i:Nat} (hi:i < s.R) (j:Nat) (ho:outS m r c = true):outS (delM s m r c) i j = (outS m i j && !(decide (i = r) && decide (j = c))):=by
 unfold outS at ho ⊢
 rw [del_get hi]
 by_cases e:i = r
 ·subst e
  rw [if_pos rfl,Int.toNat_natCast,Nat.testBit_xor,Nat.testBit_two_pow]
  by_cases ej:j = c
  ·subst ej;rw [ho];simp
  ·rw [decide_eq_false (show ¬ c = j from fun h=>ej h.symm),decide_eq_false ej];simp
 ·rw [if_neg e,decide_eq_false e];simp
theorem pop_del : ∀ x,x < 16 → ∀ c,c < 4 → x.testBit c = true → pop (x ^^^ 2 ^ c) + 1 = pop x:=by decide
theorem pop_cnt : ∀ C,C < 5 → ∀ x,x < 16 → x < 2 ^ C → sumTo (fun i=>if x.testBit i then 1 else 0) C = (pop x:Nat):=by decide
theorem del_many {s:Sheet} (hs:SheetOk s) {m:List Int} (hm:MaskOk s m) {r c:Nat} (hr:r < s.R) (hc:c < s.C) (ho:outS m r c = true):manyTo (delM s m r c) s.R + 1 = manyTo m s.R:=by
 have c4:=hs.c4
 have e:manyTo m s.R = sumTo (fun i=>((pop ((delM s m r c).getD i 0).toNat:Nat):Int) + (if i = r then 1 else 0)) s.R:=sumTo_congr fun i hi=>by
  show ((pop (m.getD i 0).toNat:Nat):Int) = _
  rw [del_get hi]
  by_cases e:i = r
  ·subst e
   obtain ⟨k,hk,hk16,-⟩:=mask_16 hs hm hi
   have ho':k.testBit c = true:=by unfold outS at ho;rw [hk] at ho;exact ho
   have:=pop_del k hk16 c (by omega) ho'
   rw [if_pos rfl,if_pos rfl,hk,Int.toNat_natCast,Int.toNat_natCast]
   omega
  ·rw [if_neg e,if_neg e];omega
 rw [e,sumTo_add (fun i=>((pop ((delM s m r c).getD i 0).toNat:Nat):Int)) (fun i=>if i = r then (1:Int) else 0)]
 have h1:sumTo (fun i=>if i = r then (1:Int) else 0) s.R = 1:=(sumTo_hit (f:=fun i=>if i = r then (1:Int) else 0) hr fun k _ h=>if_neg h).trans (if_pos rfl)
 rw [h1];rfl
theorem del_left {s:Sheet} (hs:SheetOk s) {m:List Int} {r c:Nat} (ho:outS m r c = true):leftTo s (delM s m r c) s.R ≤ leftTo s m s.R:=by
 refine sumTo_le fun i hi=>sumTo_le fun j hj=>?_
 have ha:=(hs.amt i j hi hj).1
 rw [del_out hi j ho]
 cases outS m i j
 ·exact Int.le_refl _
 ·rw [if_pos rfl]
  split
  ·exact Int.le_refl _
  ·exact ha
theorem ag_del {s:Sheet} {m:List Int} {r c:Nat} (hr:r < s.R) (hc:c < s.C) (ho:outS m r c = true) (h:cntR m r s.C ≤ 1 ∨ cntC m c s.R ≤ 1) (x:Nat → Nat → Int):Ag s (delM s m r c) x ↔ Ag s m x:=by
 refine ⟨fun hx=>Ag.more (fun i j hi hj h'=>?_) hx,fun hx=>⟨hx.nn,fun i j hi hj h'=>?_,hx.row,hx.col⟩⟩
 ·rw [del_out hi j ho] at h'
  cases hq:outS m i j
  ·rw [hq] at h';cases h'
  ·rfl
 ·rw [del_out hi j ho] at h'
  cases hq:outS m i j
  ·exact hx.un i j hi hj hq
  ·rw [hq,Bool.true_and,Bool.not_eq_false',Bool.and_eq_true,decide_eq_true_eq,decide_eq_true_eq] at h'
   obtain ⟨rfl,rfl⟩:=h'
   exact only_ag hr hc (.inr h) hx
theorem ag_lo {s:Sheet} {m m2:List Int} (h:∀ x,Ag s m2 x ↔ Ag s m x) (r c:Nat):loV s m2 r c = loV s m r c ∧ hiV s m2 r c = hiV s m r c:=by
 have e:Ag s m2 = Ag s m:=funext fun x=>propext (h x)
 unfold loV hiV IsLo IsHi
 rw [e]
 exact ⟨rfl,rfl⟩
theorem lone_find {s:Sheet} (hs:SheetOk s) {m:List Int} (hm:MaskOk s m) (h:loneS s m = true):∃ r c,r < s.R ∧ c < s.C ∧ outS m r c = true ∧ (cntR m r s.C ≤ 1 ∨ cntC m c s.R ≤ 1):=by
 have c4:=hs.c4
 unfold loneS at h
 rw [Bool.or_eq_true,List.any_eq_true,List.any_eq_true] at h
 rcases h with ⟨r,hr,h⟩|⟨c,hc,h⟩
 ·have hr:=List.mem_range.1 hr
  have h:=of_decide_eq_true h
  obtain ⟨k,hk,hk16,hkC⟩:=mask_16 hs hm hr
  rw [hk,Int.toNat_natCast] at h
  have e:cntR m r s.C = 1:=by
   have:=pop_cnt s.C (by omega) k hk16 hkC
   unfold cntR outS
   rw [hk,Int.toNat_natCast,this,h];rfl
  by_cases hex:∃ c,c < s.C ∧ outS m r c = true
  ·obtain ⟨c,hc,ho⟩:=hex
   exact ⟨r,c,hr,hc,ho,.inl (by omega)⟩
  ·exfalso
   have:cntR m r s.C = 0:=sum_zero fun i hi=>if_neg fun ho=>hex ⟨i,hi,ho⟩
   omega
 ·have hc:=List.mem_range.1 hc
  have h:=of_decide_eq_true h
  by_cases hex:∃ r,r < s.R ∧ outS m r c = true
  ·obtain ⟨r,hr,ho⟩:=hex
   exact ⟨r,c,hr,hc,ho,.inr (by omega)⟩
  ·exfalso
   have:cntC m c s.R = 0:=sum_zero fun i hi=>if_neg fun ho=>hex ⟨i,hi,ho⟩
   omega
theorem safe_cell {s:Sheet} {m:List Int} (h:safeS s m = true) {r c:Nat} (hr:r < s.R) (hc:c < s.C):cellSafe s m r c = true:=by
 unfold safeS at h
 have h1:=List.all_eq_true.1 h r (List.mem_range.2 hr)
 unfold rowSafe at h1
 exact List.all_eq_true.1 h1 c (List.mem_range.2 hc)
theorem safe_del {s:Sheet} (hs:SheetOk s) {m:List Int} {r c:Nat} (hr:r < s.R) (hc:c < s.C) (ho:outS m r c = true) (h:cntR m r s.C ≤ 1 ∨ cntC m c s.R ≤ 1) (hsafe:safeS s m = true):safeS s (delM s m r c) = true:=by
 refine rall_yes fun i hi=>rall_yes fun j hj=>?_
 have h1:=safe_cell hsafe hi hj
 have e:=ag_lo (ag_del hr hc ho h) i j
 unfold cellSafe at h1 ⊢
 rw [e.1,e.2,del_out hi j ho]
 by_cases e2:i = r ∧ j = c
 ·obtain ⟨rfl,rfl⟩:=e2
  rw [only_lo hs hr hc (.inr h),only_hi hs hr hc (.inr h)] at h1
  have hg:=hs.gap.1
  rw [decide_eq_false (show ¬ s.gap ≤ s.A i j - s.A i j by omega),Bool.and_false,Bool.or_false] at h1
  rw [h1];rfl
 ·have:(decide (i = r) && decide (j = c)) = false:=by
   cases hq:(decide (i = r) && decide (j = c))
   ·rfl
   ·rw [Bool.and_eq_true,decide_eq_true_eq,decide_eq_true_eq] at hq;exact (e2 hq).elim
  rw [this,Bool.not_false,Bool.and_true];exact h1
theorem cmp_del (w:Bool) {s:Sheet} (hs:SheetOk s) {m:List Int} (hm:MaskOk s m) {r c:Nat} (hr:r < s.R) (hc:c < s.C) (ho:outS m r c = true):cmpM w s (delM s m r c) m < 0:=by
 have h1:=del_many hs hm hr hc ho
 have h2:=del_left hs (m:=m) (r:=r) (c:=c) ho
 rw [cmpM_lt]
 unfold p1 p2
 cases w
 ·simp only [Bool.false_eq_true,if_false];left;omega
 ·simp only [if_true]
  by_cases e:leftTo s (delM s m r c) s.R < leftTo s m s.R
  ·exact .inl e
  ·exact .inr ⟨by omega,.inl (by omega)⟩
theorem safe_covers {s:Sheet} (hs:SheetOk s) {m:List Int} (hm:MaskOk s m) (h:safeS s m = true):coversS s m = true:=by
 refine rall_yes fun r hr=>?_
 unfold coverR
 obtain ⟨a,ha,ha16,haC⟩:=mask_16 hs hs.sec hr
 obtain ⟨b,hb,hb16,-⟩:=mask_16 hs hm hr
 rw [ha,hb,Int.toNat_natCast,Int.toNat_natCast]
 refine decide_eq_true (Nat.eq_of_testBit_eq fun j=>?_)
 rw [Nat.zero_testBit]
 by_cases hj:j < s.C
 ·have h1:=safe_cell h hr hj
  unfold cellSafe outS at h1
  rw [ha,hb,Int.toNat_natCast,Int.toNat_natCast] at h1
  unfold sdiff
  cases ea:a.testBit j
  ·simp [ea]
  ·rw [ea] at h1
   cases eb:b.testBit j
   ·rw [eb] at h1;cases h1
   ·simp [ea,eb]
 ·have ea:a.testBit j = false:=Nat.testBit_lt_two_pow (Nat.lt_of_lt_of_le haC (Nat.pow_le_pow_right (by omega) (by omega)))
  unfold sdiff
  simp [ea]
theorem good_le (w:Bool) {s:Sheet} (hs:SheetOk s):∀ (n:Nat) (m:List Int),MaskOk s m → manyTo m s.R ≤ n → safeS s m = true → ∃ g,MaskOk s g ∧ goodS s g = true ∧ (g = m ∨ cmpM w s g m < 0)
 | 0,m,hm,hn,h=>by
  cases hl:loneS s m
  ·exact ⟨m,hm,by unfold goodS;rw [safe_covers hs hm h,hl,h];rfl,.inl rfl⟩
  ·obtain ⟨r,c,hr,hc,ho,hh⟩:=lone_find hs hm hl
   have:=del_many hs hm hr hc ho
   have:=many_nn (delM s m r c) s.R
   omega
 | n + 1,m,hm,hn,h=>by
  cases hl:loneS s m
  ·exact ⟨m,hm,by unfold goodS;rw [safe_covers hs hm h,hl,h];rfl,.inl rfl⟩
  ·obtain ⟨r,c,hr,hc,ho,hh⟩:=lone_find hs hm hl
   have:=del_many hs hm hr hc ho
   obtain ⟨g,hg,hgood,hle⟩:=good_le w hs n (delM s m r c) (del_ok hm hc) (by omega) (safe_del hs hr hc ho hh h)
   refine ⟨g,hg,hgood,.inr ?_⟩
   have hd:=cmp_del w hs hm hr hc ho
   rcases hle with rfl|hle
   ·exact hd
   ·exact cmpM_trans (by rw [hg.len,del_len]) hle hd
/-- The best mask is safe and no safe mask comes before it; with no best mask none is safe. -/
theorem best_all (w:Bool) {s:Sheet} (hs:SheetOk s):match bestO w s with
  | none=>∀ m,MaskOk s m → safeS s m = false
  | some b=>MaskOk s b ∧ safeS s b = true ∧ ∀ m,MaskOk s m → safeS s m = true → ¬ cmpM w s m b < 0:=by
 obtain ⟨N,hN⟩:∃ N,2 ^ (s.C * s.R) = N:=⟨_,rfl⟩
 have h:=bst_inv w s N
 have e:bestO w s = bstS w s N:=by unfold bestO;rw [hN]
 have hgood:∀ m,MaskOk s m → safeS s m = true → ∃ k,k < N ∧ goodS s (mkS s k) = true ∧ (mkS s k = m ∨ cmpM w s (mkS s k) m < 0):=fun m hm hsf=>by
  obtain ⟨g,hg,h1,h2⟩:=good_le w hs (manyTo m s.R).toNat m hm (by have:=many_nn m s.R;omega) hsf
  obtain ⟨k,hk,rfl⟩:=mk_of hg
  exact ⟨k,by rw [← hN];exact hk,h1,h2⟩
 rw [e]
 cases hb:bstS w s N with
 | none =>
  rw [hb] at h
  intro m hm
  cases hsf:safeS s m
  ·rfl
  ·obtain ⟨k,hk,h1,_⟩:=hgood m hm hsf
   have:=h k hk;rw [h1] at this;cases this
 | some b =>
  rw [hb] at h
  obtain ⟨h1,⟨k0,hk0,hbk⟩,h3⟩:=h
  have hbo:MaskOk s b:=by rw [hbk];exact mkS_ok s k0
  refine ⟨hbo,?_,fun m hm hsf hlt=>?_⟩
  ·unfold goodS at h1;simp only [Bool.and_eq_true] at h1;exact h1.2
  ·obtain ⟨k,hk,h4,h5⟩:=hgood m hm hsf
   have h6:=h3 k hk h4
   rcases h5 with h5|h5
   ·rw [h5] at h6;exact h6 hlt
   ·exact h6 (cmpM_trans (by rw [mkS_len,hm.len]) h5 hlt)
end Go.Proofs.Ytlffjnmbpoemnaa

namespace Go.Proofs.Ytlffjnmbpoemnaa
open Go.RowKit

theorem cntR_bd2 (m:List Int) (r:Nat) {c:Nat} (hc:c ≤ 4):0 ≤ cntR m r c ∧ cntR m r c ≤ 4:=by
 have h1:=sumTo_bd (f:=fun i=>if outS m r i then 1 else 0) (B:=1) (by decide) (k:=c) fun i hi=>by split <;> omega
 have h2:0 ≤ cntR m r c:=sumTo_nn fun i hi=>by split <;> omega
 unfold cntR at h2 ⊢
 omega
theorem left_bd2 {s:Sheet} (hs:SheetOk s) (m:List Int) {r:Nat} (hr:r ≤ s.R):0 ≤ leftTo s m r ∧ leftTo s m r ≤ 160000:=by
 have h1:=sumTo_bd (f:=fun i=>outTo s m i s.C) (B:=40000) (by decide) (k:=r) fun i hi=>by
  have:=outTo_bd hs m (show i < s.R by omega) (Nat.le_refl s.C);omega
 have h2:0 ≤ leftTo s m r:=sumTo_nn fun i hi=>(outTo_bd hs m (show i < s.R by omega) (Nat.le_refl s.C)).1
 have:=hs.r4
 unfold leftTo at h2 ⊢
 omega
theorem many_bd2 (m:List Int) {r:Nat} (hr:r ≤ 4):0 ≤ manyTo m r ∧ manyTo m r ≤ 16:=by
 have h1:=sumTo_bd (f:=fun i=>((pop (m.getD i 0).toNat:Nat):Int)) (B:=4) (by decide) (k:=r) fun i hi=>by
  have:=pop_le (m.getD i 0).toNat;omega
 have h2:=many_nn m r
 unfold manyTo at h2 ⊢
 omega
theorem cnt_pop {s:Sheet} (hs:SheetOk s) {m:List Int} (hm:MaskOk s m) {r:Nat} (hr:r < s.R):manyTo m (r + 1) = manyTo m r + cntR m r s.C:=by
 have c4:=hs.c4
 obtain ⟨k,hk,hk16,hkC⟩:=mask_16 hs hm hr
 have:=pop_cnt s.C (by omega) k hk16 hkC
 show manyTo m r + ((pop (m.getD r 0).toNat:Nat):Int) = _
 unfold cntR outS
 rw [hk,Int.toNat_natCast,this]
set_option maxHeartbeats 16000000
set_option maxRecDepth 100000
theorem size_ok (f:ShF) (s:Sheet) (hs:SheetOk s) (z e:Bool) (m:List Int) (hm:MaskOk s m):ACall Try.prog 53 [aSh f s,aInts z e m] [] (fun v h=>v = .tup 2 (ofL [AI (manyTo m s.R),AI (leftTo s m s.R)]) ∧ h = []):=by
 have r4:=hs.r4
 have r1:=hs.r1
 have c4:=hs.c4
 have hml:=hm.len
 have hRl:s.R = s.amounts.length:=rfl
 have cC:=columns_ok f s (by omega)
 (refine fcall_of mixed Try.func53 rfl (by decide) (hs:={}) ?k (ac:=?ac) ?c (rs:=?rs) ?r ?l ?H;(case k=>kernel_rfl);(case c=>(conv=>(lhs;cbv)));(case r=>(conv=>(lhs;cbv)));(case l=>exact Nat.le_of_ble_eq_true rfl))
 (repeat' ((try conv=>whnf);first|(with_reducible first|refine wT ?_|refine wF ?_|(refine wI (fun hq=>?_) (fun hq=>?_) <;> try simp only [zA,zE,zD,zJ,zB,zI,wK,wL] at hq)|refine wA ?_|refine wB ?_|refine wC ?_|refine wD ?_|refine wE ?_)|((with_reducible refine wN ?_ ?_);focus exact needA)|(with_reducible refine wG ?_)|(with_reducible refine wP ?_)))
 all_goals (try conv=>whnf)
 refine FLoop.of (ACalls.mono _) (X:=Nat) (fun r=>[(1,aInts z e m),(2,.ptr 0 0),(4,AI (manyTo m r)),(5,AI (leftTo s m r)),(6,AI r)]) (fun _=>[.box 3 (cSh f s)]) (fun r=>r ≤ s.R) (fun r=>s.R - r) 0 ⟨Nat.zero_le _,[0],Cut.A,allA⟩ ?_
 intro r hr
 have b1:=many_bd2 m (show r ≤ 4 by omega)
 have b2:=left_bd2 hs m hr
 by_cases hlt:r < s.R
 ·obtain ⟨b,hb,hb16,-⟩:=mask_16 hs hm hlt
  have hrow:=hs.row r hlt
  (repeat' ((try conv=>whnf);first|(with_reducible first|refine wT ?_|refine wF ?_|(refine wI (fun hq=>?_) (fun hq=>?_) <;> try simp only [zA,zE,zD,zJ,zB,zI,wK,wL] at hq)|refine wA ?_|refine wB ?_|refine wC ?_|refine wD ?_|refine wE ?_)|((with_reducible refine wN ?_ ?_);focus exact needA)|(with_reducible refine wG ?_)|(with_reducible refine wP ?_)))
  all_goals (try conv=>whnf)
  refine FLoop.of (ACalls.mono _) (X:=Nat) (fun c=>[(1,aInts z e m),(2,.ptr 0 0),(4,AI (manyTo m r + cntR m r c)),(5,AI (leftTo s m r + outTo s m r c)),(6,AI r),(7,AI c)]) (fun _=>[.box 3 (cSh f s)]) (fun c=>c ≤ s.C) (fun c=>s.C - c) 0
   ⟨Nat.zero_le _,[0],Cut.A,Ln.A,Ln.A,Ln.int (by show manyTo m r = manyTo m r + 0;omega),Ln.int (by show leftTo s m r = leftTo s m r + 0;omega),Ln.A,Ln.A,True.intro⟩ ?_
  intro c hc
  have b3:=cntR_bd2 m r (show c ≤ 4 by omega)
  have b4:=outTo_bd hs m hlt hc
  by_cases hltc:c < s.C
  ·have ha:0 ≤ (s.amounts.getD r []).getD c 0 ∧ (s.amounts.getD r []).getD c 0 ≤ 10000:=hs.amt r c hlt hltc
   have eo:outS m r c = b.testBit c:=by unfold outS;rw [hb];rfl
   have cH:=has_ok b c (by omega)
   cases hq7:b.testBit c
   ·rw [hq7] at cH
    have e1:cntR m r (c + 1) = cntR m r c + 0:=by show cntR m r c + (if outS m r c then 1 else 0) = _;rw [eo,hq7];rfl
    have e2:outTo s m r (c + 1) = outTo s m r c + 0:=by show outTo s m r c + (if outS m r c then s.A r c else 0) = _;rw [eo,hq7];rfl
    (repeat' ((try conv=>whnf);first|(with_reducible first|refine wT ?_|refine wF ?_|(refine wI (fun hq=>?_) (fun hq=>?_) <;> try simp only [zA,zE,zD,zJ,zB,zI,wK,wL] at hq)|refine wA ?_|refine wB ?_|refine wC ?_|refine wD ?_|refine wE ?_)|((with_reducible refine wN ?_ ?_);focus exact needA)|(with_reducible refine wG ?_)|(refine FCall.pure (cC) ⟨Ln.sameB _ rfl,True.intro⟩ rfl ?_)|(rw [hb];(refine FCall.pure (cH) ⟨Ln.sameB _ rfl,Ln.sameB _ rfl,True.intro⟩ rfl ?_))|(with_reducible refine wP ?_)))
    all_goals (try conv=>whnf)
    exact ⟨⟨c + 1,hltc,by show s.C - (c + 1) < s.C - c;omega,[0],Cut.A,allA⟩⟩
   ·rw [hq7] at cH
    have e1:cntR m r (c + 1) = cntR m r c + 1:=by show cntR m r c + (if outS m r c then 1 else 0) = _;rw [eo,hq7];rfl
    have e2:outTo s m r (c + 1) = outTo s m r c + (s.amounts.getD r []).getD c 0:=by show outTo s m r c + (if outS m r c then s.A r c else 0) = _;rw [eo,hq7];rfl
    (repeat' ((try conv=>whnf);first|(with_reducible first|refine wT ?_|refine wF ?_|(refine wI (fun hq=>?_) (fun hq=>?_) <;> try simp only [zA,zE,zD,zJ,zB,zI,wK,wL] at hq)|refine wA ?_|refine wB ?_|refine wC ?_|refine wD ?_|refine wE ?_)|((with_reducible refine wN ?_ ?_);focus exact needA)|(with_reducible refine wG ?_)|(refine FCall.pure (cC) ⟨Ln.sameB _ rfl,True.intro⟩ rfl ?_)|(rw [hb];(refine FCall.pure (cH) ⟨Ln.sameB _ rfl,Ln.sameB _ rfl,True.intro⟩ rfl ?_))|(with_reducible refine wP ?_)))
    all_goals (try conv=>whnf)
    exact ⟨⟨c + 1,hltc,by show s.C - (c + 1) < s.C - c;omega,[0],Cut.A,allA⟩⟩
  ·have hcE:c = s.C:=by omega
   subst hcE
   have e1:=cnt_pop hs hm hlt
   have e2:leftTo s m (r + 1) = leftTo s m r + outTo s m r s.C:=rfl
   (repeat' ((try conv=>whnf);first|(with_reducible first|refine wT ?_|refine wF ?_|(refine wI (fun hq=>?_) (fun hq=>?_) <;> try simp only [zA,zE,zD,zJ,zB,zI,wK,wL] at hq)|refine wA ?_|refine wB ?_|refine wC ?_|refine wD ?_|refine wE ?_)|((with_reducible refine wN ?_ ?_);focus exact needA)|(with_reducible refine wG ?_)|(refine FCall.pure (cC) ⟨Ln.sameB _ rfl,True.intro⟩ rfl ?_)|(with_reducible refine wP ?_)))
   all_goals (try conv=>whnf)
   exact ⟨⟨r + 1,hlt,by show s.R - (r + 1) < s.R - r;omega,[0],Cut.A,allA⟩⟩
 ·have hrE:r = s.R:=by omega
  subst hrE
  (repeat' ((try conv=>whnf);first|(with_reducible first|refine wT ?_|refine wF ?_|(refine wI (fun hq=>?_) (fun hq=>?_) <;> try simp only [zA,zE,zD,zJ,zB,zI,wK,wL] at hq)|refine wA ?_|refine wB ?_|refine wC ?_|refine wD ?_|refine wE ?_)|((with_reducible refine wN ?_ ?_);focus exact needA)|(with_reducible refine wG ?_)|(with_reducible refine wP ?_)))
  all_goals (try conv=>whnf)
  all_goals ((refine ⟨⟨_,[],[],Cut.nil _,Ln.sameB _ rfl,?_,rfl⟩⟩);rfl)
end Go.Proofs.Ytlffjnmbpoemnaa

namespace Go.Proofs.Ytlffjnmbpoemnaa
open Go.RowKit

theorem lex_lt (a b:List Int) (k:Nat):(cmpI (a.getD k 0) (b.getD k 0) < 0) = (a.getD k 0 < b.getD k 0):=by
 unfold cmpI
 apply propext
 split
 ·omega
 ·split <;> omega
theorem cmpM_1 {w:Bool} {s:Sheet} {a b:List Int} (h:¬ p1 w s a = p1 w s b):decide (cmpM w s a b < 0) = decide (p1 w s a < p1 w s b):=decide_eq_decide.2 (by rw [cmpM_lt];omega)
theorem cmpM_2 {w:Bool} {s:Sheet} {a b:List Int} (h:p1 w s a = p1 w s b) (h2:¬ p2 w s a = p2 w s b):decide (cmpM w s a b < 0) = decide (p2 w s a < p2 w s b):=decide_eq_decide.2 (by rw [cmpM_lt];omega)
theorem cmpM_3 {w:Bool} {s:Sheet} {a b:List Int} (h:p1 w s a = p1 w s b) (h2:p2 w s a = p2 w s b):decide (cmpM w s a b < 0) = decide (lexK a b a.length 0 < 0):=decide_eq_decide.2 (by rw [cmpM_lt];omega)
set_option maxHeartbeats 16000000
set_option maxRecDepth 100000
theorem better_ok (w:Bool) (f:ShF) (s:Sheet) (hs:SheetOk s) (z e:Bool) (a:List Int) (ha:MaskOk s a) (z2 e2:Bool) (b:List Int) (hb:MaskOk s b):ACall Try.prog 26 [aSh f s,aInts z e a,aInts z2 e2 b,.bool w] [] (fun v h=>v = .bool (decide (cmpM w s a b < 0)) ∧ h = []):=by
 have r4:=hs.r4
 have hal:=ha.len
 have hbl:=hb.len
 have cA:=size_ok f s hs z e a ha
 have cB:=size_ok f s hs z2 e2 b hb
 (refine fcall_of mixed Try.func26 rfl (by decide) (hs:={}) ?k (ac:=?ac) ?c (rs:=?rs) ?r ?l ?H;(case k=>kernel_rfl);(case c=>(conv=>(lhs;cbv)));(case r=>(conv=>(lhs;cbv)));(case l=>exact Nat.le_of_ble_eq_true rfl))
 cases w
 ·by_cases h1:manyTo a s.R = manyTo b s.R
  ·by_cases h2:leftTo s a s.R = leftTo s b s.R
   ·rw [show decide (cmpM false s a b < 0) = decide (lexK a b a.length 0 < 0) from cmpM_3 h1 h2]
    (repeat' ((try conv=>whnf);first|(with_reducible first|refine wT ?_|refine wF ?_|(refine wI (fun hq=>?_) (fun hq=>?_) <;> try simp only [zA,zE,zD,zJ,zB,zI,wK,wL] at hq)|refine wA ?_|refine wB ?_|refine wC ?_|refine wD ?_|refine wE ?_)|((with_reducible refine wN ?_ ?_);focus exact needA)|(with_reducible refine wG ?_)|(refine FCall.pure (cA) ⟨Ln.sameB _ rfl,Ln.sameB _ rfl,True.intro⟩ rfl ?_)|(refine FCall.pure (cB) ⟨Ln.sameB _ rfl,Ln.sameB _ rfl,True.intro⟩ rfl ?_)|(with_reducible refine wP ?_)))
    all_goals (try conv=>whnf)
    refine FLoop.of (ACalls.mono _) (X:=Nat) (fun k=>[(1,aInts z e a),(2,aInts z2 e2 b),(13,AI k)]) (fun _=>[]) (fun k=>k ≤ a.length ∧ lexK a b a.length 0 = lexK a b (a.length - k) k) (fun k=>a.length - k) 0 ⟨⟨Nat.zero_le _,rfl⟩,[],Cut.A,allA⟩ ?_
    rintro k ⟨hk,hL⟩
    by_cases hlt:k < a.length
    ·obtain ⟨m,hm⟩:∃ m,a.length - k = m + 1:=⟨a.length - k - 1,by omega⟩
     rw [hm,lexK] at hL
     by_cases he:a.getD k 0 = b.getD k 0
     ·rw [if_pos he] at hL
      (repeat' ((try conv=>whnf);first|(with_reducible first|refine wT ?_|refine wF ?_|(refine wI (fun hq=>?_) (fun hq=>?_) <;> try simp only [zA,zE,zD,zJ,zB,zI,wK,wL] at hq)|refine wA ?_|refine wB ?_|refine wC ?_|refine wD ?_|refine wE ?_)|((with_reducible refine wN ?_ ?_);focus exact needA)|(with_reducible refine wG ?_)|(with_reducible refine wP ?_)))
      all_goals (try conv=>whnf)
      exact ⟨⟨k + 1,⟨hlt,by rw [hL,show a.length - (k + 1) = m by omega]⟩,by show _ - (k + 1) < _ - k;omega,[],Cut.nil _,allA⟩⟩
     ·rw [if_neg he] at hL
      rw [hL,show decide (cmpI (a.getD k 0) (b.getD k 0) < 0) = decide (a.getD k 0 < b.getD k 0) from decide_eq_decide.2 (by rw [lex_lt])]
      (repeat' ((try conv=>whnf);first|(with_reducible first|refine wT ?_|refine wF ?_|(refine wI (fun hq=>?_) (fun hq=>?_) <;> try simp only [zA,zE,zD,zJ,zB,zI,wK,wL] at hq)|refine wA ?_|refine wB ?_|refine wC ?_|refine wD ?_|refine wE ?_)|((with_reducible refine wN ?_ ?_);focus exact needA)|(with_reducible refine wG ?_)|(with_reducible refine wP ?_)))
      all_goals (try conv=>whnf)
      all_goals ((refine ⟨⟨_,[],[],Cut.nil _,Ln.sameB _ rfl,?_,rfl⟩⟩);rfl)
    ·rw [show a.length - k = 0 by omega,lexK] at hL
     rw [hL]
     (repeat' ((try conv=>whnf);first|(with_reducible first|refine wT ?_|refine wF ?_|(refine wI (fun hq=>?_) (fun hq=>?_) <;> try simp only [zA,zE,zD,zJ,zB,zI,wK,wL] at hq)|refine wA ?_|refine wB ?_|refine wC ?_|refine wD ?_|refine wE ?_)|((with_reducible refine wN ?_ ?_);focus exact needA)|(with_reducible refine wG ?_)|(with_reducible refine wP ?_)))
     all_goals (try conv=>whnf)
     all_goals ((refine ⟨⟨_,[],[],Cut.nil _,Ln.sameB _ rfl,?_,rfl⟩⟩);rfl)
   ·rw [show decide (cmpM false s a b < 0) = decide (leftTo s a s.R < leftTo s b s.R) from cmpM_2 h1 h2]
    (repeat' ((try conv=>whnf);first|(with_reducible first|refine wT ?_|refine wF ?_|(refine wI (fun hq=>?_) (fun hq=>?_) <;> try simp only [zA,zE,zD,zJ,zB,zI,wK,wL] at hq)|refine wA ?_|refine wB ?_|refine wC ?_|refine wD ?_|refine wE ?_)|((with_reducible refine wN ?_ ?_);focus exact needA)|(with_reducible refine wG ?_)|(refine FCall.pure (cA) ⟨Ln.sameB _ rfl,Ln.sameB _ rfl,True.intro⟩ rfl ?_)|(refine FCall.pure (cB) ⟨Ln.sameB _ rfl,Ln.sameB _ rfl,True.intro⟩ rfl ?_)|(with_reducible refine wP ?_)))
    all_goals (try conv=>whnf)
    all_goals ((refine ⟨⟨_,[],[],Cut.nil _,Ln.sameB _ rfl,?_,rfl⟩⟩);rfl)
  ·rw [show decide (cmpM false s a b < 0) = decide (manyTo a s.R < manyTo b s.R) from cmpM_1 h1]
   (repeat' ((try conv=>whnf);first|(with_reducible first|refine wT ?_|refine wF ?_|(refine wI (fun hq=>?_) (fun hq=>?_) <;> try simp only [zA,zE,zD,zJ,zB,zI,wK,wL] at hq)|refine wA ?_|refine wB ?_|refine wC ?_|refine wD ?_|refine wE ?_)|((with_reducible refine wN ?_ ?_);focus exact needA)|(with_reducible refine wG ?_)|(refine FCall.pure (cA) ⟨Ln.sameB _ rfl,Ln.sameB _ rfl,True.intro⟩ rfl ?_)|(refine FCall.pure (cB) ⟨Ln.sameB _ rfl,Ln.sameB _ rfl,True.intro⟩ rfl ?_)|(with_reducible refine wP ?_)))
   all_goals (try conv=>whnf)
   all_goals ((refine ⟨⟨_,[],[],Cut.nil _,Ln.sameB _ rfl,?_,rfl⟩⟩);rfl)
 ·by_cases h1:leftTo s a s.R = leftTo s b s.R
  ·by_cases h2:manyTo a s.R = manyTo b s.R
   ·rw [show decide (cmpM true s a b < 0) = decide (lexK a b a.length 0 < 0) from cmpM_3 h1 h2]
    (repeat' ((try conv=>whnf);first|(with_reducible first|refine wT ?_|refine wF ?_|(refine wI (fun hq=>?_) (fun hq=>?_) <;> try simp only [zA,zE,zD,zJ,zB,zI,wK,wL] at hq)|refine wA ?_|refine wB ?_|refine wC ?_|refine wD ?_|refine wE ?_)|((with_reducible refine wN ?_ ?_);focus exact needA)|(with_reducible refine wG ?_)|(refine FCall.pure (cA) ⟨Ln.sameB _ rfl,Ln.sameB _ rfl,True.intro⟩ rfl ?_)|(refine FCall.pure (cB) ⟨Ln.sameB _ rfl,Ln.sameB _ rfl,True.intro⟩ rfl ?_)|(with_reducible refine wP ?_)))
    all_goals (try conv=>whnf)
    refine FLoop.of (ACalls.mono _) (X:=Nat) (fun k=>[(1,aInts z e a),(2,aInts z2 e2 b),(13,AI k)]) (fun _=>[]) (fun k=>k ≤ a.length ∧ lexK a b a.length 0 = lexK a b (a.length - k) k) (fun k=>a.length - k) 0 ⟨⟨Nat.zero_le _,rfl⟩,[],Cut.A,allA⟩ ?_
    rintro k ⟨hk,hL⟩
    by_cases hlt:k < a.length
    ·obtain ⟨m,hm⟩:∃ m,a.length - k = m + 1:=⟨a.length - k - 1,by omega⟩
     rw [hm,lexK] at hL
     by_cases he:a.getD k 0 = b.getD k 0
     ·rw [if_pos he] at hL
      (repeat' ((try conv=>whnf);first|(with_reducible first|refine wT ?_|refine wF ?_|(refine wI (fun hq=>?_) (fun hq=>?_) <;> try simp only [zA,zE,zD,zJ,zB,zI,wK,wL] at hq)|refine wA ?_|refine wB ?_|refine wC ?_|refine wD ?_|refine wE ?_)|((with_reducible refine wN ?_ ?_);focus exact needA)|(with_reducible refine wG ?_)|(with_reducible refine wP ?_)))
      all_goals (try conv=>whnf)
      exact ⟨⟨k + 1,⟨hlt,by rw [hL,show a.length - (k + 1) = m by omega]⟩,by show _ - (k + 1) < _ - k;omega,[],Cut.nil _,allA⟩⟩
     ·rw [if_neg he] at hL
      rw [hL,show decide (cmpI (a.getD k 0) (b.getD k 0) < 0) = decide (a.getD k 0 < b.getD k 0) from decide_eq_decide.2 (by rw [lex_lt])]
      (repeat' ((try conv=>whnf);first|(with_reducible first|refine wT ?_|refine wF ?_|(refine wI (fun hq=>?_) (fun hq=>?_) <;> try simp only [zA,zE,zD,zJ,zB,zI,wK,wL] at hq)|refine wA ?_|refine wB ?_|refine wC ?_|refine wD ?_|refine wE ?_)|((with_reducible refine wN ?_ ?_);focus exact needA)|(with_reducible refine wG ?_)|(with_reducible refine wP ?_)))
      all_goals (try conv=>whnf)
      all_goals ((refine ⟨⟨_,[],[],Cut.nil _,Ln.sameB _ rfl,?_,rfl⟩⟩);rfl)
    ·rw [show a.length - k = 0 by omega,lexK] at hL
     rw [hL]
     (repeat' ((try conv=>whnf);first|(with_reducible first|refine wT ?_|refine wF ?_|(refine wI (fun hq=>?_) (fun hq=>?_) <;> try simp only [zA,zE,zD,zJ,zB,zI,wK,wL] at hq)|refine wA ?_|refine wB ?_|refine wC ?_|refine wD ?_|refine wE ?_)|((with_reducible refine wN ?_ ?_);focus exact needA)|(with_reducible refine wG ?_)|(with_reducible refine wP ?_)))
     all_goals (try conv=>whnf)
     all_goals ((refine ⟨⟨_,[],[],Cut.nil _,Ln.sameB _ rfl,?_,rfl⟩⟩);rfl)
   ·rw [show decide (cmpM true s a b < 0) = decide (manyTo a s.R < manyTo b s.R) from cmpM_2 h1 h2]
    (repeat' ((try conv=>whnf);first|(with_reducible first|refine wT ?_|refine wF ?_|(refine wI (fun hq=>?_) (fun hq=>?_) <;> try simp only [zA,zE,zD,zJ,zB,zI,wK,wL] at hq)|refine wA ?_|refine wB ?_|refine wC ?_|refine wD ?_|refine wE ?_)|((with_reducible refine wN ?_ ?_);focus exact needA)|(with_reducible refine wG ?_)|(refine FCall.pure (cA) ⟨Ln.sameB _ rfl,Ln.sameB _ rfl,True.intro⟩ rfl ?_)|(refine FCall.pure (cB) ⟨Ln.sameB _ rfl,Ln.sameB _ rfl,True.intro⟩ rfl ?_)|(with_reducible refine wP ?_)))
    all_goals (try conv=>whnf)
    all_goals ((refine ⟨⟨_,[],[],Cut.nil _,Ln.sameB _ rfl,?_,rfl⟩⟩);rfl)
  ·rw [show decide (cmpM true s a b < 0) = decide (leftTo s a s.R < leftTo s b s.R) from cmpM_1 h1]
   (repeat' ((try conv=>whnf);first|(with_reducible first|refine wT ?_|refine wF ?_|(refine wI (fun hq=>?_) (fun hq=>?_) <;> try simp only [zA,zE,zD,zJ,zB,zI,wK,wL] at hq)|refine wA ?_|refine wB ?_|refine wC ?_|refine wD ?_|refine wE ?_)|((with_reducible refine wN ?_ ?_);focus exact needA)|(with_reducible refine wG ?_)|(refine FCall.pure (cA) ⟨Ln.sameB _ rfl,Ln.sameB _ rfl,True.intro⟩ rfl ?_)|(refine FCall.pure (cB) ⟨Ln.sameB _ rfl,Ln.sameB _ rfl,True.intro⟩ rfl ?_)|(with_reducible refine wP ?_)))
   all_goals (try conv=>whnf)
   all_goals ((refine ⟨⟨_,[],[],Cut.nil _,Ln.sameB _ rfl,?_,rfl⟩⟩);rfl)
end Go.Proofs.Ytlffjnmbpoemnaa
