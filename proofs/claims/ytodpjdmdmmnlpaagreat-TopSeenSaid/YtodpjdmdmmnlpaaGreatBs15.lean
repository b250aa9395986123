/- Words for the steps of a reading / Calls that are given blocks of the caller / A block of the call's own that is handed on for good: from the call on nobody writes it, and what comes back may keep it / Bits of numbers that are not below zero -/
import Derived.Test.YtodpjdmdmmnlpaaGreatBs14

namespace Go.Proofs.YtodpjdmdmmnlpaaGreat
open Go.RowKit

theorem Fits.in64 {n:Int} {K:Int → Prop} (hn:-9223372036854775808 ≤ n ∧ n ≤ 9223372036854775807) (h:K n):Fits .i64 n K:=⟨by
 have:IntKind.i64.wrap n = n:=IntWalk.i64_in n (by omega)
 rw [this];exact h⟩
theorem Fits.inU {n:Int} {K:Int → Prop} (hn:0 ≤ n ∧ n ≤ 18446744073709551615) (h:K n):Fits .u64 n K:=⟨by
 have:IntKind.u64.wrap n = n:=IntWalk.u64_in n (by omega)
 rw [this];exact h⟩
theorem FLast.app {s:List Nat} {i:Nat} {K:Nat → Prop} (h:K i):FLast (s ++ [i]) K:=⟨i,by simp,h⟩
theorem FEnt.of {p:List Int × AV} {l:List Int} {v:AV} {K:List Int × AV → Prop} (e:p = (l,v)) (h:K (l,v)):FEnt p K:=⟨e ▸ h⟩
theorem FLook.yes {o:Option AV} {A:AV → Prop} {B:Prop} {v:AV} (h:o = some v) (a:A v):FLook o A B:=⟨fun v' h'=>(by rw [h] at h';injection h' with h';subst h';exact a),fun h'=>(by rw [h] at h';cases h')⟩
theorem FLook.no {o:Option AV} {A:AV → Prop} {B:Prop} (h:o = none) (b:B):FLook o A B:=⟨fun v' h'=>(by rw [h] at h';cases h'),fun _=>b⟩
theorem FLookI.yes {L:List (List Int × AV)} {l:List Int} {A:Nat → AV → Prop} {B:Prop} {i:Nat} {v:AV} (h:aidx L l = some i) (hv:(L.getD i default).2 = v) (a:A i v):FLookI L l A B:=⟨fun i' v' h' h2=>(by rw [h] at h';injection h' with h';subst h';rw [← h2,hv];exact a),fun h'=>(by rw [h] at h';cases h')⟩
theorem FLookI.no {L:List (List Int × AV)} {l:List Int} {A:Nat → AV → Prop} {B:Prop} (h:aidx L l = none) (b:B):FLookI L l A B:=⟨fun i v' h'=>(by rw [h] at h';cases h'),fun _=>b⟩
theorem Fits.any {k:IntKind} {n:Int} {K:Int → Prop} (h:K (k.wrap n)):Fits k n K:=⟨h⟩
theorem FIdx.lit {j n:Nat} {K:Nat → Prop} [OfNat Int j] (he:(OfNat.ofNat j:Int) = ((j:Nat):Int)) (hk:j < n) (h:K j):FIdx (OfNat.ofNat j) n K:=by
 rw [he];exact FIdx.nat hk h
theorem FIdx.int {j:Int} {n:Nat} {K:Nat → Prop} (hj:0 ≤ j ∧ j < n) (h:K j.toNat):FIdx j n K:=⟨hj,h⟩
theorem FTo.int {j:Int} {n:Nat} {K:Nat → Prop} (hj:0 ≤ j ∧ j ≤ n) (h:K j.toNat):FTo j n K:=⟨hj,h⟩

theorem Ln.sameB {σ:Nat → Nat → Prop} {Bp:Nat → Prop} {H:List AB} (v:AV) (h:v.pureB = true):Ln σ Bp H v v:=.same v (pureB_ok v h)
theorem Ln.int {σ:Nat → Nat → Prop} {Bp:Nat → Prop} {H:List AB} {k:IntKind} {a b:Int} (e:a = b):Ln σ Bp H (.int k a) (.int k b):=e ▸ .same _ trivial
theorem Ln.bool {σ:Nat → Nat → Prop} {Bp:Nat → Prop} {H:List AB} {a b:Bool} (e:a = b):Ln σ Bp H (.bool a) (.bool b):=e ▸ .same _ trivial
theorem Ln.ownE {σ:Nat → Nat → Prop} {Bp:Nat → Prop} {H:List AB} {d i n n':Nat} (h:σ d i) (e:n = n'):Ln σ Bp H (.own d n) (.own i n'):=e ▸ .own d n i h
theorem Ln.pubE {σ:Nat → Nat → Prop} {Bp:Nat → Prop} {H:List AB} {d n n' N sz:Nat} {c c':Nat → Nat → AV} (h:Bp d) (hd:H[d]? = some (.row N sz c)) (hn:n ≤ N) (e:n = n') (hc:∀ k,k < n → ∀ o,o < sz → c' k o = c k o):Ln σ Bp H (.own d n) (.sl false false n' sz c'):=e ▸ .pub d n N sz c c' h hd hn hc
/-- The first m of two tables. -/
def LnN (σ:Nat → Nat → Prop) (Bp:Nat → Prop) (H:List AB):Nat → (Nat → AV) → (Nat → AV) → Prop
 | 0,_,_=>True
 | m + 1,c,c'=>LnN σ Bp H m c c' ∧ Ln σ Bp H (c m) (c' m)
theorem LnN.get {σ:Nat → Nat → Prop} {Bp:Nat → Prop} {H:List AB} {c c':Nat → AV}:∀ {m:Nat},LnN σ Bp H m c c' → ∀ i,i < m → Ln σ Bp H (c i) (c' i)
 | m + 1,h,i,hi=>by
  by_cases e:i = m
  ·subst e;exact h.2
  ·exact h.1.get i (by omega)
theorem Ln.aggN {σ:Nat → Nat → Prop} {Bp:Nat → Prop} {H:List AB} {m:Nat} {c c':Nat → AV} (h:LnN σ Bp H m c c'):Ln σ Bp H (.agg m c) (.agg m c'):=.agg m c c' h.get
theorem Ln.tupN {σ:Nat → Nat → Prop} {Bp:Nat → Prop} {H:List AB} {m:Nat} {c c':Nat → AV} (h:LnN σ Bp H m c c'):Ln σ Bp H (.tup m c) (.tup m c'):=.tup m c c' h.get
theorem Ln.fnN {σ:Nat → Nat → Prop} {Bp:Nat → Prop} {H:List AB} {f:FuncId} {m:Nat} {c c':Nat → AV} (h:LnN σ Bp H m c c'):Ln σ Bp H (.fn f m c) (.fn f m c'):=.fn f m c c' h.get
theorem LnB.boxN {σ:Nat → Nat → Prop} {Bp:Nat → Prop} {H:List AB} {m:Nat} {c c':Nat → AV} (h:LnN σ Bp H m c c'):LnB σ Bp H (.box m c) (.box m c'):=⟨rfl,h.get⟩
theorem LnB.rowS {σ:Nat → Nat → Prop} {Bp:Nat → Prop} {H:List AB} {n sz:Nat} {c:Nat → Nat → AV}:LnB σ Bp H (.row n sz c) (.row n sz c):=⟨rfl,Nat.le_refl _,fun _ _ _ _=>LeV.refl _⟩
theorem LnB.rowE {σ:Nat → Nat → Prop} {Bp:Nat → Prop} {H:List AB} {n n' sz:Nat} {c c':Nat → Nat → AV} (hn:n' ≤ n) (hc:∀ k,k < n' → ∀ o,o < sz → c' k o = c k o):LnB σ Bp H (.row n sz c) (.row n' sz c'):=⟨rfl,hn,fun k hk o ho=>LeV.of (hc k hk o ho)⟩
theorem LnB.rowL {σ:Nat → Nat → Prop} {Bp:Nat → Prop} {H:List AB} {n n' sz:Nat} {c c':Nat → Nat → AV} (hn:n' ≤ n) (hc:∀ k,k < n' → ∀ o,o < sz → LeV (c k o) (c' k o)):LnB σ Bp H (.row n sz c) (.row n' sz c'):=⟨rfl,hn,hc⟩
/-- A row to which one element was appended. -/
theorem LnB.app {σ:Nat → Nat → Prop} {Bp:Nat → Prop} {H:List AB} {n sz:Nat} {c g:Nat → Nat → AV} {z:Nat → Nat → AV} {v:AV} (hg:∀ k,k < n → ∀ o,o < sz → g k o = c k o) (hv:∀ o,o < sz → g n o = elemC v o):LnB σ Bp H (.row (n + 1) sz (appc n c (bslC z [(0,v)]))) (.row (n + 1) sz g):=by
 refine ⟨rfl,Nat.le_refl _,fun k hk o ho=>LeV.of ?_⟩
 simp only [appc,bslC,updRm]
 by_cases h:k < n
 ·rw [if_pos h];exact hg k h o ho
 ·have:k = n:=by omega
  subst this
  rw [if_neg h,if_pos (Nat.sub_self _)];exact hv o ho
/-- The blocks that are kept, one by one. -/
def CutL (sel:List Nat) (h h2:List AB):List Nat → List AB → Prop
 | [],[]=>True
 | d :: ds,y :: ys=>d < h.length ∧ (y = .dead ∨ ∃ x,h[d]? = some x ∧ LnB (fun d i=>sel[i]? = some d) (fun d=>∀ i,sel[i]? = some d → ¬ live h2 i) h x y) ∧ CutL sel h h2 ds ys
 | _,_=>False
theorem CutL.get {sel:List Nat} {h h2:List AB}:∀ {ds:List Nat} {ys:List AB},CutL sel h h2 ds ys → ds.length = ys.length ∧ ∀ (i d:Nat) (y:AB),ds[i]? = some d → ys[i]? = some y → d < h.length ∧ (y = .dead ∨ ∃ x,h[d]? = some x ∧ LnB (fun d i=>sel[i]? = some d) (fun d=>∀ i,sel[i]? = some d → ¬ live h2 i) h x y)
 | [],[],_=>⟨rfl,fun i d y hd=>by simp at hd⟩
 | [],_ :: _,hh=>hh.elim
 | _ :: _,[],hh=>hh.elim
 | d :: ds,y :: ys,hh=>by
  obtain ⟨a,b⟩:=CutL.get hh.2.2
  refine ⟨by simp [a],fun i d' z hd hz=>?_⟩
  cases i with
  | zero =>
   simp only [List.getElem?_cons_zero,Option.some.injEq] at hd hz
   subst hd;subst hz
   exact ⟨hh.1,hh.2.1⟩
  | succ i=>exact b i d' z hd hz
def idsB (N:Nat) (sel:List Nat):Bool:=(List.range N).all fun i=>sel[i]? == some i
def nodupB : List Nat → Bool
 | []=>true
 | x :: xs=>!xs.contains x && nodupB xs
theorem nodupB_ok : ∀ {l:List Nat},nodupB l = true → l.Nodup
 | [],_=>List.nodup_nil
 | x :: xs,h=>by
  simp only [nodupB,Bool.and_eq_true,Bool.not_eq_true',List.contains_eq_mem,decide_eq_false_iff_not] at h
  exact List.nodup_cons.2 ⟨h.1,nodupB_ok h.2⟩
theorem Cut.of {N:Nat} {sel:List Nat} {h h2:List AB} (hN:N ≤ h2.length) (hid:idsB N sel = true) (hnd:nodupB sel = true) (hc:CutL sel h h2 sel h2):Cut N sel h h2 :=
 ⟨hN,hc.get.1,nodupB_ok hnd,fun i hi=>by simp only [idsB,List.all_eq_true,List.mem_range,beq_iff_eq] at hid;exact hid i hi,hc.get.2⟩
theorem Cut.nil (h:List AB):Cut 0 [] h []:=⟨Nat.zero_le _,rfl,List.nodup_nil,fun i hi=>by omega,fun i d x hd=>by simp at hd⟩
theorem CutL.turned {sel:List Nat} {h h2:List AB} {d:Nat} {x y:AB} {ds:List Nat} {ys:List AB} (hd:h[d]? = some x) (hx:LnB (fun d i=>sel[i]? = some d) (fun d=>∀ i,sel[i]? = some d → ¬ live h2 i) h x y) (hr:CutL sel h h2 ds ys):CutL sel h h2 (d :: ds) (y :: ys):=by
 refine ⟨?_,.inr ⟨x,hd,hx⟩,hr⟩
 rcases Nat.lt_or_ge d h.length with h'|h'
 ·exact h'
 ·rw [List.getElem?_eq_none h'] at hd;cases hd
theorem CutL.gone {sel:List Nat} {h h2:List AB} {d:Nat} {ds:List Nat} {ys:List AB} (hd:d < h.length) (hr:CutL sel h h2 ds ys):CutL sel h h2 (d :: ds) (.dead :: ys):=⟨hd,.inl rfl,hr⟩
theorem CutL.done {sel:List Nat} {h h2:List AB}:CutL sel h h2 [] []:=trivial
/-- A block that is not kept may be read. -/
theorem goneB {sel:List Nat} {h2:List AB} {d:Nat} (h:sel.contains d = false):∀ i,sel[i]? = some d → ¬ live h2 i:=fun i hi=>by
 have:=List.mem_of_getElem? hi
 simp only [List.contains_eq_mem,decide_eq_false_iff_not] at h
 exact (h this).elim

/-- A call of a function that changes nothing and makes nothing that stays. -/
theorem FCall.pure {P:Program} {f:FuncId} {xs xs':List AV} {H:List AB} {K:AV → List AB → Prop} {R:AV} (con:ACall P f xs' [] (fun r h=>r = R ∧ h = [])) (hx:LnL (fun d i=>([]:List Nat)[i]? = some d) (fun d=>d ∈ ([]:List Nat)) H xs xs') (hR:R.pureB = true) (h:K R H):FCall (ACalls P) f xs H K:=by
 refine ⟨ACall.at [] [] con (by simp) rfl (by simp) (fun i d x h=>by simp at h) hx ?_⟩
 rintro r h2 ⟨rfl,rfl⟩
 refine ⟨Nat.le_refl _,.inl rfl,?_⟩
 rw [ren_pure _ hR]
 have:Proofs.YtodpjdmdmmnlpaaGreat.put [] H [] = H:=by simp [Proofs.YtodpjdmdmmnlpaaGreat.put,puts]
 rw [this];exact h
/-- The same, with blocks lent to be read. -/
theorem FCall.lend {P:Program} {f:FuncId} {xs xs':List AV} {H:List AB} {K:AV → List AB → Prop} {R:AV} (B:List Nat) (con:ACall P f xs' [] (fun r h=>r = R ∧ h = [])) (hx:LnL (fun d i=>([]:List Nat)[i]? = some d) (fun d=>d ∈ B) H xs xs') (hR:R.pureB = true) (hf:R.flat) (h:K R H):FCall (ACalls P) f xs H K:=by
 refine ⟨ACall.at [] B con (by simp) rfl (by simp) (fun i d x h=>by simp at h) hx ?_⟩
 rintro r h2 ⟨rfl,rfl⟩
 refine ⟨Nat.le_refl _,.inr ⟨hf,fun x hx=>by cases hx⟩,?_⟩
 rw [ren_pure _ hR]
 have:Proofs.YtodpjdmdmmnlpaaGreat.put [] H [] = H:=by simp [Proofs.YtodpjdmdmmnlpaaGreat.put,puts]
 rw [this];exact h
/-- A state of which just some temporaries are known. -/
def slots : List (Nat × AV) → Env
 | [],_=>.bot
 | (k,v) :: r,t=>if t = k then v else slots r t
def SlotsL (sel:List Nat) (h h2:List AB):List (Nat × AV) → Env → Prop
 | [],_=>True
 | (k,v) :: r,e=>LnK sel h h2 (e k) v ∧ SlotsL sel h h2 r e
theorem SlotsL.get {sel:List Nat} {h h2:List AB} {e:Env}:∀ {l:List (Nat × AV)},SlotsL sel h h2 l e → ∀ t,LnK sel h h2 (e t) (slots l t)
 | [],_,t=>.bot _
 | (k,v) :: r,hh,t=>by
  simp only [slots]
  split
  ·rename_i e1;subst e1;exact hh.1
  ·exact hh.2.get t
theorem FWk.of {N id:Nat} {K:Env → List AB → Prop} {e:Env} {h:List AB} (l:List (Nat × AV)) (h2:List AB) (sel:List Nat) (hc:Cut N sel h h2) (hs:SlotsL sel h h2 l e) (H:K (slots l) h2):FWk N id K e h:=⟨_,_,Wk.gen hc hs.get,H⟩
/-- A round of a loop has come to its end. -/
structure LEnd {X:Type} (N:Nat) (S:X → List (Nat × AV)) (H:X → List AB) (Inv:X → Prop) (μ:X → Nat) (x:X) (e:Env) (h:List AB):Prop where
 ex:∃ x',Inv x' ∧ μ x' < μ x ∧ ∃ sel,Cut N sel h (H x') ∧ SlotsL sel h (H x') (S x') e
theorem FLoop.ofA {C:CallP} (hC:C.Mono) {N:Nat} {c:ACo} {Q:AEx → Env → List AB → Prop} {e:Env} {h:List AB} {X:Type} (S:X → List (Nat × AV)) (H:X → List AB) (Inv:X → Prop) (μ:X → Nat) (x0:X)
  (start:Inv x0 ∧ ∃ sel,Cut N sel h (H x0) ∧ SlotsL sel h (H x0) (S x0) e)
  (round:∀ x,Inv x → awp C N c (AEx.then (LEnd N S H Inv μ x) Q) (slots (S x)) (H x)):FLoop C N c Q e h:=by
 have ex:∀ (e:Env) (h:List AB),(∃ x,Inv x ∧ e = slots (S x) ∧ h = H x) → ∃ y,(Inv y ∧ e = slots (S y) ∧ h = H y) ∧ ∀ x,Inv x → e = slots (S x) → h = H x → μ y ≤ μ x:=by
  intro e h ⟨x,hx⟩
  induction hk:μ x using Nat.strongRecOn generalizing x with
  | _ k ih =>
   by_cases hlt:∃ x',μ x' < k ∧ Inv x' ∧ e = slots (S x') ∧ h = H x'
   ·obtain ⟨x',h1,h2⟩:=hlt
    exact ih (μ x') h1 x' h2 rfl
   ·refine ⟨x,hx,fun x' i1 i2 i3=>Nat.le_of_not_lt fun h=>hlt ⟨x',by omega,i1,i2,i3⟩⟩
 let M:Env → List AB → Nat:=fun e h=>open Classical in if hh:∃ x,Inv x ∧ e = slots (S x) ∧ h = H x then μ (ex e h hh).choose else 0
 have hM:∀ (e:Env) (h:List AB) (hh:∃ x,Inv x ∧ e = slots (S x) ∧ h = H x),M e h = μ (ex e h hh).choose:=fun e h hh=>by
  simp only [M]
  rw [dif_pos hh]
 refine ⟨fun e h=>∃ x,Inv x ∧ e = slots (S x) ∧ h = H x,M,⟨_,_,Wk.gen start.2.choose_spec.1 start.2.choose_spec.2.get,x0,start.1,rfl,rfl⟩,?_⟩
 intro e1 h1 hh1
 obtain ⟨⟨hy1,hy2,hy3⟩,_⟩:=(ex e1 h1 hh1).choose_spec
 have e2:=hM e1 h1 hh1
 generalize (ex e1 h1 hh1).choose = y at *
 subst hy2
 subst hy3
 refine awp_mono hC c (fun ax e' h' hh=>?_) (round y hy1)
 cases ax with
 | normal =>
  obtain ⟨x',i1,i2,sel,i3,i4⟩:=hh.ex
  refine ⟨_,_,Wk.gen i3 i4.get,⟨x',i1,rfl,rfl⟩,?_⟩
  have hex':∃ x,Inv x ∧ slots (S x') = slots (S x) ∧ H x' = H x:=⟨x',i1,rfl,rfl⟩
  rw [e2,hM _ _ hex']
  exact Nat.lt_of_le_of_lt ((ex _ _ hex').choose_spec.2 x' i1 rfl rfl) i2
 | exit id=>exact hh
 | ret=>exact hh
theorem then_mono {A B:Env → List AB → Prop} {Q:AEx → Env → List AB → Prop} (h:∀ e h,A e h → B e h):∀ x e h',AEx.then A Q x e h' → AEx.then B Q x e h':=fun x e h' hh=>by
 cases x with
 | normal=>exact h _ _ hh
 | exit id=>exact hh
 | ret=>exact hh
theorem FLoop.of {C:CallP} (hC:C.Mono) {N:Nat} {c:ACo} {Q:AEx → Env → List AB → Prop} {e:Env} {h:List AB} {X:Type} (S:X → List (Nat × AV)) (H:X → List AB) (Inv:X → Prop) (μ:X → Nat) (x0:X)
  (start:Inv x0 ∧ ∃ sel,Cut N sel h (H x0) ∧ SlotsL sel h (H x0) (S x0) e)
  (round:∀ x,Inv x → fawp C N c (AEx.then (LEnd N S H Inv μ x) Q) (slots (S x)) (H x)):FLoop C N c Q e h :=
 FLoop.ofA hC S H Inv μ x0 start fun x hx=>fawp_ok hC c (round x hx)
structure LEnd2 {X Y:Type} (N:Nat) (S:X → Y → List (Nat × AV)) (H:X → Y → List AB) (Inv:X → Y → Prop) (μ:X → Y → Nat) (x:X) (y:Y) (e:Env) (h:List AB):Prop where
 ex:∃ x' y',Inv x' y' ∧ μ x' y' < μ x y ∧ ∃ sel,Cut N sel h (H x' y') ∧ SlotsL sel h (H x' y') (S x' y') e
theorem FLoop.of2 {C:CallP} (hC:C.Mono) {N:Nat} {c:ACo} {Q:AEx → Env → List AB → Prop} {e:Env} {h:List AB} {X Y:Type} (S:X → Y → List (Nat × AV)) (H:X → Y → List AB) (Inv:X → Y → Prop) (μ:X → Y → Nat) (x0:X) (y0:Y)
  (start:Inv x0 y0 ∧ ∃ sel,Cut N sel h (H x0 y0) ∧ SlotsL sel h (H x0 y0) (S x0 y0) e)
  (round:∀ x y,Inv x y → fawp C N c (AEx.then (LEnd2 N S H Inv μ x y) Q) (slots (S x y)) (H x y)):FLoop C N c Q e h :=
 FLoop.ofA hC (fun p:X × Y=>S p.1 p.2) (fun p=>H p.1 p.2) (fun p=>Inv p.1 p.2) (fun p=>μ p.1 p.2) (x0,y0) start fun p hp =>
  awp_mono hC c (then_mono fun _ _ ⟨x',y',h⟩=>⟨(x',y'),h⟩) (fawp_ok hC c (round p.1 p.2 hp))
structure LEnd3 {X Y Z:Type} (N:Nat) (S:X → Y → Z → List (Nat × AV)) (H:X → Y → Z → List AB) (Inv:X → Y → Z → Prop) (μ:X → Y → Z → Nat) (x:X) (y:Y) (z:Z) (e:Env) (h:List AB):Prop where
 ex:∃ x' y' z',Inv x' y' z' ∧ μ x' y' z' < μ x y z ∧ ∃ sel,Cut N sel h (H x' y' z') ∧ SlotsL sel h (H x' y' z') (S x' y' z') e
theorem FLoop.of3 {C:CallP} (hC:C.Mono) {N:Nat} {c:ACo} {Q:AEx → Env → List AB → Prop} {e:Env} {h:List AB} {X Y Z:Type} (S:X → Y → Z → List (Nat × AV)) (H:X → Y → Z → List AB) (Inv:X → Y → Z → Prop) (μ:X → Y → Z → Nat) (x0:X) (y0:Y) (z0:Z)
  (start:Inv x0 y0 z0 ∧ ∃ sel,Cut N sel h (H x0 y0 z0) ∧ SlotsL sel h (H x0 y0 z0) (S x0 y0 z0) e)
  (round:∀ x y z,Inv x y z → fawp C N c (AEx.then (LEnd3 N S H Inv μ x y z) Q) (slots (S x y z)) (H x y z)):FLoop C N c Q e h :=
 FLoop.ofA hC (fun p:X × Y × Z=>S p.1 p.2.1 p.2.2) (fun p=>H p.1 p.2.1 p.2.2) (fun p=>Inv p.1 p.2.1 p.2.2) (fun p=>μ p.1 p.2.1 p.2.2) (x0,y0,z0) start fun p hp =>
  awp_mono hC c (then_mono fun _ _ ⟨x',y',z',h⟩=>⟨(x',y',z'),h⟩) (fawp_ok hC c (round p.1 p.2.1 p.2.2 hp))
structure LEnd4 {X Y Z V:Type} (N:Nat) (S:X → Y → Z → V → List (Nat × AV)) (H:X → Y → Z → V → List AB) (Inv:X → Y → Z → V → Prop) (μ:X → Y → Z → V → Nat) (x:X) (y:Y) (z:Z) (v:V) (e:Env) (h:List AB):Prop where
 ex:∃ x' y' z' v',Inv x' y' z' v' ∧ μ x' y' z' v' < μ x y z v ∧ ∃ sel,Cut N sel h (H x' y' z' v') ∧ SlotsL sel h (H x' y' z' v') (S x' y' z' v') e
theorem FLoop.of4 {C:CallP} (hC:C.Mono) {N:Nat} {c:ACo} {Q:AEx → Env → List AB → Prop} {e:Env} {h:List AB} {X Y Z V:Type} (S:X → Y → Z → V → List (Nat × AV)) (H:X → Y → Z → V → List AB) (Inv:X → Y → Z → V → Prop) (μ:X → Y → Z → V → Nat) (x0:X) (y0:Y) (z0:Z) (v0:V)
  (start:Inv x0 y0 z0 v0 ∧ ∃ sel,Cut N sel h (H x0 y0 z0 v0) ∧ SlotsL sel h (H x0 y0 z0 v0) (S x0 y0 z0 v0) e)
  (round:∀ x y z v,Inv x y z v → fawp C N c (AEx.then (LEnd4 N S H Inv μ x y z v) Q) (slots (S x y z v)) (H x y z v)):FLoop C N c Q e h :=
 FLoop.ofA hC (fun p:X × Y × Z × V=>S p.1 p.2.1 p.2.2.1 p.2.2.2) (fun p=>H p.1 p.2.1 p.2.2.1 p.2.2.2) (fun p=>Inv p.1 p.2.1 p.2.2.1 p.2.2.2) (fun p=>μ p.1 p.2.1 p.2.2.1 p.2.2.2) (x0,y0,z0,v0) start fun p hp =>
  awp_mono hC c (then_mono fun _ _ ⟨x',y',z',v',h⟩=>⟨(x',y',z',v'),h⟩) (fawp_ok hC c (round p.1 p.2.1 p.2.2.1 p.2.2.2 hp))
/-- A round of a loop over a function has come to its end. -/
structure REnd {X:Type} (N:Nat) (e1:Env) (S:X → List (Nat × AV)) (H:X → List AB) (Inv:X → Prop) (h:List AB):Prop where
 ex:∃ x',Inv x' ∧ ∃ sel,Cut N sel h (H x') ∧ SlotsL sel h (H x') (S x') e1
def rfC {X:Type} (N:Nat) (e1:Env) (S:X → List (Nat × AV)) (H:X → List AB) (Inv:X → Prop) (Q:AEx → Env → List AB → Prop):AEx → Env → List AB → Prop
 | .normal,_,h=>REnd N e1 S H Inv h
 | .exit id,_,h=>Q (.exit id) e1 h
 | .ret,_,h=>Q .ret e1 h
theorem FRange.ofG (mv:Bool) {C:CallP} (hC:C.Mono) {N:Nat} {it:AX} {ps:List Nat} {a b:ACo} {Q:AEx → Env → List AB → Prop} {e:Env} {h:List AB} {X:Type} (len:Nat) (Lf:Nat → List AV) (S:X → List (Nat × AV)) (H:X → List AB) (Inv:Nat → X → Prop) (x0:X)
  (start:Inv 0 x0 ∧ ∃ sel,Cut N sel h (H x0) ∧ SlotsL sel h (H x0) (S x0) e)
  {gf m:Nat} {c:Nat → AV} (hit:it.ev (slots (S x0)) = fnv mv gf m c) (hp:((List.range m).all fun i=>(c i).pureB) = true) (hit2:C.iter mv gf ((List.range m).map c) ((List.range len).map Lf)) (hl:∀ k,k < len → (Lf k).length = ps.length)
  (round:∀ k x,k < len → Inv k x → fawp C (H x).length a (rfA fun e h=>fawp C (H x).length b (rfC (H x0).length (slots (S x)) S H (Inv (k + 1)) Q) e h) (putL (slots (S x)) ps (Lf k)) (H x))
  (done:∀ x,Inv len x → Q .normal (slots (S x)) (H x)):FRange C N it ps a b Q e h:=by
 obtain ⟨h1,sel,h2,h3⟩:=start
 refine ⟨slots (S x0),H x0,mv,gf,m,c,(List.range len).map Lf,fun k e h=>∃ x,Inv k x ∧ e = slots (S x) ∧ h = H x,Wk.gen h2 h3.get,⟨x0,h1,rfl,rfl⟩,hit,fun i hi=>pureB_ok _ (by simp only [List.all_eq_true,List.mem_range] at hp;exact hp i hi),hit2,fun y hy=>?_,?_,?_⟩
 ·obtain ⟨k,hk,rfl⟩:=List.mem_map.1 hy
  exact hl k (by simpa using hk)
 ·rintro k _ _ hk ⟨x,hx,rfl,rfl⟩
  have hk':k < len:=by simpa using hk
  have e1:((List.range len).map Lf).getD k [] = Lf k:=by simp [List.getD,hk']
  rw [e1]
  refine awp_mono hC a (rfA_mono fun e h hh=>awp_mono hC b (fun y e h hh=>?_) (fawp_ok hC b hh)) (fawp_ok hC a (round k x hk' hx))
  cases y with
  | normal =>
   obtain ⟨x',i1,sel,i2,i3⟩:=hh.ex
   exact ⟨_,_,Wk.gen i2 i3.get,x',i1,rfl,rfl⟩
  | exit id=>exact hh
  | ret=>exact hh
 ·rintro _ _ ⟨x,hx,rfl,rfl⟩
  exact done x (by simpa using hx)
theorem FRange.of {C:CallP} (hC:C.Mono) {N:Nat} {it:AX} {ps:List Nat} {a b:ACo} {Q:AEx → Env → List AB → Prop} {e:Env} {h:List AB} {X:Type} (len:Nat) (Lf:Nat → List AV) (S:X → List (Nat × AV)) (H:X → List AB) (Inv:Nat → X → Prop) (x0:X)
  (start:Inv 0 x0 ∧ ∃ sel,Cut N sel h (H x0) ∧ SlotsL sel h (H x0) (S x0) e)
  {gf m:Nat} {c:Nat → AV} (hit:it.ev (slots (S x0)) = .fn gf m c) (hp:((List.range m).all fun i=>(c i).pureB) = true) (hit2:C.iter false gf ((List.range m).map c) ((List.range len).map Lf)) (hl:∀ k,k < len → (Lf k).length = ps.length)
  (round:∀ k x,k < len → Inv k x → fawp C (H x).length a (rfA fun e h=>fawp C (H x).length b (rfC (H x0).length (slots (S x)) S H (Inv (k + 1)) Q) e h) (putL (slots (S x)) ps (Lf k)) (H x))
  (done:∀ x,Inv len x → Q .normal (slots (S x)) (H x)):FRange C N it ps a b Q e h:=FRange.ofG false hC len Lf S H Inv x0 start hit hp hit2 hl round done
theorem FRange.ofM {C:CallP} (hC:C.Mono) {N:Nat} {it:AX} {ps:List Nat} {a b:ACo} {Q:AEx → Env → List AB → Prop} {e:Env} {h:List AB} {X:Type} (len:Nat) (Lf:Nat → List AV) (S:X → List (Nat × AV)) (H:X → List AB) (Inv:Nat → X → Prop) (x0:X)
  (start:Inv 0 x0 ∧ ∃ sel,Cut N sel h (H x0) ∧ SlotsL sel h (H x0) (S x0) e)
  {gf m:Nat} {c:Nat → AV} (hit:it.ev (slots (S x0)) = .mv gf m c) (hp:((List.range m).all fun i=>(c i).pureB) = true) (hit2:C.iter true gf ((List.range m).map c) ((List.range len).map Lf)) (hl:∀ k,k < len → (Lf k).length = ps.length)
  (round:∀ k x,k < len → Inv k x → fawp C (H x).length a (rfA fun e h=>fawp C (H x).length b (rfC (H x0).length (slots (S x)) S H (Inv (k + 1)) Q) e h) (putL (slots (S x)) ps (Lf k)) (H x))
  (done:∀ x,Inv len x → Q .normal (slots (S x)) (H x)):FRange C N it ps a b Q e h:=FRange.ofG true hC len Lf S H Inv x0 start hit hp hit2 hl round done
theorem zA {p:Prop} [Decidable p]:(decide p = true) = p:=decide_eq_true_eq
theorem zB (a b:Bool):((a && b) = true) = (a = true ∧ b = true):=Bool.and_eq_true a b
theorem zC (a b:Bool):((a || b) = true) = (a = true ∨ b = true):=Bool.or_eq_true a b
theorem zD (b:Bool):((!b) = true) = (b = false):=Bool.not_eq_true' b
theorem zE {p:Prop} [Decidable p]:decide p = false ↔ ¬p:=decide_eq_false_iff_not
theorem zF {α:Type} [BEq α] [LawfulBEq α] {a b:α}:(a != b) = true ↔ a ≠ b:=bne_iff_ne
theorem zG {α:Type} [BEq α] [LawfulBEq α] {a b:α}:(a == b) = true ↔ a = b:=beq_iff_eq
theorem zH {a b:Bool}:(a && b) = false ↔ a = false ∨ b = false:=Bool.and_eq_false_iff
theorem zI {a b:Bool}:(a || b) = false ↔ a = false ∧ b = false:=Bool.or_eq_false_iff
theorem zJ (b:Bool):((!b) = false) = (b = true):=Bool.not_eq_false' b
end Go.Proofs.YtodpjdmdmmnlpaaGreat

namespace Go.Proofs.YtodpjdmdmmnlpaaGreat
open Go.RowKit

/-- The caller's names for what a callee names, computed before one goes on. -/
def frensL (K1:AV → (AV → Prop) → Prop):List AV → (List AV → Prop) → Prop
 | [],K=>K []
 | v :: vs,K=>K1 v fun v'=>frensL K1 vs fun vs'=>K (v' :: vs')
def fren (sel:List Nat) (N:Nat):Nat → AV → (AV → Prop) → Prop
 | 0,v,K=>frc (ren sel N v) K
 | _ + 1,.own d n,K=>nlit (tau sel N d) fun d'=>K (.own d' n)
 | _ + 1,.ptr d o,K=>nlit (tau sel N d) fun d'=>K (.ptr d' o)
 | _ + 1,.rp d sz k o,K=>nlit (tau sel N d) fun d'=>K (.rp d' sz k o)
 | _ + 1,.osl d sz lo n,K=>nlit (tau sel N d) fun d'=>K (.osl d' sz lo n)
 | _ + 1,.mpv d,K=>nlit (tau sel N d) fun d'=>K (.mpv d')
 | D + 1,.fn f m c,K=>match (AV.fn f m c).pureB with
  | true=>K (.fn f m c)
  | false=>frensL (fren sel N D) ((List.range m).map c) fun vs=>K (.fn f m (ofL vs))
 | D + 1,.agg m c,K=>match (AV.agg m c).pureB with
  | true=>K (.agg m c)
  | false=>frensL (fren sel N D) ((List.range m).map c) fun vs=>K (.agg m (ofL vs))
 | D + 1,.tup m c,K=>match (AV.tup m c).pureB with
  | true=>K (.tup m c)
  | false=>frensL (fren sel N D) ((List.range m).map c) fun vs=>K (.tup m (ofL vs))
 | _ + 1,v,K=>frc (ren sel N v) K
theorem frensL_e {K1:AV → (AV → Prop) → Prop} {r:AV → AV} (h1:∀ v K,K1 v K → K (r v)):∀ {vs:List AV} {K:List AV → Prop},frensL K1 vs K → K (vs.map r)
 | [],_,h=>h
 | _ :: _,K,h=>frensL_e h1 (K:=fun vs'=>K (_ :: vs')) (h1 _ _ h)
theorem fren_e {sel:List Nat} {N:Nat}:∀ (D:Nat) (v:AV) {K:AV → Prop},fren sel N D v K → K (ren sel N v)
 | 0,v,K,h=>frc_e h
 | D + 1,v,K,h=>by
  cases v
  case own=>exact nlit_e h
  case ptr=>exact nlit_e h
  case rp=>exact nlit_e h
  case osl=>exact nlit_e h
  case mpv=>exact nlit_e h
  case fn f m c =>
   simp only [fren] at h
   simp only [ren]
   split at h
   ·rename_i hp;rw [hp];exact h
   ·rename_i hp
    rw [hp]
    have:=frensL_e (fun v K hh=>fren_e D v hh) h
    rw [List.map_map] at this
    exact this
  case agg m c =>
   simp only [fren] at h
   simp only [ren]
   split at h
   ·rename_i hp;rw [hp];exact h
   ·rename_i hp
    rw [hp]
    have:=frensL_e (fun v K hh=>fren_e D v hh) h
    rw [List.map_map] at this
    exact this
  case tup m c =>
   simp only [fren] at h
   simp only [ren]
   split at h
   ·rename_i hp;rw [hp];exact h
   ·rename_i hp
    rw [hp]
    have:=frensL_e (fun v K hh=>fren_e D v hh) h
    rw [List.map_map] at this
    exact this
  all_goals exact frc_e h
def frenB (sel:List Nat) (N:Nat) (x:AB) (K:AB → Prop):Prop:=match x with
 | .dead=>K .dead
 | .box m c=>frensL (fren sel N 3) ((List.range m).map c) fun vs=>K (.box m (ofL vs))
 | .row n sz c=>K (.row n sz c)
 | .mp kt L=>K (.mp kt L)
 | .mit m n s=>fren sel N 1 m fun m'=>K (.mit m' n s)
 | .rwg n sz c=>K (.rwg n sz (fun k o=>ren sel N (c k o)))
theorem frenB_e {sel:List Nat} {N:Nat} {x:AB} {K:AB → Prop} (h:frenB sel N x K):K (renB sel N x):=by
 cases x with
 | dead=>exact h
 | box m c =>
  have:=frensL_e (fun v K hh=>fren_e 3 v hh) h
  rw [List.map_map] at this
  exact this
 | row n sz c=>exact h
 | mp kt L=>exact h
 | mit m n s=>exact fren_e 1 m h
 | rwg n sz c=>exact h
def frenBs (sel:List Nat) (N:Nat):List AB → (List AB → Prop) → Prop
 | [],K=>K []
 | x :: xs,K=>frenB sel N x fun y=>frenBs sel N xs fun ys=>K (y :: ys)
theorem frenBs_e {sel:List Nat} {N:Nat}:∀ {xs:List AB} {K:List AB → Prop},frenBs sel N xs K → K (xs.map (renB sel N))
 | [],_,h=>h
 | _ :: _,K,h=>frenBs_e (K:=fun ys=>K (_ :: ys)) (frenB_e h)
def fputs (sel:List Nat) (N:Nat):List Nat → List AB → List AB → (List AB → Prop) → Prop
 | d :: ds,x :: xs,H,K=>frenB sel N x fun y=>frcH (H.set d y) fun H'=>fputs sel N ds xs H' K
 | [],xs,H,K=>frenBs sel N xs fun ys=>frcH (H ++ ys) K
 | _ :: _,[],H,K=>K H
theorem fputs_e {sel:List Nat} {N:Nat}:∀ {ds:List Nat} {xs H:List AB} {K:List AB → Prop},fputs sel N ds xs H K → K (puts N sel ds xs H)
 | _ :: ds,_ :: xs,_,_,h=>fputs_e (ds:=ds) (xs:=xs) (frcH_e (frenB_e h))
 | [],xs,H,K,h=>by
  have:=frcH_e (frenBs_e h)
  simpa [puts] using this
 | _ :: _,[],_,_,h=>h
def GivL (sel:List Nat) (H:List AB):List Nat → List AB → Prop
 | [],[]=>True
 | d :: ds,x :: xs=>(∃ y,H[d]? = some y ∧ x.live ∧ LnB (fun d i=>sel[i]? = some d) (fun _=>False) H y x) ∧ GivL sel H ds xs
 | _,_=>False
theorem GivL.get {sel:List Nat} {H:List AB}:∀ {ds:List Nat} {xs:List AB},GivL sel H ds xs → ds.length = xs.length ∧ ∀ (i d:Nat) (x:AB),ds[i]? = some d → xs[i]? = some x → ∃ y,H[d]? = some y ∧ x.live ∧ LnB (fun d i=>sel[i]? = some d) (fun _=>False) H y x
 | [],[],_=>⟨rfl,fun i d x h=>by simp at h⟩
 | [],_ :: _,h=>h.elim
 | _ :: _,[],h=>h.elim
 | d :: ds,x :: xs,h=>by
  obtain ⟨a,b⟩:=GivL.get h.2
  refine ⟨by simp [a],fun i d' y hd hy=>?_⟩
  cases i with
  | zero =>
   simp only [List.getElem?_cons_zero,Option.some.injEq] at hd hy
   subst hd;subst hy
   exact h.1
  | succ i=>exact b i d' y hd hy
theorem FCall.give {P:Program} {f:FuncId} {xs xs':List AV} {H h':List AB} {K' K:AV → List AB → Prop} (sel B:List Nat) (con:ACall P f xs' h' K') (hnd:nodupB sel = true) (hBs:(B.all fun d=>!sel.contains d) = true)
  (hh:GivL sel H sel h') (hx:LnL (fun d i=>sel[i]? = some d) (fun d=>d ∈ B) H xs xs')
  (hK:∀ r h2,K' r h2 → sel.length ≤ h2.length ∧ (B = [] ∨ (r.flat ∧ ∀ x ∈ h2,x.flat)) ∧ nlit H.length fun N=>fren sel N 3 r fun r'=>fputs sel N sel h2 H fun H'=>K r' H'):FCall (ACalls P) f xs H K:=by
 refine ⟨ACall.at sel B con (nodupB_ok hnd) hh.get.1 (fun d hd hs=>?_) hh.get.2 hx fun r h2 hk=>?_⟩
 ·simp only [List.all_eq_true,Bool.not_eq_true',List.contains_eq_mem,decide_eq_false_iff_not] at hBs
  exact hBs d hd hs
 ·obtain ⟨a,b,c⟩:=hK r h2 hk
  have c:=nlit_e c
  exact ⟨a,b,fputs_e (K:=fun H'=>K _ H') (fren_e 3 _ (K:=fun r'=>fputs sel H.length sel h2 H fun H'=>K r' H') c)⟩
/-- A row that a function hands back, to be read only. -/
theorem ACall.pub {P:Program} {f:FuncId} {xs:List AV} {n N sz:Nat} {c:Nat → Nat → AV} (hn:n ≤ N) (H:ACall P f xs [] (fun r h=>r = .own 0 n ∧ h = [.row N sz c])):ACall P f xs [] (fun r h=>r = .sl false false n sz c ∧ h = []) :=
 ACall.wk (ACall.mono' P (by rintro _ _ ⟨rfl,rfl⟩;exact ⟨_,[],[],Cut.nil _,Ln.pubE (goneB rfl) rfl hn rfl (fun _ _ _ _=>rfl),rfl,rfl⟩) H)
theorem flat_row {n:Nat} {c:Nat → Nat → AV} (h:∀ k o,(c k o).flat):(AB.row n 1 c).flat:=fun k _ o _=>h k o
theorem flat_one {x:AB} (h:x.flat):∀ y ∈ [x],y.flat:=fun y hy=>by
 rw [List.mem_singleton.1 hy];exact h
end Go.Proofs.YtodpjdmdmmnlpaaGreat

namespace Go.Proofs.YtodpjdmdmmnlpaaGreat
open Go.RowKit

theorem live_dead {H:List AB} {d i:Nat} (h:live (H.set d .dead) i):live H i ∧ i ≠ d:=by
 obtain ⟨x,hx,hl⟩:=h
 by_cases e:d = i
 ·subst e
  rw [List.getElem?_set_self'] at hx
  cases hy:H[d]? with
  | none=>rw [hy] at hx;cases hx
  | some y=>rw [hy] at hx;cases hx;exact hl.elim
 ·rw [List.getElem?_set_ne e] at hx
  exact ⟨⟨x,hx,hl⟩,fun h=>e h.symm⟩
theorem MO_set {g:GM} {H:List AB} {d b:Nat} (h:MO g (H.set d .dead) b):MO g H b:=by
 obtain ⟨i,cap,hl,hg⟩:=h
 exact ⟨i,cap,(live_dead hl).1,hg⟩
theorem MM_set {F:Nat → Prop} {g:GM} {H:List AB} {d b:Nat} (h:MM F g (H.set d .dead) b):MM F g H b:=h.imp id MO_set
theorem HOK.bury {F:Nat → Prop} {g:GM} {w:World} {H:List AB} (d:Nat) (k:HOK F g w H):HOK F g w (H.set d .dead):=by
 refine HOK.of_all (fun i hi=>k.dom i (by simpa using hi)) (fun i hl=>k.lv i (live_dead hl).1) (fun i j b c c' h1 h2=>k.inj i j b c c' (live_dead h1).1 (live_dead h2).1) (fun i b cap x hx hg=>?_) (fun b hF=>⟨(k.fr b hF).1,fun h=>(k.fr b hF).2 (MO_set h)⟩)
 by_cases e:d = i
 ·subst e
  rw [List.getElem?_set_self'] at hx
  cases hy:H[d]? with
  | none=>rw [hy] at hx;cases hx
  | some y=>rw [hy] at hx;cases hx;trivial
 ·rw [List.getElem?_set_ne e] at hx
  exact (k.all hx hg).mono (Chg.refl _ w) (fun _ _ h=>MM_set h) (GM.le_refl _) rfl
theorem FCall.bury {P:Program} {f:FuncId} {xs:List AV} {H:List AB} {K:AV → List AB → Prop} (d:Nat) (xs':List AV) (hx:LnL (fun a i=>a = i ∧ a ≠ d) (fun a=>a = d) H xs xs') (h:FCall (ACalls P) f xs' (H.set d .dead) K):FCall (ACalls P) f xs H K:=by
 obtain ⟨h1,h2⟩:=h.h
 refine ⟨h1,fun F g w vs k hs hv=>?_⟩
 obtain ⟨hl,hget⟩:=hx.get
 have kd:∀ a b cap,a = d → live H a → g a = some (b,cap) → ¬ MM F g (H.set d .dead) b:=by
  rintro a b cap rfl hla hga (hF|⟨i,cap',hli,hgi⟩)
  ·exact (k.fr b hF).2 ⟨a,cap,hla,hga⟩
  ·have:=live_dead hli
   exact this.2 (k.inj i a b cap' cap this.1 hla hgi hga)
 refine (h2 F g w vs (k.bury d) (by omega) (fun i y hy=>?_)).mono ?_
 ·obtain ⟨x,hx1,hx2⟩:=hget i y hy
  exact hx2.rep k (fun _ h=>MM_set h) (fun a i p hai hga=>hai.1 ▸ hga) kd (hv i x hx1)
 ·rintro en w' ⟨v,r,h',g',e1,T,e2,e3⟩
  exact ⟨v,r,h',g',e1,⟨T.ok,T.gle,T.chg.weak (fun _ _ h=>MO_set h),fun b hb=>(T.new b hb).imp MO_set id⟩,e2,e3⟩
end Go.Proofs.YtodpjdmdmmnlpaaGreat

namespace Go.Proofs.YtodpjdmdmmnlpaaGreat
open Go.RowKit

/-- What is in the first set and not in the second one. -/
def sdiff (a b:Nat):Nat:=a ^^^ (a &&& b)
theorem testBit_sdiff (a b i:Nat):(sdiff a b).testBit i = (a.testBit i && !b.testBit i):=by
 unfold sdiff
 rw [Nat.testBit_xor,Nat.testBit_and]
 cases a.testBit i <;> cases b.testBit i <;> rfl
theorem sdiff_lt {a b n:Nat} (h:a < 2 ^ n):sdiff a b < 2 ^ n:=Nat.xor_lt_two_pow h (Nat.lt_of_le_of_lt Nat.and_le_left h)
abbrev k64 : IntKind → Bool
 | .i64 | .u64=>true
 | _=>false
theorem k64_bits {k:IntKind} (hk:k64 k = true):k.bits = 64:=by cases k <;> first|rfl|cases hk
theorem wrapN {k:IntKind} (hk:k64 k = true) {n:Nat} (h:n < 9223372036854775808):k.wrap (n:Int) = n:=by
 cases k <;> first|cases hk|skip
 ·exact IntWalk.i64_in _ (by omega)
 ·exact IntWalk.u64_in _ (by omega)
theorem ofIntN {n:Nat} (h:n < 9223372036854775808):(BitVec.ofInt 64 (n:Int)).toNat = n:=by
 rw [BitVec.ofInt_natCast,BitVec.toNat_ofNat];exact Nat.mod_eq_of_lt (by omega)
theorem FBit.andN {k:IntKind} (hk:k64 k = true) {a b:Nat} {K:Int → Prop} (ha:a < 9223372036854775808) (hb:b < 9223372036854775808) (h:K ((a &&& b:Nat):Int)):FBit .and k (a:Int) (b:Int) K:=⟨by
 have e:((BitVec.ofInt 64 (a:Int) &&& BitVec.ofInt 64 (b:Int)).toNat:Int) = ((a &&& b:Nat):Int):=by rw [BitVec.toNat_and,ofIntN ha,ofIntN hb]
 have e2:rawBit .and k (a:Int) (b:Int) = k.wrap ((BitVec.ofInt 64 (a:Int) &&& BitVec.ofInt 64 (b:Int)).toNat:Int):=by cases k <;> first|rfl|cases hk
 rw [e2,e,wrapN hk (Nat.lt_of_le_of_lt Nat.and_le_left ha)];exact h⟩
theorem FBit.orN {k:IntKind} (hk:k64 k = true) {a b:Nat} {K:Int → Prop} (ha:a < 9223372036854775808) (hb:b < 9223372036854775808) (h:K ((a ||| b:Nat):Int)):FBit .or k (a:Int) (b:Int) K:=⟨by
 have:a ||| b < 2 ^ 63:=Nat.or_lt_two_pow ha hb
 have e2:rawBit .or k (a:Int) (b:Int) = k.wrap ((BitVec.ofInt 64 (a:Int) ||| BitVec.ofInt 64 (b:Int)).toNat:Int):=by cases k <;> first|rfl|cases hk
 rw [e2,BitVec.toNat_or,ofIntN ha,ofIntN hb,wrapN hk (by omega)];exact h⟩
theorem FBit.andNotN {k:IntKind} (hk:k64 k = true) {a b:Nat} {K:Int → Prop} (ha:a < 9223372036854775808) (hb:b < 9223372036854775808) (h:K ((sdiff a b:Nat):Int)):FBit .andNot k (a:Int) (b:Int) K:=⟨by
 have e2:rawBit .andNot k (a:Int) (b:Int) = k.wrap ((BitVec.ofInt 64 (a:Int) &&& ~~~ BitVec.ofInt 64 (b:Int)).toNat:Int):=by cases k <;> first|rfl|cases hk
 have e:(BitVec.ofInt 64 (a:Int) &&& ~~~ BitVec.ofInt 64 (b:Int)).toNat = sdiff a b:=by
  apply Nat.eq_of_testBit_eq
  intro i
  rw [BitVec.toNat_and,Nat.testBit_and,ofIntN ha,testBit_sdiff]
  by_cases hi:i < 64
  ·congr 1
   rw [BitVec.testBit_toNat,BitVec.getLsbD_not,decide_eq_true hi,Bool.true_and,← BitVec.testBit_toNat,ofIntN hb]
  ·have:a.testBit i = false:=Nat.testBit_lt_two_pow (Nat.lt_of_lt_of_le ha (by
    have:(2:Nat) ^ 63 ≤ 2 ^ i:=Nat.pow_le_pow_right (by decide) (by omega)
    omega))
   rw [this];rfl
 rw [e2,e,wrapN hk (Nat.lt_of_lt_of_le (sdiff_lt (n:=63) (by omega)) (by decide))];exact h⟩
theorem FBit.shl1 {k:IntKind} (hk:k64 k = true) {j:Nat} {K:Int → Prop} (hj:j < 63) (h:K ((2 ^ j:Nat):Int)):FBit .shl k 1 (j:Int) K:=⟨by
 simp only [rawBit,k64_bits hk]
 have h1:(1:Int) * 2 ^ min ((j:Int)).toNat 64 = ((2 ^ j:Nat):Int):=by
  rw [Int.toNat_natCast,Nat.min_eq_left (by omega),Int.one_mul];simp
 have h2:2 ^ j < 2 ^ 63:=Nat.pow_lt_pow_right (by decide) hj
 rw [h1,wrapN hk (by omega)];exact h⟩
theorem FBit.shrN {k:IntKind} (hk:k64 k = true) {m j:Nat} {K:Int → Prop} (hj:j ≤ 64) (h:K ((m >>> j:Nat):Int)):FBit .shr k (m:Int) (j:Int) K:=⟨by
 simp only [rawBit,k64_bits hk]
 have h1:(m:Int).fdiv (2 ^ min ((j:Int)).toNat 64) = ((m >>> j:Nat):Int):=by
  rw [Int.toNat_natCast,Nat.min_eq_left (by omega),Nat.shiftRight_eq_div_pow]
  have:((2:Int) ^ j) = ((2 ^ j:Nat):Int):=by simp
  rw [this,Int.fdiv_eq_ediv_of_nonneg _ (Int.natCast_nonneg _)]
  rfl
 rw [h1];exact h⟩
theorem FBit.shrI {k:IntKind} (hk:k64 k = true) {x y:Int} {K:Int → Prop} (hx:0 ≤ x) (hy:0 ≤ y ∧ y ≤ 64) (h:K ((x.toNat >>> y.toNat:Nat):Int)):FBit .shr k x y K:=by
 have:=FBit.shrN hk (m:=x.toNat) (j:=y.toNat) (K:=K) (by omega) h
 rwa [Int.toNat_of_nonneg hx,Int.toNat_of_nonneg hy.1] at this
theorem FBit.shrNI {k:IntKind} (hk:k64 k = true) {m:Nat} {y:Int} {K:Int → Prop} (hy:0 ≤ y ∧ y ≤ 64) (h:K ((m >>> y.toNat:Nat):Int)):FBit .shr k (m:Int) y K:=FBit.shrI hk (by omega) hy h
theorem FBit.shrIN {k:IntKind} (hk:k64 k = true) {x:Int} {j:Nat} {K:Int → Prop} (hx:0 ≤ x) (hj:j ≤ 64) (h:K ((x.toNat >>> j:Nat):Int)):FBit .shr k x (j:Int) K:=FBit.shrI hk hx (by omega) h
theorem FBit.half {k:IntKind} (hk:k64 k = true) {m:Nat} {K:Int → Prop} (h:K ((m / 2:Nat):Int)):FBit .shr k (m:Int) 1 K:=by
 refine FBit.shrN (j:=1) hk (by decide) ?_
 rwa [Nat.shiftRight_eq_div_pow]
theorem FBit.shl1I {k:IntKind} (hk:k64 k = true) {y:Int} {K:Int → Prop} (hj:0 ≤ y ∧ y < 63) (h:K ((2 ^ y.toNat:Nat):Int)):FBit .shl k 1 y K:=by
 have:=FBit.shl1 hk (j:=y.toNat) (K:=K) (by omega) h
 rwa [Int.toNat_of_nonneg hj.1] at this
theorem FBit.orI {k:IntKind} (hk:k64 k = true) {x y:Int} {a b:Nat} {K:Int → Prop} (hx:x = a) (hy:y = b) (ha:a < 9223372036854775808) (hb:b < 9223372036854775808) (h:K ((a ||| b:Nat):Int)):FBit .or k x y K:=by
 subst hx;subst hy;exact FBit.orN hk ha hb h
theorem FBit.andI {k:IntKind} (hk:k64 k = true) {x y:Int} {a b:Nat} {K:Int → Prop} (hx:x = a) (hy:y = b) (ha:a < 9223372036854775808) (hb:b < 9223372036854775808) (h:K ((a &&& b:Nat):Int)):FBit .and k x y K:=by
 subst hx;subst hy;exact FBit.andN hk ha hb h
theorem FBit.andNotI {k:IntKind} (hk:k64 k = true) {x y:Int} {a b:Nat} {K:Int → Prop} (hx:x = a) (hy:y = b) (ha:a < 9223372036854775808) (hb:b < 9223372036854775808) (h:K ((sdiff a b:Nat):Int)):FBit .andNot k x y K:=by
 subst hx;subst hy;exact FBit.andNotN hk ha hb h
theorem and1 {k:IntKind} (hk:k64 k = true) (m:Nat):rawBit .and k (m:Int) 1 = ((m % 2:Nat):Int):=by
 have e2:rawBit .and k (m:Int) 1 = k.wrap ((BitVec.ofInt 64 (m:Int) &&& BitVec.ofInt 64 1).toNat:Int):=by cases k <;> first|rfl|cases hk
 have h1:(BitVec.ofInt 64 (1:Int)).toNat = 1:=by decide
 have h2:(BitVec.ofInt 64 (m:Int)).toNat = m % 2 ^ 64:=by rw [BitVec.ofInt_natCast,BitVec.toNat_ofNat]
 rw [e2,BitVec.toNat_and,h1,h2,Nat.and_one_is_mod,wrapN hk (by omega)]
 congr 1
 omega
theorem FBit.and1 {k:IntKind} (hk:k64 k = true) {m:Nat} {K:Int → Prop} (h:K ((m % 2:Nat):Int)):FBit .and k (m:Int) 1 K:=⟨by rw [Proofs.YtodpjdmdmmnlpaaGreat.and1 hk];exact h⟩
theorem bit_mod (m j:Nat):(m >>> j) % 2 = if m.testBit j then 1 else 0:=by
 rw [Nat.testBit_eq_decide_div_mod_eq,Nat.shiftRight_eq_div_pow]
 by_cases h:m / 2 ^ j % 2 = 1
 ·rw [decide_eq_true h,h];rfl
 ·rw [decide_eq_false h]
  simp only [Bool.false_eq_true,if_false]
  omega
theorem FBit.has {k:IntKind} (hk:k64 k = true) {m j:Nat} {K:Int → Prop} (h1:m.testBit j = true → K 1) (h0:m.testBit j = false → K 0):FBit .and k ((m >>> j:Nat):Int) 1 K:=⟨by
 rw [Proofs.YtodpjdmdmmnlpaaGreat.and1 hk,bit_mod]
 cases h:m.testBit j
 ·exact h0 h
 ·exact h1 h⟩
theorem FBit.hasT {k:IntKind} (hk:k64 k = true) {m j:Nat} {K:Int → Prop} (h:m.testBit j = true) (h1:K 1):FBit .and k ((m >>> j:Nat):Int) 1 K:=FBit.has hk (fun _=>h1) (fun h'=>by rw [h] at h';cases h')
theorem FBit.hasF {k:IntKind} (hk:k64 k = true) {m j:Nat} {K:Int → Prop} (h:m.testBit j = false) (h1:K 0):FBit .and k ((m >>> j:Nat):Int) 1 K:=FBit.has hk (fun h'=>by rw [h] at h';cases h') (fun _=>h1)
end Go.Proofs.YtodpjdmdmmnlpaaGreat
