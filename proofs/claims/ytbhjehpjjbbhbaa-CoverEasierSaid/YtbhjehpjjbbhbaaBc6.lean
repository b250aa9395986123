/- Words for the steps of a reading / Calls that are given blocks of the caller / A block of the call's own that is handed on for good: from the call on nobody writes it, and what comes back may keep it / Bits of numbers that are not below zero / Words that find their own proofs / Cover: pools and watches as plain data; what the document says of them / Cover: forms of values; small functions of the reference. / Cover: the reference's Check, CanBe, IsWatch, CheckWatch. -/
import Derived.Test.YtbhjehpjjbbhbaaBc5
import Derived.Test.YtbhjehpjjbbhbaaProg
import Derived.KernelRfl
set_option linter.unusedSimpArgs false
set_option linter.unusedVariables false
namespace Go.Proofs.Ytbhjehpjjbbhbaa
open Go.RowKit

theorem Fits.in64 {n:Int} {K:Int → Prop} (hn:-9223372036854775808 ≤ n ∧ n ≤ 9223372036854775807) (h:K n):Fits .i64 n K:=⟨by
 have:IntKind.i64.wrap n = n:=IntWalk.i64_in n (by omega)
 rw [this];exact h⟩
theorem Fits.inU {n:Int} {K:Int → Prop} (hn:0 ≤ n ∧ n ≤ 18446744073709551615) (h:K n):Fits .u64 n K:=⟨by
 have:IntKind.u64.wrap n = n:=IntWalk.u64_in n (by omega)
 rw [this];exact h⟩
theorem FLast.app {s:List Nat} {i:Nat} {K:Nat → Prop} (h:K i):FLast (s ++ [i]) K:=⟨i,by simp,h⟩
theorem FEnt.of {p:List Int × AV} {l:List Int} {v:AV} {K:List Int × AV → Prop} (e:p = (l,v)) (h:K (l,v)):FEnt p K:=⟨e ▸ h⟩
theorem FLook.yes {o:Option AV} {A:AV → Prop} {B:Prop} {v:AV} (h:o = some v) (a:A v):FLook o A B:=⟨fun v' h'=>(by rw [h] at h';injection h' with h';subst h';exact a),fun h'=>(by rw [h] at h';cases h')⟩
theorem FLook.no {o:Option AV} {A:AV → Prop} {B:Prop} (h:o = none) (b:B):FLook o A B:=⟨fun v' h'=>(by rw [h] at h';cases h'),fun _=>b⟩
theorem FLookI.yes {L:List (List Int × AV)} {l:List Int} {A:Nat → AV → Prop} {B:Prop} {i:Nat} {v:AV} (h:aidx L l = some i) (hv:(L.getD i default).2 = v) (a:A i v):FLookI L l A B:=⟨fun i' v' h' h2=>(by rw [h] at h';injection h' with h';subst h';rw [← h2,hv];exact a),fun h'=>(by rw [h] at h';cases h')⟩
theorem FLookI.no {L:List (List Int × AV)} {l:List Int} {A:Nat → AV → Prop} {B:Prop} (h:aidx L l = none) (b:B):FLookI L l A B:=⟨fun i v' h'=>(by rw [h] at h';cases h'),fun _=>b⟩
theorem Fits.any {k:IntKind} {n:Int} {K:Int → Prop} (h:K (k.wrap n)):Fits k n K:=⟨h⟩
theorem FIdx.lit {j n:Nat} {K:Nat → Prop} [OfNat Int j] (he:(OfNat.ofNat j:Int) = ((j:Nat):Int)) (hk:j < n) (h:K j):FIdx (OfNat.ofNat j) n K:=by
 rw [he];exact FIdx.nat hk h
theorem FIdx.int {j:Int} {n:Nat} {K:Nat → Prop} (hj:0 ≤ j ∧ j < n) (h:K j.toNat):FIdx j n K:=⟨hj,h⟩
theorem FTo.int {j:Int} {n:Nat} {K:Nat → Prop} (hj:0 ≤ j ∧ j ≤ n) (h:K j.toNat):FTo j n K:=⟨hj,h⟩

theorem Ln.sameB {σ:Nat → Nat → Prop} {Bp:Nat → Prop} {H:List AB} (v:AV) (h:v.pureB = true):Ln σ Bp H v v:=.same v (pureB_ok v h)
theorem Ln.int {σ:Nat → Nat → Prop} {Bp:Nat → Prop} {H:List AB} {k:IntKind} {a b:Int} (e:a = b):Ln σ Bp H (.int k a) (.int k b):=e ▸ .same _ trivial
theorem Ln.bool {σ:Nat → Nat → Prop} {Bp:Nat → Prop} {H:List AB} {a b:Bool} (e:a = b):Ln σ Bp H (.bool a) (.bool b):=e ▸ .same _ trivial
theorem Ln.ownE {σ:Nat → Nat → Prop} {Bp:Nat → Prop} {H:List AB} {d i n n':Nat} (h:σ d i) (e:n = n'):Ln σ Bp H (.own d n) (.own i n'):=e ▸ .own d n i h
theorem Ln.pubE {σ:Nat → Nat → Prop} {Bp:Nat → Prop} {H:List AB} {d n n' N sz:Nat} {c c':Nat → Nat → AV} (h:Bp d) (hd:H[d]? = some (.row N sz c)) (hn:n ≤ N) (e:n = n') (hc:∀ k,k < n → ∀ o,o < sz → c' k o = c k o):Ln σ Bp H (.own d n) (.sl false false n' sz c'):=e ▸ .pub d n N sz c c' h hd hn hc
/-- The first m of two tables. -/
def LnN (σ:Nat → Nat → Prop) (Bp:Nat → Prop) (H:List AB):Nat → (Nat → AV) → (Nat → AV) → Prop
 | 0,_,_=>True
 | m + 1,c,c'=>LnN σ Bp H m c c' ∧ Ln σ Bp H (c m) (c' m)
theorem LnN.get {σ:Nat → Nat → Prop} {Bp:Nat → Prop} {H:List AB} {c c':Nat → AV}:∀ {m:Nat},LnN σ Bp H m c c' → ∀ i,i < m → Ln σ Bp H (c i) (c' i)
 | m + 1,h,i,hi=>by
  by_cases e:i = m
  ·subst e;exact h.2
  ·exact h.1.get i (by omega)
theorem Ln.aggN {σ:Nat → Nat → Prop} {Bp:Nat → Prop} {H:List AB} {m:Nat} {c c':Nat → AV} (h:LnN σ Bp H m c c'):Ln σ Bp H (.agg m c) (.agg m c'):=.agg m c c' h.get
theorem Ln.tupN {σ:Nat → Nat → Prop} {Bp:Nat → Prop} {H:List AB} {m:Nat} {c c':Nat → AV} (h:LnN σ Bp H m c c'):Ln σ Bp H (.tup m c) (.tup m c'):=.tup m c c' h.get
theorem Ln.fnN {σ:Nat → Nat → Prop} {Bp:Nat → Prop} {H:List AB} {f:FuncId} {m:Nat} {c c':Nat → AV} (h:LnN σ Bp H m c c'):Ln σ Bp H (.fn f m c) (.fn f m c'):=.fn f m c c' h.get
theorem LnB.boxN {σ:Nat → Nat → Prop} {Bp:Nat → Prop} {H:List AB} {m:Nat} {c c':Nat → AV} (h:LnN σ Bp H m c c'):LnB σ Bp H (.box m c) (.box m c'):=⟨rfl,h.get⟩
theorem LnB.rowS {σ:Nat → Nat → Prop} {Bp:Nat → Prop} {H:List AB} {n sz:Nat} {c:Nat → Nat → AV}:LnB σ Bp H (.row n sz c) (.row n sz c):=⟨rfl,Nat.le_refl _,fun _ _ _ _=>LeV.refl _⟩
theorem LnB.rowE {σ:Nat → Nat → Prop} {Bp:Nat → Prop} {H:List AB} {n n' sz:Nat} {c c':Nat → Nat → AV} (hn:n' ≤ n) (hc:∀ k,k < n' → ∀ o,o < sz → c' k o = c k o):LnB σ Bp H (.row n sz c) (.row n' sz c'):=⟨rfl,hn,fun k hk o ho=>LeV.of (hc k hk o ho)⟩
theorem LnB.rowL {σ:Nat → Nat → Prop} {Bp:Nat → Prop} {H:List AB} {n n' sz:Nat} {c c':Nat → Nat → AV} (hn:n' ≤ n) (hc:∀ k,k < n' → ∀ o,o < sz → LeV (c k o) (c' k o)):LnB σ Bp H (.row n sz c) (.row n' sz c'):=⟨rfl,hn,hc⟩
/-- A row to which one element was appended. -/
theorem LnB.app {σ:Nat → Nat → Prop} {Bp:Nat → Prop} {H:List AB} {n sz:Nat} {c g:Nat → Nat → AV} {z:Nat → Nat → AV} {v:AV} (hg:∀ k,k < n → ∀ o,o < sz → g k o = c k o) (hv:∀ o,o < sz → g n o = elemC v o):LnB σ Bp H (.row (n + 1) sz (appc n c (bslC z [(0,v)]))) (.row (n + 1) sz g):=by
 refine ⟨rfl,Nat.le_refl _,fun k hk o ho=>LeV.of ?_⟩
 simp only [appc,bslC,updRm]
 by_cases h:k < n
 ·rw [if_pos h];exact hg k h o ho
 ·have:k = n:=by omega
  subst this
  rw [if_neg h,if_pos (Nat.sub_self _)];exact hv o ho
/-- The blocks that are kept, one by one. -/
def CutL (sel:List Nat) (h h2:List AB):List Nat → List AB → Prop
 | [],[]=>True
 | d :: ds,y :: ys=>d < h.length ∧ (y = .dead ∨ ∃ x,h[d]? = some x ∧ LnB (fun d i=>sel[i]? = some d) (fun d=>∀ i,sel[i]? = some d → ¬ live h2 i) h x y) ∧ CutL sel h h2 ds ys
 | _,_=>False
theorem CutL.get {sel:List Nat} {h h2:List AB}:∀ {ds:List Nat} {ys:List AB},CutL sel h h2 ds ys → ds.length = ys.length ∧ ∀ (i d:Nat) (y:AB),ds[i]? = some d → ys[i]? = some y → d < h.length ∧ (y = .dead ∨ ∃ x,h[d]? = some x ∧ LnB (fun d i=>sel[i]? = some d) (fun d=>∀ i,sel[i]? = some d → ¬ live h2 i) h x y)
 | [],[],_=>⟨rfl,fun i d y hd=>by simp at hd⟩
 | [],_ :: _,hh=>hh.elim
 | _ :: _,[],hh=>hh.elim
 | d :: ds,y :: ys,hh=>by
  obtain ⟨a,b⟩:=CutL.get hh.2.2
  refine ⟨by simp [a],fun i d' z hd hz=>?_⟩
  cases i with
  | zero =>
   simp only [List.getElem?_cons_zero,Option.some.injEq] at hd hz
   subst hd;subst hz
   exact ⟨hh.1,hh.2.1⟩
  | succ i=>exact b i d' z hd hz
def idsB (N:Nat) (sel:List Nat):Bool:=(List.range N).all fun i=>sel[i]? == some i
def nodupB : List Nat → Bool
 | []=>true
 | x :: xs=>!xs.contains x && nodupB xs
theorem nodupB_ok : ∀ {l:List Nat},nodupB l = true → l.Nodup
 | [],_=>List.nodup_nil
 | x :: xs,h=>by
  simp only [nodupB,Bool.and_eq_true,Bool.not_eq_true',List.contains_eq_mem,decide_eq_false_iff_not] at h
  exact List.nodup_cons.2 ⟨h.1,nodupB_ok h.2⟩
theorem Cut.of {N:Nat} {sel:List Nat} {h h2:List AB} (hN:N ≤ h2.length) (hid:idsB N sel = true) (hnd:nodupB sel = true) (hc:CutL sel h h2 sel h2):Cut N sel h h2 :=
 ⟨hN,hc.get.1,nodupB_ok hnd,fun i hi=>by simp only [idsB,List.all_eq_true,List.mem_range,beq_iff_eq] at hid;exact hid i hi,hc.get.2⟩
theorem Cut.nil (h:List AB):Cut 0 [] h []:=⟨Nat.zero_le _,rfl,List.nodup_nil,fun i hi=>by omega,fun i d x hd=>by simp at hd⟩
theorem CutL.turned {sel:List Nat} {h h2:List AB} {d:Nat} {x y:AB} {ds:List Nat} {ys:List AB} (hd:h[d]? = some x) (hx:LnB (fun d i=>sel[i]? = some d) (fun d=>∀ i,sel[i]? = some d → ¬ live h2 i) h x y) (hr:CutL sel h h2 ds ys):CutL sel h h2 (d :: ds) (y :: ys):=by
 refine ⟨?_,.inr ⟨x,hd,hx⟩,hr⟩
 rcases Nat.lt_or_ge d h.length with h'|h'
 ·exact h'
 ·rw [List.getElem?_eq_none h'] at hd;cases hd
theorem CutL.gone {sel:List Nat} {h h2:List AB} {d:Nat} {ds:List Nat} {ys:List AB} (hd:d < h.length) (hr:CutL sel h h2 ds ys):CutL sel h h2 (d :: ds) (.dead :: ys):=⟨hd,.inl rfl,hr⟩
theorem CutL.done {sel:List Nat} {h h2:List AB}:CutL sel h h2 [] []:=trivial
/-- A block that is not kept may be read. -/
theorem goneB {sel:List Nat} {h2:List AB} {d:Nat} (h:sel.contains d = false):∀ i,sel[i]? = some d → ¬ live h2 i:=fun i hi=>by
 have:=List.mem_of_getElem? hi
 simp only [List.contains_eq_mem,decide_eq_false_iff_not] at h
 exact (h this).elim

/-- A call of a function that changes nothing and makes nothing that stays. -/
theorem FCall.pure {P:Program} {f:FuncId} {xs xs':List AV} {H:List AB} {K:AV → List AB → Prop} {R:AV} (con:ACall P f xs' [] (fun r h=>r = R ∧ h = [])) (hx:LnL (fun d i=>([]:List Nat)[i]? = some d) (fun d=>d ∈ ([]:List Nat)) H xs xs') (hR:R.pureB = true) (h:K R H):FCall (ACalls P) f xs H K:=by
 refine ⟨ACall.at [] [] con (by simp) rfl (by simp) (fun i d x h=>by simp at h) hx ?_⟩
 rintro r h2 ⟨rfl,rfl⟩
 refine ⟨Nat.le_refl _,.inl rfl,?_⟩
 rw [ren_pure _ hR]
 have:Proofs.Ytbhjehpjjbbhbaa.put [] H [] = H:=by simp [Proofs.Ytbhjehpjjbbhbaa.put,puts]
 rw [this];exact h
/-- The same, with blocks lent to be read. -/
theorem FCall.lend {P:Program} {f:FuncId} {xs xs':List AV} {H:List AB} {K:AV → List AB → Prop} {R:AV} (B:List Nat) (con:ACall P f xs' [] (fun r h=>r = R ∧ h = [])) (hx:LnL (fun d i=>([]:List Nat)[i]? = some d) (fun d=>d ∈ B) H xs xs') (hR:R.pureB = true) (hf:R.flat) (h:K R H):FCall (ACalls P) f xs H K:=by
 refine ⟨ACall.at [] B con (by simp) rfl (by simp) (fun i d x h=>by simp at h) hx ?_⟩
 rintro r h2 ⟨rfl,rfl⟩
 refine ⟨Nat.le_refl _,.inr ⟨hf,fun x hx=>by cases hx⟩,?_⟩
 rw [ren_pure _ hR]
 have:Proofs.Ytbhjehpjjbbhbaa.put [] H [] = H:=by simp [Proofs.Ytbhjehpjjbbhbaa.put,puts]
 rw [this];exact h
/-- A state of which just some temporaries are known. -/
def slots : List (Nat × AV) → Env
 | [],_=>.bot
 | (k,v) :: r,t=>if t = k then v else slots r t
def SlotsL (sel:List Nat) (h h2:List AB):List (Nat × AV) → Env → Prop
 | [],_=>True
 | (k,v) :: r,e=>LnK sel h h2 (e k) v ∧ SlotsL sel h h2 r e
theorem SlotsL.get {sel:List Nat} {h h2:List AB} {e:Env}:∀ {l:List (Nat × AV)},SlotsL sel h h2 l e → ∀ t,LnK sel h h2 (e t) (slots l t)
 | [],_,t=>.bot _
 | (k,v) :: r,hh,t=>by
  simp only [slots]
  split
  ·rename_i e1;subst e1;exact hh.1
  ·exact hh.2.get t
theorem FWk.of {N id:Nat} {K:Env → List AB → Prop} {e:Env} {h:List AB} (l:List (Nat × AV)) (h2:List AB) (sel:List Nat) (hc:Cut N sel h h2) (hs:SlotsL sel h h2 l e) (H:K (slots l) h2):FWk N id K e h:=⟨_,_,Wk.gen hc hs.get,H⟩
/-- A round of a loop has come to its end. -/
structure LEnd {X:Type} (N:Nat) (S:X → List (Nat × AV)) (H:X → List AB) (Inv:X → Prop) (μ:X → Nat) (x:X) (e:Env) (h:List AB):Prop where
 ex:∃ x',Inv x' ∧ μ x' < μ x ∧ ∃ sel,Cut N sel h (H x') ∧ SlotsL sel h (H x') (S x') e
theorem FLoop.ofA {C:CallP} (hC:C.Mono) {N:Nat} {c:ACo} {Q:AEx → Env → List AB → Prop} {e:Env} {h:List AB} {X:Type} (S:X → List (Nat × AV)) (H:X → List AB) (Inv:X → Prop) (μ:X → Nat) (x0:X)
  (start:Inv x0 ∧ ∃ sel,Cut N sel h (H x0) ∧ SlotsL sel h (H x0) (S x0) e)
  (round:∀ x,Inv x → awp C N c (AEx.then (LEnd N S H Inv μ x) Q) (slots (S x)) (H x)):FLoop C N c Q e h:=by
 have ex:∀ (e:Env) (h:List AB),(∃ x,Inv x ∧ e = slots (S x) ∧ h = H x) → ∃ y,(Inv y ∧ e = slots (S y) ∧ h = H y) ∧ ∀ x,Inv x → e = slots (S x) → h = H x → μ y ≤ μ x:=by
  intro e h ⟨x,hx⟩
  induction hk:μ x using Nat.strongRecOn generalizing x with
  | _ k ih =>
   by_cases hlt:∃ x',μ x' < k ∧ Inv x' ∧ e = slots (S x') ∧ h = H x'
   ·obtain ⟨x',h1,h2⟩:=hlt
    exact ih (μ x') h1 x' h2 rfl
   ·refine ⟨x,hx,fun x' i1 i2 i3=>Nat.le_of_not_lt fun h=>hlt ⟨x',by omega,i1,i2,i3⟩⟩
 let M:Env → List AB → Nat:=fun e h=>open Classical in if hh:∃ x,Inv x ∧ e = slots (S x) ∧ h = H x then μ (ex e h hh).choose else 0
 have hM:∀ (e:Env) (h:List AB) (hh:∃ x,Inv x ∧ e = slots (S x) ∧ h = H x),M e h = μ (ex e h hh).choose:=fun e h hh=>by
  simp only [M]
  rw [dif_pos hh]
 refine ⟨fun e h=>∃ x,Inv x ∧ e = slots (S x) ∧ h = H x,M,⟨_,_,Wk.gen start.2.choose_spec.1 start.2.choose_spec.2.get,x0,start.1,rfl,rfl⟩,?_⟩
 intro e1 h1 hh1
 obtain ⟨⟨hy1,hy2,hy3⟩,_⟩:=(ex e1 h1 hh1).choose_spec
 have e2:=hM e1 h1 hh1
 generalize (ex e1 h1 hh1).choose = y at *
 subst hy2
 subst hy3
 refine awp_mono hC c (fun ax e' h' hh=>?_) (round y hy1)
 cases ax with
 | normal =>
  obtain ⟨x',i1,i2,sel,i3,i4⟩:=hh.ex
  refine ⟨_,_,Wk.gen i3 i4.get,⟨x',i1,rfl,rfl⟩,?_⟩
  have hex':∃ x,Inv x ∧ slots (S x') = slots (S x) ∧ H x' = H x:=⟨x',i1,rfl,rfl⟩
  rw [e2,hM _ _ hex']
  exact Nat.lt_of_le_of_lt ((ex _ _ hex').choose_spec.2 x' i1 rfl rfl) i2
 | exit id=>exact hh
 | ret=>exact hh
theorem then_mono {A B:Env → List AB → Prop} {Q:AEx → Env → List AB → Prop} (h:∀ e h,A e h → B e h):∀ x e h',AEx.then A Q x e h' → AEx.then B Q x e h':=fun x e h' hh=>by
 cases x with
 | normal=>exact h _ _ hh
 | exit id=>exact hh
 | ret=>exact hh
theorem FLoop.of {C:CallP} (hC:C.Mono) {N:Nat} {c:ACo} {Q:AEx → Env → List AB → Prop} {e:Env} {h:List AB} {X:Type} (S:X → List (Nat × AV)) (H:X → List AB) (Inv:X → Prop) (μ:X → Nat) (x0:X)
  (start:Inv x0 ∧ ∃ sel,Cut N sel h (H x0) ∧ SlotsL sel h (H x0) (S x0) e)
  (round:∀ x,Inv x → fawp C N c (AEx.then (LEnd N S H Inv μ x) Q) (slots (S x)) (H x)):FLoop C N c Q e h :=
 FLoop.ofA hC S H Inv μ x0 start fun x hx=>fawp_ok hC c (round x hx)
structure LEnd2 {X Y:Type} (N:Nat) (S:X → Y → List (Nat × AV)) (H:X → Y → List AB) (Inv:X → Y → Prop) (μ:X → Y → Nat) (x:X) (y:Y) (e:Env) (h:List AB):Prop where
 ex:∃ x' y',Inv x' y' ∧ μ x' y' < μ x y ∧ ∃ sel,Cut N sel h (H x' y') ∧ SlotsL sel h (H x' y') (S x' y') e
theorem FLoop.of2 {C:CallP} (hC:C.Mono) {N:Nat} {c:ACo} {Q:AEx → Env → List AB → Prop} {e:Env} {h:List AB} {X Y:Type} (S:X → Y → List (Nat × AV)) (H:X → Y → List AB) (Inv:X → Y → Prop) (μ:X → Y → Nat) (x0:X) (y0:Y)
  (start:Inv x0 y0 ∧ ∃ sel,Cut N sel h (H x0 y0) ∧ SlotsL sel h (H x0 y0) (S x0 y0) e)
  (round:∀ x y,Inv x y → fawp C N c (AEx.then (LEnd2 N S H Inv μ x y) Q) (slots (S x y)) (H x y)):FLoop C N c Q e h :=
 FLoop.ofA hC (fun p:X × Y=>S p.1 p.2) (fun p=>H p.1 p.2) (fun p=>Inv p.1 p.2) (fun p=>μ p.1 p.2) (x0,y0) start fun p hp =>
  awp_mono hC c (then_mono fun _ _ ⟨x',y',h⟩=>⟨(x',y'),h⟩) (fawp_ok hC c (round p.1 p.2 hp))
structure LEnd3 {X Y Z:Type} (N:Nat) (S:X → Y → Z → List (Nat × AV)) (H:X → Y → Z → List AB) (Inv:X → Y → Z → Prop) (μ:X → Y → Z → Nat) (x:X) (y:Y) (z:Z) (e:Env) (h:List AB):Prop where
 ex:∃ x' y' z',Inv x' y' z' ∧ μ x' y' z' < μ x y z ∧ ∃ sel,Cut N sel h (H x' y' z') ∧ SlotsL sel h (H x' y' z') (S x' y' z') e
theorem FLoop.of3 {C:CallP} (hC:C.Mono) {N:Nat} {c:ACo} {Q:AEx → Env → List AB → Prop} {e:Env} {h:List AB} {X Y Z:Type} (S:X → Y → Z → List (Nat × AV)) (H:X → Y → Z → List AB) (Inv:X → Y → Z → Prop) (μ:X → Y → Z → Nat) (x0:X) (y0:Y) (z0:Z)
  (start:Inv x0 y0 z0 ∧ ∃ sel,Cut N sel h (H x0 y0 z0) ∧ SlotsL sel h (H x0 y0 z0) (S x0 y0 z0) e)
  (round:∀ x y z,Inv x y z → fawp C N c (AEx.then (LEnd3 N S H Inv μ x y z) Q) (slots (S x y z)) (H x y z)):FLoop C N c Q e h :=
 FLoop.ofA hC (fun p:X × Y × Z=>S p.1 p.2.1 p.2.2) (fun p=>H p.1 p.2.1 p.2.2) (fun p=>Inv p.1 p.2.1 p.2.2) (fun p=>μ p.1 p.2.1 p.2.2) (x0,y0,z0) start fun p hp =>
  awp_mono hC c (then_mono fun _ _ ⟨x',y',z',h⟩=>⟨(x',y',z'),h⟩) (fawp_ok hC c (round p.1 p.2.1 p.2.2 hp))
structure LEnd4 {X Y Z V:Type} (N:Nat) (S:X → Y → Z → V → List (Nat × AV)) (H:X → Y → Z → V → List AB) (Inv:X → Y → Z → V → Prop) (μ:X → Y → Z → V → Nat) (x:X) (y:Y) (z:Z) (v:V) (e:Env) (h:List AB):Prop where
 ex:∃ x' y' z' v',Inv x' y' z' v' ∧ μ x' y' z' v' < μ x y z v ∧ ∃ sel,Cut N sel h (H x' y' z' v') ∧ SlotsL sel h (H x' y' z' v') (S x' y' z' v') e
theorem FLoop.of4 {C:CallP} (hC:C.Mono) {N:Nat} {c:ACo} {Q:AEx → Env → List AB → Prop} {e:Env} {h:List AB} {X Y Z V:Type} (S:X → Y → Z → V → List (Nat × AV)) (H:X → Y → Z → V → List AB) (Inv:X → Y → Z → V → Prop) (μ:X → Y → Z → V → Nat) (x0:X) (y0:Y) (z0:Z) (v0:V)
  (start:Inv x0 y0 z0 v0 ∧ ∃ sel,Cut N sel h (H x0 y0 z0 v0) ∧ SlotsL sel h (H x0 y0 z0 v0) (S x0 y0 z0 v0) e)
  (round:∀ x y z v,Inv x y z v → fawp C N c (AEx.then (LEnd4 N S H Inv μ x y z v) Q) (slots (S x y z v)) (H x y z v)):FLoop C N c Q e h :=
 FLoop.ofA hC (fun p:X × Y × Z × V=>S p.1 p.2.1 p.2.2.1 p.2.2.2) (fun p=>H p.1 p.2.1 p.2.2.1 p.2.2.2) (fun p=>Inv p.1 p.2.1 p.2.2.1 p.2.2.2) (fun p=>μ p.1 p.2.1 p.2.2.1 p.2.2.2) (x0,y0,z0,v0) start fun p hp =>
  awp_mono hC c (then_mono fun _ _ ⟨x',y',z',v',h⟩=>⟨(x',y',z',v'),h⟩) (fawp_ok hC c (round p.1 p.2.1 p.2.2.1 p.2.2.2 hp))
/-- A round of a loop over a function has come to its end. -/
structure REnd {X:Type} (N:Nat) (e1:Env) (S:X → List (Nat × AV)) (H:X → List AB) (Inv:X → Prop) (h:List AB):Prop where
 ex:∃ x',Inv x' ∧ ∃ sel,Cut N sel h (H x') ∧ SlotsL sel h (H x') (S x') e1
def rfC {X:Type} (N:Nat) (e1:Env) (S:X → List (Nat × AV)) (H:X → List AB) (Inv:X → Prop) (Q:AEx → Env → List AB → Prop):AEx → Env → List AB → Prop
 | .normal,_,h=>REnd N e1 S H Inv h
 | .exit id,_,h=>Q (.exit id) e1 h
 | .ret,_,h=>Q .ret e1 h
theorem FRange.ofG (mv:Bool) {C:CallP} (hC:C.Mono) {N:Nat} {it:AX} {ps:List Nat} {a b:ACo} {Q:AEx → Env → List AB → Prop} {e:Env} {h:List AB} {X:Type} (len:Nat) (Lf:Nat → List AV) (S:X → List (Nat × AV)) (H:X → List AB) (Inv:Nat → X → Prop) (x0:X)
  (start:Inv 0 x0 ∧ ∃ sel,Cut N sel h (H x0) ∧ SlotsL sel h (H x0) (S x0) e)
  {gf m:Nat} {c:Nat → AV} (hit:it.ev (slots (S x0)) = fnv mv gf m c) (hp:((List.range m).all fun i=>(c i).pureB) = true) (hit2:C.iter mv gf ((List.range m).map c) ((List.range len).map Lf)) (hl:∀ k,k < len → (Lf k).length = ps.length)
  (round:∀ k x,k < len → Inv k x → fawp C (H x).length a (rfA fun e h=>fawp C (H x).length b (rfC (H x0).length (slots (S x)) S H (Inv (k + 1)) Q) e h) (putL (slots (S x)) ps (Lf k)) (H x))
  (done:∀ x,Inv len x → Q .normal (slots (S x)) (H x)):FRange C N it ps a b Q e h:=by
 obtain ⟨h1,sel,h2,h3⟩:=start
 refine ⟨slots (S x0),H x0,mv,gf,m,c,(List.range len).map Lf,fun k e h=>∃ x,Inv k x ∧ e = slots (S x) ∧ h = H x,Wk.gen h2 h3.get,⟨x0,h1,rfl,rfl⟩,hit,fun i hi=>pureB_ok _ (by simp only [List.all_eq_true,List.mem_range] at hp;exact hp i hi),hit2,fun y hy=>?_,?_,?_⟩
 ·obtain ⟨k,hk,rfl⟩:=List.mem_map.1 hy
  exact hl k (by simpa using hk)
 ·rintro k _ _ hk ⟨x,hx,rfl,rfl⟩
  have hk':k < len:=by simpa using hk
  have e1:((List.range len).map Lf).getD k [] = Lf k:=by simp [List.getD,hk']
  rw [e1]
  refine awp_mono hC a (rfA_mono fun e h hh=>awp_mono hC b (fun y e h hh=>?_) (fawp_ok hC b hh)) (fawp_ok hC a (round k x hk' hx))
  cases y with
  | normal =>
   obtain ⟨x',i1,sel,i2,i3⟩:=hh.ex
   exact ⟨_,_,Wk.gen i2 i3.get,x',i1,rfl,rfl⟩
  | exit id=>exact hh
  | ret=>exact hh
 ·rintro _ _ ⟨x,hx,rfl,rfl⟩
  exact done x (by simpa using hx)
theorem FRange.of {C:CallP} (hC:C.Mono) {N:Nat} {it:AX} {ps:List Nat} {a b:ACo} {Q:AEx → Env → List AB → Prop} {e:Env} {h:List AB} {X:Type} (len:Nat) (Lf:Nat → List AV) (S:X → List (Nat × AV)) (H:X → List AB) (Inv:Nat → X → Prop) (x0:X)
  (start:Inv 0 x0 ∧ ∃ sel,Cut N sel h (H x0) ∧ SlotsL sel h (H x0) (S x0) e)
  {gf m:Nat} {c:Nat → AV} (hit:it.ev (slots (S x0)) = .fn gf m c) (hp:((List.range m).all fun i=>(c i).pureB) = true) (hit2:C.iter false gf ((List.range m).map c) ((List.range len).map Lf)) (hl:∀ k,k < len → (Lf k).length = ps.length)
  (round:∀ k x,k < len → Inv k x → fawp C (H x).length a (rfA fun e h=>fawp C (H x).length b (rfC (H x0).length (slots (S x)) S H (Inv (k + 1)) Q) e h) (putL (slots (S x)) ps (Lf k)) (H x))
  (done:∀ x,Inv len x → Q .normal (slots (S x)) (H x)):FRange C N it ps a b Q e h:=FRange.ofG false hC len Lf S H Inv x0 start hit hp hit2 hl round done
theorem FRange.ofM {C:CallP} (hC:C.Mono) {N:Nat} {it:AX} {ps:List Nat} {a b:ACo} {Q:AEx → Env → List AB → Prop} {e:Env} {h:List AB} {X:Type} (len:Nat) (Lf:Nat → List AV) (S:X → List (Nat × AV)) (H:X → List AB) (Inv:Nat → X → Prop) (x0:X)
  (start:Inv 0 x0 ∧ ∃ sel,Cut N sel h (H x0) ∧ SlotsL sel h (H x0) (S x0) e)
  {gf m:Nat} {c:Nat → AV} (hit:it.ev (slots (S x0)) = .mv gf m c) (hp:((List.range m).all fun i=>(c i).pureB) = true) (hit2:C.iter true gf ((List.range m).map c) ((List.range len).map Lf)) (hl:∀ k,k < len → (Lf k).length = ps.length)
  (round:∀ k x,k < len → Inv k x → fawp C (H x).length a (rfA fun e h=>fawp C (H x).length b (rfC (H x0).length (slots (S x)) S H (Inv (k + 1)) Q) e h) (putL (slots (S x)) ps (Lf k)) (H x))
  (done:∀ x,Inv len x → Q .normal (slots (S x)) (H x)):FRange C N it ps a b Q e h:=FRange.ofG true hC len Lf S H Inv x0 start hit hp hit2 hl round done
theorem zA {p:Prop} [Decidable p]:(decide p = true) = p:=decide_eq_true_eq
theorem zB (a b:Bool):((a && b) = true) = (a = true ∧ b = true):=Bool.and_eq_true a b
theorem zC (a b:Bool):((a || b) = true) = (a = true ∨ b = true):=Bool.or_eq_true a b
theorem zD (b:Bool):((!b) = true) = (b = false):=Bool.not_eq_true' b
theorem zE {p:Prop} [Decidable p]:decide p = false ↔ ¬p:=decide_eq_false_iff_not
theorem zF {α:Type} [BEq α] [LawfulBEq α] {a b:α}:(a != b) = true ↔ a ≠ b:=bne_iff_ne
theorem zG {α:Type} [BEq α] [LawfulBEq α] {a b:α}:(a == b) = true ↔ a = b:=beq_iff_eq
theorem zH {a b:Bool}:(a && b) = false ↔ a = false ∨ b = false:=Bool.and_eq_false_iff
theorem zI {a b:Bool}:(a || b) = false ↔ a = false ∧ b = false:=Bool.or_eq_false_iff
theorem zJ (b:Bool):((!b) = false) = (b = true):=Bool.not_eq_false' b
end Go.Proofs.Ytbhjehpjjbbhbaa

namespace Go.Proofs.Ytbhjehpjjbbhbaa
open Go.RowKit

/-- The caller's names for what a callee names, computed before one goes on. -/
def frensL (K1:AV → (AV → Prop) → Prop):List AV → (List AV → Prop) → Prop
 | [],K=>K []
 | v :: vs,K=>K1 v fun v'=>frensL K1 vs fun vs'=>K (v' :: vs')
def fren (sel:List Nat) (N:Nat):Nat → AV → (AV → Prop) → Prop
 | 0,v,K=>frc (ren sel N v) K
 | _ + 1,.own d n,K=>nlit (tau sel N d) fun d'=>K (.own d' n)
 | _ + 1,.ptr d o,K=>nlit (tau sel N d) fun d'=>K (.ptr d' o)
 | _ + 1,.rp d sz k o,K=>nlit (tau sel N d) fun d'=>K (.rp d' sz k o)
 | _ + 1,.osl d sz lo n,K=>nlit (tau sel N d) fun d'=>K (.osl d' sz lo n)
 | _ + 1,.mpv d,K=>nlit (tau sel N d) fun d'=>K (.mpv d')
 | D + 1,.fn f m c,K=>match (AV.fn f m c).pureB with
  | true=>K (.fn f m c)
  | false=>frensL (fren sel N D) ((List.range m).map c) fun vs=>K (.fn f m (ofL vs))
 | D + 1,.agg m c,K=>match (AV.agg m c).pureB with
  | true=>K (.agg m c)
  | false=>frensL (fren sel N D) ((List.range m).map c) fun vs=>K (.agg m (ofL vs))
 | D + 1,.tup m c,K=>match (AV.tup m c).pureB with
  | true=>K (.tup m c)
  | false=>frensL (fren sel N D) ((List.range m).map c) fun vs=>K (.tup m (ofL vs))
 | _ + 1,v,K=>frc (ren sel N v) K
theorem frensL_e {K1:AV → (AV → Prop) → Prop} {r:AV → AV} (h1:∀ v K,K1 v K → K (r v)):∀ {vs:List AV} {K:List AV → Prop},frensL K1 vs K → K (vs.map r)
 | [],_,h=>h
 | _ :: _,K,h=>frensL_e h1 (K:=fun vs'=>K (_ :: vs')) (h1 _ _ h)
theorem fren_e {sel:List Nat} {N:Nat}:∀ (D:Nat) (v:AV) {K:AV → Prop},fren sel N D v K → K (ren sel N v)
 | 0,v,K,h=>frc_e h
 | D + 1,v,K,h=>by
  cases v
  case own=>exact nlit_e h
  case ptr=>exact nlit_e h
  case rp=>exact nlit_e h
  case osl=>exact nlit_e h
  case mpv=>exact nlit_e h
  case fn f m c =>
   simp only [fren] at h
   simp only [ren]
   split at h
   ·rename_i hp;rw [hp];exact h
   ·rename_i hp
    rw [hp]
    have:=frensL_e (fun v K hh=>fren_e D v hh) h
    rw [List.map_map] at this
    exact this
  case agg m c =>
   simp only [fren] at h
   simp only [ren]
   split at h
   ·rename_i hp;rw [hp];exact h
   ·rename_i hp
    rw [hp]
    have:=frensL_e (fun v K hh=>fren_e D v hh) h
    rw [List.map_map] at this
    exact this
  case tup m c =>
   simp only [fren] at h
   simp only [ren]
   split at h
   ·rename_i hp;rw [hp];exact h
   ·rename_i hp
    rw [hp]
    have:=frensL_e (fun v K hh=>fren_e D v hh) h
    rw [List.map_map] at this
    exact this
  all_goals exact frc_e h
def frenB (sel:List Nat) (N:Nat) (x:AB) (K:AB → Prop):Prop:=match x with
 | .dead=>K .dead
 | .box m c=>frensL (fren sel N 3) ((List.range m).map c) fun vs=>K (.box m (ofL vs))
 | .row n sz c=>K (.row n sz c)
 | .mp kt L=>K (.mp kt L)
 | .mit m n s=>fren sel N 1 m fun m'=>K (.mit m' n s)
 | .rwg n sz c=>K (.rwg n sz (fun k o=>ren sel N (c k o)))
theorem frenB_e {sel:List Nat} {N:Nat} {x:AB} {K:AB → Prop} (h:frenB sel N x K):K (renB sel N x):=by
 cases x with
 | dead=>exact h
 | box m c =>
  have:=frensL_e (fun v K hh=>fren_e 3 v hh) h
  rw [List.map_map] at this
  exact this
 | row n sz c=>exact h
 | mp kt L=>exact h
 | mit m n s=>exact fren_e 1 m h
 | rwg n sz c=>exact h
def frenBs (sel:List Nat) (N:Nat):List AB → (List AB → Prop) → Prop
 | [],K=>K []
 | x :: xs,K=>frenB sel N x fun y=>frenBs sel N xs fun ys=>K (y :: ys)
theorem frenBs_e {sel:List Nat} {N:Nat}:∀ {xs:List AB} {K:List AB → Prop},frenBs sel N xs K → K (xs.map (renB sel N))
 | [],_,h=>h
 | _ :: _,K,h=>frenBs_e (K:=fun ys=>K (_ :: ys)) (frenB_e h)
def fputs (sel:List Nat) (N:Nat):List Nat → List AB → List AB → (List AB → Prop) → Prop
 | d :: ds,x :: xs,H,K=>frenB sel N x fun y=>frcH (H.set d y) fun H'=>fputs sel N ds xs H' K
 | [],xs,H,K=>frenBs sel N xs fun ys=>frcH (H ++ ys) K
 | _ :: _,[],H,K=>K H
theorem fputs_e {sel:List Nat} {N:Nat}:∀ {ds:List Nat} {xs H:List AB} {K:List AB → Prop},fputs sel N ds xs H K → K (puts N sel ds xs H)
 | _ :: ds,_ :: xs,_,_,h=>fputs_e (ds:=ds) (xs:=xs) (frcH_e (frenB_e h))
 | [],xs,H,K,h=>by
  have:=frcH_e (frenBs_e h)
  simpa [puts] using this
 | _ :: _,[],_,_,h=>h
def GivL (sel:List Nat) (H:List AB):List Nat → List AB → Prop
 | [],[]=>True
 | d :: ds,x :: xs=>(∃ y,H[d]? = some y ∧ x.live ∧ LnB (fun d i=>sel[i]? = some d) (fun _=>False) H y x) ∧ GivL sel H ds xs
 | _,_=>False
theorem GivL.get {sel:List Nat} {H:List AB}:∀ {ds:List Nat} {xs:List AB},GivL sel H ds xs → ds.length = xs.length ∧ ∀ (i d:Nat) (x:AB),ds[i]? = some d → xs[i]? = some x → ∃ y,H[d]? = some y ∧ x.live ∧ LnB (fun d i=>sel[i]? = some d) (fun _=>False) H y x
 | [],[],_=>⟨rfl,fun i d x h=>by simp at h⟩
 | [],_ :: _,h=>h.elim
 | _ :: _,[],h=>h.elim
 | d :: ds,x :: xs,h=>by
  obtain ⟨a,b⟩:=GivL.get h.2
  refine ⟨by simp [a],fun i d' y hd hy=>?_⟩
  cases i with
  | zero =>
   simp only [List.getElem?_cons_zero,Option.some.injEq] at hd hy
   subst hd;subst hy
   exact h.1
  | succ i=>exact b i d' y hd hy
theorem FCall.give {P:Program} {f:FuncId} {xs xs':List AV} {H h':List AB} {K' K:AV → List AB → Prop} (sel B:List Nat) (con:ACall P f xs' h' K') (hnd:nodupB sel = true) (hBs:(B.all fun d=>!sel.contains d) = true)
  (hh:GivL sel H sel h') (hx:LnL (fun d i=>sel[i]? = some d) (fun d=>d ∈ B) H xs xs')
  (hK:∀ r h2,K' r h2 → sel.length ≤ h2.length ∧ (B = [] ∨ (r.flat ∧ ∀ x ∈ h2,x.flat)) ∧ nlit H.length fun N=>fren sel N 3 r fun r'=>fputs sel N sel h2 H fun H'=>K r' H'):FCall (ACalls P) f xs H K:=by
 refine ⟨ACall.at sel B con (nodupB_ok hnd) hh.get.1 (fun d hd hs=>?_) hh.get.2 hx fun r h2 hk=>?_⟩
 ·simp only [List.all_eq_true,Bool.not_eq_true',List.contains_eq_mem,decide_eq_false_iff_not] at hBs
  exact hBs d hd hs
 ·obtain ⟨a,b,c⟩:=hK r h2 hk
  have c:=nlit_e c
  exact ⟨a,b,fputs_e (K:=fun H'=>K _ H') (fren_e 3 _ (K:=fun r'=>fputs sel H.length sel h2 H fun H'=>K r' H') c)⟩
/-- A row that a function hands back, to be read only. -/
theorem ACall.pub {P:Program} {f:FuncId} {xs:List AV} {n N sz:Nat} {c:Nat → Nat → AV} (hn:n ≤ N) (H:ACall P f xs [] (fun r h=>r = .own 0 n ∧ h = [.row N sz c])):ACall P f xs [] (fun r h=>r = .sl false false n sz c ∧ h = []) :=
 ACall.wk (ACall.mono' P (by rintro _ _ ⟨rfl,rfl⟩;exact ⟨_,[],[],Cut.nil _,Ln.pubE (goneB rfl) rfl hn rfl (fun _ _ _ _=>rfl),rfl,rfl⟩) H)
theorem flat_row {n:Nat} {c:Nat → Nat → AV} (h:∀ k o,(c k o).flat):(AB.row n 1 c).flat:=fun k _ o _=>h k o
theorem flat_one {x:AB} (h:x.flat):∀ y ∈ [x],y.flat:=fun y hy=>by
 rw [List.mem_singleton.1 hy];exact h
end Go.Proofs.Ytbhjehpjjbbhbaa

namespace Go.Proofs.Ytbhjehpjjbbhbaa
open Go.RowKit

theorem live_dead {H:List AB} {d i:Nat} (h:live (H.set d .dead) i):live H i ∧ i ≠ d:=by
 obtain ⟨x,hx,hl⟩:=h
 by_cases e:d = i
 ·subst e
  rw [List.getElem?_set_self'] at hx
  cases hy:H[d]? with
  | none=>rw [hy] at hx;cases hx
  | some y=>rw [hy] at hx;cases hx;exact hl.elim
 ·rw [List.getElem?_set_ne e] at hx
  exact ⟨⟨x,hx,hl⟩,fun h=>e h.symm⟩
theorem MO_set {g:GM} {H:List AB} {d b:Nat} (h:MO g (H.set d .dead) b):MO g H b:=by
 obtain ⟨i,cap,hl,hg⟩:=h
 exact ⟨i,cap,(live_dead hl).1,hg⟩
theorem MM_set {F:Nat → Prop} {g:GM} {H:List AB} {d b:Nat} (h:MM F g (H.set d .dead) b):MM F g H b:=h.imp id MO_set
theorem HOK.bury {F:Nat → Prop} {g:GM} {w:World} {H:List AB} (d:Nat) (k:HOK F g w H):HOK F g w (H.set d .dead):=by
 refine HOK.of_all (fun i hi=>k.dom i (by simpa using hi)) (fun i hl=>k.lv i (live_dead hl).1) (fun i j b c c' h1 h2=>k.inj i j b c c' (live_dead h1).1 (live_dead h2).1) (fun i b cap x hx hg=>?_) (fun b hF=>⟨(k.fr b hF).1,fun h=>(k.fr b hF).2 (MO_set h)⟩)
 by_cases e:d = i
 ·subst e
  rw [List.getElem?_set_self'] at hx
  cases hy:H[d]? with
  | none=>rw [hy] at hx;cases hx
  | some y=>rw [hy] at hx;cases hx;trivial
 ·rw [List.getElem?_set_ne e] at hx
  exact (k.all hx hg).mono (Chg.refl _ w) (fun _ _ h=>MM_set h) (GM.le_refl _) rfl
theorem FCall.bury {P:Program} {f:FuncId} {xs:List AV} {H:List AB} {K:AV → List AB → Prop} (d:Nat) (xs':List AV) (hx:LnL (fun a i=>a = i ∧ a ≠ d) (fun a=>a = d) H xs xs') (h:FCall (ACalls P) f xs' (H.set d .dead) K):FCall (ACalls P) f xs H K:=by
 obtain ⟨h1,h2⟩:=h.h
 refine ⟨h1,fun F g w vs k hs hv=>?_⟩
 obtain ⟨hl,hget⟩:=hx.get
 have kd:∀ a b cap,a = d → live H a → g a = some (b,cap) → ¬ MM F g (H.set d .dead) b:=by
  rintro a b cap rfl hla hga (hF|⟨i,cap',hli,hgi⟩)
  ·exact (k.fr b hF).2 ⟨a,cap,hla,hga⟩
  ·have:=live_dead hli
   exact this.2 (k.inj i a b cap' cap this.1 hla hgi hga)
 refine (h2 F g w vs (k.bury d) (by omega) (fun i y hy=>?_)).mono ?_
 ·obtain ⟨x,hx1,hx2⟩:=hget i y hy
  exact hx2.rep k (fun _ h=>MM_set h) (fun a i p hai hga=>hai.1 ▸ hga) kd (hv i x hx1)
 ·rintro en w' ⟨v,r,h',g',e1,T,e2,e3⟩
  exact ⟨v,r,h',g',e1,⟨T.ok,T.gle,T.chg.weak (fun _ _ h=>MO_set h),fun b hb=>(T.new b hb).imp MO_set id⟩,e2,e3⟩
end Go.Proofs.Ytbhjehpjjbbhbaa

namespace Go.Proofs.Ytbhjehpjjbbhbaa
open Go.RowKit

/-- What is in the first set and not in the second one. -/
def sdiff (a b:Nat):Nat:=a ^^^ (a &&& b)
theorem testBit_sdiff (a b i:Nat):(sdiff a b).testBit i = (a.testBit i && !b.testBit i):=by
 unfold sdiff
 rw [Nat.testBit_xor,Nat.testBit_and]
 cases a.testBit i <;> cases b.testBit i <;> rfl
theorem sdiff_lt {a b n:Nat} (h:a < 2 ^ n):sdiff a b < 2 ^ n:=Nat.xor_lt_two_pow h (Nat.lt_of_le_of_lt Nat.and_le_left h)
abbrev k64 : IntKind → Bool
 | .i64 | .u64=>true
 | _=>false
theorem k64_bits {k:IntKind} (hk:k64 k = true):k.bits = 64:=by cases k <;> first|rfl|cases hk
theorem wrapN {k:IntKind} (hk:k64 k = true) {n:Nat} (h:n < 9223372036854775808):k.wrap (n:Int) = n:=by
 cases k <;> first|cases hk|skip
 ·exact IntWalk.i64_in _ (by omega)
 ·exact IntWalk.u64_in _ (by omega)
theorem ofIntN {n:Nat} (h:n < 9223372036854775808):(BitVec.ofInt 64 (n:Int)).toNat = n:=by
 rw [BitVec.ofInt_natCast,BitVec.toNat_ofNat];exact Nat.mod_eq_of_lt (by omega)
theorem FBit.andN {k:IntKind} (hk:k64 k = true) {a b:Nat} {K:Int → Prop} (ha:a < 9223372036854775808) (hb:b < 9223372036854775808) (h:K ((a &&& b:Nat):Int)):FBit .and k (a:Int) (b:Int) K:=⟨by
 have e:((BitVec.ofInt 64 (a:Int) &&& BitVec.ofInt 64 (b:Int)).toNat:Int) = ((a &&& b:Nat):Int):=by rw [BitVec.toNat_and,ofIntN ha,ofIntN hb]
 have e2:rawBit .and k (a:Int) (b:Int) = k.wrap ((BitVec.ofInt 64 (a:Int) &&& BitVec.ofInt 64 (b:Int)).toNat:Int):=by cases k <;> first|rfl|cases hk
 rw [e2,e,wrapN hk (Nat.lt_of_le_of_lt Nat.and_le_left ha)];exact h⟩
theorem FBit.orN {k:IntKind} (hk:k64 k = true) {a b:Nat} {K:Int → Prop} (ha:a < 9223372036854775808) (hb:b < 9223372036854775808) (h:K ((a ||| b:Nat):Int)):FBit .or k (a:Int) (b:Int) K:=⟨by
 have:a ||| b < 2 ^ 63:=Nat.or_lt_two_pow ha hb
 have e2:rawBit .or k (a:Int) (b:Int) = k.wrap ((BitVec.ofInt 64 (a:Int) ||| BitVec.ofInt 64 (b:Int)).toNat:Int):=by cases k <;> first|rfl|cases hk
 rw [e2,BitVec.toNat_or,ofIntN ha,ofIntN hb,wrapN hk (by omega)];exact h⟩
theorem FBit.andNotN {k:IntKind} (hk:k64 k = true) {a b:Nat} {K:Int → Prop} (ha:a < 9223372036854775808) (hb:b < 9223372036854775808) (h:K ((sdiff a b:Nat):Int)):FBit .andNot k (a:Int) (b:Int) K:=⟨by
 have e2:rawBit .andNot k (a:Int) (b:Int) = k.wrap ((BitVec.ofInt 64 (a:Int) &&& ~~~ BitVec.ofInt 64 (b:Int)).toNat:Int):=by cases k <;> first|rfl|cases hk
 have e:(BitVec.ofInt 64 (a:Int) &&& ~~~ BitVec.ofInt 64 (b:Int)).toNat = sdiff a b:=by
  apply Nat.eq_of_testBit_eq
  intro i
  rw [BitVec.toNat_and,Nat.testBit_and,ofIntN ha,testBit_sdiff]
  by_cases hi:i < 64
  ·congr 1
   rw [BitVec.testBit_toNat,BitVec.getLsbD_not,decide_eq_true hi,Bool.true_and,← BitVec.testBit_toNat,ofIntN hb]
  ·have:a.testBit i = false:=Nat.testBit_lt_two_pow (Nat.lt_of_lt_of_le ha (by
    have:(2:Nat) ^ 63 ≤ 2 ^ i:=Nat.pow_le_pow_right (by decide) (by omega)
    omega))
   rw [this];rfl
 rw [e2,e,wrapN hk (Nat.lt_of_lt_of_le (sdiff_lt (n:=63) (by omega)) (by decide))];exact h⟩
theorem FBit.shl1 {k:IntKind} (hk:k64 k = true) {j:Nat} {K:Int → Prop} (hj:j < 63) (h:K ((2 ^ j:Nat):Int)):FBit .shl k 1 (j:Int) K:=⟨by
 simp only [rawBit,k64_bits hk]
 have h1:(1:Int) * 2 ^ min ((j:Int)).toNat 64 = ((2 ^ j:Nat):Int):=by
  rw [Int.toNat_natCast,Nat.min_eq_left (by omega),Int.one_mul];simp
 have h2:2 ^ j < 2 ^ 63:=Nat.pow_lt_pow_right (by decide) hj
 rw [h1,wrapN hk (by omega)];exact h⟩
theorem FBit.shrN {k:IntKind} (hk:k64 k = true) {m j:Nat} {K:Int → Prop} (hj:j ≤ 64) (h:K ((m >>> j:Nat):Int)):FBit .shr k (m:Int) (j:Int) K:=⟨by
 simp only [rawBit,k64_bits hk]
 have h1:(m:Int).fdiv (2 ^ min ((j:Int)).toNat 64) = ((m >>> j:Nat):Int):=by
  rw [Int.toNat_natCast,Nat.min_eq_left (by omega),Nat.shiftRight_eq_div_pow]
  have:((2:Int) ^ j) = ((2 ^ j:Nat):Int):=by simp
  rw [this,Int.fdiv_eq_ediv_of_nonneg _ (Int.natCast_nonneg _)]
  rfl
 rw [h1];exact h⟩
theorem FBit.shrI {k:IntKind} (hk:k64 k = true) {x y:Int} {K:Int → Prop} (hx:0 ≤ x) (hy:0 ≤ y ∧ y ≤ 64) (h:K ((x.toNat >>> y.toNat:Nat):Int)):FBit .shr k x y K:=by
 have:=FBit.shrN hk (m:=x.toNat) (j:=y.toNat) (K:=K) (by omega) h
 rwa [Int.toNat_of_nonneg hx,Int.toNat_of_nonneg hy.1] at this
theorem FBit.shrNI {k:IntKind} (hk:k64 k = true) {m:Nat} {y:Int} {K:Int → Prop} (hy:0 ≤ y ∧ y ≤ 64) (h:K ((m >>> y.toNat:Nat):Int)):FBit .shr k (m:Int) y K:=FBit.shrI hk (by omega) hy h
theorem FBit.shrIN {k:IntKind} (hk:k64 k = true) {x:Int} {j:Nat} {K:Int → Prop} (hx:0 ≤ x) (hj:j ≤ 64) (h:K ((x.toNat >>> j:Nat):Int)):FBit .shr k x (j:Int) K:=FBit.shrI hk hx (by omega) h
theorem FBit.half {k:IntKind} (hk:k64 k = true) {m:Nat} {K:Int → Prop} (h:K ((m / 2:Nat):Int)):FBit .shr k (m:Int) 1 K:=by
 refine FBit.shrN (j:=1) hk (by decide) ?_
 rwa [Nat.shiftRight_eq_div_pow]
theorem FBit.shl1I {k:IntKind} (hk:k64 k = true) {y:Int} {K:Int → Prop} (hj:0 ≤ y ∧ y < 63) (h:K ((2 ^ y.toNat:Nat):Int)):FBit .shl k 1 y K:=by
 have:=FBit.shl1 hk (j:=y.toNat) (K:=K) (by omega) h
 rwa [Int.toNat_of_nonneg hj.1] at this
theorem FBit.orI {k:IntKind} (hk:k64 k = true) {x y:Int} {a b:Nat} {K:Int → Prop} (hx:x = a) (hy:y = b) (ha:a < 9223372036854775808) (hb:b < 9223372036854775808) (h:K ((a ||| b:Nat):Int)):FBit .or k x y K:=by
 subst hx;subst hy;exact FBit.orN hk ha hb h
theorem FBit.andI {k:IntKind} (hk:k64 k = true) {x y:Int} {a b:Nat} {K:Int → Prop} (hx:x = a) (hy:y = b) (ha:a < 9223372036854775808) (hb:b < 9223372036854775808) (h:K ((a &&& b:Nat):Int)):FBit .and k x y K:=by
 subst hx;subst hy;exact FBit.andN hk ha hb h
theorem FBit.andNotI {k:IntKind} (hk:k64 k = true) {x y:Int} {a b:Nat} {K:Int → Prop} (hx:x = a) (hy:y = b) (ha:a < 9223372036854775808) (hb:b < 9223372036854775808) (h:K ((sdiff a b:Nat):Int)):FBit .andNot k x y K:=by
 subst hx;subst hy;exact FBit.andNotN hk ha hb h
theorem and1 {k:IntKind} (hk:k64 k = true) (m:Nat):rawBit .and k (m:Int) 1 = ((m % 2:Nat):Int):=by
 have e2:rawBit .and k (m:Int) 1 = k.wrap ((BitVec.ofInt 64 (m:Int) &&& BitVec.ofInt 64 1).toNat:Int):=by cases k <;> first|rfl|cases hk
 have h1:(BitVec.ofInt 64 (1:Int)).toNat = 1:=by decide
 have h2:(BitVec.ofInt 64 (m:Int)).toNat = m % 2 ^ 64:=by rw [BitVec.ofInt_natCast,BitVec.toNat_ofNat]
 rw [e2,BitVec.toNat_and,h1,h2,Nat.and_one_is_mod,wrapN hk (by omega)]
 congr 1
 omega
theorem FBit.and1 {k:IntKind} (hk:k64 k = true) {m:Nat} {K:Int → Prop} (h:K ((m % 2:Nat):Int)):FBit .and k (m:Int) 1 K:=⟨by rw [Proofs.Ytbhjehpjjbbhbaa.and1 hk];exact h⟩
theorem bit_mod (m j:Nat):(m >>> j) % 2 = if m.testBit j then 1 else 0:=by
 rw [Nat.testBit_eq_decide_div_mod_eq,Nat.shiftRight_eq_div_pow]
 by_cases h:m / 2 ^ j % 2 = 1
 ·rw [decide_eq_true h,h];rfl
 ·rw [decide_eq_false h]
  simp only [Bool.false_eq_true,if_false]
  omega
theorem FBit.has {k:IntKind} (hk:k64 k = true) {m j:Nat} {K:Int → Prop} (h1:m.testBit j = true → K 1) (h0:m.testBit j = false → K 0):FBit .and k ((m >>> j:Nat):Int) 1 K:=⟨by
 rw [Proofs.Ytbhjehpjjbbhbaa.and1 hk,bit_mod]
 cases h:m.testBit j
 ·exact h0 h
 ·exact h1 h⟩
theorem FBit.hasT {k:IntKind} (hk:k64 k = true) {m j:Nat} {K:Int → Prop} (h:m.testBit j = true) (h1:K 1):FBit .and k ((m >>> j:Nat):Int) 1 K:=FBit.has hk (fun _=>h1) (fun h'=>by rw [h] at h';cases h')
theorem FBit.hasF {k:IntKind} (hk:k64 k = true) {m j:Nat} {K:Int → Prop} (h:m.testBit j = false) (h1:K 0):FBit .and k ((m >>> j:Nat):Int) 1 K:=FBit.has hk (fun h'=>by rw [h] at h';cases h') (fun _=>h1)
end Go.Proofs.Ytbhjehpjjbbhbaa

namespace Go.Proofs.Ytbhjehpjjbbhbaa
open Go.RowKit

theorem FCond.tA {q:Bool} {A B:Prop} (a:A) (h:q = true:=by first|assumption|(rw [zA];omega)|(simp only [zA,zB,zC,zD,zE,zF,zG,ne_eq, *];done)|(simp only [zA,zB,zC,zD,zE,zF,zG,ne_eq];omega)|decide|fail):FCond q A B:=.t h a
theorem FCond.fA {q:Bool} {A B:Prop} (b:B) (h:q = false:=by first|assumption|(rw [zE];omega)|(simp only [zE,zH,zI,zJ,zA, *];done)|(simp only [zE,zH,zI,zJ,zA];omega)|decide|fail):FCond q A B:=.f h b
theorem needA {p:Prop} (h:p:=by first|omega|(unfold maxLen;omega)|(simp only [maxLen,List.length_cons,List.length_map,List.length_range,true_or,or_true,true_and,and_true] <;> omega)|((conv=>whnf);exact ⟨rfl⟩)|((conv=>whnf);(repeat ((first|with_reducible refine FCond.tA ?_|with_reducible refine FCond.fA ?_|with_reducible refine Need.mk (by omega) ?_|with_reducible refine FIdx.nat (by omega) ?_|with_reducible refine FIdx.int (by omega) ?_);(conv=>whnf)));exact ⟨rfl⟩)|fail):p:=h
theorem allA {p:Prop} (h:p:=by (repeat (first|exact True.intro|exact Ln.sameB _ rfl|exact Ln.sameB _ (by assumption)|exact Ln.slz _ _ _ _ _ _ _ (by decide)|exact Ln.bot _|exact Ln.own _ _ _ rfl|exact Ln.ptr _ _ _ rfl|exact Ln.rp _ _ _ _ _ rfl|exact Ln.mpv _ _ rfl|(refine Ln.int ?_;first|rfl|omega)|(refine Ln.ownE rfl ?_;omega)|(refine Ln.bool ?_;first|assumption|(simp;done))|exact Ln.pub _ _ _ _ _ _ (goneB rfl) rfl (by omega) (fun _ _ _ _=>rfl)|refine Ln.fnN ?_|refine Ln.aggN ?_|refine Ln.tupN ?_|refine ⟨?_,?_⟩))):p:=h
theorem Ln.A {σ:Nat → Nat → Prop} {Bp:Nat → Prop} {H:List AB} {v v':AV} (h:Ln σ Bp H v v':=by first|exact Ln.sameB _ rfl|exact Ln.sameB _ (by assumption)|exact Ln.slz _ _ _ _ _ _ _ (by decide)|exact Ln.bot _|exact Ln.own _ _ _ rfl|exact Ln.ptr _ _ _ rfl|exact Ln.rp _ _ _ _ _ rfl|exact Ln.mpv _ _ rfl|(refine Ln.int ?_;first|rfl|omega)|(refine Ln.ownE rfl ?_;omega)|(refine Ln.bool ?_;first|assumption|(simp;done))|exact Ln.pub _ _ _ _ _ _ (goneB rfl) rfl (by omega) (fun _ _ _ _=>rfl)|(refine Ln.fnN ?_;exact allA)|(refine Ln.aggN ?_;exact allA)|(refine Ln.tupN ?_;exact allA)|fail):Ln σ Bp H v v':=h
theorem LnB.mpS {σ:Nat → Nat → Prop} {Bp:Nat → Prop} {H:List AB} {kt:Nat} {L:List (List Int × AV)}:LnB σ Bp H (.mp kt L) (.mp kt L):=⟨rfl,rfl⟩
theorem LnB.mitS {σ:Nat → Nat → Prop} {Bp:Nat → Prop} {H:List AB} {d i n:Nat} {s:List Nat} (h:σ d i):LnB σ Bp H (.mit (.mpv d) n s) (.mit (.mpv i) n s):=⟨.mpv d i h,rfl,rfl⟩
theorem LnB.A {σ:Nat → Nat → Prop} {Bp:Nat → Prop} {H:List AB} {x y:AB} (h:LnB σ Bp H x y:=by first|exact LnB.rowS|exact LnB.mpS|exact LnB.mitS rfl|exact LnB.app (fun _ _ _ _=>rfl) (fun _ _=>rfl)|exact LnB.app (fun k hk=>absurd hk (Nat.not_lt_zero k)) (fun _ _=>rfl)|(refine LnB.boxN ?_;exact allA)|fail):LnB σ Bp H x y:=h
theorem Cut.A {N:Nat} {sel:List Nat} {h h2:List AB} (p:Cut N sel h h2:=by (refine Cut.of (Nat.le_of_ble_eq_true rfl) rfl rfl ?_;repeat (first|exact CutL.done|(refine CutL.turned rfl LnB.A ?_)|(refine CutL.gone (Nat.lt_of_lt_of_le (Nat.lt_succ_self _) (Nat.le_of_ble_eq_true rfl)) ?_)))):Cut N sel h h2:=p
theorem avB {a b:Bool} (h:a = b:=by (rw [Bool.eq_iff_iff];simp only [decide_eq_true_eq,Bool.false_eq_true,Bool.and_eq_true,Bool.or_eq_true,false_iff,true_iff,iff_true,iff_false];omega)):AV.bool a = AV.bool b:=congrArg AV.bool h
theorem FCond.i2 {q:Bool} {A B:Prop} (h1:q = true → FCond q A B) (h2:q = false → FCond q A B):FCond q A B:=by
 cases hq:q
 ·rw [hq] at h2;exact h2 rfl
 ·rw [hq] at h1;exact h1 rfl
theorem FCond.uT {q:Bool} {A B:Prop} (k:q = true → FCond q A B) (h:q = true:=by first|assumption|(rw [zA];omega)|(simp only [zA,zB,zC,zD,zE,zF,zG,ne_eq, *];done)|(simp only [zA,zB,zC,zD,zE,zF,zG,ne_eq];omega)|decide|fail):FCond q A B:=k h
theorem FCond.uF {q:Bool} {A B:Prop} (k:q = false → FCond q A B) (h:q = false:=by first|assumption|(rw [zE];omega)|(simp only [zE,zH,zI,zJ,zA, *];done)|(simp only [zE,zH,zI,zJ,zA];omega)|decide|fail):FCond q A B:=k h
/-- What several ways have in common is shown once. -/
structure Hold (A:Prop):Prop where
 h:A
theorem cutG {A B:Prop} (h:Hold A → B) (a:A):B:=h ⟨a⟩
structure LEndM3 {X Y Z:Type} (N:Nat) (S:X → Y → Z → List (Nat × AV)) (H:X → Y → Z → List AB) (Inv:X → Y → Z → Prop) (μ:X → Y → Z → Nat) (n:Nat) (e:Env) (h:List AB):Prop where
 ex:∃ x' y' z',Inv x' y' z' ∧ μ x' y' z' < n ∧ ∃ sel,Cut N sel h (H x' y' z') ∧ SlotsL sel h (H x' y' z') (S x' y' z') e
theorem FLoop.of3M {C:CallP} (hC:C.Mono) {N:Nat} {c:ACo} {Q:AEx → Env → List AB → Prop} {e:Env} {h:List AB} {X Y Z:Type} (S:X → Y → Z → List (Nat × AV)) (H:X → Y → Z → List AB) (Inv:X → Y → Z → Prop) (μ:X → Y → Z → Nat) (x0:X) (y0:Y) (z0:Z)
  (start:Inv x0 y0 z0 ∧ ∃ sel,Cut N sel h (H x0 y0 z0) ∧ SlotsL sel h (H x0 y0 z0) (S x0 y0 z0) e)
  (round:∀ x y z n,Inv x y z → μ x y z = n → fawp C N c (AEx.then (LEndM3 N S H Inv μ n) Q) (slots (S x y z)) (H x y z)):FLoop C N c Q e h :=
 FLoop.ofA hC (fun p:X × Y × Z=>S p.1 p.2.1 p.2.2) (fun p=>H p.1 p.2.1 p.2.2) (fun p=>Inv p.1 p.2.1 p.2.2) (fun p=>μ p.1 p.2.1 p.2.2) (x0,y0,z0) start fun p hp =>
  awp_mono hC c (then_mono fun _ _ ⟨x',y',z',h⟩=>⟨(x',y',z'),h⟩) (fawp_ok hC c (round p.1 p.2.1 p.2.2 _ hp rfl))

theorem wA {n : Int} {K : Int → Prop} (k : K n) (h : -9223372036854775808 ≤ n ∧ n ≤ 9223372036854775807 := by omega) : Fits .i64 n K := Fits.in64 h k
theorem wB {k n : Nat} {K : Nat → Prop} (h : K k) (hk : k < n := by omega) : FIdx (k : Int) n K := FIdx.nat hk h
theorem wC {j : Int} {n : Nat} {K : Nat → Prop} (h : K j.toNat) (hj : 0 ≤ j ∧ j < n := by omega) : FIdx j n K := ⟨hj, h⟩
theorem wD {k n : Nat} {K : Nat → Prop} (h : K k) (hk : k ≤ n := by omega) : FTo (k : Int) n K := FTo.nat hk h
theorem wE {j : Int} {n : Nat} {K : Nat → Prop} (h : K j.toNat) (hj : 0 ≤ j ∧ j ≤ n := by omega) : FTo j n K := ⟨hj, h⟩
theorem wK {a b : Int} : ¬a ≤ b ↔ b < a := Int.not_le
theorem wL {a b : Int} : ¬a < b ↔ b ≤ a := Int.not_lt
theorem wT {q : Bool} {A B : Prop} (a : A) (h : q = true := by first | assumption | (rw [zA]; omega) | (simp only [zA, zB, zC, zD, zE, zF, zG, ne_eq, *]; done) | (simp only [zA, zB, zC, zD, zE, zF, zG, ne_eq]; omega) | decide | fail) : FCond q A B := FCond.t h a
theorem wF {q : Bool} {A B : Prop} (b : B) (h : q = false := by first | assumption | (rw [zE]; omega) | (simp only [zE, zH, zI, zJ, zA, *]; done) | (simp only [zE, zH, zI, zJ, zA]; omega) | decide | fail) : FCond q A B := FCond.f h b
theorem wI {q : Bool} {A B : Prop} (h1 : q = true → A) (h2 : q = false → B) : FCond q A B := FCond.i h1 h2
theorem wJ {q : Bool} {A B : Prop} (h1 : q = true → FCond q A B) (h2 : q = false → FCond q A B) : FCond q A B := FCond.i2 h1 h2
theorem wN {p K : Prop} (a : p) (b : K) : Need p K := ⟨a, b⟩
theorem wG {A B : Prop} (h : A) : FApp A B := FApp.grow h
theorem wP {A B : Prop} (a : A) : FOr A B := .pub a
theorem wV {sel : List Nat} {h h2 : List AB} {d : Nat} {x y : AB} {ds : List Nat} {ys : List AB} (hd : h[d]? = some x) (hx : LnB (fun d i => sel[i]? = some d) (fun d => ∀ i, sel[i]? = some d → ¬ live h2 i) h x y) (hr : CutL sel h h2 ds ys) : CutL sel h h2 (d :: ds) (y :: ys) := CutL.turned hd hx hr
theorem wX {sel : List Nat} {h h2 : List AB} : CutL sel h h2 [] [] := CutL.done
theorem wO {N : Nat} {sel : List Nat} {h h2 : List AB} (hN : Nat.ble N h2.length = true) (hid : idsB N sel = true) (hnd : nodupB sel = true) (hc : CutL sel h h2 sel h2) : Cut N sel h h2 := Cut.of (Nat.le_of_ble_eq_true hN) hid hnd hc
end Go.Proofs.Ytbhjehpjjbbhbaa

namespace Go.Proofs.Ytbhjehpjjbbhbaa

structure Folk where
 tongues:Int
 slots:Int
 pay:Int
 deriving Inhabited
structure Pool where
 folk:List Folk
 needs:List (List Int)
 ill:Int
 most:Int
def fo0 : Folk:=⟨0,0,0⟩
abbrev inB (n lo hi:Int):Bool:=decide (lo ≤ n ∧ n ≤ hi)
def Pool.row (p:Pool) (s:Nat):List Int:=p.needs.getD s []
def Pool.nT (p:Pool):Nat:=(p.row 0).length
def rowOk (n:Nat) (r:List Int):Bool:=decide (r.length = n) && r.all fun x=>inB x 0 8
def Folk.ok (t s:Nat) (f:Folk):Bool:=inB f.tongues 0 ((2 ^ t:Nat) - 1) && inB f.slots 0 ((2 ^ s:Nat) - 1) && inB f.pay 0 1000
def Pool.ok (p:Pool):Bool:=inB p.folk.length 1 8 && inB p.needs.length 1 6 && inB p.nT 1 5 && inB p.ill 0 3 && inB p.most 0 6 && p.needs.all (rowOk p.nT) && p.folk.all (Folk.ok p.nT p.needs.length)
def checkP (p:Pool):Int:=if p.ok then 0 else 100
/-- How many of the first bits are set. -/
def popN : Nat → Nat → Nat
 | 0,_=>0
 | f + 1,s=>s % 2 + popN f (s / 2)
def pop (s:Nat):Nat:=popN 8 s
structure PoolOk (p:Pool):Prop where
 n1:1 ≤ p.folk.length
 n8:p.folk.length ≤ 8
 s1:1 ≤ p.needs.length
 s6:p.needs.length ≤ 6
 t1:1 ≤ p.nT
 t5:p.nT ≤ 5
 ill:0 ≤ p.ill ∧ p.ill ≤ 3
 most:0 ≤ p.most ∧ p.most ≤ 6
 row:∀ s,s < p.needs.length → (p.row s).length = p.nT ∧ ∀ t,t < p.nT → 0 ≤ (p.row s).getD t 0 ∧ (p.row s).getD t 0 ≤ 8
 folk:∀ i,i < p.folk.length → (0 ≤ (p.folk.getD i fo0).tongues ∧ (p.folk.getD i fo0).tongues < ((2 ^ p.nT:Nat):Int)) ∧ (0 ≤ (p.folk.getD i fo0).slots ∧ (p.folk.getD i fo0).slots < ((2 ^ p.needs.length:Nat):Int)) ∧ (0 ≤ (p.folk.getD i fo0).pay ∧ (p.folk.getD i fo0).pay ≤ 1000)
theorem all_getD {α:Type} {q:α → Bool} {l:List α} (d:α) (h:l.all q = true) {i:Nat} (hi:i < l.length):q (l.getD i d) = true:=by
 simp only [List.getD,List.getElem?_eq_getElem hi,Option.getD_some]
 exact List.all_eq_true.1 h _ (List.getElem_mem hi)
theorem pool_d {p:Pool} (h:p.ok = true):PoolOk p:=by
 unfold Pool.ok at h
 simp only [Bool.and_eq_true,decide_eq_true_eq] at h
 obtain ⟨⟨⟨⟨⟨⟨a,b⟩,c⟩,d⟩,e⟩,r⟩,f⟩:=h
 refine ⟨by omega,by omega,by omega,by omega,by omega,by omega,d,e,fun s hs=>?_,fun i hi=>?_⟩
 ·have:=all_getD [] r hs
  unfold rowOk at this
  simp only [Bool.and_eq_true,decide_eq_true_eq] at this
  refine ⟨this.1,fun t ht=>?_⟩
  have:=all_getD (0:Int) this.2 (show t < (p.needs.getD s []).length by rw [this.1];exact ht)
  simp only [decide_eq_true_eq] at this
  exact this
 ·have:=all_getD fo0 f hi
  unfold Folk.ok at this
  simp only [Bool.and_eq_true,decide_eq_true_eq] at this
  omega
theorem check_0 {p:Pool}:checkP p = 0 ↔ p.ok = true:=by
 unfold checkP
 cases p.ok <;> simp
theorem check_100 {p:Pool} (h:p.ok = false):checkP p = 100:=by unfold checkP;rw [h];rfl
def Pool.tg (p:Pool) (i:Nat):Nat:=(p.folk.getD i fo0).tongues.toNat
def Pool.sl (p:Pool) (i:Nat):Nat:=(p.folk.getD i fo0).slots.toNat
def Pool.pay (p:Pool) (i:Nat):Int:=(p.folk.getD i fo0).pay
/-- How much is needed for some languages together: the sum over the first k. -/
def needTo (p:Pool) (s T:Nat):Nat → Int
 | 0=>0
 | k + 1=>needTo p s T k + if T.testBit k then (p.row s).getD k 0 else 0
def needT (p:Pool) (s T:Nat):Int:=needTo p s T p.nT
/-- How many of a set have some of some languages: of the first k. -/
def whoTo (p:Pool) (g T:Nat):Nat → Nat
 | 0=>0
 | k + 1=>whoTo p g T k + if g.testBit k && decide (p.tg k &&& T ≠ 0) then 1 else 0
def whoT (p:Pool) (g T:Nat):Nat:=whoTo p g T p.folk.length
def missT (p:Pool) (s g T:Nat):Int:=needT p s T - whoT p g T
def servesT (p:Pool) (s g:Nat):Bool:=(List.range (2 ^ p.nT)).all fun T=>decide (missT p s g T ≤ 0)
def standsT (p:Pool) (s g:Nat) (k:Int):Bool:=(List.range (g + 1)).all fun ill=>!(decide (sdiff ill g = 0) && decide ((pop ill:Int) ≤ k)) || servesT p s (sdiff g ill)
def coveredT (p:Pool) (s g:Nat):Bool:=standsT p s g p.ill
/-- Who can be on call. -/
def canT (p:Pool) (s g:Nat):Bool:=(List.range p.folk.length).all fun i=>!(g.testBit i) || (p.sl i).testBit s
def canBe (p:Pool) (s:Nat) (g:Int):Bool:=inB g 0 ((2 ^ p.folk.length:Nat) - 1) && canT p s g.toNat
/-- In how many of the first slots somebody is. -/
def onTo (w:List Int) (i:Nat):Nat → Nat
 | 0=>0
 | s + 1=>onTo w i s + if (w.getD s 0).toNat.testBit i then 1 else 0
def isWatch (p:Pool) (w:List Int):Bool:=decide (w.length = p.needs.length) && ((List.range w.length).all fun s=>canBe p s (w.getD s 0)) && (List.range p.folk.length).all fun i=>decide ((onTo w i w.length:Int) ≤ p.most)
def checkW (p:Pool) (w:List Int):Int:=if p.ok then (if isWatch p w then 0 else 101) else 100
def safeT (p:Pool) (w:List Int):Bool:=(List.range w.length).all fun s=>coveredT p s (w.getD s 0).toNat
def safeE (p:Pool) (w:List Int):Bool × Int:=if checkW p w = 0 then (safeT p w,0) else (false,checkW p w)
/-- How many can be ill, whichever they are. -/
def spareTo (p:Pool) (s g:Nat):Nat → Int
 | 0=>pop g
 | T + 1=>if 0 < needT p s T then min (spareTo p s g T) ((whoT p g T:Int) - needT p s T) else spareTo p s g T
def spareT (p:Pool) (s g:Nat):Int:=max (-1) (spareTo p s g (2 ^ p.nT))
end Go.Proofs.Ytbhjehpjjbbhbaa

namespace Go.Proofs.Ytbhjehpjjbbhbaa
open Go.RowKit

theorem mixed : Try.prog.follows .mixedOrders = true:=by kernel_rfl
abbrev AI (n:Int):AV:=.int .i64 n
abbrev AU (n:Nat):AV:=.int .u64 n
abbrev aInts (z e:Bool) (l:List Int):AV:=.sl z e l.length 1 (fun k _=>AI (l.getD k 0))
abbrev nilS : AV:=.sl true true 0 0 (fun _ _=>.bot)
structure PoF where
 zf:Bool
 ef:Bool
 zn:Bool
 en:Bool
 rz:Nat → Bool
 re:Nat → Bool
abbrev cFolk (x:Folk):Nat → AV:=ofL [AI x.tongues,AI x.slots,AI x.pay]
abbrev aFolk (x:Folk):AV:=.agg 3 (cFolk x)
abbrev aFolks (z e:Bool) (l:List Folk):AV:=.sl z e l.length 3 (fun k=>cFolk (l.getD k fo0))
abbrev aRows (z e:Bool) (rz re:Nat → Bool) (l:List (List Int)):AV:=.sl z e l.length 1 (fun k _=>aInts (rz k) (re k) (l.getD k []))
abbrev cPool (f:PoF) (p:Pool):Nat → AV:=ofL [aFolks f.zf f.ef p.folk,aRows f.zn f.en f.rz f.re p.needs,AI p.ill,AI p.most]
abbrev aPool (f:PoF) (p:Pool):AV:=.agg 4 (cPool f p)
theorem int_eq {k:IntKind} {a b:Int} (h:a = b):AV.int k a = AV.int k b:=by rw [h]
theorem bool_eq {a b:Bool} (h:a = b):AV.bool a = AV.bool b:=by rw [h]
theorem drop_eq {α:Type} {l:List α} {i:Nat} (d:α) (h:i < l.length):l.drop i = l.getD i d :: l.drop (i + 1):=by
 rw [List.drop_eq_getElem_cons h];simp [List.getD,List.getElem?_eq_getElem h]
theorem all_step {α:Type} {p:α → Bool} {l:List α} {i:Nat} (d:α) (h:i < l.length) (e:l.all p = (l.drop i).all p) (hp:p (l.getD i d) = true):l.all p = (l.drop (i + 1)).all p:=by
 rw [e,drop_eq d h,List.all_cons,hp,Bool.true_and]
theorem all_no {α:Type} {p:α → Bool} {l:List α} {i:Nat} (d:α) (h:i < l.length) (e:l.all p = (l.drop i).all p) (hp:p (l.getD i d) = false):l.all p = false:=by
 rw [e,drop_eq d h,List.all_cons,hp,Bool.false_and]
theorem all_end {α:Type} {p:α → Bool} {l:List α} {i:Nat} (h:l.length ≤ i) (e:l.all p = (l.drop i).all p):l.all p = true:=by
 rw [e,List.drop_eq_nil_of_le h];rfl
theorem rall_no {p:Nat → Bool} {n i:Nat} (h:i < n) (hp:p i = false):(List.range n).all p = false:=by
 rw [List.all_eq_false];exact ⟨i,List.mem_range.2 h,by rw [hp];decide⟩
theorem rall_yes {p:Nat → Bool} {n:Nat} (h:∀ i,i < n → p i = true):(List.range n).all p = true:=by
 rw [List.all_eq_true];exact fun i hi=>h i (List.mem_range.1 hi)
theorem rall_get {p:Nat → Bool} {n i:Nat} (h:(List.range n).all p = true) (hi:i < n):p i = true:=List.all_eq_true.1 h i (List.mem_range.2 hi)
theorem below_step {p:Nat → Prop} {i:Nat} (h:∀ k,k < i → p k) (hi:p i):∀ k,k < i + 1 → p k:=fun k hk=>by
 rcases Nat.lt_or_ge k i with h'|h'
 ·exact h k h'
 ·obtain rfl:k = i:=by omega
  exact hi
theorem popN_le : ∀ f s,popN f s ≤ f
 | 0,_=>Nat.le_refl _
 | f + 1,s=>by
  have:=popN_le f (s / 2)
  simp only [popN];omega
/-- How many of the first k bits are set. -/
def popTo (s:Nat):Nat → Nat
 | 0=>0
 | k + 1=>popTo s k + if s.testBit k then 1 else 0
theorem popTo_le (s:Nat):∀ k,popTo s k ≤ k
 | 0=>Nat.le_refl _
 | k + 1=>by have:=popTo_le s k;simp only [popTo];split <;> omega
theorem pop_popTo : ∀ s:Nat,s < 256 → popTo s 8 = pop s:=by
 have:∀ s:_root_.Fin 256,popTo s.val 8 = pop s.val:=by decide +kernel
 exact fun s hs=>this ⟨s,hs⟩
theorem pow8 {n:Nat} (h:n ≤ 8):1 ≤ 2 ^ n ∧ 2 ^ n ≤ 256:=⟨Nat.two_pow_pos _,Nat.le_trans (Nat.pow_le_pow_right (by decide) h) (by decide)⟩

set_option maxHeartbeats 4000000
set_option maxRecDepth 100000
theorem within_ok (n lo hi:Int):ACall Try.prog 44 [AI n,AI lo,AI hi] [] (fun r h=>r = .bool (inB n lo hi) ∧ h = []):=by
 (refine fcall_of mixed Try.func44 rfl (by decide) (hs:={}) ?k (ac:=?ac) ?c (rs:=?rs) ?r ?l ?H;(case k=>kernel_rfl);(case c=>(conv=>(lhs;cbv)));(case r=>(conv=>(lhs;cbv)));(case l=>exact Nat.le_of_ble_eq_true rfl))
 (repeat' ((try conv=>whnf);first|(with_reducible first|refine wT ?_|refine wF ?_|(refine wI (fun hq=>?_) (fun hq=>?_) <;> try simp only [zA,zE,zD,zJ,zB,zI,wK,wL] at hq)|refine wA ?_|refine wB ?_|refine wC ?_|refine wD ?_|refine wE ?_)|((with_reducible refine wN ?_ ?_);focus exact needA)|(with_reducible refine wG ?_)|(with_reducible refine wP ?_)))
 all_goals ((refine ⟨⟨_,[],[],Cut.nil _,Ln.sameB _ rfl,?_,rfl⟩⟩);unfold inB;(exact avB))
theorem has_ok (s n:Nat) (hn:n ≤ 64):ACall Try.prog 50 [AI s,AI n] [] (fun r h=>r = .bool (s.testBit n) ∧ h = []):=by
 (refine fcall_of mixed Try.func50 rfl (by decide) (hs:={}) ?k (ac:=?ac) ?c (rs:=?rs) ?r ?l ?H;(case k=>kernel_rfl);(case c=>(conv=>(lhs;cbv)));(case r=>(conv=>(lhs;cbv)));(case l=>exact Nat.le_of_ble_eq_true rfl))
 (repeat' ((try conv=>whnf);first|(with_reducible first|refine wT ?_|refine wF ?_|(refine wI (fun hq=>?_) (fun hq=>?_) <;> try simp only [zA,zE,zD,zJ,zB,zI,wK,wL] at hq)|refine wA ?_|refine wB ?_|refine wC ?_|refine wD ?_|refine wE ?_)|((with_reducible refine wN ?_ ?_);focus exact needA)|(with_reducible first|refine FBit.hasT rfl (by assumption) ?_|refine FBit.hasF rfl (by assumption) ?_|refine FBit.shrN rfl (by omega) ?_|refine FBit.half rfl ?_|refine FBit.shl1 rfl (by omega) ?_|refine Fits.inU (by omega) ?_|refine FBit.shrNI rfl (by omega) ?_|refine FBit.shrIN rfl (by omega) (by omega) ?_|refine FBit.shrI rfl (by omega) (by omega) ?_|refine FBit.shl1I rfl (by omega) ?_)|(with_reducible refine FBit.has rfl (fun hq=>?_) (fun hq=>?_))|(with_reducible first|refine FBit.and1 rfl ?_|refine FBit.andN rfl (by omega) (by omega) ?_|refine FBit.orN rfl (by omega) (by omega) ?_|refine FBit.andNotN rfl (by omega) (by omega) ?_)|(with_reducible refine wG ?_)|(with_reducible refine wP ?_)))
 all_goals ((refine ⟨⟨_,[],[],Cut.nil _,Ln.sameB _ rfl,?_,rfl⟩⟩);rw [hq];rfl)
theorem has_i (s:Int) (n:Nat) (hs:0 ≤ s) (hn:n ≤ 64):ACall Try.prog 50 [AI s,AI n] [] (fun r h=>r = .bool (s.toNat.testBit n) ∧ h = []):=by
 have:=has_ok s.toNat n hn
 rwa [Int.toNat_of_nonneg hs] at this
/-- The same of any number. -/
def hasZ (s:Int) (n:Nat):Bool:=decide (rawBit .and .i64 (rawBit .shr .i64 s (n:Int)) 1 = 1)
theorem has_z (s:Int) (n:Nat) (hn:n ≤ 64):ACall Try.prog 50 [AI s,AI n] [] (fun r h=>r = .bool (hasZ s n) ∧ h = []):=by
 (refine fcall_of mixed Try.func50 rfl (by decide) (hs:={}) ?k (ac:=?ac) ?c (rs:=?rs) ?r ?l ?H;(case k=>kernel_rfl);(case c=>(conv=>(lhs;cbv)));(case r=>(conv=>(lhs;cbv)));(case l=>exact Nat.le_of_ble_eq_true rfl))
 (repeat' ((try conv=>whnf);first|(with_reducible first|refine wT ?_|refine wF ?_|(refine wI (fun hq=>?_) (fun hq=>?_) <;> try simp only [zA,zE,zD,zJ,zB,zI,wK,wL] at hq)|refine wA ?_|refine wB ?_|refine wC ?_|refine wD ?_|refine wE ?_)|((with_reducible refine wN ?_ ?_);focus exact needA)|(with_reducible first|refine FBit.hasT rfl (by assumption) ?_|refine FBit.hasF rfl (by assumption) ?_|refine FBit.shrN rfl (by omega) ?_|refine FBit.half rfl ?_|refine FBit.shl1 rfl (by omega) ?_|refine Fits.inU (by omega) ?_|refine FBit.shrNI rfl (by omega) ?_|refine FBit.shrIN rfl (by omega) (by omega) ?_|refine FBit.shrI rfl (by omega) (by omega) ?_|refine FBit.shl1I rfl (by omega) ?_)|(with_reducible refine FBit.has rfl (fun hq=>?_) (fun hq=>?_))|(with_reducible first|refine FBit.and1 rfl ?_|refine FBit.andN rfl (by omega) (by omega) ?_|refine FBit.orN rfl (by omega) (by omega) ?_|refine FBit.andNotN rfl (by omega) (by omega) ?_)|(with_reducible refine wG ?_)|(refine FBit.mk ?_)|(with_reducible refine wP ?_)))
 all_goals (try conv=>whnf)
 all_goals (refine ⟨⟨_,[],[],Cut.nil _,Ln.sameB _ rfl,?_,rfl⟩⟩)
 all_goals rfl
theorem tongues_ok (f:PoF) (p:Pool) (h:0 < p.needs.length):ACall Try.prog 14 [aPool f p] [] (fun r h=>r = AI p.nT ∧ h = []):=by
 (refine fcall_of mixed Try.func14 rfl (by decide) (hs:={}) ?k (ac:=?ac) ?c (rs:=?rs) ?r ?l ?H;(case k=>kernel_rfl);(case c=>(conv=>(lhs;cbv)));(case r=>(conv=>(lhs;cbv)));(case l=>exact Nat.le_of_ble_eq_true rfl))
 (repeat' ((try conv=>whnf);first|(with_reducible first|refine wT ?_|refine wF ?_|(refine wI (fun hq=>?_) (fun hq=>?_) <;> try simp only [zA,zE,zD,zJ,zB,zI,wK,wL] at hq)|refine wA ?_|refine wB ?_|refine wC ?_|refine wD ?_|refine wE ?_)|((with_reducible refine wN ?_ ?_);focus exact needA)|(with_reducible refine wG ?_)|(with_reducible refine wP ?_)))
 all_goals (try conv=>whnf)
 (refine ⟨⟨_,[],[],Cut.nil _,Ln.sameB _ rfl,?_,rfl⟩⟩)
 rfl
theorem isSlot_ok (f:PoF) (p:Pool) (s:Int) (h:p.needs.length ≤ 1000):ACall Try.prog 18 [aPool f p,AI s] [] (fun r h=>r = .bool (inB s 0 (p.needs.length - 1)) ∧ h = []):=by
 (refine fcall_of mixed Try.func18 rfl (by decide) (hs:={}) ?k (ac:=?ac) ?c (rs:=?rs) ?r ?l ?H;(case k=>kernel_rfl);(case c=>(conv=>(lhs;cbv)));(case r=>(conv=>(lhs;cbv)));(case l=>exact Nat.le_of_ble_eq_true rfl))
 (repeat' ((try conv=>whnf);first|(with_reducible first|refine wT ?_|refine wF ?_|(refine wI (fun hq=>?_) (fun hq=>?_) <;> try simp only [zA,zE,zD,zJ,zB,zI,wK,wL] at hq)|refine wA ?_|refine wB ?_|refine wC ?_|refine wD ?_|refine wE ?_)|((with_reducible refine wN ?_ ?_);focus exact needA)|(with_reducible refine wG ?_)|(refine FCall.pure ((within_ok _ _ _)) ⟨Ln.sameB _ rfl,Ln.sameB _ rfl,Ln.sameB _ rfl,True.intro⟩ rfl ?_)|(with_reducible refine wP ?_)))
 all_goals (try conv=>whnf)
 (refine ⟨⟨_,[],[],Cut.nil _,Ln.sameB _ rfl,?_,rfl⟩⟩)
 rfl
theorem size_ok (s:Nat) (hs:s < 256):ACall Try.prog 20 [AI s] [] (fun r h=>r = AI (pop s:Nat) ∧ h = []):=by
 (refine fcall_of mixed Try.func20 rfl (by decide) (hs:={}) ?k (ac:=?ac) ?c (rs:=?rs) ?r ?l ?H;(case k=>kernel_rfl);(case c=>(conv=>(lhs;cbv)));(case r=>(conv=>(lhs;cbv)));(case l=>exact Nat.le_of_ble_eq_true rfl))
 (repeat' ((try conv=>whnf);first|(with_reducible first|refine wT ?_|refine wF ?_|(refine wI (fun hq=>?_) (fun hq=>?_) <;> try simp only [zA,zE,zD,zJ,zB,zI,wK,wL] at hq)|refine wA ?_|refine wB ?_|refine wC ?_|refine wD ?_|refine wE ?_)|((with_reducible refine wN ?_ ?_);focus exact needA)|(with_reducible first|refine FBit.hasT rfl (by assumption) ?_|refine FBit.hasF rfl (by assumption) ?_|refine FBit.shrN rfl (by omega) ?_|refine FBit.half rfl ?_|refine FBit.shl1 rfl (by omega) ?_|refine Fits.inU (by omega) ?_|refine FBit.shrNI rfl (by omega) ?_|refine FBit.shrIN rfl (by omega) (by omega) ?_|refine FBit.shrI rfl (by omega) (by omega) ?_|refine FBit.shl1I rfl (by omega) ?_)|(with_reducible refine FBit.has rfl (fun hq=>?_) (fun hq=>?_))|(with_reducible first|refine FBit.and1 rfl ?_|refine FBit.andN rfl (by omega) (by omega) ?_|refine FBit.orN rfl (by omega) (by omega) ?_|refine FBit.andNotN rfl (by omega) (by omega) ?_)|(with_reducible refine wG ?_)|(with_reducible refine wP ?_)))
 all_goals (try conv=>whnf)
 refine FLoop.of (ACalls.mono _) (X:=Nat) (fun i=>[(0,AI s),(3,AI (popTo s i:Nat)),(4,AI i)]) (fun _=>[]) (fun i=>i ≤ 8) (fun i=>8 - i) 0 ⟨Nat.zero_le _,[],Cut.A,allA⟩ ?_
 intro i hi
 have hle:=popTo_le s i
 by_cases hlt:i < 8
 ·have hst:popTo s (i + 1) = popTo s i + if s.testBit i then 1 else 0:=rfl
  (repeat' ((try conv=>whnf);first|(with_reducible first|refine wT ?_|refine wF ?_|(refine wI (fun hq=>?_) (fun hq=>?_) <;> try simp only [zA,zE,zD,zJ,zB,zI,wK,wL] at hq)|refine wA ?_|refine wB ?_|refine wC ?_|refine wD ?_|refine wE ?_)|((with_reducible refine wN ?_ ?_);focus exact needA)|(with_reducible first|refine FBit.hasT rfl (by assumption) ?_|refine FBit.hasF rfl (by assumption) ?_|refine FBit.shrN rfl (by omega) ?_|refine FBit.half rfl ?_|refine FBit.shl1 rfl (by omega) ?_|refine Fits.inU (by omega) ?_|refine FBit.shrNI rfl (by omega) ?_|refine FBit.shrIN rfl (by omega) (by omega) ?_|refine FBit.shrI rfl (by omega) (by omega) ?_|refine FBit.shl1I rfl (by omega) ?_)|(with_reducible refine FBit.has rfl (fun hq=>?_) (fun hq=>?_))|(with_reducible first|refine FBit.and1 rfl ?_|refine FBit.andN rfl (by omega) (by omega) ?_|refine FBit.orN rfl (by omega) (by omega) ?_|refine FBit.andNotN rfl (by omega) (by omega) ?_)|(with_reducible refine wG ?_)|(with_reducible refine wP ?_)))
  all_goals (try conv=>whnf)
  ·rw [hq,if_pos rfl] at hst
   (exact ⟨⟨(i + 1),hlt,by show _ < _;omega,[],Cut.A,allA⟩⟩)
  ·rw [hq,if_neg (by decide)] at hst
   (exact ⟨⟨(i + 1),hlt,by show _ < _;omega,[],Cut.A,allA⟩⟩)
 ·obtain rfl:i = 8:=by omega
  (repeat' ((try conv=>whnf);first|(with_reducible first|refine wT ?_|refine wF ?_|(refine wI (fun hq=>?_) (fun hq=>?_) <;> try simp only [zA,zE,zD,zJ,zB,zI,wK,wL] at hq)|refine wA ?_|refine wB ?_|refine wC ?_|refine wD ?_|refine wE ?_)|((with_reducible refine wN ?_ ?_);focus exact needA)|(with_reducible first|refine FBit.hasT rfl (by assumption) ?_|refine FBit.hasF rfl (by assumption) ?_|refine FBit.shrN rfl (by omega) ?_|refine FBit.half rfl ?_|refine FBit.shl1 rfl (by omega) ?_|refine Fits.inU (by omega) ?_|refine FBit.shrNI rfl (by omega) ?_|refine FBit.shrIN rfl (by omega) (by omega) ?_|refine FBit.shrI rfl (by omega) (by omega) ?_|refine FBit.shl1I rfl (by omega) ?_)|(with_reducible refine FBit.has rfl (fun hq=>?_) (fun hq=>?_))|(with_reducible first|refine FBit.and1 rfl ?_|refine FBit.andN rfl (by omega) (by omega) ?_|refine FBit.orN rfl (by omega) (by omega) ?_|refine FBit.andNotN rfl (by omega) (by omega) ?_)|(with_reducible refine wG ?_)|(with_reducible refine wP ?_)))
  all_goals (try conv=>whnf)
  (refine ⟨⟨_,[],[],Cut.nil _,Ln.sameB _ rfl,?_,rfl⟩⟩)
  rw [pop_popTo s hs]
end Go.Proofs.Ytbhjehpjjbbhbaa

namespace Go.Proofs.Ytbhjehpjjbbhbaa
open Go.RowKit

def headOk (p:Pool):Bool:=inB p.folk.length 1 8 && inB p.needs.length 1 6 && inB p.nT 1 5 && inB p.ill 0 3 && inB p.most 0 6
theorem ok_parts (p:Pool):p.ok = (headOk p && p.needs.all (rowOk p.nT) && p.folk.all (Folk.ok p.nT p.needs.length)):=rfl
theorem head_d {p:Pool}:headOk p = true ↔ (1 ≤ (p.folk.length:Int) ∧ (p.folk.length:Int) ≤ 8) ∧ (1 ≤ (p.needs.length:Int) ∧ (p.needs.length:Int) ≤ 6) ∧ (1 ≤ (p.nT:Int) ∧ (p.nT:Int) ≤ 5) ∧ (0 ≤ p.ill ∧ p.ill ≤ 3) ∧ (0 ≤ p.most ∧ p.most ≤ 6):=by
 unfold headOk
 simp only [inB,Bool.and_eq_true,decide_eq_true_eq,and_assoc]
theorem check_head {p:Pool} (h:headOk p = false):checkP p = 100:=check_100 (by rw [ok_parts,h];rfl)
theorem check_rows {p:Pool} (h:p.needs.all (rowOk p.nT) = false):checkP p = 100:=check_100 (by rw [ok_parts,h,Bool.and_false];rfl)
theorem check_folk {p:Pool} (h:p.folk.all (Folk.ok p.nT p.needs.length) = false):checkP p = 100:=check_100 (by rw [ok_parts,h,Bool.and_false])
/-- Not far too large. -/
structure NearP (p:Pool):Prop where
 f:p.folk.length ≤ 1000
 n:p.needs.length ≤ 1000
 r:∀ s,s < p.needs.length → (p.row s).length ≤ 1000
set_option maxHeartbeats 4000000
set_option maxRecDepth 100000
theorem refCheck_ok (f:PoF) (p:Pool) (hn:NearP p):ACall Try.prog 15 [aPool f p] [] (fun r h=>r = AI (checkP p) ∧ h = []):=by
 have n1:=hn.f
 have n2:=hn.n
 (refine fcall_of mixed Try.func15 rfl (by decide) (hs:={ ord:=[(6,[(0,[]),(1,[]),(2,[]),(3,[]),(4,[]),(5,[]),(6,[]),(7,[1,4]),(8,[])]),(17,[(0,[]),(1,[]),(2,[]),(3,[1]),(4,[]),(5,[]),(6,[]),(7,[]),(8,[]),(9,[]),(10,[]),(11,[]),(12,[]),(13,[]),(14,[]),(15,[]),(16,[]),(17,[]),(18,[]),(19,[]),(20,[]),(21,[]),(22,[]),(23,[]),(24,[]),(25,[]),(26,[])])] }) ?k (ac:=?ac) ?c (rs:=?rs) ?r ?l ?H;(case k=>kernel_rfl);(case c=>(conv=>(lhs;cbv)));(case r=>(conv=>(lhs;cbv)));(case l=>exact Nat.le_of_ble_eq_true rfl))
 (repeat' ((try conv=>whnf);first|(with_reducible first|refine wT ?_|refine wF ?_|(refine wI (fun hq=>?_) (fun hq=>?_) <;> try simp only [zA,zE,zD,zJ,zB,zI,wK,wL] at hq)|refine wA ?_|refine wB ?_|refine wC ?_|refine wD ?_|refine wE ?_)|((with_reducible refine wN ?_ ?_);focus exact needA)|(with_reducible refine wG ?_)|(refine FCall.pure ((within_ok _ _ _)) ⟨Ln.sameB _ rfl,Ln.sameB _ rfl,Ln.sameB _ rfl,True.intro⟩ rfl ?_)|(refine FCall.pure ((tongues_ok f p (by omega))) ⟨Ln.sameB _ rfl,True.intro⟩ rfl ?_)|(with_reducible refine wP ?_)))
 all_goals (try conv=>whnf)
 all_goals (try ((refine ⟨⟨_,[],[],Cut.nil _,Ln.sameB _ rfl,?_,rfl⟩⟩);rw [check_head (Bool.eq_false_iff.2 fun h=>by have:=head_d.1 h;omega)];done))
 have hh:headOk p = true:=head_d.2 (by omega)
 have hp:=pow8 (n:=p.nT) (by omega)
 have hp2:=pow8 (n:=p.needs.length) (by omega)
 refine FLoop.of (ACalls.mono _) (X:=Nat) (fun s=>[(1,.ptr 0 0),(3,AI s)]) (fun _=>[.box 4 (cPool f p)]) (fun s=>s ≤ p.needs.length ∧ p.needs.all (rowOk p.nT) = (p.needs.drop s).all (rowOk p.nT)) (fun s=>p.needs.length - s) 0 ⟨⟨Nat.zero_le _,rfl⟩,[0],Cut.A,allA⟩ ?_
 rintro s ⟨hs,hL⟩
 by_cases hlt:s < p.needs.length
 ·have n3:=hn.r s hlt
  unfold Pool.row at n3
  (repeat' ((try conv=>whnf);first|(with_reducible first|refine wT ?_|refine wF ?_|(refine wI (fun hq=>?_) (fun hq=>?_) <;> try simp only [zA,zE,zD,zJ,zB,zI,wK,wL] at hq)|refine wA ?_|refine wB ?_|refine wC ?_|refine wD ?_|refine wE ?_)|((with_reducible refine wN ?_ ?_);focus exact needA)|(with_reducible refine wG ?_)|(refine FCall.pure ((tongues_ok f p (by omega))) ⟨Ln.sameB _ rfl,True.intro⟩ rfl ?_)|(with_reducible refine wP ?_)))
  all_goals (try conv=>whnf)
  ·(refine ⟨⟨_,[],[],Cut.nil _,Ln.sameB _ rfl,?_,rfl⟩⟩)
   rw [check_rows (all_no [] hlt hL (by unfold rowOk;rw [decide_eq_false (by omega)];rfl))]
  ·have hlen:(p.needs.getD s []).length = p.nT:=by omega
   refine FLoop.of (ACalls.mono _) (X:=Nat) (fun t=>[(1,.ptr 0 0),(3,AI s),(4,AI t)]) (fun _=>[.box 4 (cPool f p)]) (fun t=>t ≤ (p.needs.getD s []).length ∧ (p.needs.getD s []).all (fun x=>inB x 0 8) = ((p.needs.getD s []).drop t).all (fun x=>inB x 0 8)) (fun t=>(p.needs.getD s []).length - t) 0 ⟨⟨Nat.zero_le _,rfl⟩,[0],Cut.A,allA⟩ ?_
   rintro t ⟨ht,hL2⟩
   by_cases hlt2:t < (p.needs.getD s []).length
   ·(repeat' ((try conv=>whnf);first|(with_reducible first|refine wT ?_|refine wF ?_|(refine wI (fun hq=>?_) (fun hq=>?_) <;> try simp only [zA,zE,zD,zJ,zB,zI,wK,wL] at hq)|refine wA ?_|refine wB ?_|refine wC ?_|refine wD ?_|refine wE ?_)|((with_reducible refine wN ?_ ?_);focus exact needA)|(with_reducible refine wG ?_)|(refine FCall.pure ((within_ok _ _ _)) ⟨Ln.sameB _ rfl,Ln.sameB _ rfl,Ln.sameB _ rfl,True.intro⟩ rfl ?_)|(with_reducible refine wP ?_)))
    all_goals (try conv=>whnf)
    ·(refine ⟨⟨_,[],[],Cut.nil _,Ln.sameB _ rfl,?_,rfl⟩⟩)
     rw [check_rows (all_no [] hlt hL (by unfold rowOk;rw [all_no (0:Int) hlt2 hL2 (decide_eq_false (by omega)),Bool.and_false]))]
    ·(exact ⟨⟨(t + 1),⟨hlt2,all_step (0:Int) hlt2 hL2 (decide_eq_true (by omega))⟩,by show _ < _;omega,[0],Cut.A,allA⟩⟩)
   ·(repeat' ((try conv=>whnf);first|(with_reducible first|refine wT ?_|refine wF ?_|(refine wI (fun hq=>?_) (fun hq=>?_) <;> try simp only [zA,zE,zD,zJ,zB,zI,wK,wL] at hq)|refine wA ?_|refine wB ?_|refine wC ?_|refine wD ?_|refine wE ?_)|((with_reducible refine wN ?_ ?_);focus exact needA)|(with_reducible refine wG ?_)|(with_reducible refine wP ?_)))
    all_goals (try conv=>whnf)
    (exact ⟨⟨(s + 1),⟨hlt,all_step [] hlt hL (by unfold rowOk;rw [decide_eq_true hlen,all_end (by omega) hL2];rfl)⟩,by show _ < _;omega,[0],Cut.A,allA⟩⟩)
 ·have hR:=all_end (by omega) hL
  (repeat' ((try conv=>whnf);first|(with_reducible first|refine wT ?_|refine wF ?_|(refine wI (fun hq=>?_) (fun hq=>?_) <;> try simp only [zA,zE,zD,zJ,zB,zI,wK,wL] at hq)|refine wA ?_|refine wB ?_|refine wC ?_|refine wD ?_|refine wE ?_)|((with_reducible refine wN ?_ ?_);focus exact needA)|(with_reducible refine wG ?_)|(with_reducible refine wP ?_)))
  all_goals (try conv=>whnf)
  refine FLoop.of (ACalls.mono _) (X:=Nat) (fun i=>[(1,.ptr 0 0),(5,AI i)]) (fun _=>[.box 4 (cPool f p)]) (fun i=>i ≤ p.folk.length ∧ p.folk.all (Folk.ok p.nT p.needs.length) = (p.folk.drop i).all (Folk.ok p.nT p.needs.length)) (fun i=>p.folk.length - i) 0 ⟨⟨Nat.zero_le _,rfl⟩,[0],Cut.A,allA⟩ ?_
  rintro i ⟨hi,hF⟩
  by_cases hlt2:i < p.folk.length
  ·(repeat' ((try conv=>whnf);first|(with_reducible first|refine wT ?_|refine wF ?_|(refine wI (fun hq=>?_) (fun hq=>?_) <;> try simp only [zA,zE,zD,zJ,zB,zI,wK,wL] at hq)|refine wA ?_|refine wB ?_|refine wC ?_|refine wD ?_|refine wE ?_)|((with_reducible refine wN ?_ ?_);focus exact needA)|(with_reducible first|refine FBit.hasT rfl (by assumption) ?_|refine FBit.hasF rfl (by assumption) ?_|refine FBit.shrN rfl (by omega) ?_|refine FBit.half rfl ?_|refine FBit.shl1 rfl (by omega) ?_|refine Fits.inU (by omega) ?_|refine FBit.shrNI rfl (by omega) ?_|refine FBit.shrIN rfl (by omega) (by omega) ?_|refine FBit.shrI rfl (by omega) (by omega) ?_|refine FBit.shl1I rfl (by omega) ?_)|(with_reducible refine FBit.has rfl (fun hq=>?_) (fun hq=>?_))|(with_reducible first|refine FBit.and1 rfl ?_|refine FBit.andN rfl (by omega) (by omega) ?_|refine FBit.orN rfl (by omega) (by omega) ?_|refine FBit.andNotN rfl (by omega) (by omega) ?_)|(with_reducible refine wG ?_)|(refine FCall.pure ((within_ok _ _ _)) ⟨Ln.sameB _ rfl,Ln.sameB _ rfl,Ln.sameB _ rfl,True.intro⟩ rfl ?_)|(refine FCall.pure ((tongues_ok f p (by omega))) ⟨Ln.sameB _ rfl,True.intro⟩ rfl ?_)|(with_reducible refine wP ?_)))
   all_goals (try conv=>whnf)
   all_goals (try ((refine ⟨⟨_,[],[],Cut.nil _,Ln.sameB _ rfl,?_,rfl⟩⟩);rw [check_folk (all_no fo0 hlt2 hF (Bool.eq_false_iff.2 fun h=>by unfold Folk.ok at h;simp only [inB,Bool.and_eq_true,decide_eq_true_eq] at h;omega))];done))
   (exact ⟨⟨(i + 1),⟨hlt2,all_step fo0 hlt2 hF (by unfold Folk.ok;simp only [inB,Bool.and_eq_true,decide_eq_true_eq];omega)⟩,by show _ < _;omega,[0],Cut.A,allA⟩⟩)
  ·have hA:=all_end (by omega) hF
   (repeat' ((try conv=>whnf);first|(with_reducible first|refine wT ?_|refine wF ?_|(refine wI (fun hq=>?_) (fun hq=>?_) <;> try simp only [zA,zE,zD,zJ,zB,zI,wK,wL] at hq)|refine wA ?_|refine wB ?_|refine wC ?_|refine wD ?_|refine wE ?_)|((with_reducible refine wN ?_ ?_);focus exact needA)|(with_reducible refine wG ?_)|(with_reducible refine wP ?_)))
   all_goals (try conv=>whnf)
   (refine ⟨⟨_,[],[],Cut.nil _,Ln.sameB _ rfl,?_,rfl⟩⟩)
   rw [check_0.2 (by rw [ok_parts,hh,hR,hA];rfl)]
theorem canBe_ok (f:PoF) (p:Pool) (s:Nat) (g:Int) (hs:s < 60) (hg:0 ≤ g) (h:PoolOk p):ACall Try.prog 37 [aPool f p,AI s,AI g] [] (fun r h=>r = .bool (canBe p s g) ∧ h = []):=by
 obtain ⟨m,rfl⟩:∃ m:Nat,g = m:=⟨g.toNat,by omega⟩
 have n8:=h.n8
 have hp:=pow8 n8
 (refine fcall_of mixed Try.func37 rfl (by decide) (hs:={}) ?k (ac:=?ac) ?c (rs:=?rs) ?r ?l ?H;(case k=>kernel_rfl);(case c=>(conv=>(lhs;cbv)));(case r=>(conv=>(lhs;cbv)));(case l=>exact Nat.le_of_ble_eq_true rfl))
 (repeat' ((try conv=>whnf);first|(with_reducible first|refine wT ?_|refine wF ?_|(refine wI (fun hq=>?_) (fun hq=>?_) <;> try simp only [zA,zE,zD,zJ,zB,zI,wK,wL] at hq)|refine wA ?_|refine wB ?_|refine wC ?_|refine wD ?_|refine wE ?_)|((with_reducible refine wN ?_ ?_);focus exact needA)|(with_reducible refine wG ?_)|(with_reducible refine wP ?_)))
 all_goals (try conv=>whnf)
 refine FLoop.of (ACalls.mono _) (X:=Nat) (fun i=>[(1,AI s),(2,AI m),(3,.ptr 0 0),(7,AI i)]) (fun _=>[.box 4 (cPool f p)]) (fun i=>i ≤ p.folk.length ∧ ∀ k,k < i → (!(m.testBit k) || (p.sl k).testBit s) = true) (fun i=>p.folk.length - i) 0 ⟨⟨Nat.zero_le _,fun k hk=>absurd hk (Nat.not_lt_zero k)⟩,[0],Cut.A,allA⟩ ?_
 rintro i ⟨hi,hL⟩
 by_cases hlt:i < p.folk.length
 ·have hf:=(h.folk i hlt).2.1
  (repeat' ((try conv=>whnf);first|(with_reducible first|refine wT ?_|refine wF ?_|(refine wI (fun hq=>?_) (fun hq=>?_) <;> try simp only [zA,zE,zD,zJ,zB,zI,wK,wL] at hq)|refine wA ?_|refine wB ?_|refine wC ?_|refine wD ?_|refine wE ?_)|((with_reducible refine wN ?_ ?_);focus exact needA)|(with_reducible refine wG ?_)|(refine FCall.pure ((has_ok m i (by omega))) ⟨Ln.sameB _ rfl,Ln.sameB _ rfl,True.intro⟩ rfl ?_)|(refine FCall.pure ((has_i (p.folk.getD i fo0).slots s (by omega) (by omega))) ⟨Ln.sameB _ rfl,Ln.sameB _ rfl,True.intro⟩ rfl ?_)|(with_reducible refine wP ?_)))
  all_goals (try conv=>whnf)
  ·(refine ⟨⟨_,[],[],Cut.nil _,Ln.sameB _ rfl,?_,rfl⟩⟩)
   refine bool_eq ?_
   unfold canBe canT
   rw [Int.toNat_natCast,rall_no hlt (by rw [show m.testBit i = true by assumption,show (p.sl i).testBit s = false from hq];rfl),Bool.and_false]
  ·(exact ⟨⟨(i + 1),⟨hlt,below_step hL (by rw [show (p.sl i).testBit s = true from hq,Bool.or_true])⟩,by show _ < _;omega,[0],Cut.A,allA⟩⟩)
  ·(exact ⟨⟨(i + 1),⟨hlt,below_step hL (by rw [hq];rfl)⟩,by show _ < _;omega,[0],Cut.A,allA⟩⟩)
 ·obtain rfl:i = p.folk.length:=by omega
  (repeat' ((try conv=>whnf);first|(with_reducible first|refine wT ?_|refine wF ?_|(refine wI (fun hq=>?_) (fun hq=>?_) <;> try simp only [zA,zE,zD,zJ,zB,zI,wK,wL] at hq)|refine wA ?_|refine wB ?_|refine wC ?_|refine wD ?_|refine wE ?_)|((with_reducible refine wN ?_ ?_);focus exact needA)|(with_reducible first|refine FBit.hasT rfl (by assumption) ?_|refine FBit.hasF rfl (by assumption) ?_|refine FBit.shrN rfl (by omega) ?_|refine FBit.half rfl ?_|refine FBit.shl1 rfl (by omega) ?_|refine Fits.inU (by omega) ?_|refine FBit.shrNI rfl (by omega) ?_|refine FBit.shrIN rfl (by omega) (by omega) ?_|refine FBit.shrI rfl (by omega) (by omega) ?_|refine FBit.shl1I rfl (by omega) ?_)|(with_reducible refine FBit.has rfl (fun hq=>?_) (fun hq=>?_))|(with_reducible first|refine FBit.and1 rfl ?_|refine FBit.andN rfl (by omega) (by omega) ?_|refine FBit.orN rfl (by omega) (by omega) ?_|refine FBit.andNotN rfl (by omega) (by omega) ?_)|(with_reducible refine wG ?_)|(refine FCall.pure ((within_ok _ _ _)) ⟨Ln.sameB _ rfl,Ln.sameB _ rfl,Ln.sameB _ rfl,True.intro⟩ rfl ?_)|(with_reducible refine wP ?_)))
  all_goals (try conv=>whnf)
  (refine ⟨⟨_,[],[],Cut.nil _,Ln.sameB _ rfl,?_,rfl⟩⟩)
  refine bool_eq ?_
  unfold canBe canT
  rw [Int.toNat_natCast,rall_yes hL,Bool.and_true]
theorem canBe_neg (f:PoF) (p:Pool) (s:Nat) (g:Int) (hs:s < 60) (hg:g < 0) (h:PoolOk p):ACall Try.prog 37 [aPool f p,AI s,AI g] [] (fun r h=>r = .bool false ∧ h = []):=by
 have n8:=h.n8
 have hp:=pow8 n8
 (refine fcall_of mixed Try.func37 rfl (by decide) (hs:={}) ?k (ac:=?ac) ?c (rs:=?rs) ?r ?l ?H;(case k=>kernel_rfl);(case c=>(conv=>(lhs;cbv)));(case r=>(conv=>(lhs;cbv)));(case l=>exact Nat.le_of_ble_eq_true rfl))
 (repeat' ((try conv=>whnf);first|(with_reducible first|refine wT ?_|refine wF ?_|(refine wI (fun hq=>?_) (fun hq=>?_) <;> try simp only [zA,zE,zD,zJ,zB,zI,wK,wL] at hq)|refine wA ?_|refine wB ?_|refine wC ?_|refine wD ?_|refine wE ?_)|((with_reducible refine wN ?_ ?_);focus exact needA)|(with_reducible refine wG ?_)|(with_reducible refine wP ?_)))
 all_goals (try conv=>whnf)
 refine FLoop.of (ACalls.mono _) (X:=Nat) (fun i=>[(1,AI s),(2,AI g),(3,.ptr 0 0),(7,AI i)]) (fun _=>[.box 4 (cPool f p)]) (fun i=>i ≤ p.folk.length) (fun i=>p.folk.length - i) 0 ⟨Nat.zero_le _,[0],Cut.A,allA⟩ ?_
 intro i hi
 by_cases hlt:i < p.folk.length
 ·have hf:=(h.folk i hlt).2.1
  (repeat' ((try conv=>whnf);first|(with_reducible first|refine wT ?_|refine wF ?_|(refine wI (fun hq=>?_) (fun hq=>?_) <;> try simp only [zA,zE,zD,zJ,zB,zI,wK,wL] at hq)|refine wA ?_|refine wB ?_|refine wC ?_|refine wD ?_|refine wE ?_)|((with_reducible refine wN ?_ ?_);focus exact needA)|(with_reducible refine wG ?_)|(refine FCall.pure ((has_z g i (by omega))) ⟨Ln.sameB _ rfl,Ln.sameB _ rfl,True.intro⟩ rfl ?_)|(refine FCall.pure ((has_i (p.folk.getD i fo0).slots s (by omega) (by omega))) ⟨Ln.sameB _ rfl,Ln.sameB _ rfl,True.intro⟩ rfl ?_)|(with_reducible refine wP ?_)))
  all_goals (try conv=>whnf)
  ·(refine ⟨⟨_,[],[],Cut.nil _,Ln.sameB _ rfl,?_,rfl⟩⟩)
   rfl
  ·(exact ⟨⟨(i + 1),hlt,by show _ < _;omega,[0],Cut.A,allA⟩⟩)
  ·(exact ⟨⟨(i + 1),hlt,by show _ < _;omega,[0],Cut.A,allA⟩⟩)
 ·obtain rfl:i = p.folk.length:=by omega
  (repeat' ((try conv=>whnf);first|(with_reducible first|refine wT ?_|refine wF ?_|(refine wI (fun hq=>?_) (fun hq=>?_) <;> try simp only [zA,zE,zD,zJ,zB,zI,wK,wL] at hq)|refine wA ?_|refine wB ?_|refine wC ?_|refine wD ?_|refine wE ?_)|((with_reducible refine wN ?_ ?_);focus exact needA)|(with_reducible first|refine FBit.hasT rfl (by assumption) ?_|refine FBit.hasF rfl (by assumption) ?_|refine FBit.shrN rfl (by omega) ?_|refine FBit.half rfl ?_|refine FBit.shl1 rfl (by omega) ?_|refine Fits.inU (by omega) ?_|refine FBit.shrNI rfl (by omega) ?_|refine FBit.shrIN rfl (by omega) (by omega) ?_|refine FBit.shrI rfl (by omega) (by omega) ?_|refine FBit.shl1I rfl (by omega) ?_)|(with_reducible refine FBit.has rfl (fun hq=>?_) (fun hq=>?_))|(with_reducible first|refine FBit.and1 rfl ?_|refine FBit.andN rfl (by omega) (by omega) ?_|refine FBit.orN rfl (by omega) (by omega) ?_|refine FBit.andNotN rfl (by omega) (by omega) ?_)|(with_reducible refine wG ?_)|(refine FCall.pure ((within_ok _ _ _)) ⟨Ln.sameB _ rfl,Ln.sameB _ rfl,Ln.sameB _ rfl,True.intro⟩ rfl ?_)|(with_reducible refine wP ?_)))
  all_goals (try conv=>whnf)
  (refine ⟨⟨_,[],[],Cut.nil _,Ln.sameB _ rfl,?_,rfl⟩⟩)
  exact bool_eq (decide_eq_false (by omega))
theorem canBe_any (f:PoF) (p:Pool) (s:Nat) (g:Int) (hs:s < 60) (h:PoolOk p):ACall Try.prog 37 [aPool f p,AI s,AI g] [] (fun r h=>r = .bool (canBe p s g) ∧ h = []):=by
 by_cases hg:0 ≤ g
 ·exact canBe_ok f p s g hs hg h
 ·have:=canBe_neg f p s g hs (by omega) h
  have e:canBe p s g = false:=by unfold canBe;rw [show inB g 0 ((2 ^ p.folk.length:Nat) - 1) = false from decide_eq_false (by omega)];rfl
  rwa [← e] at this
theorem onTo_le (w:List Int) (i:Nat):∀ k,onTo w i k ≤ k
 | 0=>Nat.le_refl _
 | k + 1=>by have:=onTo_le w i k;simp only [onTo];split <;> omega
theorem isWatch_ok (f:PoF) (p:Pool) (z e:Bool) (w:List Int) (hw:w.length ≤ 1000) (h:PoolOk p):ACall Try.prog 17 [aPool f p,aInts z e w] [] (fun r h=>r = .bool (isWatch p w) ∧ h = []):=by
 have n8:=h.n8
 have s6:=h.s6
 (refine fcall_of mixed Try.func17 rfl (by decide) (hs:={}) ?k (ac:=?ac) ?c (rs:=?rs) ?r ?l ?H;(case k=>kernel_rfl);(case c=>(conv=>(lhs;cbv)));(case r=>(conv=>(lhs;cbv)));(case l=>exact Nat.le_of_ble_eq_true rfl))
 (repeat' ((try conv=>whnf);first|(with_reducible first|refine wT ?_|refine wF ?_|(refine wI (fun hq=>?_) (fun hq=>?_) <;> try simp only [zA,zE,zD,zJ,zB,zI,wK,wL] at hq)|refine wA ?_|refine wB ?_|refine wC ?_|refine wD ?_|refine wE ?_)|((with_reducible refine wN ?_ ?_);focus exact needA)|(with_reducible refine wG ?_)|(with_reducible refine wP ?_)))
 all_goals (try conv=>whnf)
 ·(refine ⟨⟨_,[],[],Cut.nil _,Ln.sameB _ rfl,?_,rfl⟩⟩)
  unfold isWatch
  rw [decide_eq_false (p:=w.length = p.needs.length) (by omega)];rfl
 ·have hl:w.length = p.needs.length:=by omega
  refine FLoop.of (ACalls.mono _) (X:=Nat) (fun s=>[(1,aInts z e w),(2,.ptr 0 0),(5,AI s)]) (fun _=>[.box 4 (cPool f p)]) (fun s=>s ≤ w.length ∧ ∀ k,k < s → canBe p k (w.getD k 0) = true) (fun s=>w.length - s) 0 ⟨⟨Nat.zero_le _,fun k hk=>absurd hk (Nat.not_lt_zero k)⟩,[0],Cut.A,allA⟩ ?_
  rintro s ⟨hs,hL⟩
  by_cases hlt:s < w.length
  ·(repeat' ((try conv=>whnf);first|(with_reducible first|refine wT ?_|refine wF ?_|(refine wI (fun hq=>?_) (fun hq=>?_) <;> try simp only [zA,zE,zD,zJ,zB,zI,wK,wL] at hq)|refine wA ?_|refine wB ?_|refine wC ?_|refine wD ?_|refine wE ?_)|((with_reducible refine wN ?_ ?_);focus exact needA)|(with_reducible refine wG ?_)|(refine FCall.pure ((canBe_any f p s (w.getD s 0) (by omega) h)) ⟨Ln.sameB _ rfl,Ln.sameB _ rfl,Ln.sameB _ rfl,True.intro⟩ rfl ?_)|(with_reducible refine wP ?_)))
   all_goals (try conv=>whnf)
   ·(refine ⟨⟨_,[],[],Cut.nil _,Ln.sameB _ rfl,?_,rfl⟩⟩)
    refine bool_eq ?_
    unfold isWatch
    rw [rall_no hlt hq,Bool.and_false,Bool.false_and]
   ·(exact ⟨⟨(s + 1),⟨hlt,below_step hL hq⟩,by show _ < _;omega,[0],Cut.A,allA⟩⟩)
  ·obtain rfl:s = w.length:=by omega
   have hpos:∀ k,k < w.length → 0 ≤ w.getD k 0:=fun k hk=>by
    have:=hL k hk
    unfold canBe at this
    simp only [inB,Bool.and_eq_true,decide_eq_true_eq] at this
    omega
   (repeat' ((try conv=>whnf);first|(with_reducible first|refine wT ?_|refine wF ?_|(refine wI (fun hq=>?_) (fun hq=>?_) <;> try simp only [zA,zE,zD,zJ,zB,zI,wK,wL] at hq)|refine wA ?_|refine wB ?_|refine wC ?_|refine wD ?_|refine wE ?_)|((with_reducible refine wN ?_ ?_);focus exact needA)|(with_reducible refine wG ?_)|(with_reducible refine wP ?_)))
   all_goals (try conv=>whnf)
   refine FLoop.of (ACalls.mono _) (X:=Nat) (fun i=>[(1,aInts z e w),(2,.ptr 0 0),(6,AI i)]) (fun _=>[.box 4 (cPool f p)]) (fun i=>i ≤ p.folk.length ∧ ∀ k,k < i → decide ((onTo w k w.length:Int) ≤ p.most) = true) (fun i=>p.folk.length - i) 0 ⟨⟨Nat.zero_le _,fun k hk=>absurd hk (Nat.not_lt_zero k)⟩,[0],Cut.A,allA⟩ ?_
   rintro i ⟨hi,hM⟩
   by_cases hlt2:i < p.folk.length
   ·(repeat' ((try conv=>whnf);first|(with_reducible first|refine wT ?_|refine wF ?_|(refine wI (fun hq=>?_) (fun hq=>?_) <;> try simp only [zA,zE,zD,zJ,zB,zI,wK,wL] at hq)|refine wA ?_|refine wB ?_|refine wC ?_|refine wD ?_|refine wE ?_)|((with_reducible refine wN ?_ ?_);focus exact needA)|(with_reducible refine wG ?_)|(with_reducible refine wP ?_)))
    all_goals (try conv=>whnf)
    refine FLoop.of (ACalls.mono _) (X:=Nat) (fun s=>[(1,aInts z e w),(2,.ptr 0 0),(6,AI i),(7,AI (onTo w i s:Nat)),(8,AI s)]) (fun _=>[.box 4 (cPool f p)]) (fun s=>s ≤ w.length) (fun s=>w.length - s) 0 ⟨Nat.zero_le _,[0],Cut.A,allA⟩ ?_
    intro s hs2
    have hle:=onTo_le w i s
    by_cases hlt3:s < w.length
    ·have h0:=hpos s hlt3
     have hst:onTo w i (s + 1) = onTo w i s + if (w.getD s 0).toNat.testBit i then 1 else 0:=rfl
     (repeat' ((try conv=>whnf);first|(with_reducible first|refine wT ?_|refine wF ?_|(refine wI (fun hq=>?_) (fun hq=>?_) <;> try simp only [zA,zE,zD,zJ,zB,zI,wK,wL] at hq)|refine wA ?_|refine wB ?_|refine wC ?_|refine wD ?_|refine wE ?_)|((with_reducible refine wN ?_ ?_);focus exact needA)|(with_reducible first|refine FBit.hasT rfl (by assumption) ?_|refine FBit.hasF rfl (by assumption) ?_|refine FBit.shrN rfl (by omega) ?_|refine FBit.half rfl ?_|refine FBit.shl1 rfl (by omega) ?_|refine Fits.inU (by omega) ?_|refine FBit.shrNI rfl (by omega) ?_|refine FBit.shrIN rfl (by omega) (by omega) ?_|refine FBit.shrI rfl (by omega) (by omega) ?_|refine FBit.shl1I rfl (by omega) ?_)|(with_reducible refine FBit.has rfl (fun hq=>?_) (fun hq=>?_))|(with_reducible first|refine FBit.and1 rfl ?_|refine FBit.andN rfl (by omega) (by omega) ?_|refine FBit.orN rfl (by omega) (by omega) ?_|refine FBit.andNotN rfl (by omega) (by omega) ?_)|(with_reducible refine wG ?_)|(with_reducible refine wP ?_)))
     all_goals (try conv=>whnf)
     ·rw [hq,if_pos rfl] at hst
      (exact ⟨⟨(s + 1),hlt3,by show _ < _;omega,[0],Cut.A,allA⟩⟩)
     ·rw [hq,if_neg (by decide)] at hst
      (exact ⟨⟨(s + 1),hlt3,by show _ < _;omega,[0],Cut.A,allA⟩⟩)
    ·obtain rfl:s = w.length:=by omega
     (repeat' ((try conv=>whnf);first|(with_reducible first|refine wT ?_|refine wF ?_|(refine wI (fun hq=>?_) (fun hq=>?_) <;> try simp only [zA,zE,zD,zJ,zB,zI,wK,wL] at hq)|refine wA ?_|refine wB ?_|refine wC ?_|refine wD ?_|refine wE ?_)|((with_reducible refine wN ?_ ?_);focus exact needA)|(with_reducible refine wG ?_)|(with_reducible refine wP ?_)))
     all_goals (try conv=>whnf)
     ·(refine ⟨⟨_,[],[],Cut.nil _,Ln.sameB _ rfl,?_,rfl⟩⟩)
      refine bool_eq ?_
      unfold isWatch
      rw [rall_no (p:=fun i=>decide ((onTo w i w.length:Int) ≤ p.most)) hlt2 (decide_eq_false (by omega)),Bool.and_false]
     ·(exact ⟨⟨(i + 1),⟨hlt2,below_step hM (decide_eq_true (by omega))⟩,by show _ < _;omega,[0],Cut.A,allA⟩⟩)
   ·obtain rfl:i = p.folk.length:=by omega
    (repeat' ((try conv=>whnf);first|(with_reducible first|refine wT ?_|refine wF ?_|(refine wI (fun hq=>?_) (fun hq=>?_) <;> try simp only [zA,zE,zD,zJ,zB,zI,wK,wL] at hq)|refine wA ?_|refine wB ?_|refine wC ?_|refine wD ?_|refine wE ?_)|((with_reducible refine wN ?_ ?_);focus exact needA)|(with_reducible refine wG ?_)|(with_reducible refine wP ?_)))
    all_goals (try conv=>whnf)
    (refine ⟨⟨_,[],[],Cut.nil _,Ln.sameB _ rfl,?_,rfl⟩⟩)
    refine bool_eq ?_
    unfold isWatch
    rw [decide_eq_true hl,rall_yes hL,rall_yes hM];rfl
theorem checkWatch_ok (f:PoF) (p:Pool) (z e:Bool) (w:List Int) (hn:NearP p) (hw:w.length ≤ 1000):ACall Try.prog 64 [aPool f p,aInts z e w] [] (fun r h=>r = AI (checkW p w) ∧ h = []):=by
 have cC:=refCheck_ok f p hn
 (refine fcall_of mixed Try.func64 rfl (by decide) (hs:={}) ?k (ac:=?ac) ?c (rs:=?rs) ?r ?l ?H;(case k=>kernel_rfl);(case c=>(conv=>(lhs;cbv)));(case r=>(conv=>(lhs;cbv)));(case l=>exact Nat.le_of_ble_eq_true rfl))
 cases hk:p.ok
 ·rw [check_100 hk] at cC
  (repeat' ((try conv=>whnf);first|(with_reducible first|refine wT ?_|refine wF ?_|(refine wI (fun hq=>?_) (fun hq=>?_) <;> try simp only [zA,zE,zD,zJ,zB,zI,wK,wL] at hq)|refine wA ?_|refine wB ?_|refine wC ?_|refine wD ?_|refine wE ?_)|((with_reducible refine wN ?_ ?_);focus exact needA)|(with_reducible refine wG ?_)|(refine FCall.pure (cC) ⟨Ln.sameB _ rfl,True.intro⟩ rfl ?_)|(with_reducible refine wP ?_)))
  all_goals (try conv=>whnf)
  (refine ⟨⟨_,[],[],Cut.nil _,Ln.sameB _ rfl,?_,rfl⟩⟩)
  unfold checkW;rw [hk];rfl
 ·rw [check_0.2 hk] at cC
  (repeat' ((try conv=>whnf);first|(with_reducible first|refine wT ?_|refine wF ?_|(refine wI (fun hq=>?_) (fun hq=>?_) <;> try simp only [zA,zE,zD,zJ,zB,zI,wK,wL] at hq)|refine wA ?_|refine wB ?_|refine wC ?_|refine wD ?_|refine wE ?_)|((with_reducible refine wN ?_ ?_);focus exact needA)|(with_reducible refine wG ?_)|(refine FCall.pure (cC) ⟨Ln.sameB _ rfl,True.intro⟩ rfl ?_)|(refine FCall.pure ((isWatch_ok f p z e w hw (pool_d hk))) ⟨Ln.sameB _ rfl,Ln.sameB _ rfl,True.intro⟩ rfl ?_)|(with_reducible refine wP ?_)))
  all_goals (try conv=>whnf)
  all_goals
   (refine ⟨⟨_,[],[],Cut.nil _,Ln.sameB _ rfl,?_,rfl⟩⟩)
   unfold checkW;rw [hk,hq];rfl
end Go.Proofs.Ytbhjehpjjbbhbaa
