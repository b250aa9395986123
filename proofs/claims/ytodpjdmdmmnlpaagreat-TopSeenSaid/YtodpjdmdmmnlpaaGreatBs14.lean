/- The reading in a form that computes: what is to be shown stands behind names at which the computing stops -/
import Derived.Test.YtodpjdmdmmnlpaaGreatBs13
import Derived.IntWalk
set_option linter.unusedVariables false
set_option linter.unusedSimpArgs false
namespace Go.Proofs.YtodpjdmdmmnlpaaGreat
open Go.RowKit

/-- Two ways. -/
inductive FCond (q:Bool) (A B:Prop):Prop
 | t (h:q = true) (a:A)
 | f (h:q = false) (b:B)
/-- A condition, and the rest. -/
structure Need (p K:Prop):Prop where
 a:p
 b:K
/-- A sum that may wrap. -/
structure Fits (k:IntKind) (n:Int) (K:Int → Prop):Prop where
 h:K (k.wrap n)
/-- An index. -/
structure FIdx (j:Int) (n:Nat) (K:Nat → Prop):Prop where
 a:0 ≤ j ∧ j < n
 h:K j.toNat
/-- A bound of a part of a slice. -/
structure FTo (j:Int) (n:Nat) (K:Nat → Prop):Prop where
 a:0 ≤ j ∧ j ≤ n
 h:K j.toNat
/-- A bit operation, or a shift. -/
def rawBit (op:BinOp) (k:IntKind) (x y:Int):Int:=match op with
 | .and=>k.wrap (BitVec.ofInt k.bits x &&& BitVec.ofInt k.bits y).toNat
 | .or=>k.wrap (BitVec.ofInt k.bits x ||| BitVec.ofInt k.bits y).toNat
 | .xor=>k.wrap (BitVec.ofInt k.bits x ^^^ BitVec.ofInt k.bits y).toNat
 | .andNot=>k.wrap (BitVec.ofInt k.bits x &&& ~~~ BitVec.ofInt k.bits y).toNat
 | .shl=>k.wrap (x * 2 ^ (min y.toNat k.bits))
 | .shr=>x.fdiv (2 ^ (min y.toNat k.bits))
 | _=>0
structure FBit (op:BinOp) (k:IntKind) (x y:Int) (K:Int → Prop):Prop where
 h:K (rawBit op k x y)
/-- A look into a map. -/
structure FLook (o:Option AV) (A:AV → Prop) (B:Prop):Prop where
 s:∀ v,o = some v → A v
 n:o = none → B
structure FLookI (L:List (List Int × AV)) (l:List Int) (A:Nat → AV → Prop) (B:Prop):Prop where
 s:∀ i v,aidx L l = some i → (L.getD i default).2 = v → A i v
 n:aidx L l = none → B
/-- Two orders. -/
structure FAlt (A B:Prop):Prop where
 a:A
 b:B
structure FNext (n:Nat) (seen:List Nat) (A:Prop) (B:Nat → Prop):Prop where
 e:seen.length = n → A
 s:∀ i,i < n → i ∉ seen → B i
structure FEnt (p:List Int × AV) (K:List Int × AV → Prop):Prop where
 h:K p
structure FLast (seen:List Nat) (K:Nat → Prop):Prop where
 h:∃ i,seen.getLast? = some i ∧ K i
structure FCall (C:CallP) (f:FuncId) (xs:List AV) (h:List AB) (K:AV → List AB → Prop):Prop where
 h:C f xs h K
structure Same (a b:AV):Prop where
 h:a = b
structure Fin (K:AV → List AB → Prop) (r:AV) (h:List AB):Prop where
 h:K r h
inductive FApp (A B:Prop):Prop
 | grow (a:A)
 | share (b:B)
/-- A literal that holds own rows: they are let go, to be read only; or kept, and the literal is an own row. -/
inductive FOr (A B:Prop):Prop
 | pub (a:A)
 | keep (b:B)

theorem FCond.i {q:Bool} {A B:Prop} (h1:q = true → A) (h2:q = false → B):FCond q A B:=by
 cases q
 ·exact .f rfl (h2 rfl)
 ·exact .t rfl (h1 rfl)
theorem FCond.ac {q:Bool} {A B:Prop} (h:FCond q A B):acond q A B:=by
 cases h with
 | t h a=>subst h;exact a
 | f h b=>subst h;exact b
theorem FIdx.nat {k n:Nat} {K:Nat → Prop} (hk:k < n) (h:K k):FIdx (k:Int) n K:=⟨⟨by omega,by omega⟩,by simpa using h⟩
theorem FTo.nat {k n:Nat} {K:Nat → Prop} (hk:k ≤ n) (h:K k):FTo (k:Int) n K:=⟨⟨by omega,by omega⟩,by simpa using h⟩

def cnd (b:Bool) (K:Prop):Prop:=match b with
 | true=>K
 | false=>False
theorem cnd_e {b:Bool} {K:Prop} (h:cnd b K):b = true ∧ K:=by
 cases b
 ·exact h.elim
 ·exact ⟨rfl,h⟩
/-- A value is computed before one goes on. -/
def frc (v:AV) (K:AV → Prop):Prop:=match v with
 | .bot=>K .bot
 | .int k n=>K (.int k n)
 | .bool b=>K (.bool b)
 | .nilp=>K .nilp
 | .nilf=>K .nilf
 | .sl z e n sz c=>K (.sl z e n sz c)
 | .ip m c o=>K (.ip m c o)
 | .own d n=>K (.own d n)
 | .ptr d o=>K (.ptr d o)
 | .rp d sz k o=>K (.rp d sz k o)
 | .osl d sz lo n=>K (.osl d sz lo n)
 | .mpv d=>K (.mpv d)
 | .mv f m c=>K (.mv f m c)
 | .fn f m c=>K (.fn f m c)
 | .agg m c=>K (.agg m c)
 | .tup m c=>K (.tup m c)
theorem frc_e {v:AV} {K:AV → Prop} (h:frc v K):K v:=by cases v <;> exact h
def frcs (vs:List AV) (K:List AV → Prop):Prop:=match vs with
 | []=>K []
 | v :: vs=>frc v fun v=>frcs vs fun vs=>K (v :: vs)
theorem frcs_e : ∀ {vs:List AV} {K:List AV → Prop},frcs vs K → K vs
 | [],_,h=>h
 | _ :: vs,K,h=>by
  simp only [frcs] at h
  exact frcs_e (vs:=vs) (K:=fun l=>K (_ :: l)) (frc_e h)
def frcT (m:Nat) (f:Nat → AV) (K:(Nat → AV) → Prop):Prop:=frcs ((List.range m).map f) fun vs=>K (ofL vs)
theorem frcT_e {m:Nat} {f:Nat → AV} {K:(Nat → AV) → Prop} (h:frcT m f K):K (tab m f):=frcs_e (K:=fun vs=>K (ofL vs)) h
/-- A small number is computed before one goes on; a list's spine. -/
def nlit (n:Nat) (K:Nat → Prop):Prop:=match n with
 | 0=>K 0
 | 1=>K 1
 | 2=>K 2
 | 3=>K 3
 | 4=>K 4
 | 5=>K 5
 | 6=>K 6
 | 7=>K 7
 | 8=>K 8
 | 9=>K 9
 | 10=>K 10
 | 11=>K 11
 | 12=>K 12
 | 13=>K 13
 | 14=>K 14
 | 15=>K 15
 | 16=>K 16
 | n=>K n
theorem nlit_e {n:Nat} {K:Nat → Prop} (h:nlit n K):K n:=by
 unfold nlit at h
 split at h <;> exact h
def frcH (h:List AB) (K:List AB → Prop):Prop:=match h with
 | []=>K []
 | x :: xs=>frcH xs fun xs=>K (x :: xs)
theorem frcH_e : ∀ {h:List AB} {K:List AB → Prop},frcH h K → K h
 | [],_,h=>h
 | _ :: xs,K,h=>frcH_e (h:=xs) (K:=fun l=>K (_ :: l)) h
def elemB (sz:Nat) (v:AV):Bool:=match v with
 | .agg m _=>m == sz
 | v=>v.one && sz == 1
theorem elemB_ok {sz:Nat} {v:AV} (h:elemB sz v = true):elemOK sz v:=by
 cases v <;> simp only [elemB,Bool.and_eq_true,beq_iff_eq] at h <;> exact h
def fbin (op:BinOp) (k:IntKind) (x y:Int) (K:AV → Prop):Prop :=
 match op with
 | .add=>Fits k (x + y) (fun z=>K (.int k z))
 | .sub=>Fits k (x - y) (fun z=>K (.int k z))
 | .mul=>Fits k (x * y) (fun z=>K (.int k z))
 | .quo=>Need (y ≠ 0) (Fits k (x.tdiv y) (fun z=>K (.int k z)))
 | .rem=>Need (y ≠ 0) (K (.int k (x.tmod y)))
 | .shl=>Need (0 ≤ y) (FBit .shl k x y (fun z=>K (.int k z)))
 | .shr=>Need (0 ≤ y) (FBit .shr k x y (fun z=>K (.int k z)))
 | .and=>FBit .and k x y (fun z=>K (.int k z))
 | .or=>FBit .or k x y (fun z=>K (.int k z))
 | .xor=>FBit .xor k x y (fun z=>K (.int k z))
 | .andNot=>FBit .andNot k x y (fun z=>K (.int k z))
 | op=>ibin op k x y K
def frcPs (e:AX → AV) (ps:List (Nat × AX)) (K:List (Nat × AV) → Prop):Prop:=match ps with
 | []=>K []
 | (i,x) :: ps=>frc (e x) fun v=>frcPs e ps fun l=>K ((i,v) :: l)
theorem frcPs_e {e:AX → AV}:∀ {ps:List (Nat × AX)} {K:List (Nat × AV) → Prop},frcPs e ps K → K (ps.map fun p=>(p.1,e p.2))
 | [],_,h=>h
 | (i,x) :: ps,K,h=>frcPs_e (ps:=ps) (K:=fun l=>K ((i,e x) :: l)) (frc_e (K:=fun v=>frcPs e ps fun l=>K ((i,v) :: l)) h)
def fpub (h:List AB) (v:AV) (K:AV → List AB → Prop):Prop :=
 match v with
 | .own d n=>(match h[d]? with
  | some (.row N sz c)=>Need (n ≤ N) (frcH (h.set d .dead) fun h'=>K (.sl false false n sz c) h')
  | _=>False)
 | .ptr d o=>(match h[d]? with
  | some (.box m c)=>cnd ((List.range m).all fun i=>(c i).pureB) (frcH (h.set d .dead) fun h'=>K (.ip m c o) h')
  | _=>False)
 | v=>frc v fun v=>cnd v.pureB (K v h)
def fpubs (e:AX → AV) (ps:List (Nat × AX)) (h:List AB) (K:List (Nat × AV) → List AB → Prop):Prop :=
 match ps with
 | []=>K [] h
 | (i,x) :: ps=>fpub h (e x) (fun v h'=>fpubs e ps h' (fun l h''=>K ((i,v) :: l) h''))
theorem fpub_ok {h:List AB} {v:AV} {K:AV → List AB → Prop} (H:fpub h v K):apub h v K:=by
 cases v
 case own d n =>
  simp only [fpub,apub] at H ⊢
  split at H
  ·rename_i hd
   rw [hd]
   exact ⟨H.a,frcH_e H.b⟩
  ·exact H.elim
 case ptr d o =>
  simp only [fpub,apub] at H ⊢
  split at H
  ·rename_i m c hd
   rw [hd]
   obtain ⟨h1,h2⟩:=cnd_e H
   exact ⟨fun i hi=>pureB_ok _ (by simp only [List.all_eq_true,List.mem_range] at h1;exact h1 i hi),frcH_e h2⟩
  ·exact H.elim
 all_goals
  simp only [fpub] at H
  have H2:=frc_e H
  obtain ⟨h1,h2⟩:=cnd_e H2
  exact ⟨pureB_ok _ h1,h2⟩
theorem fpubs_ok {e:AX → AV}:∀ {ps:List (Nat × AX)} {h:List AB} {K K':List (Nat × AV) → List AB → Prop},(∀ l h,K l h → K' l h) → fpubs e ps h K → apubs e ps h K'
 | [],_,_,_,hk,H=>hk _ _ H
 | (i,x) :: ps,h,K,K',hk,H=>by
  obtain ⟨v,h1,H1,k1⟩:=apub_one (fpub_ok H)
  exact k1 _ (fpubs_ok (fun l h hh=>hk _ _ hh) H1)
def fsrc (sz:Nat) (h:List AB) (y:AV) (K:Bool → Nat → (Nat → Nat → AV) → Prop):Prop :=
 match y with
 | .sl _ _ m sz' c'=>Need (sz' = sz ∨ m = 0) (K false m c')
 | .own d m=>(match h[d]? with
  | some (.row N sz' c')=>cnd (sz' == sz) (Need (m ≤ N) (K false m c'))
  | some (.rwg N sz' c')=>cnd (sz' == sz) (Need (m ≤ N) (K true m c'))
  | _=>False)
 | .osl d sz0 lo m=>(match h[d]? with
  | some (.row N sz' c')=>cnd (sz' == sz && sz0 == sz) (Need (lo + m ≤ N) (K false m (fun k=>c' (lo + k))))
  | _=>False)
 | _=>False
theorem fsrc_e {sz:Nat} {h:List AB} {y:AV} {K:Bool → Nat → (Nat → Nat → AV) → Prop} (H:fsrc sz h y K):∃ q m c',Src q sz h y m c' ∧ K q m c':=by
 unfold fsrc at H
 split at H
 ·exact ⟨_,_,_,.inl ⟨_,_,_,rfl,rfl,H.a⟩,H.b⟩
 ·split at H
  ·rename_i hd
   obtain ⟨h1,h2⟩:=cnd_e H
   simp only [beq_iff_eq] at h1
   subst h1
   exact ⟨false,_,_,.inr (.inl ⟨_,_,rfl,hd,h2.a⟩),h2.b⟩
  ·rename_i hd
   obtain ⟨h1,h2⟩:=cnd_e H
   simp only [beq_iff_eq] at h1
   subst h1
   exact ⟨true,_,_,.inr (.inl ⟨_,_,rfl,hd,h2.a⟩),h2.b⟩
  ·exact H.elim
 ·split at H
  ·rename_i hd
   obtain ⟨h1,h2⟩:=cnd_e H
   simp only [Bool.and_eq_true,beq_iff_eq] at h1
   obtain ⟨h1,h1'⟩:=h1
   subst h1;subst h1'
   exact ⟨false,_,_,.inr (.inr ⟨_,_,_,_,rfl,rfl,hd,h2.a,rfl⟩),h2.b⟩
  ·exact H.elim
 ·exact H.elim
/-- A row of the one kind or of the other, computed before one goes on. -/
def frw (q:Bool) (n sz:Nat) (c:Nat → Nat → AV) (K:AB → Prop):Prop:=match q with
 | false=>K (.row n sz c)
 | true=>K (.rwg n sz c)
theorem frw_e {q:Bool} {n sz:Nat} {c:Nat → Nat → AV} {K:AB → Prop} (h:frw q n sz c K):K (.rw q n sz c):=by cases q <;> exact h
def fcellL : List AV → (List Int → Prop) → Prop
 | [],K=>K []
 | v :: vs,K=>match v with
  | .int .i64 a=>Need (in64 a) (fcellL vs fun l=>K (a :: l))
  | _=>False
def fkey (kt:Nat) (v:AV) (K:List Int → Prop):Prop :=
 match kt,v with
 | 0,.int .i64 a=>Need (in64 a) (K [a])
 | n + 1,.agg m c=>cnd (m == n + 1) (fcellL ((List.range m).map c) K)
 | _,_=>False
theorem fcellL_e : ∀ {vs:List AV} {K:List Int → Prop},fcellL vs K → ∃ l,K l ∧ vs = l.map (AV.int .i64) ∧ ∀ a ∈ l,in64 a
 | [],K,H=>⟨[],H,rfl,fun a ha=>by cases ha⟩
 | v :: vs,K,H=>by
  unfold fcellL at H
  split at H
  ·obtain ⟨l,h1,h2,h3⟩:=fcellL_e H.b
   refine ⟨_,h1,by rw [h2];rfl,fun a ha=>?_⟩
   rcases List.mem_cons.1 ha with rfl|ha
   ·exact H.a
   ·exact h3 a ha
  ·exact H.elim
theorem acell_of {c:Nat → AV} {l:List Int}:∀ {m:Nat} {K:List Int → Prop},(∀ i,i < m → c i = .int .i64 (l.getD i 0)) → m ≤ l.length → K (l.take m) → acell c m K
 | 0,K,_,_,h=>by simpa [acell] using h
 | m + 1,K,hc,hm,h=>by
  simp only [acell,hc m (by omega)]
  refine acell_of (fun i hi=>hc i (by omega)) (by omega) ?_
  have:l.take m ++ [l.getD m 0] = l.take (m + 1):=by
   rw [List.take_add_one,List.getElem?_eq_getElem (by omega)];simp [List.getD,List.getElem?_eq_getElem (show m < l.length by omega)]
  simp only [this];exact h
theorem fkey_ok {kt:Nat} {v:AV} {K:List Int → Prop} (H:fkey kt v K):akey kt v K:=by
 unfold fkey at H
 unfold akey
 split at H
 ·exact ⟨H.a,H.b⟩
 ·rename_i n m c
  obtain ⟨h1,h2⟩:=cnd_e H
  have h1:m = n + 1:=by simpa using h1
  obtain ⟨l,k1,k2,k3⟩:=fcellL_e h2
  have hl:l.length = m:=by simpa using (congrArg List.length k2).symm
  refine ⟨h1,acell_of (l:=l) (fun i hi=>?_) (by omega) (by rw [List.take_of_length_le (by omega)];exact ⟨k3,k1⟩)⟩
  have:=congrArg (fun L=>L[i]?) k2
  simp only [List.getElem?_map,List.getElem?_range hi,Option.map_some,List.getElem?_eq_getElem (show i < l.length by omega)] at this
  injection this with this
  rw [this];simp [List.getD,List.getElem?_eq_getElem (show i < l.length by omega)]
 ·exact H.elim
def fdst (sz:Nat) (x:AV) (K:Nat → Nat → Nat → Prop):Prop :=
 match x with
 | .own d n=>K d 0 n
 | .osl d sz' lo n=>cnd (sz' == sz) (K d lo n)
 | _=>False
def fxop (X:XOp) (e:AX → AV) (h:List AB) (K:AV → List AB → Prop):Prop :=
 match X with
 | .mkm kt=>nlit h.length fun d=>frcH (h ++ [.mp kt []]) fun h'=>K (.mpv d) h'
 | .ins kt m k v=>match e m with
  | .mpv d=>(match h[d]? with
   | some (.mp kt' L)=>frc (e v) fun v=>cnd (kt' == kt && v.pureB) (fkey kt (e k) fun l=>frcH (h.set d (.mp kt (aput L l v))) (K und))
   | _=>False)
  | _=>False
 | .lkp kt ok z m k=>match e m with
  | .mpv d=>(match h[d]? with
   | some (.mp kt' L)=>cnd (kt' == kt) (fkey kt (e k) fun l=>FLook (alook L l) (fun v=>match ok with
     | true=>K (.tup 2 (ofL [v,.bool true])) h
     | false=>K v h) (match ok with
     | true=>K (.tup 2 (ofL [z,.bool false])) h
     | false=>K z h))
   | _=>False)
  | _=>False
 | .mlen m=>match e m with
  | .mpv d=>(match h[d]? with
   | some (.mp _ L)=>K (.int .i64 L.length) h
   | _=>False)
  | _=>False
 | .rng m=>match e m with
  | .mpv d=>(match h[d]? with
   | some (.mp _ L)=>nlit h.length fun d'=>frcH (h ++ [.mit (.mpv d) L.length []]) fun h'=>K (.ptr d' 0) h'
   | _=>False)
  | _=>False
 | .ment kt z m k=>match e m with
  | .mpv d=>(match h[d]? with
   | some (.mp kt' L)=>cnd (kt' == kt && z.pureB) (fkey kt (e k) fun l=>FLookI L l (fun i v=>K (.tup 2 (ofL [v,.int .i64 i])) h) (frcH (h.set d (.mp kt (L ++ [(l,z)]))) (K (.tup 2 (ofL [z,.int .i64 L.length])))))
   | _=>False)
  | _=>False
 | .est m s v=>match e m,e s with
  | .mpv d,.int .i64 i=>(match h[d]? with
   | some (.mp kt L)=>frc (e v) fun v=>cnd v.pureB (FIdx i L.length fun i=>frcH (h.set d (.mp kt (L.set i ((L.getD i default).1,v)))) (K und))
   | _=>False)
  | _,_=>False
 | .mmv f xs=>cnd (xs.all fun x=>(e x).pureB) (frcs (xs.map e) fun vs=>K (.mv f xs.length (ofL vs)) h)
 | .cpy sz x y=>cnd (decide (0 < sz)) (fdst sz (e x) fun d lo n=>fsrc sz h (e y) fun q m c'=>match h[d]? with
  | some (.row N sz2 c)=>cnd (!q && sz2 == sz) (Need (lo + n ≤ N) (frcH (h.set d (.row N sz (cpc lo (min m n) c c'))) (K (.int .i64 (min m n:Nat)))))
  | _=>False)
 | .boxr n sz z=>nlit h.length fun d=>frcH (h ++ [.row n sz fun _ _=>z]) fun h'=>K (.rp d sz 0 0) h'
 | .iaa n sz x i=>match e i,e x with
  | .int _ j,.rp d sz' k o=>cnd (sz' == sz && k == 0 && o == 0) (FIdx j n fun j=>K (.rp d sz j 0) h)
  | .int _ j,.ptr d o=>FIdx j n fun j=>nlit (o + j * sz) fun o'=>K (.ptr d o') h
  | .int _ j,.ip m c o=>FIdx j n fun j=>nlit (o + j * sz) fun o'=>K (.ip m c o') h
  | _,_=>False
 | .idx n sz m x i=>match e i,e x with
  | .int _ j,.agg N c=>cnd (decide (n * sz ≤ N) && decide (0 < sz)) (FIdx j n fun j=>match m with
   | none=>frc (c (j * sz)) fun v=>K v h
   | some m'=>cnd (m' == sz) (frcT m' (fun i=>c (j * sz + i)) fun c=>K (.agg m' c) h))
  | _,_=>False
 | .ent x=>match e x with
  | .ptr d 0=>(match h[d]? with
   | some (.mit (.mpv d2) n seen)=>(match h[d2]? with
    | some (.mp kt L)=>Need (L.length = n) (FLast seen fun i=>FEnt (L.getD i default) fun p=>frc (keyA kt p.1) fun kv=>K (.tup 2 (ofL [kv,p.2])) h)
    | _=>False)
   | _=>False)
  | _=>False
def fnext (it:AV) (h:List AB) (K:AV → List AB → Prop):Prop :=
 match it with
 | .ptr d 0=>(match h[d]? with
  | some (.mit (.mpv d2) n seen)=>(match h[d2]? with
   | some (.mp kt L)=>Need (L.length = n) (FNext n seen (K (.tup 1 (ofL [.bool false])) h) fun i=>FEnt (L.getD i default) fun p=>frc (keyA kt p.1) fun kv=>frcH (h.set d (.mit (.mpv d2) n (seen ++ [i]))) fun h'=>K (.tup 3 (ofL [.bool true,kv,p.2])) h')
   | _=>False)
  | _=>False)
 | _=>False
theorem fnext_ok {it:AV} {h:List AB} {K:AV → List AB → Prop} (H:fnext it h K):anext it h K:=by
 unfold fnext at H
 unfold anext
 split at H
 ·split at H
  ·rename_i hd
   split at H
   ·rename_i hd2
    simp only [hd,hd2]
    exact ⟨H.a,H.b.e,fun i hi hn=>frcH_e (frc_e (H.b.s i hi hn).h)⟩
   ·exact H.elim
  ·exact H.elim
 ·exact H.elim
theorem fxop_ok {X:XOp} {e:AX → AV} {h:List AB} {K:AV → List AB → Prop} (H:fxop X e h K):xop X e h K:=by
 cases X <;> simp only [fxop,xop] at H ⊢
 case mkm=>exact frcH_e (nlit_e H)
 case boxr=>exact frcH_e (nlit_e H)
 case cpy sz x y =>
  obtain ⟨h1,H⟩:=cnd_e H
  refine ⟨by simpa using h1,?_⟩
  have key:∀ d lo n,(fsrc sz h (e y) fun q m c'=>match h[d]? with
    | some (AB.row N sz2 c)=>cnd (!q && sz2 == sz) (Need (lo + n ≤ N) (frcH (h.set d (.row N sz (cpc lo (min m n) c c'))) (K (.int .i64 (min m n:Nat)))))
    | _=>False) → asrc sz h (e y) fun q m c'=>match h[d]? with
    | some (AB.row N sz2 c)=>q = false ∧ sz2 = sz ∧ lo + n ≤ N ∧ K (.int .i64 (min m n:Nat)) (h.set d (.row N sz (cpc lo (min m n) c c')))
    | _=>False:=fun d lo n H=>by
   obtain ⟨q,m,c',hs,H⟩:=fsrc_e H
   refine asrc_i hs ?_
   split at H
   ·obtain ⟨a,b⟩:=cnd_e H
    simp only [Bool.and_eq_true,Bool.not_eq_true',beq_iff_eq] at a
    exact ⟨a.1,a.2,b.a,frcH_e b.b⟩
   ·exact H.elim
  unfold fdst at H
  unfold adst
  split at H
  ·rename_i hx;simp only [hx];exact key _ _ _ H
  ·rename_i hx
   obtain ⟨a,b⟩:=cnd_e H
   simp only [hx]
   exact ⟨by simpa using a,key _ _ _ b⟩
  ·exact H.elim
 case mmv f xs =>
  obtain ⟨h1,h2⟩:=cnd_e H
  simp only [List.all_eq_true] at h1
  exact ⟨fun x hx=>pureB_ok _ (h1 x hx),frcs_e (K:=fun vs=>K (.mv f xs.length (ofL vs)) h) h2⟩
 case ins =>
  split at H
  ·rename_i hm
   split at H
   ·rename_i hd
    have H:=frc_e H
    obtain ⟨h1,h2⟩:=cnd_e H
    simp only [Bool.and_eq_true,beq_iff_eq] at h1
    simp only [hm,hd]
    refine ⟨h1.1,pureB_ok _ h1.2,?_⟩
    obtain ⟨l,k1,_,_,k2⟩:=akey_one (fkey_ok h2)
    exact k2 _ (frcH_e k1)
   ·exact H.elim
  ·exact H.elim
 case lkp kt ok z m k =>
  split at H
  ·rename_i hm
   split at H
   ·rename_i kt' L hd
    obtain ⟨h1,h2⟩:=cnd_e H
    simp only [hm,hd]
    refine ⟨by simpa using h1,?_⟩
    obtain ⟨l,k1,_,_,k2⟩:=akey_one (fkey_ok h2)
    refine k2 _ ?_
    cases ho:alook L l with
    | none=>have:=k1.n ho;cases ok <;> exact this
    | some v=>have:=k1.s v ho;cases ok <;> exact this
   ·exact H.elim
  ·exact H.elim
 case mlen=>exact H
 case rng =>
  split at H
  ·rename_i hm
   split at H
   ·rename_i hd
    simp only [hm,hd]
    exact frcH_e (nlit_e H)
   ·exact H.elim
  ·exact H.elim
 case ment =>
  split at H
  ·rename_i hm
   split at H
   ·rename_i kt' L hd
    obtain ⟨h1,h2⟩:=cnd_e H
    simp only [Bool.and_eq_true,beq_iff_eq] at h1
    simp only [hm,hd]
    refine ⟨h1.1,pureB_ok _ h1.2,?_⟩
    obtain ⟨l,k1,_,_,k2⟩:=akey_one (fkey_ok h2)
    refine k2 _ ?_
    cases ho:aidx L l with
    | none=>exact frcH_e (k1.n ho)
    | some i=>exact k1.s i _ ho rfl
   ·exact H.elim
  ·exact H.elim
 case est =>
  split at H
  ·rename_i hm hs
   split at H
   ·rename_i hd
    have H:=frc_e H
    obtain ⟨h1,h2⟩:=cnd_e H
    simp only [hm,hs,hd]
    exact ⟨h2.a.1,h2.a.2,pureB_ok _ h1,frcH_e h2.h⟩
   ·exact H.elim
  ·exact H.elim
 case iaa =>
  split at H
  ·rename_i hi hx
   obtain ⟨h1,h2⟩:=cnd_e H
   simp only [Bool.and_eq_true,beq_iff_eq] at h1
   simp only [hi,hx]
   exact ⟨h1.1.1,h1.1.2,h1.2,h2.a.1,h2.a.2,h2.h⟩
  ·rename_i hi hx
   simp only [hi,hx]
   exact ⟨H.a.1,H.a.2,nlit_e H.h⟩
  ·rename_i hi hx
   simp only [hi,hx]
   exact ⟨H.a.1,H.a.2,nlit_e H.h⟩
  ·exact H.elim
 case idx n sz m x i =>
  split at H
  ·rename_i hi hx
   obtain ⟨h1,h2⟩:=cnd_e H
   simp only [Bool.and_eq_true,decide_eq_true_eq] at h1
   simp only [hi,hx]
   refine ⟨h2.a.1,h2.a.2,h1.1,h1.2,?_⟩
   have h3:=h2.h
   cases m with
   | none=>exact frc_e h3
   | some m' =>
    obtain ⟨a,b⟩:=cnd_e h3
    exact ⟨by simpa using a,frcT_e b⟩
  ·exact H.elim
 case ent =>
  split at H
  ·rename_i hx
   split at H
   ·rename_i hd
    split at H
    ·rename_i hd2
     obtain ⟨i,h1,h2⟩:=H.b.h
     simp only [hx,hd,hd2,h1]
     exact ⟨H.a,frc_e h2.h⟩
    ·exact H.elim
   ·exact H.elim
  ·exact H.elim
def fop (o:AOp) (e:AX → AV) (h:List AB) (K:AV → List AB → Prop):Prop :=
 match o with
 | .mv x=>frc (e x) fun v=>K v h
 | .box x=>match e x with
  | .agg m c=>nlit h.length fun d=>frcH (h ++ [.box m c]) fun h'=>K (.ptr d 0) h'
  | .bot=>False
  | .tup ..=>False
  | v=>nlit h.length fun d=>frcH (h ++ [.box 1 (ofL [v])]) fun h'=>K (.ptr d 0) h'
 | .fa x off=>match e x with
  | .ptr d o=>nlit (o + off) fun o'=>K (.ptr d o') h
  | .rp d sz k o=>nlit (o + off) fun o'=>K (.rp d sz k o') h
  | .ip m c o=>nlit (o + off) fun o'=>K (.ip m c o') h
  | _=>False
 | .pick c a b=>match e c with
  | .bool q=>FCond q (frc (e a) fun v=>K v h) (frc (e b) fun v=>K v h)
  | _=>False
 | .build zs ps=>cnd (ps.all fun p=>elemB p.2.1 (e p.2.2) && decide (p.1 + p.2.1 ≤ zs.length)) (frcT zs.length (buildC (ofL zs) (ps.map fun p=>(p.1,p.2.1,e p.2.2))) fun c=>K (.agg zs.length c) h)
 | .bsl n sz zs ps=>cnd (ps.all fun p=>elemB sz (e p.2) && (e p.2).pureB && decide (p.1 < n)) (frcPs e ps fun es=>K (.sl false true n sz (bslC (fun _=>ofL zs) es)) h)
 | .bslp n sz zs ps=>match ps.all fun p=>(e p.2).pureB with
  | true=>fpubs e ps h (fun es h'=>cnd (es.all fun p=>elemB sz p.2 && decide (p.1 < n)) (K (.sl false true n sz (bslC (fun _=>ofL zs) es)) h'))
  | false=>FOr (fpubs e ps h (fun es h'=>cnd (es.all fun p=>elemB sz p.2 && decide (p.1 < n)) (K (.sl false true n sz (bslC (fun _=>ofL zs) es)) h')))
   (cnd (ps.all fun p=>elemB sz (e p.2) && decide (p.1 < n)) (frcPs e ps fun es=>nlit h.length fun d=>frcH (h ++ [.rwg n sz (bslC (fun _=>ofL zs) es)]) fun h'=>K (.own d n) h'))
 | .ld none x=>match e x with
  | .ptr d o=>(match h[d]? with
   | some (.box m c)=>cnd (decide (o < m)) (frc (c o) fun v=>K v h)
   | _=>False)
  | .rp d sz k o=>(match h[d]? with
   | some (.row n sz' c)=>cnd (decide (o < sz) && sz' == sz) (Need (k < n) (frc (c k o) fun v=>K v h))
   | some (.rwg n sz' c)=>cnd (decide (o < sz) && sz' == sz) (Need (k < n) (frc (c k o) fun v=>K v h))
   | _=>False)
  | .ip m c o=>cnd (decide (o < m)) (frc (c o) fun v=>K v h)
  | _=>False
 | .ld (some m') x=>match e x with
  | .ptr d o=>(match h[d]? with
   | some (.box m c)=>cnd (decide (o + m' ≤ m)) (frcT m' (fun i=>c (o + i)) fun c=>K (.agg m' c) h)
   | _=>False)
  | .rp d sz k o=>(match h[d]? with
   | some (.row n sz' c)=>(match sz == 1 && o == 0 with
    | true=>cnd (sz' == sz) (Need (k + m' ≤ n) (K (.agg m' (tab m' fun i=>c (k + i) 0)) h))
    | false=>cnd (decide (o + m' ≤ sz) && sz' == sz) (Need (k < n) (frcT m' (fun i=>c k (o + i)) fun c=>K (.agg m' c) h)))
   | some (.rwg n sz' c)=>cnd (decide (o + m' ≤ sz) && sz' == sz) (Need (k < n) (frcT m' (fun i=>c k (o + i)) fun c=>K (.agg m' c) h))
   | _=>False)
  | .ip m c o=>cnd (decide (o + m' ≤ m)) (frcT m' (fun i=>c (o + i)) fun c=>K (.agg m' c) h)
  | _=>False
 | .st m x y=>match e x with
  | .ptr d o=>(match h[d]? with
   | some (.box m' c)=>cnd (decide (o + m ≤ m') && elemB m (e y)) (frcT m' (stM c o (elemC (e y)) m) fun c=>frcH (h.set d (.box m' c)) (K und))
   | _=>False)
  | .rp d sz k o=>(match h[d]? with
   | some (.row n sz' c)=>cnd (sz' == sz && elemB m (e y) && (e y).pureB) (Need (k < n) (match m == sz && o == 0 with
    | true=>frcH (h.set d (.row n sz (updRm c k (elemC (e y))))) (K und)
    | false=>cnd (m == 1 && decide (o < sz)) (frcH (h.set d (.row n sz (updR c k o (elemC (e y) 0)))) (K und))))
   | some (.rwg n sz' c)=>cnd (sz' == sz && elemB m (e y)) (Need (k < n) (match m == sz && o == 0 with
    | true=>frcH (h.set d (.rwg n sz (updRm c k (elemC (e y))))) (K und)
    | false=>cnd (m == 1 && decide (o < sz)) (frcH (h.set d (.rwg n sz (updR c k o (elemC (e y) 0)))) (K und))))
   | _=>False)
  | _=>False
 | .fld x off m=>match e x with
  | .agg n c=>(match m with
   | none=>cnd (decide (off < n)) (frc (c off) fun v=>K v h)
   | some m'=>cnd (decide (off + m' ≤ n)) (frcT m' (fun i=>c (off + i)) fun c=>K (.agg m' c) h))
  | _=>False
 | .ia sz x i=>match e i,e x with
  | .int _ j,.sl _ _ n sz' c=>cnd (sz' == sz && decide (0 < sz)) (FIdx j n fun j=>K (.ip sz (c j) 0) h)
  | .int _ j,.own d n=>FIdx j n fun j=>K (.rp d sz j 0) h
  | .int _ j,.osl d sz' lo n=>cnd (sz' == sz) (FIdx j n fun j=>K (.rp d sz (lo + j) 0) h)
  | _,_=>False
 | .slc sz x lo hi=>match e x with
  | .sl z ee n sz' c=>cnd (sz' == sz) (match lo.map e,hi.map e with
   | none,none=>K (.sl z false n sz c) h
   | none,some (.int _ b)=>FTo b n fun b=>K (.sl z false b sz c) h
   | some (.int _ a),none=>FTo a n fun a=>K (.sl z ee (n - a) sz (fun k=>c (k + a))) h
   | some (.int _ a),some (.int _ b)=>FTo b n fun b=>FTo a b fun a=>K (.sl z false (b - a) sz (fun k=>c (k + a))) h
   | _,_=>False)
  | .own d n=>(match lo.map e,hi.map e with
   | none,none=>K (.own d n) h
   | none,some (.int _ b)=>FTo b n fun b=>K (.own d b) h
   | some (.int _ a),none=>FTo a n fun a=>K (.osl d sz a (n - a)) h
   | _,_=>False)
  | .osl d sz' l0 n=>cnd (sz' == sz) (match lo.map e,hi.map e with
   | some (.int _ a),none=>FTo a n fun a=>K (.osl d sz (l0 + a) (n - a)) h
   | _,_=>False)
  | _=>False
 | .eqa m neg x y=>match e x,e y with
  | .agg m1 c,.agg m2 c'=>cnd (m1 == m && m2 == m) (eqcs m c c' m fun b=>K (.bool (match neg with|true=>!b|false=>b)) h)
  | _,_=>False
 | .clr sz x=>match e x with
  | .osl d sz' lo _=>(match h[d]? with
   | some (.row N sz2 c)=>cnd (sz' == sz && sz2 == sz) (Need (lo ≤ N) (frcH (h.set d (.row lo sz c)) (K und)))
   | _=>False)
  | _=>False
 | .bin op x y=>match e x,e y with
  | .int k a,.int k' b=>(match op with
   | .shl=>fbin .shl k a b (fun v=>K v h)
   | .shr=>fbin .shr k a b (fun v=>K v h)
   | op=>cnd (decide (k = k')) (fbin op k a b (fun v=>K v h)))
  | _,_=>False
 | .un op x=>match op,e x with
  | .not,.bool b=>K (.bool !b) h
  | .neg,.int k n=>Fits k (0 - n) (fun z=>K (.int k z) h)
  | _,_=>False
 | .conv k x=>match e x with
  | .int _ n=>Fits k n (fun z=>K (.int k z) h)
  | _=>False
 | .msl sz bytes zs x y=>match e x,e y with
  | .int .i64 n,.int .i64 n'=>cnd (zs.length == sz) (Need (0 ≤ n ∧ n ≤ n' ∧ n' ≤ 9223372036854775807 ∧ n' * bytes ≤ 140737488355328) (nlit h.length fun d=>frcH (h ++ [.row n.toNat sz fun _=>ofL zs]) fun h'=>K (.own d n.toNat) h'))
  | _,_=>False
 | .app sz bytes x y=>cnd (decide (0 < sz)) (fsrc sz h (e y) fun q m c'=>match e x with
   | .sl z ee n sz2 c=>cnd ee (Need ((sz2 = sz ∨ n = 0) ∧ n + m ≤ maxLen ∧ (n + m) * bytes ≤ 140737488355328) (match m with
    | 0=>K (.sl z ee n sz2 c) h
    | m' + 1=>nlit h.length fun d=>frw q (n + (m' + 1)) sz (appc n c c') fun x=>frcH (h ++ [x]) fun h'=>K (.own d (n + (m' + 1))) h'))
   | .own d n=>(match h[d]? with
    | some (.row n' sz2 c)=>cnd (sz2 == sz) (Need (n + m ≤ maxLen ∧ (n + m) * bytes ≤ 140737488355328) (FApp (Need (n' = n) (nlit h.length fun d'=>frw q (n + m) sz (appc n c c') fun x=>frcH (h.set d .dead ++ [x]) fun h'=>K (.own d' (n + m)) h'))
      (cnd (!q) (Need (n ≤ n') (Need (frcH (h.set d (.row (n + m) sz (appc n c c'))) fun h'=>K (.own d (n + m)) h') (nlit h.length fun d'=>frcH (h ++ [.row (n + m) sz (appc n c c')]) fun h'=>K (.own d' (n + m)) h'))))))
    | some (.rwg n' sz2 c)=>cnd (sz2 == sz) (Need (n + m ≤ maxLen ∧ (n + m) * bytes ≤ 140737488355328) (Need (n' = n) (nlit h.length fun d'=>frcH (h.set d .dead ++ [.rwg (n + m) sz (appc n c c')]) fun h'=>K (.own d' (n + m)) h')))
    | _=>False)
   | .osl d sz3 lo n=>(match h[d]? with
    | some (.row n' sz2 c)=>cnd (sz2 == sz && sz3 == sz) (Need (lo + n ≤ n' ∧ n + m ≤ maxLen ∧ (n + m) * bytes ≤ 140737488355328) (FApp False
      (cnd (!q) (Need (lo + n ≤ n') (Need (frcH (h.set d (.row (lo + (n + m)) sz (appc (lo + n) c c'))) fun h'=>K (.osl d sz lo (n + m)) h') (nlit h.length fun d'=>frcH (h ++ [.row (n + m) sz (appc n (fun k=>c (lo + k)) c')]) fun h'=>K (.own d' (n + m)) h'))))))
    | _=>False)
   | _=>False)
 | .ext x i=>match e x with
  | .tup m c=>cnd (decide (i < m)) (frc (c i) fun v=>K v h)
  | _=>False
 | .xt X=>fxop X e h K
 | o=>aop o e h K
def fstep (C:CallP) (o:AOp) (e:Env) (h:List AB) (K:AV → List AB → Prop):Prop :=
 match o with
 | .call f xs=>frcs (xs.map (AX.ev e)) fun vs=>FCall C f vs h K
 | .calv x xs=>match x.ev e with
  | .fn f m c=>frcs (xs.map (AX.ev e) ++ (List.range m).map c) fun vs=>FCall C f vs h K
  | _=>False
 | .nxt x=>fnext (x.ev e) h K
 | o=>fop o (AX.ev e) h K

theorem fbin_ok {op:BinOp} {k:IntKind} {x y:Int} {K:AV → Prop} (H:fbin op k x y K) (h1:op ≠ .shl) (h2:op ≠ .shr):ibin op k x y K:=by
 cases op <;> simp only [fbin,ibin] at H ⊢ <;> first|exact H.h|exact H|exact ⟨H.a,H.b.h⟩|exact ⟨H.a,H.b⟩|exact (h1 rfl).elim|exact (h2 rfl).elim
theorem fop_ok (o:AOp) {e:AX → AV} {h:List AB} {K:AV → List AB → Prop} (H:fop o e h K):aop o e h K ∨ asplit o e h K:=by
 cases o
 case mv x=>left;simp only [fop] at H;exact frc_e H
 case xt X=>left;exact fxop_ok H
 case box x =>
  left
  simp only [fop,aop] at H ⊢
  generalize e x = v at H ⊢
  cases v <;> simp only at H ⊢ <;> exact frcH_e (nlit_e H)
 case fa x off =>
  left
  simp only [fop,aop] at H ⊢
  generalize e x = v at H ⊢
  cases v <;> simp only at H ⊢ <;> exact nlit_e H
 case pick c a b =>
  left
  simp only [fop,aop] at H ⊢
  generalize e c = v at H ⊢
  cases v <;> simp only at H ⊢
  exact FCond.ac (match H with
   | .t h a=>.t h (frc_e a)
   | .f h a=>.f h (frc_e a))
 case build zs ps =>
  left
  simp only [fop,aop] at H ⊢
  obtain ⟨h1,h2⟩:=cnd_e H
  simp only [List.all_eq_true,Bool.and_eq_true,decide_eq_true_eq] at h1
  exact ⟨fun p hp=>elemB_ok (h1 p hp).1,fun p hp=>(h1 p hp).2,frcT_e h2⟩
 case bsl n sz zs ps =>
  left
  simp only [fop,aop] at H ⊢
  obtain ⟨h1,h2⟩:=cnd_e H
  simp only [List.all_eq_true,Bool.and_eq_true,decide_eq_true_eq] at h1
  exact ⟨fun p hp=>⟨elemB_ok (h1 p hp).1.1,pureB_ok _ (h1 p hp).1.2⟩,fun p hp=>(h1 p hp).2,frcPs_e (K:=fun es=>K (.sl false true n sz (bslC (fun _=>ofL zs) es)) h) h2⟩
 case bslp n sz zs ps =>
  left
  simp only [fop,aop] at H ⊢
  have pubs:fpubs e ps h (fun es h'=>cnd (es.all fun p=>elemB sz p.2 && decide (p.1 < n)) (K (.sl false true n sz (bslC (fun _=>ofL zs) es)) h')) → apubs e ps h (fun es h'=>(∀ p ∈ es,elemOK sz p.2 ∧ p.1 < n) ∧ K (.sl false true n sz (bslC (fun _=>ofL zs) es)) h'):=fun H=>by
   refine fpubs_ok (fun l h' hh=>?_) H
   obtain ⟨h1,h2⟩:=cnd_e hh
   simp only [List.all_eq_true,Bool.and_eq_true,decide_eq_true_eq] at h1
   exact ⟨fun p hp=>⟨elemB_ok (h1 p hp).1,(h1 p hp).2⟩,h2⟩
  split at H
  ·exact .inl (pubs H)
  ·cases H with
   | pub a=>exact .inl (pubs a)
   | keep b =>
    obtain ⟨h1,h2⟩:=cnd_e b
    simp only [List.all_eq_true,Bool.and_eq_true,decide_eq_true_eq] at h1
    exact .inr ⟨fun p hp=>⟨elemB_ok (h1 p hp).1,(h1 p hp).2⟩,frcH_e (nlit_e (frcPs_e (K:=fun es=>nlit h.length fun d=>frcH (h ++ [.rwg n sz (bslC (fun _=>ofL zs) es)]) fun h'=>K (.own d n) h') h2))⟩
 case ld m x =>
  left
  cases m <;> simp only [fop,aop] at H ⊢ <;> generalize e x = v at H ⊢ <;> cases v <;> simp only at H ⊢
  case none.ip=>obtain ⟨h1,h2⟩:=cnd_e H;exact ⟨by simpa using h1,frc_e h2⟩
  case some.ip=>obtain ⟨h1,h2⟩:=cnd_e H;exact ⟨by simpa using h1,frcT_e h2⟩
  case none.ptr =>
   split at H
   ·rename_i heq
    rw [heq]
    obtain ⟨h1,h2⟩:=cnd_e H
    exact ⟨by simpa using h1,frc_e h2⟩
   ·exact H.elim
  case some.ptr =>
   split at H
   ·rename_i heq
    rw [heq]
    obtain ⟨h1,h2⟩:=cnd_e H
    exact ⟨by simpa using h1,frcT_e h2⟩
   ·exact H.elim
  case none.rp =>
   split at H
   ·rename_i heq
    rw [heq]
    obtain ⟨h1,h2⟩:=cnd_e H
    simp only [Bool.and_eq_true,decide_eq_true_eq,beq_iff_eq] at h1
    exact ⟨h2.a,h1.1,h1.2,frc_e h2.b⟩
   ·rename_i heq
    rw [heq]
    obtain ⟨h1,h2⟩:=cnd_e H
    simp only [Bool.and_eq_true,decide_eq_true_eq,beq_iff_eq] at h1
    exact ⟨h2.a,h1.1,h1.2,frc_e h2.b⟩
   ·exact H.elim
  case some.rp d sz k o =>
   split at H
   ·rename_i heq
    rw [heq]
    cases hb:(sz == 1 && o == 0) <;> simp only [hb] at H ⊢
    ·obtain ⟨h1,h2⟩:=cnd_e H
     simp only [Bool.and_eq_true,decide_eq_true_eq,beq_iff_eq] at h1
     exact ⟨h2.a,h1.1,h1.2,frcT_e h2.b⟩
    ·obtain ⟨h1,h2⟩:=cnd_e H
     simp only [beq_iff_eq] at h1
     exact ⟨h2.a,h1,h2.b⟩
   ·rename_i heq
    rw [heq]
    obtain ⟨h1,h2⟩:=cnd_e H
    simp only [Bool.and_eq_true,decide_eq_true_eq,beq_iff_eq] at h1
    exact ⟨h2.a,h1.1,h1.2,frcT_e h2.b⟩
   ·exact H.elim
 case st m x y =>
  left
  simp only [fop,aop] at H ⊢
  generalize e x = v at H ⊢
  cases v <;> simp only at H ⊢
  case ptr =>
   split at H
   ·rename_i heq
    rw [heq]
    obtain ⟨h1,h2⟩:=cnd_e H
    simp only [Bool.and_eq_true,decide_eq_true_eq] at h1
    exact ⟨h1.1,elemB_ok h1.2,frcH_e (frcT_e (K:=fun c=>frcH (h.set _ (.box _ c)) (K und)) h2)⟩
   ·exact H.elim
  case rp =>
   split at H
   ·rename_i heq
    rw [heq]
    obtain ⟨h1,h2⟩:=cnd_e H
    simp only [Bool.and_eq_true,beq_iff_eq] at h1
    refine ⟨h2.a,h1.1.1,elemB_ok h1.1.2,pureB_ok _ h1.2,?_⟩
    have h3:=h2.b
    split at h3
    ·rename_i hc
     simp only [Bool.and_eq_true,beq_iff_eq] at hc
     exact .inr ⟨hc.1,hc.2,frcH_e h3⟩
    ·obtain ⟨h4,h5⟩:=cnd_e h3
     simp only [Bool.and_eq_true,beq_iff_eq,decide_eq_true_eq] at h4
     exact .inl ⟨h4.1,h4.2,frcH_e h5⟩
   ·rename_i heq
    rw [heq]
    obtain ⟨h1,h2⟩:=cnd_e H
    simp only [Bool.and_eq_true,beq_iff_eq] at h1
    refine ⟨h2.a,h1.1,elemB_ok h1.2,?_⟩
    have h3:=h2.b
    split at h3
    ·rename_i hc
     simp only [Bool.and_eq_true,beq_iff_eq] at hc
     exact .inr ⟨hc.1,hc.2,frcH_e h3⟩
    ·obtain ⟨h4,h5⟩:=cnd_e h3
     simp only [Bool.and_eq_true,beq_iff_eq,decide_eq_true_eq] at h4
     exact .inl ⟨h4.1,h4.2,frcH_e h5⟩
   ·exact H.elim
 case fld x off m =>
  left
  simp only [fop,aop] at H ⊢
  generalize e x = v at H ⊢
  cases v <;> simp only at H ⊢
  cases m <;> (simp only at H ⊢;obtain ⟨h1,h2⟩:=cnd_e H;first|exact ⟨by simpa using h1,frcT_e h2⟩|exact ⟨by simpa using h1,frc_e h2⟩)
 case ia sz x i =>
  left
  simp only [fop,aop] at H ⊢
  generalize e x = v at H ⊢
  generalize e i = j at H ⊢
  cases j <;> cases v <;> simp only at H ⊢
  ·obtain ⟨h1,h2⟩:=cnd_e H
   simp only [Bool.and_eq_true,beq_iff_eq,decide_eq_true_eq] at h1
   exact ⟨h1.1,h1.2,h2.a.1,h2.a.2,h2.h⟩
  ·exact ⟨H.a.1,H.a.2,H.h⟩
  ·obtain ⟨h1,h2⟩:=cnd_e H
   exact ⟨by simpa using h1,h2.a.1,h2.a.2,h2.h⟩
 case slc sz x lo hi =>
  left
  simp only [fop,aop] at H ⊢
  generalize e x = v at H ⊢
  cases v <;> simp only at H ⊢
  case sl =>
   obtain ⟨h1,H⟩:=cnd_e H
   refine ⟨by simpa using h1,?_⟩
   generalize lo.map e = l at H ⊢
   generalize hi.map e = m at H ⊢
   split at H
   ·exact H
   ·exact ⟨H.a.1,H.a.2,H.h⟩
   ·exact ⟨H.a.1,H.a.2,H.h⟩
   ·have h3:=H.h.a
    have h4:=H.a
    exact ⟨h3.1,by omega,h4.2,H.h.h⟩
   ·exact H.elim
  case own =>
   generalize lo.map e = l at H ⊢
   generalize hi.map e = m at H ⊢
   split at H
   ·exact H
   ·exact ⟨H.a.1,H.a.2,H.h⟩
   ·exact ⟨H.a.1,H.a.2,H.h⟩
   ·exact H.elim
  case osl =>
   obtain ⟨h1,H⟩:=cnd_e H
   refine ⟨by simpa using h1,?_⟩
   generalize lo.map e = l at H ⊢
   generalize hi.map e = m at H ⊢
   split at H
   ·exact ⟨H.a.1,H.a.2,H.h⟩
   ·exact H.elim
 case eqa m neg x y =>
  left
  simp only [fop,aop] at H ⊢
  generalize e x = v at H ⊢
  generalize e y = u at H ⊢
  cases v <;> cases u <;> simp only at H ⊢
  obtain ⟨h1,h2⟩:=cnd_e H
  simp only [Bool.and_eq_true,beq_iff_eq] at h1
  refine ⟨h1.1,h1.2,?_⟩
  obtain ⟨q,g1,k1⟩:=eqcs_one h2
  refine k1 _ ?_
  cases neg <;> exact g1
 case clr sz x =>
  left
  simp only [fop,aop] at H ⊢
  generalize e x = v at H ⊢
  cases v <;> simp only at H ⊢
  split at H
  ·rename_i hd
   rw [hd]
   obtain ⟨h1,h2⟩:=cnd_e H
   simp only [Bool.and_eq_true,beq_iff_eq] at h1
   exact ⟨h1.1,h1.2,h2.a,frcH_e h2.b⟩
  ·exact H.elim
 case bin op x y =>
  left
  simp only [fop,aop] at H ⊢
  generalize e x = v at H ⊢
  generalize e y = u at H ⊢
  cases v <;> cases u <;> simp only at H ⊢
  simp only [abin]
  cases op <;> simp only at H ⊢
  case shl=>exact ⟨H.a,H.b.h⟩
  case shr=>exact ⟨H.a,H.b.h⟩
  all_goals
   obtain ⟨h1,h2⟩:=cnd_e H
   exact ⟨by simpa using h1,fbin_ok h2 (by simp) (by simp)⟩
 case un op x =>
  left
  simp only [fop,aop] at H ⊢
  generalize e x = v at H ⊢
  cases op <;> cases v <;> simp only at H ⊢ <;> first|exact H|exact H.h
 case conv k x =>
  left
  simp only [fop,aop] at H ⊢
  generalize e x = v at H ⊢
  cases v <;> simp only at H ⊢ <;> exact H.h
 case msl sz bytes zs x y =>
  left
  simp only [fop,aop] at H ⊢
  generalize e x = v at H ⊢
  generalize e y = u at H ⊢
  split at H
  ·obtain ⟨h1,h2⟩:=cnd_e H
   exact ⟨by simpa using h1,h2.a.1,h2.a.2.1,h2.a.2.2.1,h2.a.2.2.2,frcH_e (nlit_e h2.b)⟩
  ·exact H.elim
 case app sz bytes x y =>
  simp only [fop,aop,asplit] at H ⊢
  obtain ⟨h0,H2⟩:=cnd_e H
  clear H
  have h0':0 < sz:=by simpa using h0
  obtain ⟨q,m,c',hs,H⟩:=fsrc_e H2
  clear H2 h0
  generalize e x = v at H ⊢
  cases v <;> simp only at H
  case sl z ee n sz2 c =>
   left
   obtain ⟨h1,h2⟩:=cnd_e H
   refine ⟨h0',asrc_i hs ⟨h1,h2.a.1,fun hm=>?_,fun hm=>?_⟩⟩
   ·subst hm;exact h2.b
   ·obtain ⟨m',rfl⟩:∃ m',m = m' + 1:=⟨m - 1,by omega⟩
    exact ⟨h2.a.2.1,h2.a.2.2,frcH_e (frw_e (nlit_e h2.b))⟩
  case own d n =>
   split at H
   ·rename_i n' sz2 c hd
    obtain ⟨h1,h2⟩:=cnd_e H
    have h1':sz2 = sz:=by simpa using h1
    cases h2.b with
    | grow a=>left;exact ⟨h0',asrc_i hs (by simp only [hd];exact ⟨a.a,h1',h2.a.1,h2.a.2,frcH_e (frw_e (nlit_e a.b))⟩)⟩
    | share b=>right;obtain ⟨b0,b⟩:=cnd_e b;exact ⟨h0',asrc_i hs (by simp only [hd];exact ⟨by simpa using b0,h1',b.a,h2.a.1,h2.a.2,frcH_e b.b.a,frcH_e (nlit_e b.b.b)⟩)⟩
   ·rename_i n' sz2 c hd
    obtain ⟨h1,h2⟩:=cnd_e H
    have h1':sz2 = sz:=by simpa using h1
    left;exact ⟨h0',asrc_i hs (by simp only [hd];exact ⟨h2.b.a,h1',h2.a.1,h2.a.2,frcH_e (nlit_e h2.b.b)⟩)⟩
   ·exact H.elim
  case osl d sz3 lo n =>
   split at H
   ·rename_i n' sz2 c hd
    obtain ⟨h1,h2⟩:=cnd_e H
    simp only [Bool.and_eq_true,beq_iff_eq] at h1
    cases h2.b with
    | grow a=>exact a.elim
    | share b=>right;obtain ⟨b0,b⟩:=cnd_e b;exact ⟨h0',asrc_i hs (by simp only [hd];exact ⟨by simpa using b0,h1.2,h1.1,h2.a.1,h2.a.2.1,h2.a.2.2,frcH_e b.b.a,frcH_e (nlit_e b.b.b)⟩)⟩
   ·exact H.elim
 case ext x i =>
  left
  simp only [fop,aop] at H ⊢
  generalize e x = v at H ⊢
  cases v <;> simp only at H ⊢
  obtain ⟨h1,h2⟩:=cnd_e H
  exact ⟨by simpa using h1,frc_e h2⟩
 all_goals (left;exact H)
theorem fop_aop (o:AOp) {e:AX → AV} {h:List AB} {K:AV → List AB → Prop} (H:fop o e h K) (ho:o.chg = false):aop o e h K:=by
 rcases fop_ok o H with h1|h1
 ·exact h1
 ·cases o <;> simp only [asplit] at h1 <;> simp [AOp.chg] at ho
theorem fstep_ok {C:CallP} {o:AOp} {e:Env} {h:List AB} {K:AV → List AB → Prop} (H:fstep C o e h K):astep C o e h K:=by
 cases o
 case call f xs=>exact (frcs_e H).h
 case calv x xs =>
  simp only [fstep,astep] at H ⊢
  generalize x.ev e = v at H ⊢
  cases v <;> simp only at H ⊢
  exact (frcs_e H).h
 case app=>exact fop_ok _ H
 case nxt x=>exact fnext_ok H
 all_goals
  simp only [fstep] at H
  rcases fop_ok _ H with h1|h1
  ·exact h1
  ·exact h1.elim
/-- The next state of the temporaries. -/
def Env.upd (e:Env) (d:Nat) (v:AV):Env:=fun t=>if t = d then v else e t
def fput (e:Env) (d:Option Nat) (v:AV) (K:Env → Prop):Prop:=match d with
 | some d=>K (e.upd d v)
 | none=>K e
theorem fput_e {e:Env} {d:Option Nat} {v:AV} {K:Env → Prop} (h:fput e d v K):K (e.put d v):=by cases d <;> exact h
def fgstep (C:CallP) (o:AO) (e:Env) (h:List AB) (K:AV → List AB → Prop):Prop :=
 match o.guard with
 | none=>fstep C o.op e h K
 | some (t,b)=>match e t with
  | .bool q=>(match b with
   | true=>FCond q (fstep C o.op e h K) (K und h)
   | false=>FCond q (K und h) (fstep C o.op e h K))
  | .tup 0 _=>K und h
  | _=>False
theorem fgstep_ok {C:CallP} {o:AO} {e:Env} {h:List AB} {K:AV → List AB → Prop} (H:fgstep C o e h K):gstep C o e h K:=by
 unfold fgstep at H
 unfold gstep
 cases hg:o.guard with
 | none=>rw [hg] at H;exact fstep_ok H
 | some p =>
  obtain ⟨t,b⟩:=p
  rw [hg] at H
  simp only at H ⊢
  generalize e t = v at H ⊢
  split at H
  ·rename_i q
   cases b <;> simp only at H
   ·cases H with
    | t h a=>subst h;exact a
    | f h a=>subst h;exact fstep_ok a
   ·cases H with
    | t h a=>subst h;exact fstep_ok a
    | f h a=>subst h;exact a
  ·exact H
  ·exact H.elim
def fwats (C:CallP) (ws:List AO) (e:Env) (h:List AB) (p:Prop):Prop:=match ws with
 | []=>p
 | o :: ws=>match o.dst with
  | some d=>Need (fgstep C o e h (fun v _=>Same v (e d))) (fwats C ws e h p)
  | none=>fwats C ws e h p
def fregs (C:CallP) (l:List (AO × List AO)) (Q:Env → List AB → Prop) (e:Env) (h:List AB):Prop :=
 match l with
 | []=>Q e h
 | (⟨dst,op,gd⟩,ws) :: rest=>fgstep C ⟨dst,op,gd⟩ e h (fun r h'=>fwats C ws e h' (fput e dst r fun e=>fregs C rest Q e h'))
theorem fwats_ok {C:CallP} (hC:C.Mono) {e:Env} {h:List AB} {p q:Prop} (hpq:p → q):∀ {ws:List AO},fwats C ws e h p → wats C ws e h q
 | [],H=>hpq H
 | o :: ws,H=>by
  simp only [fwats] at H
  refine ⟨?_,?_⟩
  ·unfold watp
   cases hd:o.dst with
   | some d=>rw [hd] at H;exact gstep_mono hC (fun _ _ h=>h.h) (fgstep_ok H.a)
   | none=>trivial
  ·cases hd:o.dst with
   | some d=>rw [hd] at H;exact fwats_ok hC hpq H.b
   | none=>rw [hd] at H;exact fwats_ok hC hpq H
theorem fregs_ok {C:CallP} (hC:C.Mono) {Q Q':Env → List AB → Prop} (hQ:∀ e h,Q e h → Q' e h):∀ (l:List (AO × List AO)) {e:Env} {h:List AB},fregs C l Q e h → aregs C l Q' e h
 | [],_,_,H=>hQ _ _ H
 | (⟨_,_,_⟩,_) :: rest,_,_,H=>gstep_mono hC (fun _ _ hh=>fwats_ok hC (fun h=>fregs_ok hC hQ rest (fput_e h)) hh) (fgstep_ok H)

def ftree (C:CallP) (l:List AO) (W:Nat → List Nat):HT → (Env → List AB → Prop) → Env → List AB → Prop
 | .leaf,Q,e,h=>Q e h
 | .alt c qs sub .leaf,Q,e,h=>fregs C (opsI l W (c :: qs)) (ftree C l W sub Q) e h
 | .alt c qs sub (.alt c2 qs2 sub2 next2),Q,e,h=>FAlt (fregs C (opsI l W (c :: qs)) (ftree C l W sub Q) e h) (ftree C l W (.alt c2 qs2 sub2 next2) Q e h)
def fregT (C:CallP) (l:List AO) (T:THint) (Q:Env → List AB → Prop) (e:Env) (h:List AB):Prop:=fregs C (opsI l (watchOf T.w) T.qs) (ftree C l (watchOf T.w) T.t Q) e h
theorem ftree_ok {C:CallP} (hC:C.Mono) {l:List AO} {W:Nat → List Nat} {Q Q':Env → List AB → Prop} (hQ:∀ e h,Q e h → Q' e h):∀ (t:HT) {e:Env} {h:List AB},ftree C l W t Q e h → atree C l W t Q' e h
 | .leaf,_,_,H=>hQ _ _ H
 | .alt c qs sub .leaf,_,_,H=>fregs_ok hC (fun _ _ hh=>ftree_ok hC hQ sub hh) _ H
 | .alt c qs sub (.alt c2 qs2 sub2 next2),_,_,H=>⟨fregs_ok hC (fun _ _ hh=>ftree_ok hC hQ sub hh) _ H.a,ftree_ok hC hQ (.alt c2 qs2 sub2 next2) H.b⟩
/-- A loop: it is shown by a relation and a measure. -/
structure FLoop (C:CallP) (N:Nat) (c:ACo) (Q:AEx → Env → List AB → Prop) (e:Env) (h:List AB):Prop where
 h:awp C N (.loop c) Q e h
/-- A place at which a state may be weakened. -/
structure FWk (N:Nat) (id:Nat) (K:Env → List AB → Prop) (e:Env) (h:List AB):Prop where
 ex:∃ e2 h2,Wk N e h e2 h2 ∧ K e2 h2
/-- A loop over a function: shown by what it yields, and a relation. -/
structure FRange (C:CallP) (N:Nat) (it:AX) (ps:List Nat) (a b:ACo) (Q:AEx → Env → List AB → Prop) (e:Env) (h:List AB):Prop where
 h:awp C N (.rf it ps a b) Q e h
def fawp (C:CallP) (N:Nat):ACo → (AEx → Env → List AB → Prop) → Env → List AB → Prop
 | .skip,Q,e,h=>Q .normal e h
 | .reg _ l,Q,e,h=>fregs C l (Q .normal) e h
 | .regT l T,Q,e,h=>fregT C l T (Q .normal) e h
 | .wk id,Q,e,h=>FWk N id (Q .normal) e h
 | .seq a b,Q,e,h=>fawp C N a (AEx.then (fawp C N b Q) Q) e h
 | .cond c a b,Q,e,h=>match c.ev e with
  | .bool q=>FCond q (fawp C N a Q e h) (fawp C N b Q e h)
  | _=>False
 | .block id c,Q,e,h=>fawp C N c (AEx.inBlock id Q) e h
 | .loop c,Q,e,h=>FLoop C N c Q e h
 | .exit id,Q,e,h=>Q (.exit id) e h
 | .ret,Q,e,h=>Q .ret e h
 | .rf it ps a b,Q,e,h=>FRange C N it ps a b Q e h
 | .no,_,_,_=>False
theorem wats_mono {C:CallP} {e:Env} {h:List AB} {p q:Prop} (hpq:p → q):∀ {ws:List AO},wats C ws e h p → wats C ws e h q
 | [],hw=>hpq hw
 | _ :: _,hw=>⟨hw.1,wats_mono hpq hw.2⟩
theorem aregs_mono {C:CallP} (hC:C.Mono) {Q Q':Env → List AB → Prop} (hQ:∀ e h,Q e h → Q' e h):∀ (l:List (AO × List AO)) {e:Env} {h:List AB},aregs C l Q e h → aregs C l Q' e h
 | [],_,_,H=>hQ _ _ H
 | _ :: rest,_,_,H=>gstep_mono hC (fun _ _ hh=>wats_mono (aregs_mono hC hQ rest) hh) H
theorem atree_mono {C:CallP} (hC:C.Mono) {l:List AO} {W:Nat → List Nat} {Q Q':Env → List AB → Prop} (hQ:∀ e h,Q e h → Q' e h):∀ (t:HT) {e:Env} {h:List AB},atree C l W t Q e h → atree C l W t Q' e h
 | .leaf,_,_,H=>hQ _ _ H
 | .alt c qs sub .leaf,_,_,H=>aregs_mono hC (fun _ _ hh=>atree_mono hC hQ sub hh) _ H
 | .alt c qs sub (.alt c2 qs2 sub2 next2),_,_,H=>⟨aregs_mono hC (fun _ _ hh=>atree_mono hC hQ sub hh) _ H.1,atree_mono hC hQ (.alt c2 qs2 sub2 next2) H.2⟩
theorem rfA_mono {K K':Env → List AB → Prop} (hk:∀ e h,K e h → K' e h):∀ x e h,rfA K x e h → rfA K' x e h:=fun x e h H=>by
 cases x with
 | normal=>exact hk _ _ H
 | exit id=>exact H
 | ret=>exact H
theorem rfB_mono {N:Nat} {e1:Env} {K:Env → List AB → Prop} {Q Q':AEx → Env → List AB → Prop} (hq:∀ x e h,Q x e h → Q' x e h):∀ x e h,rfB N e1 K Q x e h → rfB N e1 K Q' x e h:=fun x e h H=>by
 cases x with
 | normal=>exact H
 | exit id=>exact hq _ _ _ H
 | ret=>exact hq _ _ _ H
theorem awp_mono {C:CallP} (hC:C.Mono):∀ (c:ACo) {N:Nat} {Q Q':AEx → Env → List AB → Prop} {e:Env} {h:List AB},(∀ x e h,Q x e h → Q' x e h) → awp C N c Q e h → awp C N c Q' e h:=by
 intro c
 induction c with
 | rf it ps a b ia ib =>
  rintro N Q Q' e h hQ ⟨e0,h0,mv,gf,m,c,L,I,h1,h2,h3,h4,h5,h6,h7,h8⟩
  exact ⟨e0,h0,mv,gf,m,c,L,I,h1,h2,h3,h4,h5,h6,fun k e1 hh hk hi=>ia (rfA_mono fun _ _ H=>ib (rfB_mono hQ) H) (h7 k e1 hh hk hi),fun e1 hh hi=>hQ _ _ _ (h8 e1 hh hi)⟩
 | skip=>intro N Q Q' e h hQ H;exact hQ _ _ _ H
 | reg _ l=>intro N Q Q' e h hQ H;exact aregs_mono hC (hQ .normal) l H
 | regT l T=>intro N Q Q' e h hQ H;exact aregs_mono hC (fun e h hh=>atree_mono hC (hQ .normal) T.t hh) _ H
 | wk _=>intro N Q Q' e h hQ ⟨e2,h2,hw,hq⟩;exact ⟨e2,h2,hw,hQ _ _ _ hq⟩
 | seq a b ia ib =>
  intro N Q Q' e h hQ H
  refine ia (fun x e h hh=>?_) H
  cases x with
  | normal=>exact ib hQ hh
  | exit id=>exact hQ _ _ _ hh
  | ret=>exact hQ _ _ _ hh
 | cond x a b ia ib =>
  intro N Q Q' e h hQ H
  simp only [awp] at H ⊢
  generalize x.ev e = v at H ⊢
  cases v <;> simp only at H ⊢
  rcases acond_e H with ⟨rfl,h1⟩|⟨rfl,h1⟩
  ·exact ia hQ h1
  ·exact ib hQ h1
 | block id c ic =>
  intro N Q Q' e h hQ H
  refine ic (fun x e h hh=>?_) H
  cases x with
  | normal=>exact hQ _ _ _ hh
  | exit id' =>
   simp only [AEx.inBlock] at hh ⊢
   split
   ·rename_i he;rw [if_pos he] at hh;exact hQ _ _ _ hh
   ·rename_i he;rw [if_neg he] at hh;exact hQ _ _ _ hh
  | ret=>exact hQ _ _ _ hh
 | loop c ic =>
  intro N Q Q' e h hQ H
  obtain ⟨I,μ,h0,hr⟩:=H
  refine ⟨I,μ,h0,fun e h hi=>ic (fun x e h hh=>?_) (hr e h hi)⟩
  cases x with
  | normal=>exact hh
  | exit id=>exact hQ _ _ _ hh
  | ret=>exact hQ _ _ _ hh
 | exit id=>intro N Q Q' e h hQ H;exact hQ _ _ _ H
 | ret=>intro N Q Q' e h hQ H;exact hQ _ _ _ H
 | no=>intro N Q Q' e h _ H;exact H
theorem fawp_ok {C:CallP} (hC:C.Mono) {N:Nat}:∀ (c:ACo) {Q:AEx → Env → List AB → Prop} {e:Env} {h:List AB},fawp C N c Q e h → awp C N c Q e h:=by
 intro c
 induction c with
 | skip=>intro Q e h H;exact H
 | reg _ l=>intro Q e h H;exact fregs_ok hC (fun _ _ h=>h) l H
 | regT l T=>intro Q e h H;exact fregs_ok hC (fun _ _ hh=>ftree_ok hC (fun _ _ h=>h) T.t hh) _ H
 | wk _=>intro Q e h H;exact H.ex
 | seq a b ia ib =>
  intro Q e h H
  refine awp_mono hC a (fun x e h hh=>?_) (ia H)
  cases x with
  | normal=>exact ib hh
  | exit id=>exact hh
  | ret=>exact hh
 | cond x a b ia ib =>
  intro Q e h H
  simp only [fawp,awp] at H ⊢
  generalize x.ev e = v at H ⊢
  cases v <;> simp only at H ⊢
  cases H with
  | t h a=>subst h;exact ia a
  | f h a=>subst h;exact ib a
 | block id c ic=>intro Q e h H;exact ic H
 | loop c ic=>intro Q e h H;exact H.h
 | exit id=>intro Q e h H;exact H
 | ret=>intro Q e h H;exact H
 | rf it ps a b=>intro Q e h H;exact H.h
 | no=>intro Q e h H;exact H
def fares : List ARes → Env → List AB → (List AV → Prop) → Prop
 | [],_,_,K=>K []
 | .tmp t :: rs,e,h,K=>frc (e t) fun v=>fares rs e h (fun l=>K (v :: l))
 | .cell t m :: rs,e,h,K=>fop (.ld m (.t t)) (AX.ev e) h (fun v _=>fares rs e h (fun l=>K (v :: l)))
def ffins (K:AV → List AB → Prop) (l:List AV) (h:List AB):Prop:=match l with
 | [v]=>Fin K v h
 | l=>Fin K (.tup l.length (ofL l)) h
theorem ffins_e {K:AV → List AB → Prop} {l:List AV} {h:List AB} (H:ffins K l h):K (tupOf l) h:=by
 match l with
 | [v]=>exact H.h
 | []=>exact H.h
 | _ :: _ :: _=>exact H.h
def ffin (rs:List ARes) (K:AV → List AB → Prop):AEx → Env → List AB → Prop
 | .exit _,_,_=>False
 | _,e,h=>fares rs e h (fun l=>ffins K l h)
theorem fares_ok {e:Env} {h:List AB}:∀ (rs:List ARes) {K K':List AV → Prop},(∀ l,K l → K' l) → fares rs e h K → ares rs e h K'
 | [],_,_,hK,H=>hK _ H
 | .tmp _ :: rs,_,_,hK,H=>fares_ok rs (fun _ h=>hK _ h) (frc_e H)
 | .cell _ _ :: rs,_,_,hK,H=>aop_mono _ (fun _ _ h=>fares_ok rs (fun _ h=>hK _ h) h) (fop_aop _ H rfl)
/-- A function's text, read: what a call of it does. -/
theorem fcall_of {P : Program} (hm : P.follows .mixedOrders = true) {f : FuncId} {fn : Func} {c : Code} (hf : P.funcs[f]? = some fn) (hb : fn.body = some c) (hn : (fn.name == "runtime.NumGoroutine") = false) {hs : Hints} (hk : okCode P fn.ntmps hs c = true) {ac : ACo} (hc : acomp P fn.ntmps hs c = ac) {rs : List ARes} (hrs : compRes P fn.results.toList = some rs)
  {xs:List AV} {h:List AB} {K:AV → List AB → Prop} (hl:xs.length ≤ fn.ntmps)
  (H:fawp (ACalls P) h.length ac (ffin rs (fun r h'=>∃ r2 h2 sel,Cut h.length sel h' h2 ∧ LnK sel h' h2 r r2 ∧ K r2 h2)) (eArgs xs) h):ACall P f xs h K:=by
 refine ACall.wk (acall_of hm hf hb hn hk hc hrs hl (awp_mono (ACalls.mono P) _ (fun x e h' hh=>?_) (fawp_ok (ACalls.mono P) _ H)))
 cases x with
 | normal=>exact fares_ok rs (fun _ h=>ffins_e h) hh
 | ret=>exact fares_ok rs (fun _ h=>ffins_e h) hh
 | exit id=>exact hh
end Go.Proofs.YtodpjdmdmmnlpaaGreat
