/- The operations of code over abstract values: what each asks and gives -/
import Derived.Test.YtodpjdmdmmnlpaaGreatBs1

namespace Go.Proofs.YtodpjdmdmmnlpaaGreat
open Go.RowKit

inductive AX where
 | t (i:Nat)
 | k (v:AV)
 deriving Inhabited
def AX.ev (s:Nat → AV):AX → AV
 | .t i=>s i
 | .k v=>v

/-- Operations on maps and arrays. -/
inductive XOp where
 | mkm (kt:Nat)
 | ins (kt:Nat) (m k v:AX)
 | lkp (kt:Nat) (ok:Bool) (z:AV) (m k:AX)
 | mlen (m:AX)
 | rng (m:AX)
 | ment (kt:Nat) (z:AV) (m k:AX)
 | est (m s v:AX)
 | boxr (n sz:Nat) (z:AV)
 | iaa (n sz:Nat) (x i:AX)
 | idx (n sz:Nat) (m:Option Nat) (x i:AX)
 | ent (x:AX)
 | mmv (f:FuncId) (xs:List AX)
 | cpy (sz:Nat) (x y:AX)
 deriving Inhabited
inductive AOp where
 | mv (x:AX)
 | pick (c a b:AX)
 | nilck (x:AX)
 | box (x:AX)
 | build (zs:List AV) (ps:List (Nat × Nat × AX))
 | bsl (n sz:Nat) (zs:List AV) (ps:List (Nat × AX))
 | bslp (n sz:Nat) (zs:List AV) (ps:List (Nat × AX))
 | ld (m:Option Nat) (x:AX)
 | st (m:Nat) (x y:AX)
 | fa (x:AX) (off:Nat)
 | fld (x:AX) (off:Nat) (m:Option Nat)
 | ia (sz:Nat) (x i:AX)
 | slc (sz:Nat) (x:AX) (lo hi:Option AX)
 | bin (op:BinOp) (x y:AX)
 | binb (neg:Bool) (x y:AX)
 | eqz (tag:Nat) (neg:Bool) (x y:AX)
 | eqa (m:Nat) (neg:Bool) (x y:AX)
 | clr (sz:Nat) (x:AX)
 | un (op:UnOp) (x:AX)
 | conv (k:IntKind) (x:AX)
 | mkf (f:FuncId) (xs:List AX)
 | msl (sz bytes:Nat) (zs:List AV) (x y:AX)
 | len (x:AX)
 | app (sz bytes:Nat) (x y:AX)
 | mx (x y:AX)
 | mn (x y:AX)
 | ext (x:AX) (i:Nat)
 | call (f:FuncId) (xs:List AX)
 | calv (x:AX) (xs:List AX)
 | xt (X:XOp)
 | nxt (x:AX)
 | no
 deriving Inhabited

def ofL (l:List AV):Nat → AV:=fun i=>l.getD i .bot
def und : AV:=.tup 0 (ofL [])
/-- Cells as a table. -/
def tab (m:Nat) (f:Nat → AV):Nat → AV:=ofL ((List.range m).map f)
theorem tab_get {m:Nat} {f:Nat → AV} {i:Nat} (h:i < m):tab m f i = f i:=by simp [tab,ofL,List.getD,List.getElem?_range h]
def acond (q:Bool) (A B:Prop):Prop:=match q with|true=>A|false=>B
theorem acond_i {q:Bool} {A B:Prop} (h1:q = true → A) (h2:q = false → B):acond q A B:=by
 cases q
 ·exact h2 rfl
 ·exact h1 rfl
theorem acond_e {q:Bool} {A B:Prop} (h:acond q A B):(q = true ∧ A) ∨ (q = false ∧ B):=by
 cases q
 ·exact .inr ⟨rfl,h⟩
 ·exact .inl ⟨rfl,h⟩
def updN (c:Nat → AV) (o:Nat) (v:AV):Nat → AV:=fun i=>if i = o then v else c i
def stM (c:Nat → AV) (o:Nat) (cy:Nat → AV):Nat → Nat → AV
 | 0=>c
 | m + 1=>updN (stM c o cy m) (o + m) (cy m)
def updR (c:Nat → Nat → AV) (k o:Nat) (v:AV):Nat → Nat → AV:=fun k' o'=>if k' = k ∧ o' = o then v else c k' o'
def updRm (c:Nat → Nat → AV) (k:Nat) (cy:Nat → AV):Nat → Nat → AV:=fun k' o'=>if k' = k then cy o' else c k' o'
def appc (n:Nat) (c c':Nat → Nat → AV):Nat → Nat → AV:=fun k o=>if k < n then c k o else c' (k - n) o

/-- What a binary operation on integers of one kind gives. -/
def ibin (op:BinOp) (k:IntKind) (x y:Int) (K:AV → Prop):Prop :=
 match op with
 | .add=>K (.int k (k.wrap (x + y)))
 | .sub=>K (.int k (k.wrap (x - y)))
 | .mul=>K (.int k (k.wrap (x * y)))
 | .quo=>y ≠ 0 ∧ K (.int k (k.wrap (x.tdiv y)))
 | .rem=>y ≠ 0 ∧ K (.int k (x.tmod y))
 | .and=>K (.int k (k.wrap (BitVec.ofInt k.bits x &&& BitVec.ofInt k.bits y).toNat))
 | .or=>K (.int k (k.wrap (BitVec.ofInt k.bits x ||| BitVec.ofInt k.bits y).toNat))
 | .xor=>K (.int k (k.wrap (BitVec.ofInt k.bits x ^^^ BitVec.ofInt k.bits y).toNat))
 | .andNot=>K (.int k (k.wrap (BitVec.ofInt k.bits x &&& ~~~ BitVec.ofInt k.bits y).toNat))
 | .eql=>K (.bool (decide (x = y)))
 | .neq=>K (.bool (!decide (x = y)))
 | .lss=>K (.bool (decide (x < y)))
 | .leq=>K (.bool (decide (x ≤ y)))
 | .gtr=>K (.bool (decide (y < x)))
 | .geq=>K (.bool (decide (y ≤ x)))
 | .shl | .shr=>False
def ishift (op:BinOp) (k:IntKind) (x y:Int) (K:AV → Prop):Prop :=
 match op with
 | .shl=>0 ≤ y ∧ K (.int k (k.wrap (x * 2 ^ (min y.toNat k.bits))))
 | .shr=>0 ≤ y ∧ K (.int k (x.fdiv (2 ^ (min y.toNat k.bits))))
 | _=>False
def abin (op:BinOp) (x y:AV) (K:AV → Prop):Prop :=
 match x,y with
 | .int k a,.int k' b =>
  match op with
  | .shl=>ishift .shl k a b K
  | .shr=>ishift .shr k a b K
  | op=>k = k' ∧ ibin op k a b K
 | _,_=>False
/-- Comparison with nil. -/
def aeqz (tag:Nat) (x y:AV) (K:Bool → Prop):Prop :=
 match tag,x,y with
 | 0,.sl true _ _ _ _,.sl z _ _ _ _=>K z
 | 0,.sl z _ _ _ _,.sl true _ _ _ _=>K z
 | 0,.own ..,.sl true _ _ _ _=>K false
 | 1,.nilp,.nilp=>K true
 | 1,.ptr ..,.nilp=>K false
 | 1,.ip ..,.nilp=>K false
 | 2,.nilf,.nilf=>K true
 | 2,.fn ..,.nilf=>K false
 | _,_,_=>False

/-- Comparison of two cells. -/
def eqc (x y:AV) (K:Bool → Prop):Prop :=
 match x,y with
 | .int k a,.int k' b=>k = k' ∧ K (decide (a = b))
 | _,_=>False
theorem eqc_one {x y:AV} {K:Bool → Prop} (H:eqc x y K):∃ q,K q ∧ ∀ K2:Bool → Prop,K2 q → eqc x y K2:=by
 unfold eqc at H ⊢
 split at H
 ·exact ⟨_,H.2,fun K2 h=>⟨H.1,h⟩⟩
 ·exact H.elim
/-- Comparison of two structs, cell by cell: i cells from the one in front of the last m on. -/
def eqcs (n:Nat) (c c':Nat → AV):Nat → (Bool → Prop) → Prop
 | 0,K=>K true
 | m + 1,K=>eqc (c (n - (m + 1))) (c' (n - (m + 1))) fun q=>eqcs n c c' m fun q'=>K (q && q')
theorem eqcs_one {n:Nat} {c c':Nat → AV}:∀ {m:Nat} {K:Bool → Prop},eqcs n c c' m K → ∃ q,K q ∧ ∀ K2:Bool → Prop,K2 q → eqcs n c c' m K2
 | 0,K,H=>⟨true,H,fun K2 h=>h⟩
 | m + 1,K,H=>by
  obtain ⟨q,h1,k1⟩:=eqc_one H
  obtain ⟨q',h2,k2⟩:=eqcs_one h1
  exact ⟨_,h2,fun K2 h=>k1 _ (k2 _ h)⟩
/-- One element of a literal: its cells. -/
def elemC (v:AV):Nat → AV :=
 match v with
 | .agg _ c=>c
 | v=>fun _=>v
def elemOK (sz:Nat) (v:AV):Prop :=
 match v with
 | .agg m _=>m = sz
 | v=>v.one = true ∧ sz = 1
def bslC : (Nat → Nat → AV) → List (Nat × AV) → Nat → Nat → AV
 | c,[]=>c
 | c,(i,v) :: es=>bslC (updRm c i (elemC v)) es
def buildC : (Nat → AV) → List (Nat × Nat × AV) → Nat → AV
 | c,[]=>c
 | c,(off,sz,v) :: ps=>buildC (stM c off (elemC v) sz) ps

/-- A slice of the call's own that is laid into a row: from then on it is only read. -/
def apub (h:List AB) (v:AV) (K:AV → List AB → Prop):Prop :=
 match v with
 | .own d n=>(match h[d]? with
  | some (.row N sz c)=>n ≤ N ∧ K (.sl false false n sz c) (h.set d .dead)
  | _=>False)
 | .ptr d o=>(match h[d]? with
  | some (.box m c)=>(∀ i,i < m → (c i).pure) ∧ K (.ip m c o) (h.set d .dead)
  | _=>False)
 | v=>v.pure ∧ K v h
def apubs (e:AX → AV) (ps:List (Nat × AX)) (h:List AB) (K:List (Nat × AV) → List AB → Prop):Prop :=
 match ps with
 | []=>K [] h
 | (i,x) :: ps=>apub h (e x) (fun v h'=>apubs e ps h' (fun l h''=>K ((i,v) :: l) h''))
theorem apub_one {h:List AB} {v:AV} {K:AV → List AB → Prop} (H:apub h v K):∃ r h',K r h' ∧ ∀ K2:AV → List AB → Prop,K2 r h' → apub h v K2:=by
 cases v
 case own d n =>
  simp only [apub] at H ⊢
  split at H
  ·rename_i hd
   exact ⟨_,_,H.2,fun K2 hk=>⟨H.1,hk⟩⟩
  ·exact H.elim
 case ptr d o =>
  simp only [apub] at H ⊢
  split at H
  ·rename_i hd
   exact ⟨_,_,H.2,fun K2 hk=>⟨H.1,hk⟩⟩
  ·exact H.elim
 all_goals exact ⟨_,_,H.2,fun K2 hk=>⟨H.1,hk⟩⟩
theorem apubs_one {e:AX → AV}:∀ {ps:List (Nat × AX)} {h:List AB} {K:List (Nat × AV) → List AB → Prop},apubs e ps h K → ∃ l h',K l h' ∧ ∀ K2:List (Nat × AV) → List AB → Prop,K2 l h' → apubs e ps h K2
 | [],h,K,H=>⟨[],h,H,fun _ hk=>hk⟩
 | (i,x) :: ps,h,K,H=>by
  obtain ⟨v,h1,H1,k1⟩:=apub_one H
  obtain ⟨l,h2,H2,k2⟩:=apubs_one H1
  exact ⟨(i,v) :: l,h2,H2,fun K2 hk=>k1 _ (k2 _ hk)⟩
/-- A row that is read: what append takes from. -/
def asrc (sz:Nat) (h:List AB) (y:AV) (K:Bool → Nat → (Nat → Nat → AV) → Prop):Prop :=
 match y with
 | .sl _ _ m sz' c'=>(sz' = sz ∨ m = 0) ∧ K false m c'
 | .own d m=>(match h[d]? with
  | some (.row N sz' c')=>sz' = sz ∧ m ≤ N ∧ K false m c'
  | some (.rwg N sz' c')=>sz' = sz ∧ m ≤ N ∧ K true m c'
  | _=>False)
 | .osl d sz0 lo m=>(match h[d]? with
  | some (.row N sz' c')=>sz' = sz ∧ sz0 = sz ∧ lo + m ≤ N ∧ K false m (fun k=>c' (lo + k))
  | _=>False)
 | _=>False
/-- A row; q: its cells may lead to the call's own blocks. -/
def AB.rw (q:Bool) (n sz:Nat) (c:Nat → Nat → AV):AB:=match q with
 | false=>.row n sz c
 | true=>.rwg n sz c
def gq (q:Bool) (g:GM):GM:=match q with
 | false=>g0
 | true=>g
theorem gq_le (q:Bool) (g:GM):(gq q g).le g:=by
 cases q
 ·exact g0_le g
 ·exact GM.le_refl g
theorem gq_or {a:Bool} (b:Bool) (g:GM):(gq a g).le (gq (a || b) g):=by
 cases a
 ·exact g0_le _
 ·exact GM.le_refl g
theorem gq_mono (q:Bool) {g g':GM} (h:g.le g'):(gq q g).le (gq q g'):=by
 cases q
 ·exact GM.le_refl _
 ·exact h
theorem rw_live (q:Bool) (n sz:Nat) (c:Nat → Nat → AV):(AB.rw q n sz c).live:=by cases q <;> trivial
def Src (q:Bool) (sz:Nat) (h:List AB) (y:AV) (m:Nat) (c':Nat → Nat → AV):Prop :=
 (∃ z e sz',q = false ∧ y = .sl z e m sz' c' ∧ (sz' = sz ∨ m = 0)) ∨ (∃ d N,y = .own d m ∧ h[d]? = some (.rw q N sz c') ∧ m ≤ N) ∨
  (∃ d lo N c0,q = false ∧ y = .osl d sz lo m ∧ h[d]? = some (.row N sz c0) ∧ lo + m ≤ N ∧ c' = fun k=>c0 (lo + k))
theorem asrc_e {sz:Nat} {h:List AB} {y:AV} {K:Bool → Nat → (Nat → Nat → AV) → Prop} (H:asrc sz h y K):∃ q m c',Src q sz h y m c' ∧ K q m c':=by
 unfold asrc at H
 split at H
 ·exact ⟨_,_,_,.inl ⟨_,_,_,rfl,rfl,H.1⟩,H.2⟩
 ·split at H
  ·rename_i hd
   obtain ⟨rfl,h1,h2⟩:=H
   exact ⟨false,_,_,.inr (.inl ⟨_,_,rfl,hd,h1⟩),h2⟩
  ·rename_i hd
   obtain ⟨rfl,h1,h2⟩:=H
   exact ⟨true,_,_,.inr (.inl ⟨_,_,rfl,hd,h1⟩),h2⟩
  ·exact H.elim
 ·split at H
  ·rename_i hd
   obtain ⟨rfl,rfl,h1,h2⟩:=H
   exact ⟨false,_,_,.inr (.inr ⟨_,_,_,_,rfl,rfl,hd,h1,rfl⟩),h2⟩
  ·exact H.elim
 ·exact H.elim
theorem asrc_i {q:Bool} {sz:Nat} {h:List AB} {y:AV} {K:Bool → Nat → (Nat → Nat → AV) → Prop} {m:Nat} {c':Nat → Nat → AV} (hs:Src q sz h y m c') (H:K q m c'):asrc sz h y K:=by
 rcases hs with ⟨z,e,sz',rfl,rfl,h1⟩|⟨d,N,rfl,h1,h2⟩|⟨d,lo,N,c0,rfl,rfl,h1,h2,rfl⟩
 ·exact ⟨h1,H⟩
 ·unfold asrc
  simp only
  cases q <;> simp only [AB.rw] at h1 <;> rw [h1] <;> exact ⟨rfl,h2,H⟩
 ·unfold asrc
  simp only
  rw [h1];exact ⟨rfl,trivial,h2,H⟩
def alook (L:List (List Int × AV)) (k:List Int):Option AV:=(L.find? (fun p=>p.1 == k)).map (·.2)
def aput : List (List Int × AV) → List Int → AV → List (List Int × AV)
 | [],k,v=>[(k,v)]
 | p :: L,k,v=>if p.1 = k then (k,v) :: L else p :: aput L k v
def aidx (L:List (List Int × AV)) (k:List Int):Option Nat:=L.findIdx? (fun p=>p.1 == k)
def acell (c:Nat → AV):Nat → (List Int → Prop) → Prop
 | 0,K=>K []
 | m + 1,K=>acell c m fun l=>match c m with
  | .int .i64 a=>K (l ++ [a])
  | _=>False
def akey (kt:Nat) (v:AV) (K:List Int → Prop):Prop :=
 match kt,v with
 | 0,.int .i64 a=>in64 a ∧ K [a]
 | n + 1,.agg m c=>m = n + 1 ∧ acell c m fun l=>(∀ a ∈ l,in64 a) ∧ K l
 | _,_=>False
theorem acell_one {c:Nat → AV}:∀ {m:Nat} {K:List Int → Prop},acell c m K → ∃ l,K l ∧ l.length = m ∧ (∀ i,i < m → c i = .int .i64 (l.getD i 0)) ∧ ∀ K2:List Int → Prop,K2 l → acell c m K2
 | 0,K,H=>⟨[],H,rfl,fun i hi=>by omega,fun K2 h=>h⟩
 | m + 1,K,H=>by
  obtain ⟨l,h1,h2,h3,h4⟩:=acell_one (m:=m) H
  split at h1
  ·rename_i a ha
   refine ⟨_,h1,by simp [h2],fun i hi=>?_,fun K2 hk=>h4 _ (by simp only [ha];exact hk)⟩
   by_cases e:i = m
   ·subst e;rw [ha,← h2];simp
   ·rw [h3 i (by omega)];simp [List.getD,List.getElem?_append_left (show i < l.length by omega)]
  ·exact h1.elim
theorem akey_one {kt:Nat} {v:AV} {K:List Int → Prop} (H:akey kt v K):∃ l,K l ∧ KeyOK kt l ∧ (∀ (M:Nat → Prop) (w:World) (g:GM) (u:Value),rep M w v g u → u = keyV kt l) ∧ ∀ K2:List Int → Prop,K2 l → akey kt v K2:=by
 unfold akey at H ⊢
 split at H
 ·exact ⟨_,H.2,⟨rfl,fun a ha=>by rw [List.mem_singleton.1 ha];exact H.1⟩,fun M w g u hr=>hr,fun K2 h=>⟨H.1,h⟩⟩
 ·rename_i n m c
  obtain ⟨hmn,H⟩:=H
  obtain ⟨l,⟨h0,h1⟩,h2,h3,h4⟩:=acell_one H
  refine ⟨l,h1,⟨by omega,h0⟩,fun M w g u hr=>?_,fun K2 hk=>⟨hmn,h4 _ ⟨h0,hk⟩⟩⟩
  obtain ⟨cs,rfl,hm,hc⟩:=hr
  unfold keyV
  congr 1
  apply Array.ext
  ·simp [hm,h2]
  ·intro i hi1 hi2
   obtain ⟨u,e1,_,e3⟩:=hc i (by omega)
   rw [h3 i (by omega)] at e3
   have e3':u = .int .i64 (l.getD i 0):=e3
   rw [Array.getElem?_eq_getElem hi1] at e1
   injection e1 with e1
   rw [e1,e3']
   simp [List.getD,List.getElem?_eq_getElem (show i < l.length by omega)]
 ·exact H.elim
def lkres (ok:Bool) (z:AV) (o:Option AV):AV:=match ok,o with
 | true,some v=>.tup 2 (ofL [v,.bool true])
 | true,none=>.tup 2 (ofL [z,.bool false])
 | false,some v=>v
 | false,none=>z
def keyA (kt:Nat) (l:List Int):AV:=match kt with
 | 0=>.int .i64 (l.getD 0 0)
 | n + 1=>.agg (n + 1) (ofL (l.map (AV.int .i64)))
/-- The next entry of a map, whichever it is. -/
def anext (it:AV) (h:List AB) (K:AV → List AB → Prop):Prop :=
 match it with
 | .ptr d 0=>(match h[d]? with
  | some (.mit (.mpv d2) n seen)=>(match h[d2]? with
   | some (.mp kt L)=>L.length = n ∧ (seen.length = n → K (.tup 1 (ofL [.bool false])) h) ∧ ∀ i,i < n → i ∉ seen → K (.tup 3 (ofL [.bool true,keyA kt (L.getD i default).1,(L.getD i default).2])) (h.set d (.mit (.mpv d2) n (seen ++ [i])))
   | _=>False)
  | _=>False)
 | _=>False
theorem anext_mono {it:AV} {h:List AB} {K K':AV → List AB → Prop} (hk:∀ r h',K r h' → K' r h') (H:anext it h K):anext it h K':=by
 unfold anext at H ⊢
 split at H
 ·split at H
  ·split at H
   ·exact ⟨H.1,fun h=>hk _ _ (H.2.1 h),fun i hi hn=>hk _ _ (H.2.2 i hi hn)⟩
   ·exact H.elim
  ·exact H.elim
 ·exact H.elim
/-- Elements written over elements. -/
def cpc (lo k:Nat) (c c':Nat → Nat → AV):Nat → Nat → AV:=fun i o=>if lo ≤ i ∧ i < lo + k then c' (i - lo) o else c i o
/-- Where a copy goes. -/
def adst (sz:Nat) (x:AV) (K:Nat → Nat → Nat → Prop):Prop :=
 match x with
 | .own d n=>K d 0 n
 | .osl d sz' lo n=>sz' = sz ∧ K d lo n
 | _=>False
def xop (X:XOp) (e:AX → AV) (h:List AB) (K:AV → List AB → Prop):Prop :=
 match X with
 | .mkm kt=>K (.mpv h.length) (h ++ [.mp kt []])
 | .ins kt m k v=>match e m with
  | .mpv d=>(match h[d]? with
   | some (.mp kt' L)=>kt' = kt ∧ (e v).pure ∧ akey kt (e k) fun l=>K und (h.set d (.mp kt (aput L l (e v))))
   | _=>False)
  | _=>False
 | .lkp kt ok z m k=>match e m with
  | .mpv d=>(match h[d]? with
   | some (.mp kt' L)=>kt' = kt ∧ akey kt (e k) fun l=>K (lkres ok z (alook L l)) h
   | _=>False)
  | _=>False
 | .mlen m=>match e m with
  | .mpv d=>(match h[d]? with
   | some (.mp _ L)=>K (.int .i64 L.length) h
   | _=>False)
  | _=>False
 | .rng m=>match e m with
  | .mpv d=>(match h[d]? with
   | some (.mp _ L)=>K (.ptr h.length 0) (h ++ [.mit (.mpv d) L.length []])
   | _=>False)
  | _=>False
 | .ment kt z m k=>match e m with
  | .mpv d=>(match h[d]? with
   | some (.mp kt' L)=>kt' = kt ∧ z.pure ∧ akey kt (e k) fun l=>match aidx L l with
    | some i=>K (.tup 2 (ofL [(L.getD i default).2,.int .i64 i])) h
    | none=>K (.tup 2 (ofL [z,.int .i64 L.length])) (h.set d (.mp kt (L ++ [(l,z)])))
   | _=>False)
  | _=>False
 | .est m s v=>match e m,e s with
  | .mpv d,.int .i64 i=>(match h[d]? with
   | some (.mp kt L)=>0 ≤ i ∧ i < L.length ∧ (e v).pure ∧ K und (h.set d (.mp kt (L.set i.toNat ((L.getD i.toNat default).1,e v))))
   | _=>False)
  | _,_=>False
 | .boxr n sz z=>K (.rp h.length sz 0 0) (h ++ [.row n sz (fun _ _=>z)])
 | .mmv f xs=>(∀ x ∈ xs,(e x).pure) ∧ K (.mv f xs.length (ofL (xs.map e))) h
 | .cpy sz x y=>0 < sz ∧ adst sz (e x) fun d lo n=>asrc sz h (e y) fun q m c'=>match h[d]? with
  | some (.row N sz2 c)=>q = false ∧ sz2 = sz ∧ lo + n ≤ N ∧ K (.int .i64 (min m n:Nat)) (h.set d (.row N sz (cpc lo (min m n) c c')))
  | _=>False
 | .iaa n sz x i=>match e i,e x with
  | .int _ j,.rp d sz' k o=>sz' = sz ∧ k = 0 ∧ o = 0 ∧ 0 ≤ j ∧ j < n ∧ K (.rp d sz j.toNat 0) h
  | .int _ j,.ptr d o=>0 ≤ j ∧ j < n ∧ K (.ptr d (o + j.toNat * sz)) h
  | .int _ j,.ip m c o=>0 ≤ j ∧ j < n ∧ K (.ip m c (o + j.toNat * sz)) h
  | _,_=>False
 | .idx n sz m x i=>match e i,e x with
  | .int _ j,.agg N c=>0 ≤ j ∧ j < n ∧ n * sz ≤ N ∧ 0 < sz ∧ (match m with
   | none=>K (c (j.toNat * sz)) h
   | some m'=>m' = sz ∧ K (.agg m' (tab m' fun i=>c (j.toNat * sz + i))) h)
  | _,_=>False
 | .ent x=>match e x with
  | .ptr d 0=>(match h[d]? with
   | some (.mit (.mpv d2) n seen)=>(match h[d2]?,seen.getLast? with
    | some (.mp kt L),some i=>L.length = n ∧ K (.tup 2 (ofL [keyA kt (L.getD i default).1,(L.getD i default).2])) h
    | _,_=>False)
   | _=>False)
  | _=>False
def XOp.xs : XOp → List AX
 | .mkm _ | .boxr ..=>[]
 | .mmv _ xs=>xs
 | .cpy _ x y=>[x,y]
 | .ins _ m k v=>[m,k,v]
 | .lkp _ _ _ m k=>[m,k]
 | .mlen m | .rng m | .ent m=>[m]
 | .ment _ _ m k=>[m,k]
 | .est m s v=>[m,s,v]
 | .iaa _ _ x i | .idx _ _ _ x i=>[x,i]
def XOp.chg : XOp → Bool
 | .lkp .. | .mlen _ | .iaa .. | .idx .. | .ent _ | .mmv ..=>false
 | _=>true
def XOp.rds : XOp → Bool
 | .iaa .. | .idx .. | .mmv ..=>false
 | _=>true
theorem xop_one {X:XOp} {e:AX → AV} {h:List AB} {K:AV → List AB → Prop} (H:xop X e h K):∃ r h',K r h' ∧ (X.chg = false → h' = h) ∧ (∀ K2:AV → List AB → Prop,K2 r h' → xop X e h K2) ∧ (X.rds = false → ∀ h2 (K2:AV → List AB → Prop),K2 r h2 → xop X e h2 K2):=by
 cases X <;> simp only [xop,XOp.chg,XOp.rds,Bool.true_eq_false,false_implies,true_implies,and_true,true_and] at H ⊢
 case mkm kt=>exact ⟨_,_,H,fun K2 h=>h⟩
 case boxr=>exact ⟨_,_,H,fun K2 h=>h⟩
 case mmv=>exact ⟨_,_,H.2,rfl,fun K2 hk=>⟨H.1,hk⟩,fun h2 K2 hk=>⟨H.1,hk⟩⟩
 case cpy sz x y =>
  obtain ⟨h0,H⟩:=H
  have key:∀ d lo n,(asrc sz h (e y) fun q m c'=>match h[d]? with
    | some (AB.row N sz2 c)=>q = false ∧ sz2 = sz ∧ lo + n ≤ N ∧ K (.int .i64 (min m n:Nat)) (h.set d (.row N sz (cpc lo (min m n) c c')))
    | _=>False) → ∃ r h',K r h' ∧ ∀ K2:AV → List AB → Prop,K2 r h' → asrc sz h (e y) fun q m c'=>match h[d]? with
    | some (AB.row N sz2 c)=>q = false ∧ sz2 = sz ∧ lo + n ≤ N ∧ K2 (.int .i64 (min m n:Nat)) (h.set d (.row N sz (cpc lo (min m n) c c')))
    | _=>False:=fun d lo n H=>by
   obtain ⟨q,m,c',hs,H⟩:=asrc_e H
   split at H
   ·obtain ⟨a,a',b,H⟩:=H
    exact ⟨_,_,H,fun K2 hk=>asrc_i hs ⟨a,a',b,hk⟩⟩
   ·exact H.elim
  unfold adst at H ⊢
  split at H
  ·obtain ⟨r,h',k1,k2⟩:=key _ _ _ H
   exact ⟨r,h',k1,fun K2 hk=>⟨h0,k2 K2 hk⟩⟩
  ·obtain ⟨r,h',k1,k2⟩:=key _ _ _ H.2
   exact ⟨r,h',k1,fun K2 hk=>⟨h0,H.1,k2 K2 hk⟩⟩
  ·exact H.elim
 case ins kt m k v =>
  split at H
  ·rename_i d hm
   split at H
   ·rename_i kt' L hd
    obtain ⟨h1,h2,H⟩:=H
    obtain ⟨l,k1,_,_,k2⟩:=akey_one H
    exact ⟨_,_,k1,fun K2 hk=>by exact ⟨h1,h2,k2 _ hk⟩⟩
   ·exact H.elim
  ·exact H.elim
 case lkp kt ok z m k =>
  split at H
  ·rename_i d hm
   split at H
   ·rename_i kt' L hd
    obtain ⟨h1,H⟩:=H
    obtain ⟨l,k1,_,_,k2⟩:=akey_one H
    exact ⟨_,_,k1,rfl,fun K2 hk=>by exact ⟨h1,k2 _ hk⟩⟩
   ·exact H.elim
  ·exact H.elim
 case mlen m =>
  split at H
  ·rename_i d hm
   split at H
   ·rename_i kt' L hd
    exact ⟨_,_,H,rfl,fun K2 hk=>by exact hk⟩
   ·exact H.elim
  ·exact H.elim
 case ent x =>
  split at H
  ·split at H
   ·split at H
    ·obtain ⟨h1,H⟩:=H
     exact ⟨_,_,H,rfl,fun K2 hk=>⟨h1,hk⟩⟩
    ·exact H.elim
   ·exact H.elim
  ·exact H.elim
 case rng m =>
  split at H
  ·rename_i d hm
   split at H
   ·rename_i kt' L hd
    exact ⟨_,_,H,fun K2 hk=>by exact hk⟩
   ·exact H.elim
  ·exact H.elim
 case ment kt z m k =>
  split at H
  ·rename_i d hm
   split at H
   ·rename_i kt' L hd
    obtain ⟨h1,h2,H⟩:=H
    obtain ⟨l,k1,_,_,k2⟩:=akey_one H
    cases hi:aidx L l with
    | some i =>
     simp only [hi] at k1
     exact ⟨_,_,k1,fun K2 hk=>by exact ⟨h1,h2,k2 _ (by simp only [hi];exact hk)⟩⟩
    | none =>
     simp only [hi] at k1
     exact ⟨_,_,k1,fun K2 hk=>by exact ⟨h1,h2,k2 _ (by simp only [hi];exact hk)⟩⟩
   ·exact H.elim
  ·exact H.elim
 case est m s v =>
  split at H
  ·rename_i d i hm hs
   split at H
   ·rename_i kt' L hd
    obtain ⟨h1,h2,h3,H⟩:=H
    exact ⟨_,_,H,fun K2 hk=>by exact ⟨h1,h2,h3,hk⟩⟩
   ·exact H.elim
  ·exact H.elim
 case iaa n sz x i =>
  split at H
  ·rename_i k j d sz' kk o hi hx
   obtain ⟨a,b,c,d',e',H⟩:=H
   exact ⟨_,_,H,rfl,fun K2 hk=>by exact ⟨a,b,c,d',e',hk⟩,fun h2 K2 hk=>by exact ⟨a,b,c,d',e',hk⟩⟩
  ·rename_i k j d o hi hx
   obtain ⟨a,b,H⟩:=H
   exact ⟨_,_,H,rfl,fun K2 hk=>by exact ⟨a,b,hk⟩,fun h2 K2 hk=>by exact ⟨a,b,hk⟩⟩
  ·rename_i k j m c o hi hx
   obtain ⟨a,b,H⟩:=H
   exact ⟨_,_,H,rfl,fun K2 hk=>by exact ⟨a,b,hk⟩,fun h2 K2 hk=>by exact ⟨a,b,hk⟩⟩
  ·exact H.elim
 case idx n sz m x i =>
  split at H
  ·rename_i k j N c hi hx
   obtain ⟨a,b,c',d',H⟩:=H
   cases m with
   | none=>exact ⟨_,_,H,rfl,fun K2 hk=>by exact ⟨a,b,c',d',hk⟩,fun h2 K2 hk=>by exact ⟨a,b,c',d',hk⟩⟩
   | some m'=>exact ⟨_,_,H.2,rfl,fun K2 hk=>by exact ⟨a,b,c',d',H.1,hk⟩,fun h2 K2 hk=>by exact ⟨a,b,c',d',H.1,hk⟩⟩
  ·exact H.elim
theorem xop_env {X:XOp} {e e':AX → AV} {h:List AB} {K:AV → List AB → Prop} (hx:∀ x ∈ X.xs,e x = e' x) (H:xop X e h K):xop X e' h K:=by
 cases X <;> simp only [XOp.xs,List.mem_cons,List.not_mem_nil,or_false,forall_eq,forall_eq_or_imp] at hx <;> simp only [xop] at H ⊢
 case mkm=>exact H
 case boxr=>exact H
 case mmv f xs =>
  have hm:xs.map e = xs.map e':=List.map_congr_left hx
  rw [← hm];exact ⟨fun x hx'=>by rw [← hx x hx'];exact H.1 x hx',H.2⟩
 case cpy=>obtain ⟨h1,h2⟩:=hx;rw [← h1,← h2];exact H
 case ins=>obtain ⟨h1,h2,h3⟩:=hx;rw [← h1,← h2,← h3];exact H
 case lkp=>obtain ⟨h1,h2⟩:=hx;rw [← h1,← h2];exact H
 case mlen=>rw [← hx];exact H
 case rng=>rw [← hx];exact H
 case ent=>rw [← hx];exact H
 case ment=>obtain ⟨h1,h2⟩:=hx;rw [← h1,← h2];exact H
 case est=>obtain ⟨h1,h2,h3⟩:=hx;rw [← h1,← h2,← h3];exact H
 case iaa=>obtain ⟨h1,h2⟩:=hx;rw [← h1,← h2];exact H
 case idx=>obtain ⟨h1,h2⟩:=hx;rw [← h1,← h2];exact H
/-- One operation but a call: K is what must hold of its value and of the call's own blocks. -/
def aop (o:AOp) (e:AX → AV) (h:List AB) (K:AV → List AB → Prop):Prop :=
 match o with
 | .mv x=>K (e x) h
 | .pick c a b=>match e c with
  | .bool q=>acond q (K (e a) h) (K (e b) h)
  | _=>False
 | .nilck x=>match e x with
  | .ptr d o=>K (.ptr d o) h
  | .ip m c o=>K (.ip m c o) h
  | .rp d sz k o=>K (.rp d sz k o) h
  | .fn f m c=>K (.fn f m c) h
  | _=>False
 | .box x=>match e x with
  | .agg m c=>K (.ptr h.length 0) (h ++ [.box m c])
  | .bot=>False
  | .tup ..=>False
  | v=>K (.ptr h.length 0) (h ++ [.box 1 (ofL [v])])
 | .build zs ps=>(∀ p ∈ ps,elemOK p.2.1 (e p.2.2)) ∧ (∀ p ∈ ps,p.1 + p.2.1 ≤ zs.length) ∧ K (.agg zs.length (tab zs.length (buildC (ofL zs) (ps.map fun p=>(p.1,p.2.1,e p.2.2))))) h
 | .bsl n sz zs ps=>(∀ p ∈ ps,elemOK sz (e p.2) ∧ (e p.2).pure) ∧ (∀ p ∈ ps,p.1 < n) ∧ K (.sl false true n sz (bslC (fun _=>ofL zs) (ps.map fun p=>(p.1,e p.2)))) h
 | .bslp n sz zs ps=>apubs e ps h (fun es h'=>(∀ p ∈ es,elemOK sz p.2 ∧ p.1 < n) ∧ K (.sl false true n sz (bslC (fun _=>ofL zs) es)) h') ∨
  ((∀ p ∈ ps,elemOK sz (e p.2) ∧ p.1 < n) ∧ K (.own h.length n) (h ++ [.rwg n sz (bslC (fun _=>ofL zs) (ps.map fun p=>(p.1,e p.2)))]))
 | .ld none x=>match e x with
  | .ptr d o=>(match h[d]? with
   | some (.box m c)=>o < m ∧ K (c o) h
   | _=>False)
  | .rp d sz k o=>(match h[d]? with
   | some (.row n sz' c)=>k < n ∧ o < sz ∧ sz' = sz ∧ K (c k o) h
   | some (.rwg n sz' c)=>k < n ∧ o < sz ∧ sz' = sz ∧ K (c k o) h
   | _=>False)
  | .ip m c o=>o < m ∧ K (c o) h
  | _=>False
 | .ld (some m') x=>match e x with
  | .ptr d o=>(match h[d]? with
   | some (.box m c)=>o + m' ≤ m ∧ K (.agg m' (tab m' fun i=>c (o + i))) h
   | _=>False)
  | .rp d sz k o=>(match h[d]? with
   | some (.row n sz' c)=>(match sz == 1 && o == 0 with
    | true=>k + m' ≤ n ∧ sz' = sz ∧ K (.agg m' (tab m' fun i=>c (k + i) 0)) h
    | false=>k < n ∧ o + m' ≤ sz ∧ sz' = sz ∧ K (.agg m' (tab m' fun i=>c k (o + i))) h)
   | some (.rwg n sz' c)=>k < n ∧ o + m' ≤ sz ∧ sz' = sz ∧ K (.agg m' (tab m' fun i=>c k (o + i))) h
   | _=>False)
  | .ip m c o=>o + m' ≤ m ∧ K (.agg m' (tab m' fun i=>c (o + i))) h
  | _=>False
 | .st m x y=>match e x with
  | .ptr d o=>(match h[d]? with
   | some (.box m' c)=>o + m ≤ m' ∧ elemOK m (e y) ∧ K und (h.set d (.box m' (tab m' (stM c o (elemC (e y)) m))))
   | _=>False)
  | .rp d sz k o=>(match h[d]? with
   | some (.row n sz' c)=>k < n ∧ sz' = sz ∧ elemOK m (e y) ∧ (e y).pure ∧ ((m = 1 ∧ o < sz ∧ K und (h.set d (.row n sz (updR c k o (elemC (e y) 0))))) ∨ (m = sz ∧ o = 0 ∧ K und (h.set d (.row n sz (updRm c k (elemC (e y)))))))
   | some (.rwg n sz' c)=>k < n ∧ sz' = sz ∧ elemOK m (e y) ∧ ((m = 1 ∧ o < sz ∧ K und (h.set d (.rwg n sz (updR c k o (elemC (e y) 0))))) ∨ (m = sz ∧ o = 0 ∧ K und (h.set d (.rwg n sz (updRm c k (elemC (e y)))))))
   | _=>False)
  | _=>False
 | .fa x off=>match e x with
  | .ptr d o=>K (.ptr d (o + off)) h
  | .rp d sz k o=>K (.rp d sz k (o + off)) h
  | .ip m c o=>K (.ip m c (o + off)) h
  | _=>False
 | .fld x off m=>match e x with
  | .agg n c=>(match m with
   | none=>off < n ∧ K (c off) h
   | some m'=>off + m' ≤ n ∧ K (.agg m' (tab m' fun i=>c (off + i))) h)
  | _=>False
 | .ia sz x i=>match e i,e x with
  | .int _ j,.sl _ _ n sz' c=>sz' = sz ∧ 0 < sz ∧ 0 ≤ j ∧ j < n ∧ K (.ip sz (c j.toNat) 0) h
  | .int _ j,.own d n=>0 ≤ j ∧ j < n ∧ K (.rp d sz j.toNat 0) h
  | .int _ j,.osl d sz' lo n=>sz' = sz ∧ 0 ≤ j ∧ j < n ∧ K (.rp d sz (lo + j.toNat) 0) h
  | _,_=>False
 | .slc sz x lo hi=>match e x with
  | .sl z ee n sz' c=>sz' = sz ∧ (match lo.map e,hi.map e with
   | none,none=>K (.sl z false n sz c) h
   | none,some (.int _ b)=>0 ≤ b ∧ b ≤ n ∧ K (.sl z false b.toNat sz c) h
   | some (.int _ a),none=>0 ≤ a ∧ a ≤ n ∧ K (.sl z ee (n - a.toNat) sz (fun k=>c (k + a.toNat))) h
   | some (.int _ a),some (.int _ b)=>0 ≤ a ∧ a ≤ b ∧ b ≤ n ∧ K (.sl z false (b.toNat - a.toNat) sz (fun k=>c (k + a.toNat))) h
   | _,_=>False)
  | .own d n=>(match lo.map e,hi.map e with
   | none,none=>K (.own d n) h
   | none,some (.int _ b)=>0 ≤ b ∧ b ≤ n ∧ K (.own d b.toNat) h
   | some (.int _ a),none=>0 ≤ a ∧ a ≤ n ∧ K (.osl d sz a.toNat (n - a.toNat)) h
   | _,_=>False)
  | .osl d sz' l0 n=>sz' = sz ∧ (match lo.map e,hi.map e with
   | some (.int _ a),none=>0 ≤ a ∧ a ≤ n ∧ K (.osl d sz (l0 + a.toNat) (n - a.toNat)) h
   | _,_=>False)
  | _=>False
 | .bin op x y=>abin op (e x) (e y) (fun v=>K v h)
 | .binb neg x y=>match e x,e y with
  | .bool a,.bool b=>K (.bool (if neg then !(a == b) else (a == b))) h
  | _,_=>False
 | .eqz tag neg x y=>aeqz tag (e x) (e y) (fun b=>K (.bool (if neg then !b else b)) h)
 | .eqa m neg x y=>match e x,e y with
  | .agg m1 c,.agg m2 c'=>m1 = m ∧ m2 = m ∧ eqcs m c c' m (fun b=>K (.bool (if neg then !b else b)) h)
  | _,_=>False
 | .un op x=>match op,e x with
  | .not,.bool b=>K (.bool !b) h
  | .neg,.int k n=>K (.int k (k.wrap (0 - n))) h
  | _,_=>False
 | .conv k x=>match e x with
  | .int _ n=>K (.int k (k.wrap n)) h
  | _=>False
 | .mkf f xs=>K (.fn f xs.length (ofL (xs.map e))) h
 | .msl sz bytes zs x y=>match e x,e y with
  | .int .i64 n,.int .i64 n'=>zs.length = sz ∧ 0 ≤ n ∧ n ≤ n' ∧ n' ≤ 9223372036854775807 ∧ n' * bytes ≤ 140737488355328 ∧ K (.own h.length n.toNat) (h ++ [.row n.toNat sz fun _=>ofL zs])
  | _,_=>False
 | .len x=>match e x with
  | .sl _ _ n _ _=>K (.int .i64 n) h
  | .own _ n=>K (.int .i64 n) h
  | .osl _ _ _ n=>K (.int .i64 n) h
  | _=>False
 | .clr sz x=>match e x with
  | .osl d sz' lo _=>(match h[d]? with
   | some (.row N sz2 c)=>sz' = sz ∧ sz2 = sz ∧ lo ≤ N ∧ K und (h.set d (.row lo sz c))
   | _=>False)
  | _=>False
 | .app sz bytes x y=>0 < sz ∧ asrc sz h (e y) (fun q m c'=>match e x with
   | .sl z ee n sz2 c=>ee = true ∧ (sz2 = sz ∨ n = 0) ∧ (m = 0 → K (.sl z ee n sz2 c) h) ∧ (0 < m → n + m ≤ maxLen ∧ (n + m) * bytes ≤ 140737488355328 ∧ K (.own h.length (n + m)) (h ++ [.rw q (n + m) sz (appc n c c')]))
   | .own d n=>(match h[d]? with
    | some (.row n' sz2 c)=>n' = n ∧ sz2 = sz ∧ n + m ≤ maxLen ∧ (n + m) * bytes ≤ 140737488355328 ∧ K (.own h.length (n + m)) (h.set d .dead ++ [.rw q (n + m) sz (appc n c c')])
    | some (.rwg n' sz2 c)=>n' = n ∧ sz2 = sz ∧ n + m ≤ maxLen ∧ (n + m) * bytes ≤ 140737488355328 ∧ K (.own h.length (n + m)) (h.set d .dead ++ [.rwg (n + m) sz (appc n c c')])
    | _=>False)
   | _=>False)
 | .mx x y=>match e x,e y with
  | .int k a,.int _ b=>K (.int k (max a b)) h
  | _,_=>False
 | .mn x y=>match e x,e y with
  | .int k a,.int _ b=>K (.int k (min a b)) h
  | _,_=>False
 | .ext x i=>match e x with
  | .tup m c=>i < m ∧ K (c i) h
  | _=>False
 | .call ..=>False
 | .calv ..=>False
 | .xt X=>xop X e h K
 | .nxt _=>False
 | .no=>False

/-- What an operation gives is one value and one state of the call's own blocks. -/
theorem ibin_one {op:BinOp} {k:IntKind} {x y:Int} {K:AV → Prop} (H:ibin op k x y K):∃ r,ibin op k x y (fun a=>a = r) ∧ K r:=by
 cases op <;> simp only [ibin] at H ⊢
 case quo=>exact ⟨_,⟨H.1,rfl⟩,H.2⟩
 case rem=>exact ⟨_,⟨H.1,rfl⟩,H.2⟩
 all_goals first|exact ⟨_,rfl,H⟩|exact H.elim
theorem ishift_one {op:BinOp} {k:IntKind} {x y:Int} {K:AV → Prop} (H:ishift op k x y K):∃ r,ishift op k x y (fun a=>a = r) ∧ K r:=by
 cases op <;> simp only [ishift] at H ⊢
 all_goals first|exact ⟨_,⟨H.1,rfl⟩,H.2⟩|exact H.elim
theorem abin_one {op:BinOp} {x y:AV} {K:AV → Prop} (H:abin op x y K):∃ r,abin op x y (fun a=>a = r) ∧ K r:=by
 cases x <;> cases y <;> simp only [abin] at H ⊢
 case int.int k a k' b =>
  cases op <;> simp only at H ⊢
  case shl=>exact ishift_one H
  case shr=>exact ishift_one H
  all_goals
   obtain ⟨h1,H⟩:=H
   obtain ⟨r,h2,h3⟩:=ibin_one H
   exact ⟨r,⟨h1,h2⟩,h3⟩
theorem aeqz_one {tag:Nat} {x y:AV} {K:Bool → Prop} (H:aeqz tag x y K):∃ r,aeqz tag x y (fun a=>a = r) ∧ K r:=by
 unfold aeqz at H ⊢
 split at H <;> first|exact ⟨_,rfl,H⟩|exact H.elim
theorem aop_one (o:AOp) (e:AX → AV) (h:List AB) (K:AV → List AB → Prop) (H:aop o e h K):∃ r h',aop o e h (fun a b=>a = r ∧ b = h') ∧ K r h':=by
 cases o <;> simp only [aop] at H ⊢
 case mv=>exact ⟨_,_,⟨rfl,rfl⟩,H⟩
 case pick c a b =>
  generalize e c = v at H ⊢
  cases v <;> simp only at H ⊢
  case bool q =>
   cases q
   ·exact ⟨_,_,⟨rfl,rfl⟩,H⟩
   ·exact ⟨_,_,⟨rfl,rfl⟩,H⟩
 case nilck x =>
  generalize e x = v at H ⊢
  cases v <;> simp only at H ⊢ <;> first|exact ⟨_,_,⟨rfl,rfl⟩,H⟩|exact H.elim
 case box x =>
  generalize e x = v at H ⊢
  cases v <;> simp only at H ⊢ <;> first|exact ⟨_,_,⟨rfl,rfl⟩,H⟩|exact H.elim
 case xt X =>
  obtain ⟨r,h',h1,_,h2,_⟩:=xop_one H
  exact ⟨r,h',h2 _ ⟨rfl,rfl⟩,h1⟩
 case build zs ps=>exact ⟨_,_,⟨H.1,H.2.1,rfl,rfl⟩,H.2.2⟩
 case bsl n sz zs ps=>exact ⟨_,_,⟨H.1,H.2.1,rfl,rfl⟩,H.2.2⟩
 case bslp n sz zs ps =>
  rcases H with H|H
  ·obtain ⟨l,h',H1,k1⟩:=apubs_one H
   exact ⟨_,_,.inl (k1 _ ⟨H1.1,rfl,rfl⟩),H1.2⟩
  ·exact ⟨_,_,.inr ⟨H.1,rfl,rfl⟩,H.2⟩
 case ld m x =>
  cases m <;> simp only at H ⊢ <;> generalize e x = v at H ⊢ <;> cases v <;> simp only at H ⊢
  case none.ip m c o=>exact ⟨_,_,⟨H.1,rfl,rfl⟩,H.2⟩
  case some.ip m c o=>exact ⟨_,_,⟨H.1,rfl,rfl⟩,H.2⟩
  case none.ptr d o=>split at H <;> first|exact ⟨_,_,⟨H.1,rfl,rfl⟩,H.2⟩|exact H.elim
  case some.ptr d o=>split at H <;> first|exact ⟨_,_,⟨H.1,rfl,rfl⟩,H.2⟩|exact H.elim
  case none.rp d o=>split at H <;> first|exact ⟨_,_,⟨H.1,H.2.1,H.2.2.1,rfl,rfl⟩,H.2.2.2⟩|exact H.elim
  case some.rp d sz k o =>
   split at H
   ·cases hb:(sz == 1 && o == 0) <;> simp only [hb] at H ⊢
    ·exact ⟨_,_,⟨H.1,H.2.1,H.2.2.1,rfl,rfl⟩,H.2.2.2⟩
    ·exact ⟨_,_,⟨H.1,H.2.1,rfl,rfl⟩,H.2.2⟩
   ·exact ⟨_,_,⟨H.1,H.2.1,H.2.2.1,rfl,rfl⟩,H.2.2.2⟩
   ·exact H.elim
 case st m x y =>
  generalize e x = v at H ⊢
  cases v <;> simp only at H ⊢
  case ptr d o=>split at H <;> first|exact ⟨_,_,⟨H.1,H.2.1,rfl,rfl⟩,H.2.2⟩|exact H.elim
  case rp d sz k o =>
   split at H
   ·obtain ⟨h1,h2,h3,h4,h5⟩:=H
    rcases h5 with ⟨a,b,h5⟩|⟨a,b,h5⟩
    ·exact ⟨_,_,⟨h1,h2,h3,h4,.inl ⟨a,b,rfl,rfl⟩⟩,h5⟩
    ·exact ⟨_,_,⟨h1,h2,h3,h4,.inr ⟨a,b,rfl,rfl⟩⟩,h5⟩
   ·obtain ⟨h1,h2,h3,h5⟩:=H
    rcases h5 with ⟨a,b,h5⟩|⟨a,b,h5⟩
    ·exact ⟨_,_,⟨h1,h2,h3,.inl ⟨a,b,rfl,rfl⟩⟩,h5⟩
    ·exact ⟨_,_,⟨h1,h2,h3,.inr ⟨a,b,rfl,rfl⟩⟩,h5⟩
   ·exact H.elim
 case fa x off =>
  generalize e x = v at H ⊢
  cases v <;> simp only at H ⊢ <;> first|exact ⟨_,_,⟨rfl,rfl⟩,H⟩|exact H.elim
 case fld x off m =>
  generalize e x = v at H ⊢
  cases v <;> simp only at H ⊢
  case agg n c=>cases m <;> simp only at H ⊢ <;> exact ⟨_,_,⟨H.1,rfl,rfl⟩,H.2⟩
 case ia sz x i =>
  generalize e x = v at H ⊢
  generalize e i = j at H ⊢
  cases j <;> cases v <;> simp only at H ⊢
  ·exact ⟨_,_,⟨H.1,H.2.1,H.2.2.1,H.2.2.2.1,rfl,rfl⟩,H.2.2.2.2⟩
  ·exact ⟨_,_,⟨H.1,H.2.1,rfl,rfl⟩,H.2.2⟩
  ·exact ⟨_,_,⟨H.1,H.2.1,H.2.2.1,rfl,rfl⟩,H.2.2.2⟩
 case slc sz x lo hi =>
  generalize e x = v at H ⊢
  cases v <;> simp only at H ⊢
  case sl z ee n sz' c =>
   obtain ⟨h1,H⟩:=H
   generalize lo.map e = a at H ⊢
   generalize hi.map e = b at H ⊢
   split at H
   ·exact ⟨_,_,⟨h1,rfl,rfl⟩,H⟩
   ·exact ⟨_,_,⟨h1,H.1,H.2.1,rfl,rfl⟩,H.2.2⟩
   ·exact ⟨_,_,⟨h1,H.1,H.2.1,rfl,rfl⟩,H.2.2⟩
   ·exact ⟨_,_,⟨h1,H.1,H.2.1,H.2.2.1,rfl,rfl⟩,H.2.2.2⟩
   ·exact H.elim
  case own d n =>
   generalize lo.map e = a at H ⊢
   generalize hi.map e = b at H ⊢
   split at H
   ·exact ⟨_,_,⟨rfl,rfl⟩,H⟩
   ·exact ⟨_,_,⟨H.1,H.2.1,rfl,rfl⟩,H.2.2⟩
   ·exact ⟨_,_,⟨H.1,H.2.1,rfl,rfl⟩,H.2.2⟩
   ·exact H.elim
  case osl d sz' l0 n =>
   obtain ⟨h1,H⟩:=H
   generalize lo.map e = a at H ⊢
   generalize hi.map e = b at H ⊢
   split at H
   ·exact ⟨_,_,⟨h1,H.1,H.2.1,rfl,rfl⟩,H.2.2⟩
   ·exact H.elim
 case bin op x y =>
  obtain ⟨r,h1,h2⟩:=abin_one H
  exact ⟨r,h,by simpa using h1,h2⟩
 case binb neg x y =>
  generalize e x = v at H ⊢
  generalize e y = u at H ⊢
  cases v <;> cases u <;> simp only at H ⊢ <;> exact ⟨_,_,⟨rfl,rfl⟩,H⟩
 case eqz tag neg x y =>
  obtain ⟨r,h1,h2⟩:=aeqz_one H
  refine ⟨_,h,?_,h2⟩
  have:∀ {K K':Bool → Prop} (x y:AV),(∀ b,K b → K' b) → aeqz tag x y K → aeqz tag x y K':=fun x y hk hh=>by
   unfold aeqz at hh ⊢
   split at hh <;> first|exact hk _ hh|exact hh.elim
  exact this _ _ (fun b hb=>by rw [hb];exact ⟨rfl,rfl⟩) h1
 case eqa m neg x y =>
  generalize e x = v at H ⊢
  generalize e y = u at H ⊢
  cases v <;> cases u <;> simp only at H ⊢
  obtain ⟨q,h1,k1⟩:=eqcs_one H.2.2
  exact ⟨_,_,⟨H.1,H.2.1,k1 _ ⟨rfl,rfl⟩⟩,h1⟩
 case clr sz x =>
  generalize e x = v at H ⊢
  cases v <;> simp only at H ⊢
  split at H
  ·exact ⟨_,_,⟨H.1,H.2.1,H.2.2.1,rfl,rfl⟩,H.2.2.2⟩
  ·exact H.elim
 case un op x =>
  generalize e x = v at H ⊢
  cases op <;> cases v <;> simp only at H ⊢ <;> first|exact ⟨_,_,⟨rfl,rfl⟩,H⟩|exact H.elim
 case conv k x =>
  generalize e x = v at H ⊢
  cases v <;> simp only at H ⊢ <;> first|exact ⟨_,_,⟨rfl,rfl⟩,H⟩|exact H.elim
 case mkf=>exact ⟨_,_,⟨rfl,rfl⟩,H⟩
 case msl sz bytes zs x y =>
  generalize e x = v at H ⊢
  generalize e y = u at H ⊢
  split at H
  ·exact ⟨_,_,⟨H.1,H.2.1,H.2.2.1,H.2.2.2.1,H.2.2.2.2.1,rfl,rfl⟩,H.2.2.2.2.2⟩
  ·exact H.elim
 case len x =>
  generalize e x = v at H ⊢
  cases v <;> simp only at H ⊢ <;> first|exact ⟨_,_,⟨rfl,rfl⟩,H⟩|exact H.elim
 case app sz bytes x y =>
  obtain ⟨h0,H⟩:=H
  obtain ⟨q,m,c',hs,H⟩:=asrc_e H
  generalize e x = v at H ⊢
  cases v <;> simp only at H ⊢ <;> try exact H.elim
  case sl z ee n sz2 c =>
   obtain ⟨h2,h3,h4,h5⟩:=H
   by_cases hm:m = 0
   ·exact ⟨_,_,⟨h0,asrc_i hs ⟨h2,h3,fun _=>⟨rfl,rfl⟩,fun h=>by omega⟩⟩,h4 hm⟩
   ·exact ⟨_,_,⟨h0,asrc_i hs ⟨h2,h3,fun h=>by omega,fun _=>⟨(h5 (by omega)).1,(h5 (by omega)).2.1,rfl,rfl⟩⟩⟩,(h5 (by omega)).2.2⟩
  case own d n =>
   split at H
   ·rename_i n' sz2 c hd
    exact ⟨_,_,⟨h0,asrc_i hs (by simp only;exact ⟨H.1,H.2.1,H.2.2.1,H.2.2.2.1,trivial,trivial⟩)⟩,H.2.2.2.2⟩
   ·rename_i n' sz2 c hd
    exact ⟨_,_,⟨h0,asrc_i hs (by simp only;exact ⟨H.1,H.2.1,H.2.2.1,H.2.2.2.1,trivial,trivial⟩)⟩,H.2.2.2.2⟩
   ·exact H.elim
 case mx x y =>
  generalize e x = v at H ⊢
  generalize e y = u at H ⊢
  cases v <;> cases u <;> simp only at H ⊢ <;> exact ⟨_,_,⟨rfl,rfl⟩,H⟩
 case mn x y =>
  generalize e x = v at H ⊢
  generalize e y = u at H ⊢
  cases v <;> cases u <;> simp only at H ⊢ <;> exact ⟨_,_,⟨rfl,rfl⟩,H⟩
 case ext x i =>
  generalize e x = v at H ⊢
  cases v <;> simp only at H ⊢
  exact ⟨_,_,⟨H.1,rfl,rfl⟩,H.2⟩
end Go.Proofs.YtodpjdmdmmnlpaaGreat
