/- The operations of code over abstract values: what each asks and gives. No program in sight. -/
import Derived.Test.YtomkjfhepfinhaaAbs
namespace Go.Proofs.Ytomkjfhepfinhaa
open Go.RowKit

inductive AX where
  | t (i : Nat)
  | k (v : AV)
  deriving Inhabited
def AX.ev (s : Nat → AV) : AX → AV
  | .t i => s i
  | .k v => v

inductive AOp where
  | mv (x : AX)
  | pick (c a b : AX)
  | nilck (x : AX)
  | box (x : AX)
  | build (zs : List AV) (ps : List (Nat × Nat × AX))
  | bsl (n sz : Nat) (zs : List AV) (ps : List (Nat × AX))
  | bslp (n sz : Nat) (zs : List AV) (ps : List (Nat × AX))
  | ld (m : Option Nat) (x : AX)
  | st (m : Nat) (x y : AX)
  | fa (x : AX) (off : Nat)
  | fld (x : AX) (off : Nat) (m : Option Nat)
  | ia (sz : Nat) (x i : AX)
  | slc (sz : Nat) (x : AX) (lo hi : Option AX)
  | bin (op : BinOp) (x y : AX)
  | binb (neg : Bool) (x y : AX)
  | eqz (tag : Nat) (neg : Bool) (x y : AX)
  | eqa (m : Nat) (neg : Bool) (x y : AX)
  | clr (sz : Nat) (x : AX)
  | un (op : UnOp) (x : AX)
  | conv (k : IntKind) (x : AX)
  | mkf (f : FuncId) (xs : List AX)
  | msl (sz bytes : Nat) (zs : List AV) (x y : AX)
  | len (x : AX)
  | app (sz bytes : Nat) (x y : AX)
  | mx (x y : AX)
  | mn (x y : AX)
  | ext (x : AX) (i : Nat)
  | call (f : FuncId) (xs : List AX)
  | calv (x : AX) (xs : List AX)
  | no
  deriving Inhabited

def ofL (l : List AV) : Nat → AV := fun i => l.getD i .bot
def und : AV := .tup 0 (ofL [])
/-- Cells as a table. -/
def tab (m : Nat) (f : Nat → AV) : Nat → AV := ofL ((List.range m).map f)
theorem tab_get {m : Nat} {f : Nat → AV} {i : Nat} (h : i < m) : tab m f i = f i := by simp [tab, ofL, List.getD, List.getElem?_range h]
def acond (q : Bool) (A B : Prop) : Prop := match q with | true => A | false => B
theorem acond_i {q : Bool} {A B : Prop} (h1 : q = true → A) (h2 : q = false → B) : acond q A B := by
  cases q
  · exact h2 rfl
  · exact h1 rfl
theorem acond_e {q : Bool} {A B : Prop} (h : acond q A B) : (q = true ∧ A) ∨ (q = false ∧ B) := by
  cases q
  · exact .inr ⟨rfl, h⟩
  · exact .inl ⟨rfl, h⟩
def updN (c : Nat → AV) (o : Nat) (v : AV) : Nat → AV := fun i => if i = o then v else c i
def stM (c : Nat → AV) (o : Nat) (cy : Nat → AV) : Nat → Nat → AV
  | 0 => c
  | m + 1 => updN (stM c o cy m) (o + m) (cy m)
def updR (c : Nat → Nat → AV) (k o : Nat) (v : AV) : Nat → Nat → AV := fun k' o' => if k' = k ∧ o' = o then v else c k' o'
def updRm (c : Nat → Nat → AV) (k : Nat) (cy : Nat → AV) : Nat → Nat → AV := fun k' o' => if k' = k then cy o' else c k' o'
def appc (n : Nat) (c c' : Nat → Nat → AV) : Nat → Nat → AV := fun k o => if k < n then c k o else c' (k - n) o

/-- What a binary operation on integers of one kind gives. -/
def ibin (op : BinOp) (k : IntKind) (x y : Int) (K : AV → Prop) : Prop :=
  match op with
  | .add => K (.int k (k.wrap (x + y)))
  | .sub => K (.int k (k.wrap (x - y)))
  | .mul => K (.int k (k.wrap (x * y)))
  | .quo => y ≠ 0 ∧ K (.int k (k.wrap (x.tdiv y)))
  | .rem => y ≠ 0 ∧ K (.int k (x.tmod y))
  | .and => K (.int k (k.wrap (BitVec.ofInt k.bits x &&& BitVec.ofInt k.bits y).toNat))
  | .or => K (.int k (k.wrap (BitVec.ofInt k.bits x ||| BitVec.ofInt k.bits y).toNat))
  | .xor => K (.int k (k.wrap (BitVec.ofInt k.bits x ^^^ BitVec.ofInt k.bits y).toNat))
  | .andNot => K (.int k (k.wrap (BitVec.ofInt k.bits x &&& ~~~ BitVec.ofInt k.bits y).toNat))
  | .eql => K (.bool (decide (x = y)))
  | .neq => K (.bool (!decide (x = y)))
  | .lss => K (.bool (decide (x < y)))
  | .leq => K (.bool (decide (x ≤ y)))
  | .gtr => K (.bool (decide (y < x)))
  | .geq => K (.bool (decide (y ≤ x)))
  | .shl | .shr => False
def ishift (op : BinOp) (k : IntKind) (x y : Int) (K : AV → Prop) : Prop :=
  match op with
  | .shl => 0 ≤ y ∧ K (.int k (k.wrap (x * 2 ^ (min y.toNat k.bits))))
  | .shr => 0 ≤ y ∧ K (.int k (x.fdiv (2 ^ (min y.toNat k.bits))))
  | _ => False
def abin (op : BinOp) (x y : AV) (K : AV → Prop) : Prop :=
  match x, y with
  | .int k a, .int k' b =>
    match op with
    | .shl => ishift .shl k a b K
    | .shr => ishift .shr k a b K
    | op => k = k' ∧ ibin op k a b K
  | _, _ => False
/-- Comparison with nil. -/
def aeqz (tag : Nat) (x y : AV) (K : Bool → Prop) : Prop :=
  match tag, x, y with
  | 0, .sl true _ _ _ _, .sl z _ _ _ _ => K z
  | 0, .sl z _ _ _ _, .sl true _ _ _ _ => K z
  | 0, .own .., .sl true _ _ _ _ => K false
  | 1, .nilp, .nilp => K true
  | 1, .ptr .., .nilp => K false
  | 1, .ip .., .nilp => K false
  | 2, .nilf, .nilf => K true
  | 2, .fn .., .nilf => K false
  | _, _, _ => False

/-- Comparison of two cells. -/
def eqc (x y : AV) (K : Bool → Prop) : Prop :=
  match x, y with
  | .int k a, .int k' b => k = k' ∧ K (decide (a = b))
  | _, _ => False
theorem eqc_one {x y : AV} {K : Bool → Prop} (H : eqc x y K) : ∃ q, K q ∧ ∀ K2 : Bool → Prop, K2 q → eqc x y K2 := by
  unfold eqc at H ⊢
  split at H
  · exact ⟨_, H.2, fun K2 h => ⟨H.1, h⟩⟩
  · exact H.elim
/-- Comparison of two structs, cell by cell: i cells from the one in front of the last m on. -/
def eqcs (n : Nat) (c c' : Nat → AV) : Nat → (Bool → Prop) → Prop
  | 0, K => K true
  | m + 1, K => eqc (c (n - (m + 1))) (c' (n - (m + 1))) fun q => eqcs n c c' m fun q' => K (q && q')
theorem eqcs_one {n : Nat} {c c' : Nat → AV} : ∀ {m : Nat} {K : Bool → Prop}, eqcs n c c' m K → ∃ q, K q ∧ ∀ K2 : Bool → Prop, K2 q → eqcs n c c' m K2
  | 0, K, H => ⟨true, H, fun K2 h => h⟩
  | m + 1, K, H => by
    obtain ⟨q, h1, k1⟩ := eqc_one H
    obtain ⟨q', h2, k2⟩ := eqcs_one h1
    exact ⟨_, h2, fun K2 h => k1 _ (k2 _ h)⟩
/-- One element of a literal: its cells. -/
def elemC (v : AV) : Nat → AV :=
  match v with
  | .agg _ c => c
  | v => fun _ => v
def elemOK (sz : Nat) (v : AV) : Prop :=
  match v with
  | .agg m _ => m = sz
  | v => v.one = true ∧ sz = 1
def bslC : (Nat → Nat → AV) → List (Nat × AV) → Nat → Nat → AV
  | c, [] => c
  | c, (i, v) :: es => bslC (updRm c i (elemC v)) es
def buildC : (Nat → AV) → List (Nat × Nat × AV) → Nat → AV
  | c, [] => c
  | c, (off, sz, v) :: ps => buildC (stM c off (elemC v) sz) ps

/-- A slice of the call's own that is laid into a row: from then on it is only read. -/
def apub (h : List AB) (v : AV) (K : AV → List AB → Prop) : Prop :=
  match v with
  | .own d n => (match h[d]? with
    | some (.row N sz c) => n ≤ N ∧ K (.sl false false n sz c) (h.set d .dead)
    | _ => False)
  | v => v.pure ∧ K v h
def apubs (e : AX → AV) (ps : List (Nat × AX)) (h : List AB) (K : List (Nat × AV) → List AB → Prop) : Prop :=
  match ps with
  | [] => K [] h
  | (i, x) :: ps => apub h (e x) (fun v h' => apubs e ps h' (fun l h'' => K ((i, v) :: l) h''))
theorem apub_one {h : List AB} {v : AV} {K : AV → List AB → Prop} (H : apub h v K) : ∃ r h', K r h' ∧ ∀ K2 : AV → List AB → Prop, K2 r h' → apub h v K2 := by
  cases v
  case own d n =>
    simp only [apub] at H ⊢
    split at H
    · rename_i hd
      exact ⟨_, _, H.2, fun K2 hk => ⟨H.1, hk⟩⟩
    · exact H.elim
  all_goals exact ⟨_, _, H.2, fun K2 hk => ⟨H.1, hk⟩⟩
theorem apubs_one {e : AX → AV} : ∀ {ps : List (Nat × AX)} {h : List AB} {K : List (Nat × AV) → List AB → Prop}, apubs e ps h K → ∃ l h', K l h' ∧ ∀ K2 : List (Nat × AV) → List AB → Prop, K2 l h' → apubs e ps h K2
  | [], h, K, H => ⟨[], h, H, fun _ hk => hk⟩
  | (i, x) :: ps, h, K, H => by
    obtain ⟨v, h1, H1, k1⟩ := apub_one H
    obtain ⟨l, h2, H2, k2⟩ := apubs_one H1
    exact ⟨(i, v) :: l, h2, H2, fun K2 hk => k1 _ (k2 _ hk)⟩
/-- A row that is read: what append takes from. -/
def asrc (sz : Nat) (h : List AB) (y : AV) (K : Nat → (Nat → Nat → AV) → Prop) : Prop :=
  match y with
  | .sl _ _ m sz' c' => (sz' = sz ∨ m = 0) ∧ K m c'
  | .own d m => (match h[d]? with
    | some (.row N sz' c') => sz' = sz ∧ m ≤ N ∧ K m c'
    | _ => False)
  | _ => False
def Src (sz : Nat) (h : List AB) (y : AV) (m : Nat) (c' : Nat → Nat → AV) : Prop :=
  (∃ z e sz', y = .sl z e m sz' c' ∧ (sz' = sz ∨ m = 0)) ∨ (∃ d N, y = .own d m ∧ h[d]? = some (.row N sz c') ∧ m ≤ N)
theorem asrc_e {sz : Nat} {h : List AB} {y : AV} {K : Nat → (Nat → Nat → AV) → Prop} (H : asrc sz h y K) : ∃ m c', Src sz h y m c' ∧ K m c' := by
  unfold asrc at H
  split at H
  · exact ⟨_, _, .inl ⟨_, _, _, rfl, H.1⟩, H.2⟩
  · split at H
    · rename_i hd
      obtain ⟨rfl, h1, h2⟩ := H
      exact ⟨_, _, .inr ⟨_, _, rfl, hd, h1⟩, h2⟩
    · exact H.elim
  · exact H.elim
theorem asrc_i {sz : Nat} {h : List AB} {y : AV} {K : Nat → (Nat → Nat → AV) → Prop} {m : Nat} {c' : Nat → Nat → AV} (hs : Src sz h y m c') (H : K m c') : asrc sz h y K := by
  rcases hs with ⟨z, e, sz', rfl, h1⟩ | ⟨d, N, rfl, h1, h2⟩
  · exact ⟨h1, H⟩
  · unfold asrc
    simp only
    rw [h1]
    exact ⟨rfl, h2, H⟩
/-- One operation but a call: K is what must hold of its value and of the call's own blocks. -/
def aop (o : AOp) (e : AX → AV) (h : List AB) (K : AV → List AB → Prop) : Prop :=
  match o with
  | .mv x => K (e x) h
  | .pick c a b => match e c with
    | .bool q => acond q (K (e a) h) (K (e b) h)
    | _ => False
  | .nilck x => match e x with
    | .ptr d o => K (.ptr d o) h
    | .ip m c o => K (.ip m c o) h
    | .rp d sz k o => K (.rp d sz k o) h
    | .fn f m c => K (.fn f m c) h
    | _ => False
  | .box x => match e x with
    | .agg m c => K (.ptr h.length 0) (h ++ [.box m c])
    | .bot => False
    | .tup .. => False
    | v => K (.ptr h.length 0) (h ++ [.box 1 (ofL [v])])
  | .build zs ps => (∀ p ∈ ps, elemOK p.2.1 (e p.2.2)) ∧ (∀ p ∈ ps, p.1 + p.2.1 ≤ zs.length) ∧ K (.agg zs.length (tab zs.length (buildC (ofL zs) (ps.map fun p => (p.1, p.2.1, e p.2.2))))) h
  | .bsl n sz zs ps => (∀ p ∈ ps, elemOK sz (e p.2) ∧ (e p.2).pure) ∧ (∀ p ∈ ps, p.1 < n) ∧ K (.sl false true n sz (bslC (fun _ => ofL zs) (ps.map fun p => (p.1, e p.2)))) h
  | .bslp n sz zs ps => apubs e ps h (fun es h' => (∀ p ∈ es, elemOK sz p.2 ∧ p.1 < n) ∧ K (.sl false true n sz (bslC (fun _ => ofL zs) es)) h')
  | .ld none x => match e x with
    | .ptr d o => (match h[d]? with
      | some (.box m c) => o < m ∧ K (c o) h
      | _ => False)
    | .rp d sz k o => (match h[d]? with
      | some (.row n sz' c) => k < n ∧ o < sz ∧ sz' = sz ∧ K (c k o) h
      | _ => False)
    | .ip m c o => o < m ∧ K (c o) h
    | _ => False
  | .ld (some m') x => match e x with
    | .ptr d o => (match h[d]? with
      | some (.box m c) => o + m' ≤ m ∧ K (.agg m' (tab m' fun i => c (o + i))) h
      | _ => False)
    | .rp d sz k o => (match h[d]? with
      | some (.row n sz' c) => k < n ∧ o + m' ≤ sz ∧ sz' = sz ∧ K (.agg m' (tab m' fun i => c k (o + i))) h
      | _ => False)
    | .ip m c o => o + m' ≤ m ∧ K (.agg m' (tab m' fun i => c (o + i))) h
    | _ => False
  | .st m x y => match e x with
    | .ptr d o => (match h[d]? with
      | some (.box m' c) => o + m ≤ m' ∧ elemOK m (e y) ∧ K und (h.set d (.box m' (tab m' (stM c o (elemC (e y)) m))))
      | _ => False)
    | .rp d sz k o => (match h[d]? with
      | some (.row n sz' c) => k < n ∧ sz' = sz ∧ elemOK m (e y) ∧ (e y).pure ∧ ((m = 1 ∧ o < sz ∧ K und (h.set d (.row n sz (updR c k o (elemC (e y) 0))))) ∨ (m = sz ∧ o = 0 ∧ K und (h.set d (.row n sz (updRm c k (elemC (e y)))))))
      | _ => False)
    | _ => False
  | .fa x off => match e x with
    | .ptr d o => K (.ptr d (o + off)) h
    | .rp d sz k o => K (.rp d sz k (o + off)) h
    | .ip m c o => K (.ip m c (o + off)) h
    | _ => False
  | .fld x off m => match e x with
    | .agg n c => (match m with
      | none => off < n ∧ K (c off) h
      | some m' => off + m' ≤ n ∧ K (.agg m' (tab m' fun i => c (off + i))) h)
    | _ => False
  | .ia sz x i => match e i, e x with
    | .int _ j, .sl _ _ n sz' c => sz' = sz ∧ 0 < sz ∧ 0 ≤ j ∧ j < n ∧ K (.ip sz (c j.toNat) 0) h
    | .int _ j, .own d n => 0 ≤ j ∧ j < n ∧ K (.rp d sz j.toNat 0) h
    | .int _ j, .osl d sz' lo n => sz' = sz ∧ 0 ≤ j ∧ j < n ∧ K (.rp d sz (lo + j.toNat) 0) h
    | _, _ => False
  | .slc sz x lo hi => match e x with
    | .sl z _ n sz' c => sz' = sz ∧ (match lo.map e, hi.map e with
      | none, none => K (.sl z false n sz c) h
      | none, some (.int _ b) => 0 ≤ b ∧ b ≤ n ∧ K (.sl z false b.toNat sz c) h
      | some (.int _ a), none => 0 ≤ a ∧ a ≤ n ∧ K (.sl z false (n - a.toNat) sz (fun k => c (k + a.toNat))) h
      | some (.int _ a), some (.int _ b) => 0 ≤ a ∧ a ≤ b ∧ b ≤ n ∧ K (.sl z false (b.toNat - a.toNat) sz (fun k => c (k + a.toNat))) h
      | _, _ => False)
    | .own d n => (match lo.map e, hi.map e with
      | none, none => K (.own d n) h
      | none, some (.int _ b) => 0 ≤ b ∧ b ≤ n ∧ K (.own d b.toNat) h
      | some (.int _ a), none => 0 ≤ a ∧ a ≤ n ∧ K (.osl d sz a.toNat (n - a.toNat)) h
      | _, _ => False)
    | .osl d sz' l0 n => sz' = sz ∧ (match lo.map e, hi.map e with
      | some (.int _ a), none => 0 ≤ a ∧ a ≤ n ∧ K (.osl d sz (l0 + a.toNat) (n - a.toNat)) h
      | _, _ => False)
    | _ => False
  | .bin op x y => abin op (e x) (e y) (fun v => K v h)
  | .binb neg x y => match e x, e y with
    | .bool a, .bool b => K (.bool (if neg then !(a == b) else (a == b))) h
    | _, _ => False
  | .eqz tag neg x y => aeqz tag (e x) (e y) (fun b => K (.bool (if neg then !b else b)) h)
  | .eqa m neg x y => match e x, e y with
    | .agg m1 c, .agg m2 c' => m1 = m ∧ m2 = m ∧ eqcs m c c' m (fun b => K (.bool (if neg then !b else b)) h)
    | _, _ => False
  | .un op x => match op, e x with
    | .not, .bool b => K (.bool !b) h
    | .neg, .int k n => K (.int k (k.wrap (0 - n))) h
    | _, _ => False
  | .conv k x => match e x with
    | .int _ n => K (.int k (k.wrap n)) h
    | _ => False
  | .mkf f xs => K (.fn f xs.length (ofL (xs.map e))) h
  | .msl sz bytes zs x y => match e x, e y with
    | .int .i64 n, .int .i64 n' => zs.length = sz ∧ 0 ≤ n ∧ n ≤ n' ∧ n' ≤ 9223372036854775807 ∧ n' * bytes ≤ 140737488355328 ∧ K (.own h.length n.toNat) (h ++ [.row n.toNat sz fun _ => ofL zs])
    | _, _ => False
  | .len x => match e x with
    | .sl _ _ n _ _ => K (.int .i64 n) h
    | .own _ n => K (.int .i64 n) h
    | .osl _ _ _ n => K (.int .i64 n) h
    | _ => False
  | .clr sz x => match e x with
    | .osl d sz' lo _ => (match h[d]? with
      | some (.row N sz2 c) => sz' = sz ∧ sz2 = sz ∧ lo ≤ N ∧ K und (h.set d (.row lo sz c))
      | _ => False)
    | _ => False
  | .app sz bytes x y => 0 < sz ∧ asrc sz h (e y) (fun m c' => match e x with
      | .sl z ee n sz2 c => ee = true ∧ (sz2 = sz ∨ n = 0) ∧ (m = 0 → K (.sl z ee n sz2 c) h) ∧ (0 < m → n + m ≤ maxLen ∧ (n + m) * bytes ≤ 140737488355328 ∧ K (.own h.length (n + m)) (h ++ [.row (n + m) sz (appc n c c')]))
      | .own d n => (match h[d]? with
        | some (.row n' sz2 c) => n' = n ∧ sz2 = sz ∧ n + m ≤ maxLen ∧ (n + m) * bytes ≤ 140737488355328 ∧ K (.own h.length (n + m)) (h.set d .dead ++ [.row (n + m) sz (appc n c c')])
        | _ => False)
      | _ => False)
  | .mx x y => match e x, e y with
    | .int k a, .int _ b => K (.int k (max a b)) h
    | _, _ => False
  | .mn x y => match e x, e y with
    | .int k a, .int _ b => K (.int k (min a b)) h
    | _, _ => False
  | .ext x i => match e x with
    | .tup m c => i < m ∧ K (c i) h
    | _ => False
  | .call .. => False
  | .calv .. => False
  | .no => False

/-- What an operation gives is one value and one state of the call's own blocks. -/
theorem ibin_one {op : BinOp} {k : IntKind} {x y : Int} {K : AV → Prop} (H : ibin op k x y K) : ∃ r, ibin op k x y (fun a => a = r) ∧ K r := by
  cases op <;> simp only [ibin] at H ⊢
  case quo => exact ⟨_, ⟨H.1, rfl⟩, H.2⟩
  case rem => exact ⟨_, ⟨H.1, rfl⟩, H.2⟩
  all_goals first | exact ⟨_, rfl, H⟩ | exact H.elim
theorem ishift_one {op : BinOp} {k : IntKind} {x y : Int} {K : AV → Prop} (H : ishift op k x y K) : ∃ r, ishift op k x y (fun a => a = r) ∧ K r := by
  cases op <;> simp only [ishift] at H ⊢
  all_goals first | exact ⟨_, ⟨H.1, rfl⟩, H.2⟩ | exact H.elim
theorem abin_one {op : BinOp} {x y : AV} {K : AV → Prop} (H : abin op x y K) : ∃ r, abin op x y (fun a => a = r) ∧ K r := by
  cases x <;> cases y <;> simp only [abin] at H ⊢
  case int.int k a k' b =>
    cases op <;> simp only at H ⊢
    case shl => exact ishift_one H
    case shr => exact ishift_one H
    all_goals
      obtain ⟨h1, H⟩ := H
      obtain ⟨r, h2, h3⟩ := ibin_one H
      exact ⟨r, ⟨h1, h2⟩, h3⟩
theorem aeqz_one {tag : Nat} {x y : AV} {K : Bool → Prop} (H : aeqz tag x y K) : ∃ r, aeqz tag x y (fun a => a = r) ∧ K r := by
  unfold aeqz at H ⊢
  split at H <;> first | exact ⟨_, rfl, H⟩ | exact H.elim
theorem aop_one (o : AOp) (e : AX → AV) (h : List AB) (K : AV → List AB → Prop) (H : aop o e h K) : ∃ r h', aop o e h (fun a b => a = r ∧ b = h') ∧ K r h' := by
  cases o <;> simp only [aop] at H ⊢
  case mv => exact ⟨_, _, ⟨rfl, rfl⟩, H⟩
  case pick c a b =>
    generalize e c = v at H ⊢
    cases v <;> simp only at H ⊢
    case bool q =>
      cases q
      · exact ⟨_, _, ⟨rfl, rfl⟩, H⟩
      · exact ⟨_, _, ⟨rfl, rfl⟩, H⟩
  case nilck x =>
    generalize e x = v at H ⊢
    cases v <;> simp only at H ⊢ <;> first | exact ⟨_, _, ⟨rfl, rfl⟩, H⟩ | exact H.elim
  case box x =>
    generalize e x = v at H ⊢
    cases v <;> simp only at H ⊢ <;> first | exact ⟨_, _, ⟨rfl, rfl⟩, H⟩ | exact H.elim
  case build zs ps => exact ⟨_, _, ⟨H.1, H.2.1, rfl, rfl⟩, H.2.2⟩
  case bsl n sz zs ps => exact ⟨_, _, ⟨H.1, H.2.1, rfl, rfl⟩, H.2.2⟩
  case bslp n sz zs ps =>
    obtain ⟨l, h', H1, k1⟩ := apubs_one H
    exact ⟨_, _, k1 _ ⟨H1.1, rfl, rfl⟩, H1.2⟩
  case ld m x =>
    cases m <;> simp only at H ⊢ <;> generalize e x = v at H ⊢ <;> cases v <;> simp only at H ⊢
    case none.ip m c o => exact ⟨_, _, ⟨H.1, rfl, rfl⟩, H.2⟩
    case some.ip m c o => exact ⟨_, _, ⟨H.1, rfl, rfl⟩, H.2⟩
    case none.ptr d o => split at H <;> first | exact ⟨_, _, ⟨H.1, rfl, rfl⟩, H.2⟩ | exact H.elim
    case some.ptr d o => split at H <;> first | exact ⟨_, _, ⟨H.1, rfl, rfl⟩, H.2⟩ | exact H.elim
    case none.rp d o => split at H <;> first | exact ⟨_, _, ⟨H.1, H.2.1, H.2.2.1, rfl, rfl⟩, H.2.2.2⟩ | exact H.elim
    case some.rp d o => split at H <;> first | exact ⟨_, _, ⟨H.1, H.2.1, H.2.2.1, rfl, rfl⟩, H.2.2.2⟩ | exact H.elim
  case st m x y =>
    generalize e x = v at H ⊢
    cases v <;> simp only at H ⊢
    case ptr d o => split at H <;> first | exact ⟨_, _, ⟨H.1, H.2.1, rfl, rfl⟩, H.2.2⟩ | exact H.elim
    case rp d sz k o =>
      split at H
      · obtain ⟨h1, h2, h3, h4, h5⟩ := H
        rcases h5 with ⟨a, b, h5⟩ | ⟨a, b, h5⟩
        · exact ⟨_, _, ⟨h1, h2, h3, h4, .inl ⟨a, b, rfl, rfl⟩⟩, h5⟩
        · exact ⟨_, _, ⟨h1, h2, h3, h4, .inr ⟨a, b, rfl, rfl⟩⟩, h5⟩
      · exact H.elim
  case fa x off =>
    generalize e x = v at H ⊢
    cases v <;> simp only at H ⊢ <;> first | exact ⟨_, _, ⟨rfl, rfl⟩, H⟩ | exact H.elim
  case fld x off m =>
    generalize e x = v at H ⊢
    cases v <;> simp only at H ⊢
    case agg n c => cases m <;> simp only at H ⊢ <;> exact ⟨_, _, ⟨H.1, rfl, rfl⟩, H.2⟩
  case ia sz x i =>
    generalize e x = v at H ⊢
    generalize e i = j at H ⊢
    cases j <;> cases v <;> simp only at H ⊢
    · exact ⟨_, _, ⟨H.1, H.2.1, H.2.2.1, H.2.2.2.1, rfl, rfl⟩, H.2.2.2.2⟩
    · exact ⟨_, _, ⟨H.1, H.2.1, rfl, rfl⟩, H.2.2⟩
    · exact ⟨_, _, ⟨H.1, H.2.1, H.2.2.1, rfl, rfl⟩, H.2.2.2⟩
  case slc sz x lo hi =>
    generalize e x = v at H ⊢
    cases v <;> simp only at H ⊢
    case sl z ee n sz' c =>
      obtain ⟨h1, H⟩ := H
      generalize lo.map e = a at H ⊢
      generalize hi.map e = b at H ⊢
      split at H
      · exact ⟨_, _, ⟨h1, rfl, rfl⟩, H⟩
      · exact ⟨_, _, ⟨h1, H.1, H.2.1, rfl, rfl⟩, H.2.2⟩
      · exact ⟨_, _, ⟨h1, H.1, H.2.1, rfl, rfl⟩, H.2.2⟩
      · exact ⟨_, _, ⟨h1, H.1, H.2.1, H.2.2.1, rfl, rfl⟩, H.2.2.2⟩
      · exact H.elim
    case own d n =>
      generalize lo.map e = a at H ⊢
      generalize hi.map e = b at H ⊢
      split at H
      · exact ⟨_, _, ⟨rfl, rfl⟩, H⟩
      · exact ⟨_, _, ⟨H.1, H.2.1, rfl, rfl⟩, H.2.2⟩
      · exact ⟨_, _, ⟨H.1, H.2.1, rfl, rfl⟩, H.2.2⟩
      · exact H.elim
    case osl d sz' l0 n =>
      obtain ⟨h1, H⟩ := H
      generalize lo.map e = a at H ⊢
      generalize hi.map e = b at H ⊢
      split at H
      · exact ⟨_, _, ⟨h1, H.1, H.2.1, rfl, rfl⟩, H.2.2⟩
      · exact H.elim
  case bin op x y =>
    obtain ⟨r, h1, h2⟩ := abin_one H
    exact ⟨r, h, by simpa using h1, h2⟩
  case binb neg x y =>
    generalize e x = v at H ⊢
    generalize e y = u at H ⊢
    cases v <;> cases u <;> simp only at H ⊢ <;> exact ⟨_, _, ⟨rfl, rfl⟩, H⟩
  case eqz tag neg x y =>
    obtain ⟨r, h1, h2⟩ := aeqz_one H
    refine ⟨_, h, ?_, h2⟩
    have : ∀ {K K' : Bool → Prop} (x y : AV), (∀ b, K b → K' b) → aeqz tag x y K → aeqz tag x y K' := fun x y hk hh => by
      unfold aeqz at hh ⊢
      split at hh <;> first | exact hk _ hh | exact hh.elim
    exact this _ _ (fun b hb => by rw [hb]; exact ⟨rfl, rfl⟩) h1
  case eqa m neg x y =>
    generalize e x = v at H ⊢
    generalize e y = u at H ⊢
    cases v <;> cases u <;> simp only at H ⊢
    obtain ⟨q, h1, k1⟩ := eqcs_one H.2.2
    exact ⟨_, _, ⟨H.1, H.2.1, k1 _ ⟨rfl, rfl⟩⟩, h1⟩
  case clr sz x =>
    generalize e x = v at H ⊢
    cases v <;> simp only at H ⊢
    split at H
    · exact ⟨_, _, ⟨H.1, H.2.1, H.2.2.1, rfl, rfl⟩, H.2.2.2⟩
    · exact H.elim
  case un op x =>
    generalize e x = v at H ⊢
    cases op <;> cases v <;> simp only at H ⊢ <;> first | exact ⟨_, _, ⟨rfl, rfl⟩, H⟩ | exact H.elim
  case conv k x =>
    generalize e x = v at H ⊢
    cases v <;> simp only at H ⊢ <;> first | exact ⟨_, _, ⟨rfl, rfl⟩, H⟩ | exact H.elim
  case mkf => exact ⟨_, _, ⟨rfl, rfl⟩, H⟩
  case msl sz bytes zs x y =>
    generalize e x = v at H ⊢
    generalize e y = u at H ⊢
    split at H
    · exact ⟨_, _, ⟨H.1, H.2.1, H.2.2.1, H.2.2.2.1, H.2.2.2.2.1, rfl, rfl⟩, H.2.2.2.2.2⟩
    · exact H.elim
  case len x =>
    generalize e x = v at H ⊢
    cases v <;> simp only at H ⊢ <;> first | exact ⟨_, _, ⟨rfl, rfl⟩, H⟩ | exact H.elim
  case app sz bytes x y =>
    obtain ⟨h0, H⟩ := H
    obtain ⟨m, c', hs, H⟩ := asrc_e H
    generalize e x = v at H ⊢
    cases v <;> simp only at H ⊢ <;> try exact H.elim
    case sl z ee n sz2 c =>
      obtain ⟨h2, h3, h4, h5⟩ := H
      by_cases hm : m = 0
      · exact ⟨_, _, ⟨h0, asrc_i hs ⟨h2, h3, fun _ => ⟨rfl, rfl⟩, fun h => by omega⟩⟩, h4 hm⟩
      · exact ⟨_, _, ⟨h0, asrc_i hs ⟨h2, h3, fun h => by omega, fun _ => ⟨(h5 (by omega)).1, (h5 (by omega)).2.1, rfl, rfl⟩⟩⟩, (h5 (by omega)).2.2⟩
    case own d n =>
      split at H
      · rename_i n' sz2 c hd
        exact ⟨_, _, ⟨h0, asrc_i hs (by simp only; exact ⟨H.1, H.2.1, H.2.2.1, H.2.2.2.1, trivial, trivial⟩)⟩, H.2.2.2.2⟩
      · exact H.elim
  case mx x y =>
    generalize e x = v at H ⊢
    generalize e y = u at H ⊢
    cases v <;> cases u <;> simp only at H ⊢ <;> exact ⟨_, _, ⟨rfl, rfl⟩, H⟩
  case mn x y =>
    generalize e x = v at H ⊢
    generalize e y = u at H ⊢
    cases v <;> cases u <;> simp only at H ⊢ <;> exact ⟨_, _, ⟨rfl, rfl⟩, H⟩
  case ext x i =>
    generalize e x = v at H ⊢
    cases v <;> simp only at H ⊢
    exact ⟨_, _, ⟨H.1, rfl, rfl⟩, H.2⟩
end Go.Proofs.Ytomkjfhepfinhaa
