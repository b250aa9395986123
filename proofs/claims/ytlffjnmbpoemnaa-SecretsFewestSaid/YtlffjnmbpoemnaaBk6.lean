/- The reading in a form that computes: what is to be shown stands behind names at which the computing stops / Words for the steps of a reading / Calls that are given blocks of the caller / A block of the call's own that is handed on for good: from the call on nobody writes it, and what comes back may keep it / Bits of numbers that are not below zero / Words that find their own proofs / Secrets: sheets and masks as plain data -/
import Derived.Test.YtlffjnmbpoemnaaBk5
import Derived.IntWalk
set_option linter.unusedSimpArgs false
set_option linter.unusedVariables false
namespace Go.Proofs.Ytlffjnmbpoemnaa
open Go.RowKit

/-- Two ways. -/
inductive FCond (q : Bool) (A B : Prop) : Prop
  | t (h : q = true) (a : A)
  | f (h : q = false) (b : B)
/-- A condition, and the rest. -/
structure Need (p K : Prop) : Prop where
  a : p
  b : K
/-- A sum that may wrap. -/
structure Fits (k : IntKind) (n : Int) (K : Int → Prop) : Prop where
  h : K (k.wrap n)
/-- An index. -/
structure FIdx (j : Int) (n : Nat) (K : Nat → Prop) : Prop where
  a : 0 ≤ j ∧ j < n
  h : K j.toNat
/-- A bound of a part of a slice. -/
structure FTo (j : Int) (n : Nat) (K : Nat → Prop) : Prop where
  a : 0 ≤ j ∧ j ≤ n
  h : K j.toNat
/-- A bit operation, or a shift. -/
def rawBit (op : BinOp) (k : IntKind) (x y : Int) : Int := match op with
  | .and => k.wrap (BitVec.ofInt k.bits x &&& BitVec.ofInt k.bits y).toNat
  | .or => k.wrap (BitVec.ofInt k.bits x ||| BitVec.ofInt k.bits y).toNat
  | .xor => k.wrap (BitVec.ofInt k.bits x ^^^ BitVec.ofInt k.bits y).toNat
  | .andNot => k.wrap (BitVec.ofInt k.bits x &&& ~~~ BitVec.ofInt k.bits y).toNat
  | .shl => k.wrap (x * 2 ^ (min y.toNat k.bits))
  | .shr => x.fdiv (2 ^ (min y.toNat k.bits))
  | _ => 0
structure FBit (op : BinOp) (k : IntKind) (x y : Int) (K : Int → Prop) : Prop where
  h : K (rawBit op k x y)
/-- A look into a map. -/
structure FLook (o : Option AV) (A : AV → Prop) (B : Prop) : Prop where
  s : ∀ v, o = some v → A v
  n : o = none → B
structure FLookI (L : List (List Int × AV)) (l : List Int) (A : Nat → AV → Prop) (B : Prop) : Prop where
  s : ∀ i v, aidx L l = some i → (L.getD i default).2 = v → A i v
  n : aidx L l = none → B
/-- Two orders. -/
structure FAlt (A B : Prop) : Prop where
  a : A
  b : B
structure FNext (n : Nat) (seen : List Nat) (A : Prop) (B : Nat → Prop) : Prop where
  e : seen.length = n → A
  s : ∀ i, i < n → i ∉ seen → B i
structure FEnt (p : List Int × AV) (K : List Int × AV → Prop) : Prop where
  h : K p
structure FLast (seen : List Nat) (K : Nat → Prop) : Prop where
  h : ∃ i, seen.getLast? = some i ∧ K i
structure FCall (C : CallP) (f : FuncId) (xs : List AV) (h : List AB) (K : AV → List AB → Prop) : Prop where
  h : C f xs h K
structure Same (a b : AV) : Prop where
  h : a = b
structure Fin (K : AV → List AB → Prop) (r : AV) (h : List AB) : Prop where
  h : K r h
inductive FApp (A B : Prop) : Prop
  | grow (a : A)
  | share (b : B)
/-- A literal that holds own rows: they are let go, to be read only; or kept, and the literal is an own row. -/
inductive FOr (A B : Prop) : Prop
  | pub (a : A)
  | keep (b : B)

theorem FCond.i {q : Bool} {A B : Prop} (h1 : q = true → A) (h2 : q = false → B) : FCond q A B := by
  cases q
  · exact .f rfl (h2 rfl)
  · exact .t rfl (h1 rfl)
theorem FCond.ac {q : Bool} {A B : Prop} (h : FCond q A B) : acond q A B := by
  cases h with
  | t h a => subst h; exact a
  | f h b => subst h; exact b
theorem FIdx.nat {k n : Nat} {K : Nat → Prop} (hk : k < n) (h : K k) : FIdx (k : Int) n K := ⟨⟨by omega, by omega⟩, by simpa using h⟩
theorem FTo.nat {k n : Nat} {K : Nat → Prop} (hk : k ≤ n) (h : K k) : FTo (k : Int) n K := ⟨⟨by omega, by omega⟩, by simpa using h⟩

def cnd (b : Bool) (K : Prop) : Prop := match b with
  | true => K
  | false => False
theorem cnd_e {b : Bool} {K : Prop} (h : cnd b K) : b = true ∧ K := by
  cases b
  · exact h.elim
  · exact ⟨rfl, h⟩
/-- A value is computed before one goes on. -/
def frc (v : AV) (K : AV → Prop) : Prop := match v with
  | .bot => K .bot
  | .int k n => K (.int k n)
  | .bool b => K (.bool b)
  | .nilp => K .nilp
  | .nilf => K .nilf
  | .sl z e n sz c => K (.sl z e n sz c)
  | .ip m c o => K (.ip m c o)
  | .own d n => K (.own d n)
  | .ptr d o => K (.ptr d o)
  | .rp d sz k o => K (.rp d sz k o)
  | .osl d sz lo n => K (.osl d sz lo n)
  | .mpv d => K (.mpv d)
  | .mv f m c => K (.mv f m c)
  | .fn f m c => K (.fn f m c)
  | .agg m c => K (.agg m c)
  | .tup m c => K (.tup m c)
theorem frc_e {v : AV} {K : AV → Prop} (h : frc v K) : K v := by cases v <;> exact h
def frcs (vs : List AV) (K : List AV → Prop) : Prop := match vs with
  | [] => K []
  | v :: vs => frc v fun v => frcs vs fun vs => K (v :: vs)
theorem frcs_e : ∀ {vs : List AV} {K : List AV → Prop}, frcs vs K → K vs
  | [], _, h => h
  | _ :: vs, K, h => by
    simp only [frcs] at h
    exact frcs_e (vs := vs) (K := fun l => K (_ :: l)) (frc_e h)
def frcT (m : Nat) (f : Nat → AV) (K : (Nat → AV) → Prop) : Prop := frcs ((List.range m).map f) fun vs => K (ofL vs)
theorem frcT_e {m : Nat} {f : Nat → AV} {K : (Nat → AV) → Prop} (h : frcT m f K) : K (tab m f) := frcs_e (K := fun vs => K (ofL vs)) h
/-- A small number is computed before one goes on; a list's spine. -/
def nlit (n : Nat) (K : Nat → Prop) : Prop := match n with
  | 0 => K 0
  | 1 => K 1
  | 2 => K 2
  | 3 => K 3
  | 4 => K 4
  | 5 => K 5
  | 6 => K 6
  | 7 => K 7
  | 8 => K 8
  | 9 => K 9
  | 10 => K 10
  | 11 => K 11
  | 12 => K 12
  | 13 => K 13
  | 14 => K 14
  | 15 => K 15
  | 16 => K 16
  | n => K n
theorem nlit_e {n : Nat} {K : Nat → Prop} (h : nlit n K) : K n := by
  unfold nlit at h
  split at h <;> exact h
def frcH (h : List AB) (K : List AB → Prop) : Prop := match h with
  | [] => K []
  | x :: xs => frcH xs fun xs => K (x :: xs)
theorem frcH_e : ∀ {h : List AB} {K : List AB → Prop}, frcH h K → K h
  | [], _, h => h
  | _ :: xs, K, h => frcH_e (h := xs) (K := fun l => K (_ :: l)) h
def elemB (sz : Nat) (v : AV) : Bool := match v with
  | .agg m _ => m == sz
  | v => v.one && sz == 1
theorem elemB_ok {sz : Nat} {v : AV} (h : elemB sz v = true) : elemOK sz v := by
  cases v <;> simp only [elemB, Bool.and_eq_true, beq_iff_eq] at h <;> exact h
def fbin (op : BinOp) (k : IntKind) (x y : Int) (K : AV → Prop) : Prop :=
  match op with
  | .add => Fits k (x + y) (fun z => K (.int k z))
  | .sub => Fits k (x - y) (fun z => K (.int k z))
  | .mul => Fits k (x * y) (fun z => K (.int k z))
  | .quo => Need (y ≠ 0) (Fits k (x.tdiv y) (fun z => K (.int k z)))
  | .rem => Need (y ≠ 0) (K (.int k (x.tmod y)))
  | .shl => Need (0 ≤ y) (FBit .shl k x y (fun z => K (.int k z)))
  | .shr => Need (0 ≤ y) (FBit .shr k x y (fun z => K (.int k z)))
  | .and => FBit .and k x y (fun z => K (.int k z))
  | .or => FBit .or k x y (fun z => K (.int k z))
  | .xor => FBit .xor k x y (fun z => K (.int k z))
  | .andNot => FBit .andNot k x y (fun z => K (.int k z))
  | op => ibin op k x y K
def frcPs (e : AX → AV) (ps : List (Nat × AX)) (K : List (Nat × AV) → Prop) : Prop := match ps with
  | [] => K []
  | (i, x) :: ps => frc (e x) fun v => frcPs e ps fun l => K ((i, v) :: l)
theorem frcPs_e {e : AX → AV} : ∀ {ps : List (Nat × AX)} {K : List (Nat × AV) → Prop}, frcPs e ps K → K (ps.map fun p => (p.1, e p.2))
  | [], _, h => h
  | (i, x) :: ps, K, h => frcPs_e (ps := ps) (K := fun l => K ((i, e x) :: l)) (frc_e (K := fun v => frcPs e ps fun l => K ((i, v) :: l)) h)
def fpub (h : List AB) (v : AV) (K : AV → List AB → Prop) : Prop :=
  match v with
  | .own d n => (match h[d]? with
    | some (.row N sz c) => Need (n ≤ N) (frcH (h.set d .dead) fun h' => K (.sl false false n sz c) h')
    | _ => False)
  | .ptr d o => (match h[d]? with
    | some (.box m c) => cnd ((List.range m).all fun i => (c i).pureB) (frcH (h.set d .dead) fun h' => K (.ip m c o) h')
    | _ => False)
  | v => frc v fun v => cnd v.pureB (K v h)
def fpubs (e : AX → AV) (ps : List (Nat × AX)) (h : List AB) (K : List (Nat × AV) → List AB → Prop) : Prop :=
  match ps with
  | [] => K [] h
  | (i, x) :: ps => fpub h (e x) (fun v h' => fpubs e ps h' (fun l h'' => K ((i, v) :: l) h''))
theorem fpub_ok {h : List AB} {v : AV} {K : AV → List AB → Prop} (H : fpub h v K) : apub h v K := by
  cases v
  case own d n =>
    simp only [fpub, apub] at H ⊢
    split at H
    · rename_i hd
      rw [hd]
      exact ⟨H.a, frcH_e H.b⟩
    · exact H.elim
  case ptr d o =>
    simp only [fpub, apub] at H ⊢
    split at H
    · rename_i m c hd
      rw [hd]
      obtain ⟨h1, h2⟩ := cnd_e H
      exact ⟨fun i hi => pureB_ok _ (by simp only [List.all_eq_true, List.mem_range] at h1; exact h1 i hi), frcH_e h2⟩
    · exact H.elim
  all_goals
    simp only [fpub] at H
    have H2 := frc_e H
    obtain ⟨h1, h2⟩ := cnd_e H2
    exact ⟨pureB_ok _ h1, h2⟩
theorem fpubs_ok {e : AX → AV} : ∀ {ps : List (Nat × AX)} {h : List AB} {K K' : List (Nat × AV) → List AB → Prop}, (∀ l h, K l h → K' l h) → fpubs e ps h K → apubs e ps h K'
  | [], _, _, _, hk, H => hk _ _ H
  | (i, x) :: ps, h, K, K', hk, H => by
    obtain ⟨v, h1, H1, k1⟩ := apub_one (fpub_ok H)
    exact k1 _ (fpubs_ok (fun l h hh => hk _ _ hh) H1)
def fsrc (sz : Nat) (h : List AB) (y : AV) (K : Bool → Nat → (Nat → Nat → AV) → Prop) : Prop :=
  match y with
  | .sl _ _ m sz' c' => Need (sz' = sz ∨ m = 0) (K false m c')
  | .own d m => (match h[d]? with
    | some (.row N sz' c') => cnd (sz' == sz) (Need (m ≤ N) (K false m c'))
    | some (.rwg N sz' c') => cnd (sz' == sz) (Need (m ≤ N) (K true m c'))
    | _ => False)
  | _ => False
theorem fsrc_e {sz : Nat} {h : List AB} {y : AV} {K : Bool → Nat → (Nat → Nat → AV) → Prop} (H : fsrc sz h y K) : ∃ q m c', Src q sz h y m c' ∧ K q m c' := by
  unfold fsrc at H
  split at H
  · exact ⟨_, _, _, .inl ⟨_, _, _, rfl, rfl, H.a⟩, H.b⟩
  · split at H
    · rename_i hd
      obtain ⟨h1, h2⟩ := cnd_e H
      simp only [beq_iff_eq] at h1
      subst h1
      exact ⟨false, _, _, .inr ⟨_, _, rfl, hd, h2.a⟩, h2.b⟩
    · rename_i hd
      obtain ⟨h1, h2⟩ := cnd_e H
      simp only [beq_iff_eq] at h1
      subst h1
      exact ⟨true, _, _, .inr ⟨_, _, rfl, hd, h2.a⟩, h2.b⟩
    · exact H.elim
  · exact H.elim
/-- A row of the one kind or of the other, computed before one goes on. -/
def frw (q : Bool) (n sz : Nat) (c : Nat → Nat → AV) (K : AB → Prop) : Prop := match q with
  | false => K (.row n sz c)
  | true => K (.rwg n sz c)
theorem frw_e {q : Bool} {n sz : Nat} {c : Nat → Nat → AV} {K : AB → Prop} (h : frw q n sz c K) : K (.rw q n sz c) := by cases q <;> exact h
def fcellL : List AV → (List Int → Prop) → Prop
  | [], K => K []
  | v :: vs, K => match v with
    | .int .i64 a => Need (in64 a) (fcellL vs fun l => K (a :: l))
    | _ => False
def fkey (kt : Nat) (v : AV) (K : List Int → Prop) : Prop :=
  match kt, v with
  | 0, .int .i64 a => Need (in64 a) (K [a])
  | n + 1, .agg m c => cnd (m == n + 1) (fcellL ((List.range m).map c) K)
  | _, _ => False
theorem fcellL_e : ∀ {vs : List AV} {K : List Int → Prop}, fcellL vs K → ∃ l, K l ∧ vs = l.map (AV.int .i64) ∧ ∀ a ∈ l, in64 a
  | [], K, H => ⟨[], H, rfl, fun a ha => by cases ha⟩
  | v :: vs, K, H => by
    unfold fcellL at H
    split at H
    · obtain ⟨l, h1, h2, h3⟩ := fcellL_e H.b
      refine ⟨_, h1, by rw [h2]; rfl, fun a ha => ?_⟩
      rcases List.mem_cons.1 ha with rfl | ha
      · exact H.a
      · exact h3 a ha
    · exact H.elim
theorem acell_of {c : Nat → AV} {l : List Int} : ∀ {m : Nat} {K : List Int → Prop}, (∀ i, i < m → c i = .int .i64 (l.getD i 0)) → m ≤ l.length → K (l.take m) → acell c m K
  | 0, K, _, _, h => by simpa [acell] using h
  | m + 1, K, hc, hm, h => by
    simp only [acell, hc m (by omega)]
    refine acell_of (fun i hi => hc i (by omega)) (by omega) ?_
    have : l.take m ++ [l.getD m 0] = l.take (m + 1) := by
      rw [List.take_add_one, List.getElem?_eq_getElem (by omega)]; simp [List.getD, List.getElem?_eq_getElem (show m < l.length by omega)]
    simp only [this]; exact h
theorem fkey_ok {kt : Nat} {v : AV} {K : List Int → Prop} (H : fkey kt v K) : akey kt v K := by
  unfold fkey at H
  unfold akey
  split at H
  · exact ⟨H.a, H.b⟩
  · rename_i n m c
    obtain ⟨h1, h2⟩ := cnd_e H
    have h1 : m = n + 1 := by simpa using h1
    obtain ⟨l, k1, k2, k3⟩ := fcellL_e h2
    have hl : l.length = m := by simpa using (congrArg List.length k2).symm
    refine ⟨h1, acell_of (l := l) (fun i hi => ?_) (by omega) (by rw [List.take_of_length_le (by omega)]; exact ⟨k3, k1⟩)⟩
    have := congrArg (fun L => L[i]?) k2
    simp only [List.getElem?_map, List.getElem?_range hi, Option.map_some, List.getElem?_eq_getElem (show i < l.length by omega)] at this
    injection this with this
    rw [this]; simp [List.getD, List.getElem?_eq_getElem (show i < l.length by omega)]
  · exact H.elim
def fdst (sz : Nat) (x : AV) (K : Nat → Nat → Nat → Prop) : Prop :=
  match x with
  | .own d n => K d 0 n
  | .osl d sz' lo n => cnd (sz' == sz) (K d lo n)
  | _ => False
def fxop (X : XOp) (e : AX → AV) (h : List AB) (K : AV → List AB → Prop) : Prop :=
  match X with
  | .mkm kt => nlit h.length fun d => frcH (h ++ [.mp kt []]) fun h' => K (.mpv d) h'
  | .ins kt m k v => match e m with
    | .mpv d => (match h[d]? with
      | some (.mp kt' L) => frc (e v) fun v => cnd (kt' == kt && v.pureB) (fkey kt (e k) fun l => frcH (h.set d (.mp kt (aput L l v))) (K und))
      | _ => False)
    | _ => False
  | .lkp kt ok z m k => match e m with
    | .mpv d => (match h[d]? with
      | some (.mp kt' L) => cnd (kt' == kt) (fkey kt (e k) fun l => FLook (alook L l) (fun v => match ok with
          | true => K (.tup 2 (ofL [v, .bool true])) h
          | false => K v h) (match ok with
          | true => K (.tup 2 (ofL [z, .bool false])) h
          | false => K z h))
      | _ => False)
    | _ => False
  | .mlen m => match e m with
    | .mpv d => (match h[d]? with
      | some (.mp _ L) => K (.int .i64 L.length) h
      | _ => False)
    | _ => False
  | .rng m => match e m with
    | .mpv d => (match h[d]? with
      | some (.mp _ L) => nlit h.length fun d' => frcH (h ++ [.mit (.mpv d) L.length []]) fun h' => K (.ptr d' 0) h'
      | _ => False)
    | _ => False
  | .ment kt z m k => match e m with
    | .mpv d => (match h[d]? with
      | some (.mp kt' L) => cnd (kt' == kt && z.pureB) (fkey kt (e k) fun l => FLookI L l (fun i v => K (.tup 2 (ofL [v, .int .i64 i])) h) (frcH (h.set d (.mp kt (L ++ [(l, z)]))) (K (.tup 2 (ofL [z, .int .i64 L.length])))))
      | _ => False)
    | _ => False
  | .est m s v => match e m, e s with
    | .mpv d, .int .i64 i => (match h[d]? with
      | some (.mp kt L) => frc (e v) fun v => cnd v.pureB (FIdx i L.length fun i => frcH (h.set d (.mp kt (L.set i ((L.getD i default).1, v)))) (K und))
      | _ => False)
    | _, _ => False
  | .mmv f xs => cnd (xs.all fun x => (e x).pureB) (frcs (xs.map e) fun vs => K (.mv f xs.length (ofL vs)) h)
  | .cpy sz x y => cnd (decide (0 < sz)) (fdst sz (e x) fun d lo n => fsrc sz h (e y) fun q m c' => match h[d]? with
    | some (.row N sz2 c) => cnd (!q && sz2 == sz) (Need (lo + n ≤ N) (frcH (h.set d (.row N sz (cpc lo (min m n) c c'))) (K (.int .i64 (min m n : Nat)))))
    | _ => False)
  | .boxr n sz z => nlit h.length fun d => frcH (h ++ [.row n sz fun _ _ => z]) fun h' => K (.rp d sz 0 0) h'
  | .iaa n sz x i => match e i, e x with
    | .int _ j, .rp d sz' k o => cnd (sz' == sz && k == 0 && o == 0) (FIdx j n fun j => K (.rp d sz j 0) h)
    | .int _ j, .ptr d o => FIdx j n fun j => nlit (o + j * sz) fun o' => K (.ptr d o') h
    | .int _ j, .ip m c o => FIdx j n fun j => nlit (o + j * sz) fun o' => K (.ip m c o') h
    | _, _ => False
  | .idx n sz m x i => match e i, e x with
    | .int _ j, .agg N c => cnd (decide (n * sz ≤ N) && decide (0 < sz)) (FIdx j n fun j => match m with
      | none => frc (c (j * sz)) fun v => K v h
      | some m' => cnd (m' == sz) (frcT m' (fun i => c (j * sz + i)) fun c => K (.agg m' c) h))
    | _, _ => False
  | .ent x => match e x with
    | .ptr d 0 => (match h[d]? with
      | some (.mit (.mpv d2) n seen) => (match h[d2]? with
        | some (.mp kt L) => Need (L.length = n) (FLast seen fun i => FEnt (L.getD i default) fun p => frc (keyA kt p.1) fun kv => K (.tup 2 (ofL [kv, p.2])) h)
        | _ => False)
      | _ => False)
    | _ => False
def fnext (it : AV) (h : List AB) (K : AV → List AB → Prop) : Prop :=
  match it with
  | .ptr d 0 => (match h[d]? with
    | some (.mit (.mpv d2) n seen) => (match h[d2]? with
      | some (.mp kt L) => Need (L.length = n) (FNext n seen (K (.tup 1 (ofL [.bool false])) h) fun i => FEnt (L.getD i default) fun p => frc (keyA kt p.1) fun kv => frcH (h.set d (.mit (.mpv d2) n (seen ++ [i]))) fun h' => K (.tup 3 (ofL [.bool true, kv, p.2])) h')
      | _ => False)
    | _ => False)
  | _ => False
theorem fnext_ok {it : AV} {h : List AB} {K : AV → List AB → Prop} (H : fnext it h K) : anext it h K := by
  unfold fnext at H
  unfold anext
  split at H
  · split at H
    · rename_i hd
      split at H
      · rename_i hd2
        simp only [hd, hd2]
        exact ⟨H.a, H.b.e, fun i hi hn => frcH_e (frc_e (H.b.s i hi hn).h)⟩
      · exact H.elim
    · exact H.elim
  · exact H.elim
theorem fxop_ok {X : XOp} {e : AX → AV} {h : List AB} {K : AV → List AB → Prop} (H : fxop X e h K) : xop X e h K := by
  cases X <;> simp only [fxop, xop] at H ⊢
  case mkm => exact frcH_e (nlit_e H)
  case boxr => exact frcH_e (nlit_e H)
  case cpy sz x y =>
    obtain ⟨h1, H⟩ := cnd_e H
    refine ⟨by simpa using h1, ?_⟩
    have key : ∀ d lo n, (fsrc sz h (e y) fun q m c' => match h[d]? with
        | some (AB.row N sz2 c) => cnd (!q && sz2 == sz) (Need (lo + n ≤ N) (frcH (h.set d (.row N sz (cpc lo (min m n) c c'))) (K (.int .i64 (min m n : Nat)))))
        | _ => False) → asrc sz h (e y) fun q m c' => match h[d]? with
        | some (AB.row N sz2 c) => q = false ∧ sz2 = sz ∧ lo + n ≤ N ∧ K (.int .i64 (min m n : Nat)) (h.set d (.row N sz (cpc lo (min m n) c c')))
        | _ => False := fun d lo n H => by
      obtain ⟨q, m, c', hs, H⟩ := fsrc_e H
      refine asrc_i hs ?_
      split at H
      · obtain ⟨a, b⟩ := cnd_e H
        simp only [Bool.and_eq_true, Bool.not_eq_true', beq_iff_eq] at a
        exact ⟨a.1, a.2, b.a, frcH_e b.b⟩
      · exact H.elim
    unfold fdst at H
    unfold adst
    split at H
    · rename_i hx; simp only [hx]; exact key _ _ _ H
    · rename_i hx
      obtain ⟨a, b⟩ := cnd_e H
      simp only [hx]
      exact ⟨by simpa using a, key _ _ _ b⟩
    · exact H.elim
  case mmv f xs =>
    obtain ⟨h1, h2⟩ := cnd_e H
    simp only [List.all_eq_true] at h1
    exact ⟨fun x hx => pureB_ok _ (h1 x hx), frcs_e (K := fun vs => K (.mv f xs.length (ofL vs)) h) h2⟩
  case ins =>
    split at H
    · rename_i hm
      split at H
      · rename_i hd
        have H := frc_e H
        obtain ⟨h1, h2⟩ := cnd_e H
        simp only [Bool.and_eq_true, beq_iff_eq] at h1
        simp only [hm, hd]
        refine ⟨h1.1, pureB_ok _ h1.2, ?_⟩
        obtain ⟨l, k1, _, _, k2⟩ := akey_one (fkey_ok h2)
        exact k2 _ (frcH_e k1)
      · exact H.elim
    · exact H.elim
  case lkp kt ok z m k =>
    split at H
    · rename_i hm
      split at H
      · rename_i kt' L hd
        obtain ⟨h1, h2⟩ := cnd_e H
        simp only [hm, hd]
        refine ⟨by simpa using h1, ?_⟩
        obtain ⟨l, k1, _, _, k2⟩ := akey_one (fkey_ok h2)
        refine k2 _ ?_
        cases ho : alook L l with
        | none => have := k1.n ho; cases ok <;> exact this
        | some v => have := k1.s v ho; cases ok <;> exact this
      · exact H.elim
    · exact H.elim
  case mlen => exact H
  case rng =>
    split at H
    · rename_i hm
      split at H
      · rename_i hd
        simp only [hm, hd]
        exact frcH_e (nlit_e H)
      · exact H.elim
    · exact H.elim
  case ment =>
    split at H
    · rename_i hm
      split at H
      · rename_i kt' L hd
        obtain ⟨h1, h2⟩ := cnd_e H
        simp only [Bool.and_eq_true, beq_iff_eq] at h1
        simp only [hm, hd]
        refine ⟨h1.1, pureB_ok _ h1.2, ?_⟩
        obtain ⟨l, k1, _, _, k2⟩ := akey_one (fkey_ok h2)
        refine k2 _ ?_
        cases ho : aidx L l with
        | none => exact frcH_e (k1.n ho)
        | some i => exact k1.s i _ ho rfl
      · exact H.elim
    · exact H.elim
  case est =>
    split at H
    · rename_i hm hs
      split at H
      · rename_i hd
        have H := frc_e H
        obtain ⟨h1, h2⟩ := cnd_e H
        simp only [hm, hs, hd]
        exact ⟨h2.a.1, h2.a.2, pureB_ok _ h1, frcH_e h2.h⟩
      · exact H.elim
    · exact H.elim
  case iaa =>
    split at H
    · rename_i hi hx
      obtain ⟨h1, h2⟩ := cnd_e H
      simp only [Bool.and_eq_true, beq_iff_eq] at h1
      simp only [hi, hx]
      exact ⟨h1.1.1, h1.1.2, h1.2, h2.a.1, h2.a.2, h2.h⟩
    · rename_i hi hx
      simp only [hi, hx]
      exact ⟨H.a.1, H.a.2, nlit_e H.h⟩
    · rename_i hi hx
      simp only [hi, hx]
      exact ⟨H.a.1, H.a.2, nlit_e H.h⟩
    · exact H.elim
  case idx n sz m x i =>
    split at H
    · rename_i hi hx
      obtain ⟨h1, h2⟩ := cnd_e H
      simp only [Bool.and_eq_true, decide_eq_true_eq] at h1
      simp only [hi, hx]
      refine ⟨h2.a.1, h2.a.2, h1.1, h1.2, ?_⟩
      have h3 := h2.h
      cases m with
      | none => exact frc_e h3
      | some m' =>
        obtain ⟨a, b⟩ := cnd_e h3
        exact ⟨by simpa using a, frcT_e b⟩
    · exact H.elim
  case ent =>
    split at H
    · rename_i hx
      split at H
      · rename_i hd
        split at H
        · rename_i hd2
          obtain ⟨i, h1, h2⟩ := H.b.h
          simp only [hx, hd, hd2, h1]
          exact ⟨H.a, frc_e h2.h⟩
        · exact H.elim
      · exact H.elim
    · exact H.elim
def fop (o : AOp) (e : AX → AV) (h : List AB) (K : AV → List AB → Prop) : Prop :=
  match o with
  | .mv x => frc (e x) fun v => K v h
  | .box x => match e x with
    | .agg m c => nlit h.length fun d => frcH (h ++ [.box m c]) fun h' => K (.ptr d 0) h'
    | .bot => False
    | .tup .. => False
    | v => nlit h.length fun d => frcH (h ++ [.box 1 (ofL [v])]) fun h' => K (.ptr d 0) h'
  | .fa x off => match e x with
    | .ptr d o => nlit (o + off) fun o' => K (.ptr d o') h
    | .rp d sz k o => nlit (o + off) fun o' => K (.rp d sz k o') h
    | .ip m c o => nlit (o + off) fun o' => K (.ip m c o') h
    | _ => False
  | .pick c a b => match e c with
    | .bool q => FCond q (frc (e a) fun v => K v h) (frc (e b) fun v => K v h)
    | _ => False
  | .build zs ps => cnd (ps.all fun p => elemB p.2.1 (e p.2.2) && decide (p.1 + p.2.1 ≤ zs.length)) (frcT zs.length (buildC (ofL zs) (ps.map fun p => (p.1, p.2.1, e p.2.2))) fun c => K (.agg zs.length c) h)
  | .bsl n sz zs ps => cnd (ps.all fun p => elemB sz (e p.2) && (e p.2).pureB && decide (p.1 < n)) (frcPs e ps fun es => K (.sl false true n sz (bslC (fun _ => ofL zs) es)) h)
  | .bslp n sz zs ps => match ps.all fun p => (e p.2).pureB with
    | true => fpubs e ps h (fun es h' => cnd (es.all fun p => elemB sz p.2 && decide (p.1 < n)) (K (.sl false true n sz (bslC (fun _ => ofL zs) es)) h'))
    | false => FOr (fpubs e ps h (fun es h' => cnd (es.all fun p => elemB sz p.2 && decide (p.1 < n)) (K (.sl false true n sz (bslC (fun _ => ofL zs) es)) h')))
      (cnd (ps.all fun p => elemB sz (e p.2) && decide (p.1 < n)) (frcPs e ps fun es => nlit h.length fun d => frcH (h ++ [.rwg n sz (bslC (fun _ => ofL zs) es)]) fun h' => K (.own d n) h'))
  | .ld none x => match e x with
    | .ptr d o => (match h[d]? with
      | some (.box m c) => cnd (decide (o < m)) (frc (c o) fun v => K v h)
      | _ => False)
    | .rp d sz k o => (match h[d]? with
      | some (.row n sz' c) => cnd (decide (o < sz) && sz' == sz) (Need (k < n) (frc (c k o) fun v => K v h))
      | some (.rwg n sz' c) => cnd (decide (o < sz) && sz' == sz) (Need (k < n) (frc (c k o) fun v => K v h))
      | _ => False)
    | .ip m c o => cnd (decide (o < m)) (frc (c o) fun v => K v h)
    | _ => False
  | .ld (some m') x => match e x with
    | .ptr d o => (match h[d]? with
      | some (.box m c) => cnd (decide (o + m' ≤ m)) (frcT m' (fun i => c (o + i)) fun c => K (.agg m' c) h)
      | _ => False)
    | .rp d sz k o => (match h[d]? with
      | some (.row n sz' c) => (match sz == 1 && o == 0 with
        | true => cnd (sz' == sz) (Need (k + m' ≤ n) (K (.agg m' (tab m' fun i => c (k + i) 0)) h))
        | false => cnd (decide (o + m' ≤ sz) && sz' == sz) (Need (k < n) (frcT m' (fun i => c k (o + i)) fun c => K (.agg m' c) h)))
      | some (.rwg n sz' c) => cnd (decide (o + m' ≤ sz) && sz' == sz) (Need (k < n) (frcT m' (fun i => c k (o + i)) fun c => K (.agg m' c) h))
      | _ => False)
    | .ip m c o => cnd (decide (o + m' ≤ m)) (frcT m' (fun i => c (o + i)) fun c => K (.agg m' c) h)
    | _ => False
  | .st m x y => match e x with
    | .ptr d o => (match h[d]? with
      | some (.box m' c) => cnd (decide (o + m ≤ m') && elemB m (e y)) (frcT m' (stM c o (elemC (e y)) m) fun c => frcH (h.set d (.box m' c)) (K und))
      | _ => False)
    | .rp d sz k o => (match h[d]? with
      | some (.row n sz' c) => cnd (sz' == sz && elemB m (e y) && (e y).pureB) (Need (k < n) (match m == sz && o == 0 with
        | true => frcH (h.set d (.row n sz (updRm c k (elemC (e y))))) (K und)
        | false => cnd (m == 1 && decide (o < sz)) (frcH (h.set d (.row n sz (updR c k o (elemC (e y) 0)))) (K und))))
      | some (.rwg n sz' c) => cnd (sz' == sz && elemB m (e y)) (Need (k < n) (match m == sz && o == 0 with
        | true => frcH (h.set d (.rwg n sz (updRm c k (elemC (e y))))) (K und)
        | false => cnd (m == 1 && decide (o < sz)) (frcH (h.set d (.rwg n sz (updR c k o (elemC (e y) 0)))) (K und))))
      | _ => False)
    | _ => False
  | .fld x off m => match e x with
    | .agg n c => (match m with
      | none => cnd (decide (off < n)) (frc (c off) fun v => K v h)
      | some m' => cnd (decide (off + m' ≤ n)) (frcT m' (fun i => c (off + i)) fun c => K (.agg m' c) h))
    | _ => False
  | .ia sz x i => match e i, e x with
    | .int _ j, .sl _ _ n sz' c => cnd (sz' == sz && decide (0 < sz)) (FIdx j n fun j => K (.ip sz (c j) 0) h)
    | .int _ j, .own d n => FIdx j n fun j => K (.rp d sz j 0) h
    | .int _ j, .osl d sz' lo n => cnd (sz' == sz) (FIdx j n fun j => K (.rp d sz (lo + j) 0) h)
    | _, _ => False
  | .slc sz x lo hi => match e x with
    | .sl z ee n sz' c => cnd (sz' == sz) (match lo.map e, hi.map e with
      | none, none => K (.sl z false n sz c) h
      | none, some (.int _ b) => FTo b n fun b => K (.sl z false b sz c) h
      | some (.int _ a), none => FTo a n fun a => K (.sl z ee (n - a) sz (fun k => c (k + a))) h
      | some (.int _ a), some (.int _ b) => FTo b n fun b => FTo a b fun a => K (.sl z false (b - a) sz (fun k => c (k + a))) h
      | _, _ => False)
    | .own d n => (match lo.map e, hi.map e with
      | none, none => K (.own d n) h
      | none, some (.int _ b) => FTo b n fun b => K (.own d b) h
      | some (.int _ a), none => FTo a n fun a => K (.osl d sz a (n - a)) h
      | _, _ => False)
    | .osl d sz' l0 n => cnd (sz' == sz) (match lo.map e, hi.map e with
      | some (.int _ a), none => FTo a n fun a => K (.osl d sz (l0 + a) (n - a)) h
      | _, _ => False)
    | _ => False
  | .eqa m neg x y => match e x, e y with
    | .agg m1 c, .agg m2 c' => cnd (m1 == m && m2 == m) (eqcs m c c' m fun b => K (.bool (match neg with | true => !b | false => b)) h)
    | _, _ => False
  | .clr sz x => match e x with
    | .osl d sz' lo _ => (match h[d]? with
      | some (.row N sz2 c) => cnd (sz' == sz && sz2 == sz) (Need (lo ≤ N) (frcH (h.set d (.row lo sz c)) (K und)))
      | _ => False)
    | _ => False
  | .bin op x y => match e x, e y with
    | .int k a, .int k' b => (match op with
      | .shl => fbin .shl k a b (fun v => K v h)
      | .shr => fbin .shr k a b (fun v => K v h)
      | op => cnd (decide (k = k')) (fbin op k a b (fun v => K v h)))
    | _, _ => False
  | .un op x => match op, e x with
    | .not, .bool b => K (.bool !b) h
    | .neg, .int k n => Fits k (0 - n) (fun z => K (.int k z) h)
    | _, _ => False
  | .conv k x => match e x with
    | .int _ n => Fits k n (fun z => K (.int k z) h)
    | _ => False
  | .msl sz bytes zs x y => match e x, e y with
    | .int .i64 n, .int .i64 n' => cnd (zs.length == sz) (Need (0 ≤ n ∧ n ≤ n' ∧ n' ≤ 9223372036854775807 ∧ n' * bytes ≤ 140737488355328) (nlit h.length fun d => frcH (h ++ [.row n.toNat sz fun _ => ofL zs]) fun h' => K (.own d n.toNat) h'))
    | _, _ => False
  | .app sz bytes x y => cnd (decide (0 < sz)) (fsrc sz h (e y) fun q m c' => match e x with
      | .sl z ee n sz2 c => cnd ee (Need ((sz2 = sz ∨ n = 0) ∧ n + m ≤ maxLen ∧ (n + m) * bytes ≤ 140737488355328) (match m with
        | 0 => K (.sl z ee n sz2 c) h
        | m' + 1 => nlit h.length fun d => frw q (n + (m' + 1)) sz (appc n c c') fun x => frcH (h ++ [x]) fun h' => K (.own d (n + (m' + 1))) h'))
      | .own d n => (match h[d]? with
        | some (.row n' sz2 c) => cnd (sz2 == sz) (Need (n + m ≤ maxLen ∧ (n + m) * bytes ≤ 140737488355328) (FApp (Need (n' = n) (nlit h.length fun d' => frw q (n + m) sz (appc n c c') fun x => frcH (h.set d .dead ++ [x]) fun h' => K (.own d' (n + m)) h'))
            (cnd (!q) (Need (n ≤ n') (Need (frcH (h.set d (.row (n + m) sz (appc n c c'))) fun h' => K (.own d (n + m)) h') (nlit h.length fun d' => frcH (h ++ [.row (n + m) sz (appc n c c')]) fun h' => K (.own d' (n + m)) h'))))))
        | some (.rwg n' sz2 c) => cnd (sz2 == sz) (Need (n + m ≤ maxLen ∧ (n + m) * bytes ≤ 140737488355328) (Need (n' = n) (nlit h.length fun d' => frcH (h.set d .dead ++ [.rwg (n + m) sz (appc n c c')]) fun h' => K (.own d' (n + m)) h')))
        | _ => False)
      | .osl d sz3 lo n => (match h[d]? with
        | some (.row n' sz2 c) => cnd (sz2 == sz && sz3 == sz) (Need (lo + n ≤ n' ∧ n + m ≤ maxLen ∧ (n + m) * bytes ≤ 140737488355328) (FApp False
            (cnd (!q) (Need (lo + n ≤ n') (Need (frcH (h.set d (.row (lo + (n + m)) sz (appc (lo + n) c c'))) fun h' => K (.osl d sz lo (n + m)) h') (nlit h.length fun d' => frcH (h ++ [.row (n + m) sz (appc n (fun k => c (lo + k)) c')]) fun h' => K (.own d' (n + m)) h'))))))
        | _ => False)
      | _ => False)
  | .ext x i => match e x with
    | .tup m c => cnd (decide (i < m)) (frc (c i) fun v => K v h)
    | _ => False
  | .xt X => fxop X e h K
  | o => aop o e h K
def fstep (C : CallP) (o : AOp) (e : Env) (h : List AB) (K : AV → List AB → Prop) : Prop :=
  match o with
  | .call f xs => frcs (xs.map (AX.ev e)) fun vs => FCall C f vs h K
  | .calv x xs => match x.ev e with
    | .fn f m c => frcs (xs.map (AX.ev e) ++ (List.range m).map c) fun vs => FCall C f vs h K
    | _ => False
  | .nxt x => fnext (x.ev e) h K
  | o => fop o (AX.ev e) h K

theorem fbin_ok {op : BinOp} {k : IntKind} {x y : Int} {K : AV → Prop} (H : fbin op k x y K) (h1 : op ≠ .shl) (h2 : op ≠ .shr) : ibin op k x y K := by
  cases op <;> simp only [fbin, ibin] at H ⊢ <;> first | exact H.h | exact H | exact ⟨H.a, H.b.h⟩ | exact ⟨H.a, H.b⟩ | exact (h1 rfl).elim | exact (h2 rfl).elim
theorem fop_ok (o : AOp) {e : AX → AV} {h : List AB} {K : AV → List AB → Prop} (H : fop o e h K) : aop o e h K ∨ asplit o e h K := by
  cases o
  case mv x => left; simp only [fop] at H; exact frc_e H
  case xt X => left; exact fxop_ok H
  case box x =>
    left
    simp only [fop, aop] at H ⊢
    generalize e x = v at H ⊢
    cases v <;> simp only at H ⊢ <;> exact frcH_e (nlit_e H)
  case fa x off =>
    left
    simp only [fop, aop] at H ⊢
    generalize e x = v at H ⊢
    cases v <;> simp only at H ⊢ <;> exact nlit_e H
  case pick c a b =>
    left
    simp only [fop, aop] at H ⊢
    generalize e c = v at H ⊢
    cases v <;> simp only at H ⊢
    exact FCond.ac (match H with
      | .t h a => .t h (frc_e a)
      | .f h a => .f h (frc_e a))
  case build zs ps =>
    left
    simp only [fop, aop] at H ⊢
    obtain ⟨h1, h2⟩ := cnd_e H
    simp only [List.all_eq_true, Bool.and_eq_true, decide_eq_true_eq] at h1
    exact ⟨fun p hp => elemB_ok (h1 p hp).1, fun p hp => (h1 p hp).2, frcT_e h2⟩
  case bsl n sz zs ps =>
    left
    simp only [fop, aop] at H ⊢
    obtain ⟨h1, h2⟩ := cnd_e H
    simp only [List.all_eq_true, Bool.and_eq_true, decide_eq_true_eq] at h1
    exact ⟨fun p hp => ⟨elemB_ok (h1 p hp).1.1, pureB_ok _ (h1 p hp).1.2⟩, fun p hp => (h1 p hp).2, frcPs_e (K := fun es => K (.sl false true n sz (bslC (fun _ => ofL zs) es)) h) h2⟩
  case bslp n sz zs ps =>
    left
    simp only [fop, aop] at H ⊢
    have pubs : fpubs e ps h (fun es h' => cnd (es.all fun p => elemB sz p.2 && decide (p.1 < n)) (K (.sl false true n sz (bslC (fun _ => ofL zs) es)) h')) → apubs e ps h (fun es h' => (∀ p ∈ es, elemOK sz p.2 ∧ p.1 < n) ∧ K (.sl false true n sz (bslC (fun _ => ofL zs) es)) h') := fun H => by
      refine fpubs_ok (fun l h' hh => ?_) H
      obtain ⟨h1, h2⟩ := cnd_e hh
      simp only [List.all_eq_true, Bool.and_eq_true, decide_eq_true_eq] at h1
      exact ⟨fun p hp => ⟨elemB_ok (h1 p hp).1, (h1 p hp).2⟩, h2⟩
    split at H
    · exact .inl (pubs H)
    · cases H with
      | pub a => exact .inl (pubs a)
      | keep b =>
        obtain ⟨h1, h2⟩ := cnd_e b
        simp only [List.all_eq_true, Bool.and_eq_true, decide_eq_true_eq] at h1
        exact .inr ⟨fun p hp => ⟨elemB_ok (h1 p hp).1, (h1 p hp).2⟩, frcH_e (nlit_e (frcPs_e (K := fun es => nlit h.length fun d => frcH (h ++ [.rwg n sz (bslC (fun _ => ofL zs) es)]) fun h' => K (.own d n) h') h2))⟩
  case ld m x =>
    left
    cases m <;> simp only [fop, aop] at H ⊢ <;> generalize e x = v at H ⊢ <;> cases v <;> simp only at H ⊢
    case none.ip => obtain ⟨h1, h2⟩ := cnd_e H; exact ⟨by simpa using h1, frc_e h2⟩
    case some.ip => obtain ⟨h1, h2⟩ := cnd_e H; exact ⟨by simpa using h1, frcT_e h2⟩
    case none.ptr =>
      split at H
      · rename_i heq
        rw [heq]
        obtain ⟨h1, h2⟩ := cnd_e H
        exact ⟨by simpa using h1, frc_e h2⟩
      · exact H.elim
    case some.ptr =>
      split at H
      · rename_i heq
        rw [heq]
        obtain ⟨h1, h2⟩ := cnd_e H
        exact ⟨by simpa using h1, frcT_e h2⟩
      · exact H.elim
    case none.rp =>
      split at H
      · rename_i heq
        rw [heq]
        obtain ⟨h1, h2⟩ := cnd_e H
        simp only [Bool.and_eq_true, decide_eq_true_eq, beq_iff_eq] at h1
        exact ⟨h2.a, h1.1, h1.2, frc_e h2.b⟩
      · rename_i heq
        rw [heq]
        obtain ⟨h1, h2⟩ := cnd_e H
        simp only [Bool.and_eq_true, decide_eq_true_eq, beq_iff_eq] at h1
        exact ⟨h2.a, h1.1, h1.2, frc_e h2.b⟩
      · exact H.elim
    case some.rp d sz k o =>
      split at H
      · rename_i heq
        rw [heq]
        cases hb : (sz == 1 && o == 0) <;> simp only [hb] at H ⊢
        · obtain ⟨h1, h2⟩ := cnd_e H
          simp only [Bool.and_eq_true, decide_eq_true_eq, beq_iff_eq] at h1
          exact ⟨h2.a, h1.1, h1.2, frcT_e h2.b⟩
        · obtain ⟨h1, h2⟩ := cnd_e H
          simp only [beq_iff_eq] at h1
          exact ⟨h2.a, h1, h2.b⟩
      · rename_i heq
        rw [heq]
        obtain ⟨h1, h2⟩ := cnd_e H
        simp only [Bool.and_eq_true, decide_eq_true_eq, beq_iff_eq] at h1
        exact ⟨h2.a, h1.1, h1.2, frcT_e h2.b⟩
      · exact H.elim
  case st m x y =>
    left
    simp only [fop, aop] at H ⊢
    generalize e x = v at H ⊢
    cases v <;> simp only at H ⊢
    case ptr =>
      split at H
      · rename_i heq
        rw [heq]
        obtain ⟨h1, h2⟩ := cnd_e H
        simp only [Bool.and_eq_true, decide_eq_true_eq] at h1
        exact ⟨h1.1, elemB_ok h1.2, frcH_e (frcT_e (K := fun c => frcH (h.set _ (.box _ c)) (K und)) h2)⟩
      · exact H.elim
    case rp =>
      split at H
      · rename_i heq
        rw [heq]
        obtain ⟨h1, h2⟩ := cnd_e H
        simp only [Bool.and_eq_true, beq_iff_eq] at h1
        refine ⟨h2.a, h1.1.1, elemB_ok h1.1.2, pureB_ok _ h1.2, ?_⟩
        have h3 := h2.b
        split at h3
        · rename_i hc
          simp only [Bool.and_eq_true, beq_iff_eq] at hc
          exact .inr ⟨hc.1, hc.2, frcH_e h3⟩
        · obtain ⟨h4, h5⟩ := cnd_e h3
          simp only [Bool.and_eq_true, beq_iff_eq, decide_eq_true_eq] at h4
          exact .inl ⟨h4.1, h4.2, frcH_e h5⟩
      · rename_i heq
        rw [heq]
        obtain ⟨h1, h2⟩ := cnd_e H
        simp only [Bool.and_eq_true, beq_iff_eq] at h1
        refine ⟨h2.a, h1.1, elemB_ok h1.2, ?_⟩
        have h3 := h2.b
        split at h3
        · rename_i hc
          simp only [Bool.and_eq_true, beq_iff_eq] at hc
          exact .inr ⟨hc.1, hc.2, frcH_e h3⟩
        · obtain ⟨h4, h5⟩ := cnd_e h3
          simp only [Bool.and_eq_true, beq_iff_eq, decide_eq_true_eq] at h4
          exact .inl ⟨h4.1, h4.2, frcH_e h5⟩
      · exact H.elim
  case fld x off m =>
    left
    simp only [fop, aop] at H ⊢
    generalize e x = v at H ⊢
    cases v <;> simp only at H ⊢
    cases m <;> (simp only at H ⊢; obtain ⟨h1, h2⟩ := cnd_e H; first | exact ⟨by simpa using h1, frcT_e h2⟩ | exact ⟨by simpa using h1, frc_e h2⟩)
  case ia sz x i =>
    left
    simp only [fop, aop] at H ⊢
    generalize e x = v at H ⊢
    generalize e i = j at H ⊢
    cases j <;> cases v <;> simp only at H ⊢
    · obtain ⟨h1, h2⟩ := cnd_e H
      simp only [Bool.and_eq_true, beq_iff_eq, decide_eq_true_eq] at h1
      exact ⟨h1.1, h1.2, h2.a.1, h2.a.2, h2.h⟩
    · exact ⟨H.a.1, H.a.2, H.h⟩
    · obtain ⟨h1, h2⟩ := cnd_e H
      exact ⟨by simpa using h1, h2.a.1, h2.a.2, h2.h⟩
  case slc sz x lo hi =>
    left
    simp only [fop, aop] at H ⊢
    generalize e x = v at H ⊢
    cases v <;> simp only at H ⊢
    case sl =>
      obtain ⟨h1, H⟩ := cnd_e H
      refine ⟨by simpa using h1, ?_⟩
      generalize lo.map e = l at H ⊢
      generalize hi.map e = m at H ⊢
      split at H
      · exact H
      · exact ⟨H.a.1, H.a.2, H.h⟩
      · exact ⟨H.a.1, H.a.2, H.h⟩
      · have h3 := H.h.a
        have h4 := H.a
        exact ⟨h3.1, by omega, h4.2, H.h.h⟩
      · exact H.elim
    case own =>
      generalize lo.map e = l at H ⊢
      generalize hi.map e = m at H ⊢
      split at H
      · exact H
      · exact ⟨H.a.1, H.a.2, H.h⟩
      · exact ⟨H.a.1, H.a.2, H.h⟩
      · exact H.elim
    case osl =>
      obtain ⟨h1, H⟩ := cnd_e H
      refine ⟨by simpa using h1, ?_⟩
      generalize lo.map e = l at H ⊢
      generalize hi.map e = m at H ⊢
      split at H
      · exact ⟨H.a.1, H.a.2, H.h⟩
      · exact H.elim
  case eqa m neg x y =>
    left
    simp only [fop, aop] at H ⊢
    generalize e x = v at H ⊢
    generalize e y = u at H ⊢
    cases v <;> cases u <;> simp only at H ⊢
    obtain ⟨h1, h2⟩ := cnd_e H
    simp only [Bool.and_eq_true, beq_iff_eq] at h1
    refine ⟨h1.1, h1.2, ?_⟩
    obtain ⟨q, g1, k1⟩ := eqcs_one h2
    refine k1 _ ?_
    cases neg <;> exact g1
  case clr sz x =>
    left
    simp only [fop, aop] at H ⊢
    generalize e x = v at H ⊢
    cases v <;> simp only at H ⊢
    split at H
    · rename_i hd
      rw [hd]
      obtain ⟨h1, h2⟩ := cnd_e H
      simp only [Bool.and_eq_true, beq_iff_eq] at h1
      exact ⟨h1.1, h1.2, h2.a, frcH_e h2.b⟩
    · exact H.elim
  case bin op x y =>
    left
    simp only [fop, aop] at H ⊢
    generalize e x = v at H ⊢
    generalize e y = u at H ⊢
    cases v <;> cases u <;> simp only at H ⊢
    simp only [abin]
    cases op <;> simp only at H ⊢
    case shl => exact ⟨H.a, H.b.h⟩
    case shr => exact ⟨H.a, H.b.h⟩
    all_goals
      obtain ⟨h1, h2⟩ := cnd_e H
      exact ⟨by simpa using h1, fbin_ok h2 (by simp) (by simp)⟩
  case un op x =>
    left
    simp only [fop, aop] at H ⊢
    generalize e x = v at H ⊢
    cases op <;> cases v <;> simp only at H ⊢ <;> first | exact H | exact H.h
  case conv k x =>
    left
    simp only [fop, aop] at H ⊢
    generalize e x = v at H ⊢
    cases v <;> simp only at H ⊢ <;> exact H.h
  case msl sz bytes zs x y =>
    left
    simp only [fop, aop] at H ⊢
    generalize e x = v at H ⊢
    generalize e y = u at H ⊢
    split at H
    · obtain ⟨h1, h2⟩ := cnd_e H
      exact ⟨by simpa using h1, h2.a.1, h2.a.2.1, h2.a.2.2.1, h2.a.2.2.2, frcH_e (nlit_e h2.b)⟩
    · exact H.elim
  case app sz bytes x y =>
    simp only [fop, aop, asplit] at H ⊢
    obtain ⟨h0, H2⟩ := cnd_e H
    clear H
    have h0' : 0 < sz := by simpa using h0
    obtain ⟨q, m, c', hs, H⟩ := fsrc_e H2
    clear H2 h0
    generalize e x = v at H ⊢
    cases v <;> simp only at H
    case sl z ee n sz2 c =>
      left
      obtain ⟨h1, h2⟩ := cnd_e H
      refine ⟨h0', asrc_i hs ⟨h1, h2.a.1, fun hm => ?_, fun hm => ?_⟩⟩
      · subst hm; exact h2.b
      · obtain ⟨m', rfl⟩ : ∃ m', m = m' + 1 := ⟨m - 1, by omega⟩
        exact ⟨h2.a.2.1, h2.a.2.2, frcH_e (frw_e (nlit_e h2.b))⟩
    case own d n =>
      split at H
      · rename_i n' sz2 c hd
        obtain ⟨h1, h2⟩ := cnd_e H
        have h1' : sz2 = sz := by simpa using h1
        cases h2.b with
        | grow a => left; exact ⟨h0', asrc_i hs (by simp only [hd]; exact ⟨a.a, h1', h2.a.1, h2.a.2, frcH_e (frw_e (nlit_e a.b))⟩)⟩
        | share b => right; obtain ⟨b0, b⟩ := cnd_e b; exact ⟨h0', asrc_i hs (by simp only [hd]; exact ⟨by simpa using b0, h1', b.a, h2.a.1, h2.a.2, frcH_e b.b.a, frcH_e (nlit_e b.b.b)⟩)⟩
      · rename_i n' sz2 c hd
        obtain ⟨h1, h2⟩ := cnd_e H
        have h1' : sz2 = sz := by simpa using h1
        left; exact ⟨h0', asrc_i hs (by simp only [hd]; exact ⟨h2.b.a, h1', h2.a.1, h2.a.2, frcH_e (nlit_e h2.b.b)⟩)⟩
      · exact H.elim
    case osl d sz3 lo n =>
      split at H
      · rename_i n' sz2 c hd
        obtain ⟨h1, h2⟩ := cnd_e H
        simp only [Bool.and_eq_true, beq_iff_eq] at h1
        cases h2.b with
        | grow a => exact a.elim
        | share b => right; obtain ⟨b0, b⟩ := cnd_e b; exact ⟨h0', asrc_i hs (by simp only [hd]; exact ⟨by simpa using b0, h1.2, h1.1, h2.a.1, h2.a.2.1, h2.a.2.2, frcH_e b.b.a, frcH_e (nlit_e b.b.b)⟩)⟩
      · exact H.elim
  case ext x i =>
    left
    simp only [fop, aop] at H ⊢
    generalize e x = v at H ⊢
    cases v <;> simp only at H ⊢
    obtain ⟨h1, h2⟩ := cnd_e H
    exact ⟨by simpa using h1, frc_e h2⟩
  all_goals (left; exact H)
theorem fop_aop (o : AOp) {e : AX → AV} {h : List AB} {K : AV → List AB → Prop} (H : fop o e h K) (ho : o.chg = false) : aop o e h K := by
  rcases fop_ok o H with h1 | h1
  · exact h1
  · cases o <;> simp only [asplit] at h1 <;> simp [AOp.chg] at ho
theorem fstep_ok {C : CallP} {o : AOp} {e : Env} {h : List AB} {K : AV → List AB → Prop} (H : fstep C o e h K) : astep C o e h K := by
  cases o
  case call f xs => exact (frcs_e H).h
  case calv x xs =>
    simp only [fstep, astep] at H ⊢
    generalize x.ev e = v at H ⊢
    cases v <;> simp only at H ⊢
    exact (frcs_e H).h
  case app => exact fop_ok _ H
  case nxt x => exact fnext_ok H
  all_goals
    simp only [fstep] at H
    rcases fop_ok _ H with h1 | h1
    · exact h1
    · exact h1.elim
/-- The next state of the temporaries. -/
def Env.upd (e : Env) (d : Nat) (v : AV) : Env := fun t => if t = d then v else e t
def fput (e : Env) (d : Option Nat) (v : AV) (K : Env → Prop) : Prop := match d with
  | some d => K (e.upd d v)
  | none => K e
theorem fput_e {e : Env} {d : Option Nat} {v : AV} {K : Env → Prop} (h : fput e d v K) : K (e.put d v) := by cases d <;> exact h
def fgstep (C : CallP) (o : AO) (e : Env) (h : List AB) (K : AV → List AB → Prop) : Prop :=
  match o.guard with
  | none => fstep C o.op e h K
  | some (t, b) => match e t with
    | .bool q => (match b with
      | true => FCond q (fstep C o.op e h K) (K und h)
      | false => FCond q (K und h) (fstep C o.op e h K))
    | .tup 0 _ => K und h
    | _ => False
theorem fgstep_ok {C : CallP} {o : AO} {e : Env} {h : List AB} {K : AV → List AB → Prop} (H : fgstep C o e h K) : gstep C o e h K := by
  unfold fgstep at H
  unfold gstep
  cases hg : o.guard with
  | none => rw [hg] at H; exact fstep_ok H
  | some p =>
    obtain ⟨t, b⟩ := p
    rw [hg] at H
    simp only at H ⊢
    generalize e t = v at H ⊢
    split at H
    · rename_i q
      cases b <;> simp only at H
      · cases H with
        | t h a => subst h; exact a
        | f h a => subst h; exact fstep_ok a
      · cases H with
        | t h a => subst h; exact fstep_ok a
        | f h a => subst h; exact a
    · exact H
    · exact H.elim
def fwats (C : CallP) (ws : List AO) (e : Env) (h : List AB) (p : Prop) : Prop := match ws with
  | [] => p
  | o :: ws => match o.dst with
    | some d => Need (fgstep C o e h (fun v _ => Same v (e d))) (fwats C ws e h p)
    | none => fwats C ws e h p
def fregs (C : CallP) (l : List (AO × List AO)) (Q : Env → List AB → Prop) (e : Env) (h : List AB) : Prop :=
  match l with
  | [] => Q e h
  | (⟨dst, op, gd⟩, ws) :: rest => fgstep C ⟨dst, op, gd⟩ e h (fun r h' => fwats C ws e h' (fput e dst r fun e => fregs C rest Q e h'))
theorem fwats_ok {C : CallP} (hC : C.Mono) {e : Env} {h : List AB} {p q : Prop} (hpq : p → q) : ∀ {ws : List AO}, fwats C ws e h p → wats C ws e h q
  | [], H => hpq H
  | o :: ws, H => by
    simp only [fwats] at H
    refine ⟨?_, ?_⟩
    · unfold watp
      cases hd : o.dst with
      | some d => rw [hd] at H; exact gstep_mono hC (fun _ _ h => h.h) (fgstep_ok H.a)
      | none => trivial
    · cases hd : o.dst with
      | some d => rw [hd] at H; exact fwats_ok hC hpq H.b
      | none => rw [hd] at H; exact fwats_ok hC hpq H
theorem fregs_ok {C : CallP} (hC : C.Mono) {Q Q' : Env → List AB → Prop} (hQ : ∀ e h, Q e h → Q' e h) : ∀ (l : List (AO × List AO)) {e : Env} {h : List AB}, fregs C l Q e h → aregs C l Q' e h
  | [], _, _, H => hQ _ _ H
  | (⟨_, _, _⟩, _) :: rest, _, _, H => gstep_mono hC (fun _ _ hh => fwats_ok hC (fun h => fregs_ok hC hQ rest (fput_e h)) hh) (fgstep_ok H)

def ftree (C : CallP) (l : List AO) (W : Nat → List Nat) : HT → (Env → List AB → Prop) → Env → List AB → Prop
  | .leaf, Q, e, h => Q e h
  | .alt c qs sub .leaf, Q, e, h => fregs C (opsI l W (c :: qs)) (ftree C l W sub Q) e h
  | .alt c qs sub (.alt c2 qs2 sub2 next2), Q, e, h => FAlt (fregs C (opsI l W (c :: qs)) (ftree C l W sub Q) e h) (ftree C l W (.alt c2 qs2 sub2 next2) Q e h)
def fregT (C : CallP) (l : List AO) (T : THint) (Q : Env → List AB → Prop) (e : Env) (h : List AB) : Prop := fregs C (opsI l (watchOf T.w) T.qs) (ftree C l (watchOf T.w) T.t Q) e h
theorem ftree_ok {C : CallP} (hC : C.Mono) {l : List AO} {W : Nat → List Nat} {Q Q' : Env → List AB → Prop} (hQ : ∀ e h, Q e h → Q' e h) : ∀ (t : HT) {e : Env} {h : List AB}, ftree C l W t Q e h → atree C l W t Q' e h
  | .leaf, _, _, H => hQ _ _ H
  | .alt c qs sub .leaf, _, _, H => fregs_ok hC (fun _ _ hh => ftree_ok hC hQ sub hh) _ H
  | .alt c qs sub (.alt c2 qs2 sub2 next2), _, _, H => ⟨fregs_ok hC (fun _ _ hh => ftree_ok hC hQ sub hh) _ H.a, ftree_ok hC hQ (.alt c2 qs2 sub2 next2) H.b⟩
/-- A loop: it is shown by a relation and a measure. -/
structure FLoop (C : CallP) (N : Nat) (c : ACo) (Q : AEx → Env → List AB → Prop) (e : Env) (h : List AB) : Prop where
  h : awp C N (.loop c) Q e h
/-- A place at which a state may be weakened. -/
structure FWk (N : Nat) (id : Nat) (K : Env → List AB → Prop) (e : Env) (h : List AB) : Prop where
  ex : ∃ e2 h2, Wk N e h e2 h2 ∧ K e2 h2
/-- A loop over a function: shown by what it yields, and a relation. -/
structure FRange (C : CallP) (N : Nat) (it : AX) (ps : List Nat) (a b : ACo) (Q : AEx → Env → List AB → Prop) (e : Env) (h : List AB) : Prop where
  h : awp C N (.rf it ps a b) Q e h
def fawp (C : CallP) (N : Nat) : ACo → (AEx → Env → List AB → Prop) → Env → List AB → Prop
  | .skip, Q, e, h => Q .normal e h
  | .reg _ l, Q, e, h => fregs C l (Q .normal) e h
  | .regT l T, Q, e, h => fregT C l T (Q .normal) e h
  | .wk id, Q, e, h => FWk N id (Q .normal) e h
  | .seq a b, Q, e, h => fawp C N a (AEx.then (fawp C N b Q) Q) e h
  | .cond c a b, Q, e, h => match c.ev e with
    | .bool q => FCond q (fawp C N a Q e h) (fawp C N b Q e h)
    | _ => False
  | .block id c, Q, e, h => fawp C N c (AEx.inBlock id Q) e h
  | .loop c, Q, e, h => FLoop C N c Q e h
  | .exit id, Q, e, h => Q (.exit id) e h
  | .ret, Q, e, h => Q .ret e h
  | .rf it ps a b, Q, e, h => FRange C N it ps a b Q e h
  | .no, _, _, _ => False
theorem wats_mono {C : CallP} {e : Env} {h : List AB} {p q : Prop} (hpq : p → q) : ∀ {ws : List AO}, wats C ws e h p → wats C ws e h q
  | [], hw => hpq hw
  | _ :: _, hw => ⟨hw.1, wats_mono hpq hw.2⟩
theorem aregs_mono {C : CallP} (hC : C.Mono) {Q Q' : Env → List AB → Prop} (hQ : ∀ e h, Q e h → Q' e h) : ∀ (l : List (AO × List AO)) {e : Env} {h : List AB}, aregs C l Q e h → aregs C l Q' e h
  | [], _, _, H => hQ _ _ H
  | _ :: rest, _, _, H => gstep_mono hC (fun _ _ hh => wats_mono (aregs_mono hC hQ rest) hh) H
theorem atree_mono {C : CallP} (hC : C.Mono) {l : List AO} {W : Nat → List Nat} {Q Q' : Env → List AB → Prop} (hQ : ∀ e h, Q e h → Q' e h) : ∀ (t : HT) {e : Env} {h : List AB}, atree C l W t Q e h → atree C l W t Q' e h
  | .leaf, _, _, H => hQ _ _ H
  | .alt c qs sub .leaf, _, _, H => aregs_mono hC (fun _ _ hh => atree_mono hC hQ sub hh) _ H
  | .alt c qs sub (.alt c2 qs2 sub2 next2), _, _, H => ⟨aregs_mono hC (fun _ _ hh => atree_mono hC hQ sub hh) _ H.1, atree_mono hC hQ (.alt c2 qs2 sub2 next2) H.2⟩
theorem rfA_mono {K K' : Env → List AB → Prop} (hk : ∀ e h, K e h → K' e h) : ∀ x e h, rfA K x e h → rfA K' x e h := fun x e h H => by
  cases x with
  | normal => exact hk _ _ H
  | exit id => exact H
  | ret => exact H
theorem rfB_mono {N : Nat} {e1 : Env} {K : Env → List AB → Prop} {Q Q' : AEx → Env → List AB → Prop} (hq : ∀ x e h, Q x e h → Q' x e h) : ∀ x e h, rfB N e1 K Q x e h → rfB N e1 K Q' x e h := fun x e h H => by
  cases x with
  | normal => exact H
  | exit id => exact hq _ _ _ H
  | ret => exact hq _ _ _ H
theorem awp_mono {C : CallP} (hC : C.Mono) : ∀ (c : ACo) {N : Nat} {Q Q' : AEx → Env → List AB → Prop} {e : Env} {h : List AB}, (∀ x e h, Q x e h → Q' x e h) → awp C N c Q e h → awp C N c Q' e h := by
  intro c
  induction c with
  | rf it ps a b ia ib =>
    rintro N Q Q' e h hQ ⟨e0, h0, mv, gf, m, c, L, I, h1, h2, h3, h4, h5, h6, h7, h8⟩
    exact ⟨e0, h0, mv, gf, m, c, L, I, h1, h2, h3, h4, h5, h6, fun k e1 hh hk hi => ia (rfA_mono fun _ _ H => ib (rfB_mono hQ) H) (h7 k e1 hh hk hi), fun e1 hh hi => hQ _ _ _ (h8 e1 hh hi)⟩
  | skip => intro N Q Q' e h hQ H; exact hQ _ _ _ H
  | reg _ l => intro N Q Q' e h hQ H; exact aregs_mono hC (hQ .normal) l H
  | regT l T => intro N Q Q' e h hQ H; exact aregs_mono hC (fun e h hh => atree_mono hC (hQ .normal) T.t hh) _ H
  | wk _ => intro N Q Q' e h hQ ⟨e2, h2, hw, hq⟩; exact ⟨e2, h2, hw, hQ _ _ _ hq⟩
  | seq a b ia ib =>
    intro N Q Q' e h hQ H
    refine ia (fun x e h hh => ?_) H
    cases x with
    | normal => exact ib hQ hh
    | exit id => exact hQ _ _ _ hh
    | ret => exact hQ _ _ _ hh
  | cond x a b ia ib =>
    intro N Q Q' e h hQ H
    simp only [awp] at H ⊢
    generalize x.ev e = v at H ⊢
    cases v <;> simp only at H ⊢
    rcases acond_e H with ⟨rfl, h1⟩ | ⟨rfl, h1⟩
    · exact ia hQ h1
    · exact ib hQ h1
  | block id c ic =>
    intro N Q Q' e h hQ H
    refine ic (fun x e h hh => ?_) H
    cases x with
    | normal => exact hQ _ _ _ hh
    | exit id' =>
      simp only [AEx.inBlock] at hh ⊢
      split
      · rename_i he; rw [if_pos he] at hh; exact hQ _ _ _ hh
      · rename_i he; rw [if_neg he] at hh; exact hQ _ _ _ hh
    | ret => exact hQ _ _ _ hh
  | loop c ic =>
    intro N Q Q' e h hQ H
    obtain ⟨I, μ, h0, hr⟩ := H
    refine ⟨I, μ, h0, fun e h hi => ic (fun x e h hh => ?_) (hr e h hi)⟩
    cases x with
    | normal => exact hh
    | exit id => exact hQ _ _ _ hh
    | ret => exact hQ _ _ _ hh
  | exit id => intro N Q Q' e h hQ H; exact hQ _ _ _ H
  | ret => intro N Q Q' e h hQ H; exact hQ _ _ _ H
  | no => intro N Q Q' e h _ H; exact H
theorem fawp_ok {C : CallP} (hC : C.Mono) {N : Nat} : ∀ (c : ACo) {Q : AEx → Env → List AB → Prop} {e : Env} {h : List AB}, fawp C N c Q e h → awp C N c Q e h := by
  intro c
  induction c with
  | skip => intro Q e h H; exact H
  | reg _ l => intro Q e h H; exact fregs_ok hC (fun _ _ h => h) l H
  | regT l T => intro Q e h H; exact fregs_ok hC (fun _ _ hh => ftree_ok hC (fun _ _ h => h) T.t hh) _ H
  | wk _ => intro Q e h H; exact H.ex
  | seq a b ia ib =>
    intro Q e h H
    refine awp_mono hC a (fun x e h hh => ?_) (ia H)
    cases x with
    | normal => exact ib hh
    | exit id => exact hh
    | ret => exact hh
  | cond x a b ia ib =>
    intro Q e h H
    simp only [fawp, awp] at H ⊢
    generalize x.ev e = v at H ⊢
    cases v <;> simp only at H ⊢
    cases H with
    | t h a => subst h; exact ia a
    | f h a => subst h; exact ib a
  | block id c ic => intro Q e h H; exact ic H
  | loop c ic => intro Q e h H; exact H.h
  | exit id => intro Q e h H; exact H
  | ret => intro Q e h H; exact H
  | rf it ps a b => intro Q e h H; exact H.h
  | no => intro Q e h H; exact H
def fares : List ARes → Env → List AB → (List AV → Prop) → Prop
  | [], _, _, K => K []
  | .tmp t :: rs, e, h, K => frc (e t) fun v => fares rs e h (fun l => K (v :: l))
  | .cell t m :: rs, e, h, K => fop (.ld m (.t t)) (AX.ev e) h (fun v _ => fares rs e h (fun l => K (v :: l)))
def ffins (K : AV → List AB → Prop) (l : List AV) (h : List AB) : Prop := match l with
  | [v] => Fin K v h
  | l => Fin K (.tup l.length (ofL l)) h
theorem ffins_e {K : AV → List AB → Prop} {l : List AV} {h : List AB} (H : ffins K l h) : K (tupOf l) h := by
  match l with
  | [v] => exact H.h
  | [] => exact H.h
  | _ :: _ :: _ => exact H.h
def ffin (rs : List ARes) (K : AV → List AB → Prop) : AEx → Env → List AB → Prop
  | .exit _, _, _ => False
  | _, e, h => fares rs e h (fun l => ffins K l h)
theorem fares_ok {e : Env} {h : List AB} : ∀ (rs : List ARes) {K K' : List AV → Prop}, (∀ l, K l → K' l) → fares rs e h K → ares rs e h K'
  | [], _, _, hK, H => hK _ H
  | .tmp _ :: rs, _, _, hK, H => fares_ok rs (fun _ h => hK _ h) (frc_e H)
  | .cell _ _ :: rs, _, _, hK, H => aop_mono _ (fun _ _ h => fares_ok rs (fun _ h => hK _ h) h) (fop_aop _ H rfl)
/-- A function's text, read: what a call of it does. -/
theorem fcall_of {P : Program} (hm : P.follows .mixedOrders = true) {f : FuncId} {fn : Func} {c : Code} (hf : P.funcs[f]? = some fn) (hb : fn.body = some c) (hn : (fn.name == "runtime.NumGoroutine") = false) {hs : Hints} (hk : okCode P fn.ntmps hs c = true) {ac : ACo} (hc : acomp P fn.ntmps hs c = ac) {rs : List ARes} (hrs : compRes P fn.results.toList = some rs)
    {xs : List AV} {h : List AB} {K : AV → List AB → Prop} (hl : xs.length ≤ fn.ntmps)
    (H : fawp (ACalls P) h.length ac (ffin rs (fun r h' => ∃ r2 h2 sel, Cut h.length sel h' h2 ∧ LnK sel h' h2 r r2 ∧ K r2 h2)) (eArgs xs) h) : ACall P f xs h K := by
  refine ACall.wk (acall_of hm hf hb hn hk hc hrs hl (awp_mono (ACalls.mono P) _ (fun x e h' hh => ?_) (fawp_ok (ACalls.mono P) _ H)))
  cases x with
  | normal => exact fares_ok rs (fun _ h => ffins_e h) hh
  | ret => exact fares_ok rs (fun _ h => ffins_e h) hh
  | exit id => exact hh
end Go.Proofs.Ytlffjnmbpoemnaa

namespace Go.Proofs.Ytlffjnmbpoemnaa
open Go.RowKit

theorem Fits.in64 {n : Int} {K : Int → Prop} (hn : -9223372036854775808 ≤ n ∧ n ≤ 9223372036854775807) (h : K n) : Fits .i64 n K := ⟨by
  have : IntKind.i64.wrap n = n := IntWalk.i64_in n (by omega)
  rw [this]; exact h⟩
theorem Fits.inU {n : Int} {K : Int → Prop} (hn : 0 ≤ n ∧ n ≤ 18446744073709551615) (h : K n) : Fits .u64 n K := ⟨by
  have : IntKind.u64.wrap n = n := IntWalk.u64_in n (by omega)
  rw [this]; exact h⟩
theorem FLast.app {s : List Nat} {i : Nat} {K : Nat → Prop} (h : K i) : FLast (s ++ [i]) K := ⟨i, by simp, h⟩
theorem FEnt.of {p : List Int × AV} {l : List Int} {v : AV} {K : List Int × AV → Prop} (e : p = (l, v)) (h : K (l, v)) : FEnt p K := ⟨e ▸ h⟩
theorem FLook.yes {o : Option AV} {A : AV → Prop} {B : Prop} {v : AV} (h : o = some v) (a : A v) : FLook o A B := ⟨fun v' h' => (by rw [h] at h'; injection h' with h'; subst h'; exact a), fun h' => (by rw [h] at h'; cases h')⟩
theorem FLook.no {o : Option AV} {A : AV → Prop} {B : Prop} (h : o = none) (b : B) : FLook o A B := ⟨fun v' h' => (by rw [h] at h'; cases h'), fun _ => b⟩
theorem FLookI.yes {L : List (List Int × AV)} {l : List Int} {A : Nat → AV → Prop} {B : Prop} {i : Nat} {v : AV} (h : aidx L l = some i) (hv : (L.getD i default).2 = v) (a : A i v) : FLookI L l A B := ⟨fun i' v' h' h2 => (by rw [h] at h'; injection h' with h'; subst h'; rw [← h2, hv]; exact a), fun h' => (by rw [h] at h'; cases h')⟩
theorem FLookI.no {L : List (List Int × AV)} {l : List Int} {A : Nat → AV → Prop} {B : Prop} (h : aidx L l = none) (b : B) : FLookI L l A B := ⟨fun i v' h' => (by rw [h] at h'; cases h'), fun _ => b⟩
theorem Fits.any {k : IntKind} {n : Int} {K : Int → Prop} (h : K (k.wrap n)) : Fits k n K := ⟨h⟩
theorem FIdx.lit {j n : Nat} {K : Nat → Prop} [OfNat Int j] (he : (OfNat.ofNat j : Int) = ((j : Nat) : Int)) (hk : j < n) (h : K j) : FIdx (OfNat.ofNat j) n K := by
  rw [he]; exact FIdx.nat hk h
theorem FIdx.int {j : Int} {n : Nat} {K : Nat → Prop} (hj : 0 ≤ j ∧ j < n) (h : K j.toNat) : FIdx j n K := ⟨hj, h⟩
theorem FTo.int {j : Int} {n : Nat} {K : Nat → Prop} (hj : 0 ≤ j ∧ j ≤ n) (h : K j.toNat) : FTo j n K := ⟨hj, h⟩

theorem Ln.sameB {σ : Nat → Nat → Prop} {Bp : Nat → Prop} {H : List AB} (v : AV) (h : v.pureB = true) : Ln σ Bp H v v := .same v (pureB_ok v h)
theorem Ln.int {σ : Nat → Nat → Prop} {Bp : Nat → Prop} {H : List AB} {k : IntKind} {a b : Int} (e : a = b) : Ln σ Bp H (.int k a) (.int k b) := e ▸ .same _ trivial
theorem Ln.bool {σ : Nat → Nat → Prop} {Bp : Nat → Prop} {H : List AB} {a b : Bool} (e : a = b) : Ln σ Bp H (.bool a) (.bool b) := e ▸ .same _ trivial
theorem Ln.ownE {σ : Nat → Nat → Prop} {Bp : Nat → Prop} {H : List AB} {d i n n' : Nat} (h : σ d i) (e : n = n') : Ln σ Bp H (.own d n) (.own i n') := e ▸ .own d n i h
theorem Ln.pubE {σ : Nat → Nat → Prop} {Bp : Nat → Prop} {H : List AB} {d n n' N sz : Nat} {c c' : Nat → Nat → AV} (h : Bp d) (hd : H[d]? = some (.row N sz c)) (hn : n ≤ N) (e : n = n') (hc : ∀ k, k < n → ∀ o, o < sz → c' k o = c k o) : Ln σ Bp H (.own d n) (.sl false false n' sz c') := e ▸ .pub d n N sz c c' h hd hn hc
/-- The first m of two tables. -/
def LnN (σ : Nat → Nat → Prop) (Bp : Nat → Prop) (H : List AB) : Nat → (Nat → AV) → (Nat → AV) → Prop
  | 0, _, _ => True
  | m + 1, c, c' => LnN σ Bp H m c c' ∧ Ln σ Bp H (c m) (c' m)
theorem LnN.get {σ : Nat → Nat → Prop} {Bp : Nat → Prop} {H : List AB} {c c' : Nat → AV} : ∀ {m : Nat}, LnN σ Bp H m c c' → ∀ i, i < m → Ln σ Bp H (c i) (c' i)
  | m + 1, h, i, hi => by
    by_cases e : i = m
    · subst e; exact h.2
    · exact h.1.get i (by omega)
theorem Ln.aggN {σ : Nat → Nat → Prop} {Bp : Nat → Prop} {H : List AB} {m : Nat} {c c' : Nat → AV} (h : LnN σ Bp H m c c') : Ln σ Bp H (.agg m c) (.agg m c') := .agg m c c' h.get
theorem Ln.tupN {σ : Nat → Nat → Prop} {Bp : Nat → Prop} {H : List AB} {m : Nat} {c c' : Nat → AV} (h : LnN σ Bp H m c c') : Ln σ Bp H (.tup m c) (.tup m c') := .tup m c c' h.get
theorem Ln.fnN {σ : Nat → Nat → Prop} {Bp : Nat → Prop} {H : List AB} {f : FuncId} {m : Nat} {c c' : Nat → AV} (h : LnN σ Bp H m c c') : Ln σ Bp H (.fn f m c) (.fn f m c') := .fn f m c c' h.get
theorem LnB.boxN {σ : Nat → Nat → Prop} {Bp : Nat → Prop} {H : List AB} {m : Nat} {c c' : Nat → AV} (h : LnN σ Bp H m c c') : LnB σ Bp H (.box m c) (.box m c') := ⟨rfl, h.get⟩
theorem LnB.rowS {σ : Nat → Nat → Prop} {Bp : Nat → Prop} {H : List AB} {n sz : Nat} {c : Nat → Nat → AV} : LnB σ Bp H (.row n sz c) (.row n sz c) := ⟨rfl, Nat.le_refl _, fun _ _ _ _ => LeV.refl _⟩
theorem LnB.rowE {σ : Nat → Nat → Prop} {Bp : Nat → Prop} {H : List AB} {n n' sz : Nat} {c c' : Nat → Nat → AV} (hn : n' ≤ n) (hc : ∀ k, k < n' → ∀ o, o < sz → c' k o = c k o) : LnB σ Bp H (.row n sz c) (.row n' sz c') := ⟨rfl, hn, fun k hk o ho => LeV.of (hc k hk o ho)⟩
theorem LnB.rowL {σ : Nat → Nat → Prop} {Bp : Nat → Prop} {H : List AB} {n n' sz : Nat} {c c' : Nat → Nat → AV} (hn : n' ≤ n) (hc : ∀ k, k < n' → ∀ o, o < sz → LeV (c k o) (c' k o)) : LnB σ Bp H (.row n sz c) (.row n' sz c') := ⟨rfl, hn, hc⟩
/-- A row to which one element was appended. -/
theorem LnB.app {σ : Nat → Nat → Prop} {Bp : Nat → Prop} {H : List AB} {n sz : Nat} {c g : Nat → Nat → AV} {z : Nat → Nat → AV} {v : AV} (hg : ∀ k, k < n → ∀ o, o < sz → g k o = c k o) (hv : ∀ o, o < sz → g n o = elemC v o) : LnB σ Bp H (.row (n + 1) sz (appc n c (bslC z [(0, v)]))) (.row (n + 1) sz g) := by
  refine ⟨rfl, Nat.le_refl _, fun k hk o ho => LeV.of ?_⟩
  simp only [appc, bslC, updRm]
  by_cases h : k < n
  · rw [if_pos h]; exact hg k h o ho
  · have : k = n := by omega
    subst this
    rw [if_neg h, if_pos (Nat.sub_self _)]; exact hv o ho
/-- The blocks that are kept, one by one. -/
def CutL (sel : List Nat) (h h2 : List AB) : List Nat → List AB → Prop
  | [], [] => True
  | d :: ds, y :: ys => d < h.length ∧ (y = .dead ∨ ∃ x, h[d]? = some x ∧ LnB (fun d i => sel[i]? = some d) (fun d => ∀ i, sel[i]? = some d → ¬ live h2 i) h x y) ∧ CutL sel h h2 ds ys
  | _, _ => False
theorem CutL.get {sel : List Nat} {h h2 : List AB} : ∀ {ds : List Nat} {ys : List AB}, CutL sel h h2 ds ys → ds.length = ys.length ∧ ∀ (i d : Nat) (y : AB), ds[i]? = some d → ys[i]? = some y → d < h.length ∧ (y = .dead ∨ ∃ x, h[d]? = some x ∧ LnB (fun d i => sel[i]? = some d) (fun d => ∀ i, sel[i]? = some d → ¬ live h2 i) h x y)
  | [], [], _ => ⟨rfl, fun i d y hd => by simp at hd⟩
  | [], _ :: _, hh => hh.elim
  | _ :: _, [], hh => hh.elim
  | d :: ds, y :: ys, hh => by
    obtain ⟨a, b⟩ := CutL.get hh.2.2
    refine ⟨by simp [a], fun i d' z hd hz => ?_⟩
    cases i with
    | zero =>
      simp only [List.getElem?_cons_zero, Option.some.injEq] at hd hz
      subst hd; subst hz
      exact ⟨hh.1, hh.2.1⟩
    | succ i => exact b i d' z hd hz
def idsB (N : Nat) (sel : List Nat) : Bool := (List.range N).all fun i => sel[i]? == some i
def nodupB : List Nat → Bool
  | [] => true
  | x :: xs => !xs.contains x && nodupB xs
theorem nodupB_ok : ∀ {l : List Nat}, nodupB l = true → l.Nodup
  | [], _ => List.nodup_nil
  | x :: xs, h => by
    simp only [nodupB, Bool.and_eq_true, Bool.not_eq_true', List.contains_eq_mem, decide_eq_false_iff_not] at h
    exact List.nodup_cons.2 ⟨h.1, nodupB_ok h.2⟩
theorem Cut.of {N : Nat} {sel : List Nat} {h h2 : List AB} (hN : N ≤ h2.length) (hid : idsB N sel = true) (hnd : nodupB sel = true) (hc : CutL sel h h2 sel h2) : Cut N sel h h2 :=
  ⟨hN, hc.get.1, nodupB_ok hnd, fun i hi => by simp only [idsB, List.all_eq_true, List.mem_range, beq_iff_eq] at hid; exact hid i hi, hc.get.2⟩
theorem Cut.nil (h : List AB) : Cut 0 [] h [] := ⟨Nat.zero_le _, rfl, List.nodup_nil, fun i hi => by omega, fun i d x hd => by simp at hd⟩
theorem CutL.turned {sel : List Nat} {h h2 : List AB} {d : Nat} {x y : AB} {ds : List Nat} {ys : List AB} (hd : h[d]? = some x) (hx : LnB (fun d i => sel[i]? = some d) (fun d => ∀ i, sel[i]? = some d → ¬ live h2 i) h x y) (hr : CutL sel h h2 ds ys) : CutL sel h h2 (d :: ds) (y :: ys) := by
  refine ⟨?_, .inr ⟨x, hd, hx⟩, hr⟩
  rcases Nat.lt_or_ge d h.length with h' | h'
  · exact h'
  · rw [List.getElem?_eq_none h'] at hd; cases hd
theorem CutL.gone {sel : List Nat} {h h2 : List AB} {d : Nat} {ds : List Nat} {ys : List AB} (hd : d < h.length) (hr : CutL sel h h2 ds ys) : CutL sel h h2 (d :: ds) (.dead :: ys) := ⟨hd, .inl rfl, hr⟩
theorem CutL.done {sel : List Nat} {h h2 : List AB} : CutL sel h h2 [] [] := trivial
/-- A block that is not kept may be read. -/
theorem goneB {sel : List Nat} {h2 : List AB} {d : Nat} (h : sel.contains d = false) : ∀ i, sel[i]? = some d → ¬ live h2 i := fun i hi => by
  have := List.mem_of_getElem? hi
  simp only [List.contains_eq_mem, decide_eq_false_iff_not] at h
  exact (h this).elim

/-- A call of a function that changes nothing and makes nothing that stays. -/
theorem FCall.pure {P : Program} {f : FuncId} {xs xs' : List AV} {H : List AB} {K : AV → List AB → Prop} {R : AV} (con : ACall P f xs' [] (fun r h => r = R ∧ h = [])) (hx : LnL (fun d i => ([] : List Nat)[i]? = some d) (fun d => d ∈ ([] : List Nat)) H xs xs') (hR : R.pureB = true) (h : K R H) : FCall (ACalls P) f xs H K := by
  refine ⟨ACall.at [] [] con (by simp) rfl (by simp) (fun i d x h => by simp at h) hx ?_⟩
  rintro r h2 ⟨rfl, rfl⟩
  refine ⟨Nat.le_refl _, .inl rfl, ?_⟩
  rw [ren_pure _ hR]
  have : Proofs.Ytlffjnmbpoemnaa.put [] H [] = H := by simp [Proofs.Ytlffjnmbpoemnaa.put, puts]
  rw [this]; exact h
/-- The same, with blocks lent to be read. -/
theorem FCall.lend {P : Program} {f : FuncId} {xs xs' : List AV} {H : List AB} {K : AV → List AB → Prop} {R : AV} (B : List Nat) (con : ACall P f xs' [] (fun r h => r = R ∧ h = [])) (hx : LnL (fun d i => ([] : List Nat)[i]? = some d) (fun d => d ∈ B) H xs xs') (hR : R.pureB = true) (hf : R.flat) (h : K R H) : FCall (ACalls P) f xs H K := by
  refine ⟨ACall.at [] B con (by simp) rfl (by simp) (fun i d x h => by simp at h) hx ?_⟩
  rintro r h2 ⟨rfl, rfl⟩
  refine ⟨Nat.le_refl _, .inr ⟨hf, fun x hx => by cases hx⟩, ?_⟩
  rw [ren_pure _ hR]
  have : Proofs.Ytlffjnmbpoemnaa.put [] H [] = H := by simp [Proofs.Ytlffjnmbpoemnaa.put, puts]
  rw [this]; exact h
/-- A state of which just some temporaries are known. -/
def slots : List (Nat × AV) → Env
  | [], _ => .bot
  | (k, v) :: r, t => if t = k then v else slots r t
def SlotsL (sel : List Nat) (h h2 : List AB) : List (Nat × AV) → Env → Prop
  | [], _ => True
  | (k, v) :: r, e => LnK sel h h2 (e k) v ∧ SlotsL sel h h2 r e
theorem SlotsL.get {sel : List Nat} {h h2 : List AB} {e : Env} : ∀ {l : List (Nat × AV)}, SlotsL sel h h2 l e → ∀ t, LnK sel h h2 (e t) (slots l t)
  | [], _, t => .bot _
  | (k, v) :: r, hh, t => by
    simp only [slots]
    split
    · rename_i e1; subst e1; exact hh.1
    · exact hh.2.get t
theorem FWk.of {N id : Nat} {K : Env → List AB → Prop} {e : Env} {h : List AB} (l : List (Nat × AV)) (h2 : List AB) (sel : List Nat) (hc : Cut N sel h h2) (hs : SlotsL sel h h2 l e) (H : K (slots l) h2) : FWk N id K e h := ⟨_, _, Wk.gen hc hs.get, H⟩
/-- A round of a loop has come to its end. -/
structure LEnd {X : Type} (N : Nat) (S : X → List (Nat × AV)) (H : X → List AB) (Inv : X → Prop) (μ : X → Nat) (x : X) (e : Env) (h : List AB) : Prop where
  ex : ∃ x', Inv x' ∧ μ x' < μ x ∧ ∃ sel, Cut N sel h (H x') ∧ SlotsL sel h (H x') (S x') e
theorem FLoop.ofA {C : CallP} (hC : C.Mono) {N : Nat} {c : ACo} {Q : AEx → Env → List AB → Prop} {e : Env} {h : List AB} {X : Type} (S : X → List (Nat × AV)) (H : X → List AB) (Inv : X → Prop) (μ : X → Nat) (x0 : X)
    (start : Inv x0 ∧ ∃ sel, Cut N sel h (H x0) ∧ SlotsL sel h (H x0) (S x0) e)
    (round : ∀ x, Inv x → awp C N c (AEx.then (LEnd N S H Inv μ x) Q) (slots (S x)) (H x)) : FLoop C N c Q e h := by
  have ex : ∀ (e : Env) (h : List AB), (∃ x, Inv x ∧ e = slots (S x) ∧ h = H x) → ∃ y, (Inv y ∧ e = slots (S y) ∧ h = H y) ∧ ∀ x, Inv x → e = slots (S x) → h = H x → μ y ≤ μ x := by
    intro e h ⟨x, hx⟩
    induction hk : μ x using Nat.strongRecOn generalizing x with
    | _ k ih =>
      by_cases hlt : ∃ x', μ x' < k ∧ Inv x' ∧ e = slots (S x') ∧ h = H x'
      · obtain ⟨x', h1, h2⟩ := hlt
        exact ih (μ x') h1 x' h2 rfl
      · refine ⟨x, hx, fun x' i1 i2 i3 => Nat.le_of_not_lt fun h => hlt ⟨x', by omega, i1, i2, i3⟩⟩
  let M : Env → List AB → Nat := fun e h => open Classical in if hh : ∃ x, Inv x ∧ e = slots (S x) ∧ h = H x then μ (ex e h hh).choose else 0
  have hM : ∀ (e : Env) (h : List AB) (hh : ∃ x, Inv x ∧ e = slots (S x) ∧ h = H x), M e h = μ (ex e h hh).choose := fun e h hh => by
    simp only [M]
    rw [dif_pos hh]
  refine ⟨fun e h => ∃ x, Inv x ∧ e = slots (S x) ∧ h = H x, M, ⟨_, _, Wk.gen start.2.choose_spec.1 start.2.choose_spec.2.get, x0, start.1, rfl, rfl⟩, ?_⟩
  intro e1 h1 hh1
  obtain ⟨⟨hy1, hy2, hy3⟩, _⟩ := (ex e1 h1 hh1).choose_spec
  have e2 := hM e1 h1 hh1
  generalize (ex e1 h1 hh1).choose = y at *
  subst hy2
  subst hy3
  refine awp_mono hC c (fun ax e' h' hh => ?_) (round y hy1)
  cases ax with
  | normal =>
    obtain ⟨x', i1, i2, sel, i3, i4⟩ := hh.ex
    refine ⟨_, _, Wk.gen i3 i4.get, ⟨x', i1, rfl, rfl⟩, ?_⟩
    have hex' : ∃ x, Inv x ∧ slots (S x') = slots (S x) ∧ H x' = H x := ⟨x', i1, rfl, rfl⟩
    rw [e2, hM _ _ hex']
    exact Nat.lt_of_le_of_lt ((ex _ _ hex').choose_spec.2 x' i1 rfl rfl) i2
  | exit id => exact hh
  | ret => exact hh
theorem then_mono {A B : Env → List AB → Prop} {Q : AEx → Env → List AB → Prop} (h : ∀ e h, A e h → B e h) : ∀ x e h', AEx.then A Q x e h' → AEx.then B Q x e h' := fun x e h' hh => by
  cases x with
  | normal => exact h _ _ hh
  | exit id => exact hh
  | ret => exact hh
theorem FLoop.of {C : CallP} (hC : C.Mono) {N : Nat} {c : ACo} {Q : AEx → Env → List AB → Prop} {e : Env} {h : List AB} {X : Type} (S : X → List (Nat × AV)) (H : X → List AB) (Inv : X → Prop) (μ : X → Nat) (x0 : X)
    (start : Inv x0 ∧ ∃ sel, Cut N sel h (H x0) ∧ SlotsL sel h (H x0) (S x0) e)
    (round : ∀ x, Inv x → fawp C N c (AEx.then (LEnd N S H Inv μ x) Q) (slots (S x)) (H x)) : FLoop C N c Q e h :=
  FLoop.ofA hC S H Inv μ x0 start fun x hx => fawp_ok hC c (round x hx)
structure LEnd2 {X Y : Type} (N : Nat) (S : X → Y → List (Nat × AV)) (H : X → Y → List AB) (Inv : X → Y → Prop) (μ : X → Y → Nat) (x : X) (y : Y) (e : Env) (h : List AB) : Prop where
  ex : ∃ x' y', Inv x' y' ∧ μ x' y' < μ x y ∧ ∃ sel, Cut N sel h (H x' y') ∧ SlotsL sel h (H x' y') (S x' y') e
structure LEnd3 {X Y Z : Type} (N : Nat) (S : X → Y → Z → List (Nat × AV)) (H : X → Y → Z → List AB) (Inv : X → Y → Z → Prop) (μ : X → Y → Z → Nat) (x : X) (y : Y) (z : Z) (e : Env) (h : List AB) : Prop where
  ex : ∃ x' y' z', Inv x' y' z' ∧ μ x' y' z' < μ x y z ∧ ∃ sel, Cut N sel h (H x' y' z') ∧ SlotsL sel h (H x' y' z') (S x' y' z') e
structure LEnd4 {X Y Z V : Type} (N : Nat) (S : X → Y → Z → V → List (Nat × AV)) (H : X → Y → Z → V → List AB) (Inv : X → Y → Z → V → Prop) (μ : X → Y → Z → V → Nat) (x : X) (y : Y) (z : Z) (v : V) (e : Env) (h : List AB) : Prop where
  ex : ∃ x' y' z' v', Inv x' y' z' v' ∧ μ x' y' z' v' < μ x y z v ∧ ∃ sel, Cut N sel h (H x' y' z' v') ∧ SlotsL sel h (H x' y' z' v') (S x' y' z' v') e
theorem FLoop.of4 {C : CallP} (hC : C.Mono) {N : Nat} {c : ACo} {Q : AEx → Env → List AB → Prop} {e : Env} {h : List AB} {X Y Z V : Type} (S : X → Y → Z → V → List (Nat × AV)) (H : X → Y → Z → V → List AB) (Inv : X → Y → Z → V → Prop) (μ : X → Y → Z → V → Nat) (x0 : X) (y0 : Y) (z0 : Z) (v0 : V)
    (start : Inv x0 y0 z0 v0 ∧ ∃ sel, Cut N sel h (H x0 y0 z0 v0) ∧ SlotsL sel h (H x0 y0 z0 v0) (S x0 y0 z0 v0) e)
    (round : ∀ x y z v, Inv x y z v → fawp C N c (AEx.then (LEnd4 N S H Inv μ x y z v) Q) (slots (S x y z v)) (H x y z v)) : FLoop C N c Q e h :=
  FLoop.ofA hC (fun p : X × Y × Z × V => S p.1 p.2.1 p.2.2.1 p.2.2.2) (fun p => H p.1 p.2.1 p.2.2.1 p.2.2.2) (fun p => Inv p.1 p.2.1 p.2.2.1 p.2.2.2) (fun p => μ p.1 p.2.1 p.2.2.1 p.2.2.2) (x0, y0, z0, v0) start fun p hp =>
    awp_mono hC c (then_mono fun _ _ ⟨x', y', z', v', h⟩ => ⟨(x', y', z', v'), h⟩) (fawp_ok hC c (round p.1 p.2.1 p.2.2.1 p.2.2.2 hp))
/-- A round of a loop over a function has come to its end. -/
structure REnd {X : Type} (N : Nat) (e1 : Env) (S : X → List (Nat × AV)) (H : X → List AB) (Inv : X → Prop) (h : List AB) : Prop where
  ex : ∃ x', Inv x' ∧ ∃ sel, Cut N sel h (H x') ∧ SlotsL sel h (H x') (S x') e1
def rfC {X : Type} (N : Nat) (e1 : Env) (S : X → List (Nat × AV)) (H : X → List AB) (Inv : X → Prop) (Q : AEx → Env → List AB → Prop) : AEx → Env → List AB → Prop
  | .normal, _, h => REnd N e1 S H Inv h
  | .exit id, _, h => Q (.exit id) e1 h
  | .ret, _, h => Q .ret e1 h
theorem FRange.ofG (mv : Bool) {C : CallP} (hC : C.Mono) {N : Nat} {it : AX} {ps : List Nat} {a b : ACo} {Q : AEx → Env → List AB → Prop} {e : Env} {h : List AB} {X : Type} (len : Nat) (Lf : Nat → List AV) (S : X → List (Nat × AV)) (H : X → List AB) (Inv : Nat → X → Prop) (x0 : X)
    (start : Inv 0 x0 ∧ ∃ sel, Cut N sel h (H x0) ∧ SlotsL sel h (H x0) (S x0) e)
    {gf m : Nat} {c : Nat → AV} (hit : it.ev (slots (S x0)) = fnv mv gf m c) (hp : ((List.range m).all fun i => (c i).pureB) = true) (hit2 : C.iter mv gf ((List.range m).map c) ((List.range len).map Lf)) (hl : ∀ k, k < len → (Lf k).length = ps.length)
    (round : ∀ k x, k < len → Inv k x → fawp C (H x).length a (rfA fun e h => fawp C (H x).length b (rfC (H x0).length (slots (S x)) S H (Inv (k + 1)) Q) e h) (putL (slots (S x)) ps (Lf k)) (H x))
    (done : ∀ x, Inv len x → Q .normal (slots (S x)) (H x)) : FRange C N it ps a b Q e h := by
  obtain ⟨h1, sel, h2, h3⟩ := start
  refine ⟨slots (S x0), H x0, mv, gf, m, c, (List.range len).map Lf, fun k e h => ∃ x, Inv k x ∧ e = slots (S x) ∧ h = H x, Wk.gen h2 h3.get, ⟨x0, h1, rfl, rfl⟩, hit, fun i hi => pureB_ok _ (by simp only [List.all_eq_true, List.mem_range] at hp; exact hp i hi), hit2, fun y hy => ?_, ?_, ?_⟩
  · obtain ⟨k, hk, rfl⟩ := List.mem_map.1 hy
    exact hl k (by simpa using hk)
  · rintro k _ _ hk ⟨x, hx, rfl, rfl⟩
    have hk' : k < len := by simpa using hk
    have e1 : ((List.range len).map Lf).getD k [] = Lf k := by simp [List.getD, hk']
    rw [e1]
    refine awp_mono hC a (rfA_mono fun e h hh => awp_mono hC b (fun y e h hh => ?_) (fawp_ok hC b hh)) (fawp_ok hC a (round k x hk' hx))
    cases y with
    | normal =>
      obtain ⟨x', i1, sel, i2, i3⟩ := hh.ex
      exact ⟨_, _, Wk.gen i2 i3.get, x', i1, rfl, rfl⟩
    | exit id => exact hh
    | ret => exact hh
  · rintro _ _ ⟨x, hx, rfl, rfl⟩
    exact done x (by simpa using hx)
theorem FRange.of {C : CallP} (hC : C.Mono) {N : Nat} {it : AX} {ps : List Nat} {a b : ACo} {Q : AEx → Env → List AB → Prop} {e : Env} {h : List AB} {X : Type} (len : Nat) (Lf : Nat → List AV) (S : X → List (Nat × AV)) (H : X → List AB) (Inv : Nat → X → Prop) (x0 : X)
    (start : Inv 0 x0 ∧ ∃ sel, Cut N sel h (H x0) ∧ SlotsL sel h (H x0) (S x0) e)
    {gf m : Nat} {c : Nat → AV} (hit : it.ev (slots (S x0)) = .fn gf m c) (hp : ((List.range m).all fun i => (c i).pureB) = true) (hit2 : C.iter false gf ((List.range m).map c) ((List.range len).map Lf)) (hl : ∀ k, k < len → (Lf k).length = ps.length)
    (round : ∀ k x, k < len → Inv k x → fawp C (H x).length a (rfA fun e h => fawp C (H x).length b (rfC (H x0).length (slots (S x)) S H (Inv (k + 1)) Q) e h) (putL (slots (S x)) ps (Lf k)) (H x))
    (done : ∀ x, Inv len x → Q .normal (slots (S x)) (H x)) : FRange C N it ps a b Q e h := FRange.ofG false hC len Lf S H Inv x0 start hit hp hit2 hl round done
theorem FRange.ofM {C : CallP} (hC : C.Mono) {N : Nat} {it : AX} {ps : List Nat} {a b : ACo} {Q : AEx → Env → List AB → Prop} {e : Env} {h : List AB} {X : Type} (len : Nat) (Lf : Nat → List AV) (S : X → List (Nat × AV)) (H : X → List AB) (Inv : Nat → X → Prop) (x0 : X)
    (start : Inv 0 x0 ∧ ∃ sel, Cut N sel h (H x0) ∧ SlotsL sel h (H x0) (S x0) e)
    {gf m : Nat} {c : Nat → AV} (hit : it.ev (slots (S x0)) = .mv gf m c) (hp : ((List.range m).all fun i => (c i).pureB) = true) (hit2 : C.iter true gf ((List.range m).map c) ((List.range len).map Lf)) (hl : ∀ k, k < len → (Lf k).length = ps.length)
    (round : ∀ k x, k < len → Inv k x → fawp C (H x).length a (rfA fun e h => fawp C (H x).length b (rfC (H x0).length (slots (S x)) S H (Inv (k + 1)) Q) e h) (putL (slots (S x)) ps (Lf k)) (H x))
    (done : ∀ x, Inv len x → Q .normal (slots (S x)) (H x)) : FRange C N it ps a b Q e h := FRange.ofG true hC len Lf S H Inv x0 start hit hp hit2 hl round done
theorem zA {p : Prop} [Decidable p] : (decide p = true) = p := decide_eq_true_eq
theorem zB (a b : Bool) : ((a && b) = true) = (a = true ∧ b = true) := Bool.and_eq_true a b
theorem zC (a b : Bool) : ((a || b) = true) = (a = true ∨ b = true) := Bool.or_eq_true a b
theorem zD (b : Bool) : ((!b) = true) = (b = false) := Bool.not_eq_true' b
theorem zE {p : Prop} [Decidable p] : decide p = false ↔ ¬p := decide_eq_false_iff_not
theorem zF {α : Type} [BEq α] [LawfulBEq α] {a b : α} : (a != b) = true ↔ a ≠ b := bne_iff_ne
theorem zG {α : Type} [BEq α] [LawfulBEq α] {a b : α} : (a == b) = true ↔ a = b := beq_iff_eq
theorem zH {a b : Bool} : (a && b) = false ↔ a = false ∨ b = false := Bool.and_eq_false_iff
theorem zI {a b : Bool} : (a || b) = false ↔ a = false ∧ b = false := Bool.or_eq_false_iff
theorem zJ (b : Bool) : ((!b) = false) = (b = true) := Bool.not_eq_false' b
end Go.Proofs.Ytlffjnmbpoemnaa

namespace Go.Proofs.Ytlffjnmbpoemnaa
open Go.RowKit

/-- The caller's names for what a callee names, computed before one goes on. -/
def frensL (K1 : AV → (AV → Prop) → Prop) : List AV → (List AV → Prop) → Prop
  | [], K => K []
  | v :: vs, K => K1 v fun v' => frensL K1 vs fun vs' => K (v' :: vs')
def fren (sel : List Nat) (N : Nat) : Nat → AV → (AV → Prop) → Prop
  | 0, v, K => frc (ren sel N v) K
  | _ + 1, .own d n, K => nlit (tau sel N d) fun d' => K (.own d' n)
  | _ + 1, .ptr d o, K => nlit (tau sel N d) fun d' => K (.ptr d' o)
  | _ + 1, .rp d sz k o, K => nlit (tau sel N d) fun d' => K (.rp d' sz k o)
  | _ + 1, .osl d sz lo n, K => nlit (tau sel N d) fun d' => K (.osl d' sz lo n)
  | _ + 1, .mpv d, K => nlit (tau sel N d) fun d' => K (.mpv d')
  | D + 1, .fn f m c, K => match (AV.fn f m c).pureB with
    | true => K (.fn f m c)
    | false => frensL (fren sel N D) ((List.range m).map c) fun vs => K (.fn f m (ofL vs))
  | D + 1, .agg m c, K => match (AV.agg m c).pureB with
    | true => K (.agg m c)
    | false => frensL (fren sel N D) ((List.range m).map c) fun vs => K (.agg m (ofL vs))
  | D + 1, .tup m c, K => match (AV.tup m c).pureB with
    | true => K (.tup m c)
    | false => frensL (fren sel N D) ((List.range m).map c) fun vs => K (.tup m (ofL vs))
  | _ + 1, v, K => frc (ren sel N v) K
theorem frensL_e {K1 : AV → (AV → Prop) → Prop} {r : AV → AV} (h1 : ∀ v K, K1 v K → K (r v)) : ∀ {vs : List AV} {K : List AV → Prop}, frensL K1 vs K → K (vs.map r)
  | [], _, h => h
  | _ :: _, K, h => frensL_e h1 (K := fun vs' => K (_ :: vs')) (h1 _ _ h)
theorem fren_e {sel : List Nat} {N : Nat} : ∀ (D : Nat) (v : AV) {K : AV → Prop}, fren sel N D v K → K (ren sel N v)
  | 0, v, K, h => frc_e h
  | D + 1, v, K, h => by
    cases v
    case own => exact nlit_e h
    case ptr => exact nlit_e h
    case rp => exact nlit_e h
    case osl => exact nlit_e h
    case mpv => exact nlit_e h
    case fn f m c =>
      simp only [fren] at h
      simp only [ren]
      split at h
      · rename_i hp; rw [hp]; exact h
      · rename_i hp
        rw [hp]
        have := frensL_e (fun v K hh => fren_e D v hh) h
        rw [List.map_map] at this
        exact this
    case agg m c =>
      simp only [fren] at h
      simp only [ren]
      split at h
      · rename_i hp; rw [hp]; exact h
      · rename_i hp
        rw [hp]
        have := frensL_e (fun v K hh => fren_e D v hh) h
        rw [List.map_map] at this
        exact this
    case tup m c =>
      simp only [fren] at h
      simp only [ren]
      split at h
      · rename_i hp; rw [hp]; exact h
      · rename_i hp
        rw [hp]
        have := frensL_e (fun v K hh => fren_e D v hh) h
        rw [List.map_map] at this
        exact this
    all_goals exact frc_e h
def frenB (sel : List Nat) (N : Nat) (x : AB) (K : AB → Prop) : Prop := match x with
  | .dead => K .dead
  | .box m c => frensL (fren sel N 3) ((List.range m).map c) fun vs => K (.box m (ofL vs))
  | .row n sz c => K (.row n sz c)
  | .mp kt L => K (.mp kt L)
  | .mit m n s => fren sel N 1 m fun m' => K (.mit m' n s)
  | .rwg n sz c => K (.rwg n sz (fun k o => ren sel N (c k o)))
theorem frenB_e {sel : List Nat} {N : Nat} {x : AB} {K : AB → Prop} (h : frenB sel N x K) : K (renB sel N x) := by
  cases x with
  | dead => exact h
  | box m c =>
    have := frensL_e (fun v K hh => fren_e 3 v hh) h
    rw [List.map_map] at this
    exact this
  | row n sz c => exact h
  | mp kt L => exact h
  | mit m n s => exact fren_e 1 m h
  | rwg n sz c => exact h
def frenBs (sel : List Nat) (N : Nat) : List AB → (List AB → Prop) → Prop
  | [], K => K []
  | x :: xs, K => frenB sel N x fun y => frenBs sel N xs fun ys => K (y :: ys)
theorem frenBs_e {sel : List Nat} {N : Nat} : ∀ {xs : List AB} {K : List AB → Prop}, frenBs sel N xs K → K (xs.map (renB sel N))
  | [], _, h => h
  | _ :: _, K, h => frenBs_e (K := fun ys => K (_ :: ys)) (frenB_e h)
def fputs (sel : List Nat) (N : Nat) : List Nat → List AB → List AB → (List AB → Prop) → Prop
  | d :: ds, x :: xs, H, K => frenB sel N x fun y => frcH (H.set d y) fun H' => fputs sel N ds xs H' K
  | [], xs, H, K => frenBs sel N xs fun ys => frcH (H ++ ys) K
  | _ :: _, [], H, K => K H
theorem fputs_e {sel : List Nat} {N : Nat} : ∀ {ds : List Nat} {xs H : List AB} {K : List AB → Prop}, fputs sel N ds xs H K → K (puts N sel ds xs H)
  | _ :: ds, _ :: xs, _, _, h => fputs_e (ds := ds) (xs := xs) (frcH_e (frenB_e h))
  | [], xs, H, K, h => by
    have := frcH_e (frenBs_e h)
    simpa [puts] using this
  | _ :: _, [], _, _, h => h
def GivL (sel : List Nat) (H : List AB) : List Nat → List AB → Prop
  | [], [] => True
  | d :: ds, x :: xs => (∃ y, H[d]? = some y ∧ x.live ∧ LnB (fun d i => sel[i]? = some d) (fun _ => False) H y x) ∧ GivL sel H ds xs
  | _, _ => False
theorem GivL.get {sel : List Nat} {H : List AB} : ∀ {ds : List Nat} {xs : List AB}, GivL sel H ds xs → ds.length = xs.length ∧ ∀ (i d : Nat) (x : AB), ds[i]? = some d → xs[i]? = some x → ∃ y, H[d]? = some y ∧ x.live ∧ LnB (fun d i => sel[i]? = some d) (fun _ => False) H y x
  | [], [], _ => ⟨rfl, fun i d x h => by simp at h⟩
  | [], _ :: _, h => h.elim
  | _ :: _, [], h => h.elim
  | d :: ds, x :: xs, h => by
    obtain ⟨a, b⟩ := GivL.get h.2
    refine ⟨by simp [a], fun i d' y hd hy => ?_⟩
    cases i with
    | zero =>
      simp only [List.getElem?_cons_zero, Option.some.injEq] at hd hy
      subst hd; subst hy
      exact h.1
    | succ i => exact b i d' y hd hy
theorem FCall.give {P : Program} {f : FuncId} {xs xs' : List AV} {H h' : List AB} {K' K : AV → List AB → Prop} (sel B : List Nat) (con : ACall P f xs' h' K') (hnd : nodupB sel = true) (hBs : (B.all fun d => !sel.contains d) = true)
    (hh : GivL sel H sel h') (hx : LnL (fun d i => sel[i]? = some d) (fun d => d ∈ B) H xs xs')
    (hK : ∀ r h2, K' r h2 → sel.length ≤ h2.length ∧ (B = [] ∨ (r.flat ∧ ∀ x ∈ h2, x.flat)) ∧ nlit H.length fun N => fren sel N 3 r fun r' => fputs sel N sel h2 H fun H' => K r' H') : FCall (ACalls P) f xs H K := by
  refine ⟨ACall.at sel B con (nodupB_ok hnd) hh.get.1 (fun d hd hs => ?_) hh.get.2 hx fun r h2 hk => ?_⟩
  · simp only [List.all_eq_true, Bool.not_eq_true', List.contains_eq_mem, decide_eq_false_iff_not] at hBs
    exact hBs d hd hs
  · obtain ⟨a, b, c⟩ := hK r h2 hk
    have c := nlit_e c
    exact ⟨a, b, fputs_e (K := fun H' => K _ H') (fren_e 3 _ (K := fun r' => fputs sel H.length sel h2 H fun H' => K r' H') c)⟩
/-- A row that a function hands back, to be read only. -/
theorem ACall.pub {P : Program} {f : FuncId} {xs : List AV} {n N sz : Nat} {c : Nat → Nat → AV} (hn : n ≤ N) (H : ACall P f xs [] (fun r h => r = .own 0 n ∧ h = [.row N sz c])) : ACall P f xs [] (fun r h => r = .sl false false n sz c ∧ h = []) :=
  ACall.wk (ACall.mono' P (by rintro _ _ ⟨rfl, rfl⟩; exact ⟨_, [], [], Cut.nil _, Ln.pubE (goneB rfl) rfl hn rfl (fun _ _ _ _ => rfl), rfl, rfl⟩) H)
end Go.Proofs.Ytlffjnmbpoemnaa

namespace Go.Proofs.Ytlffjnmbpoemnaa
open Go.RowKit

theorem live_dead {H : List AB} {d i : Nat} (h : live (H.set d .dead) i) : live H i ∧ i ≠ d := by
  obtain ⟨x, hx, hl⟩ := h
  by_cases e : d = i
  · subst e
    rw [List.getElem?_set_self'] at hx
    cases hy : H[d]? with
    | none => rw [hy] at hx; cases hx
    | some y => rw [hy] at hx; cases hx; exact hl.elim
  · rw [List.getElem?_set_ne e] at hx
    exact ⟨⟨x, hx, hl⟩, fun h => e h.symm⟩
theorem MO_set {g : GM} {H : List AB} {d b : Nat} (h : MO g (H.set d .dead) b) : MO g H b := by
  obtain ⟨i, cap, hl, hg⟩ := h
  exact ⟨i, cap, (live_dead hl).1, hg⟩
theorem MM_set {F : Nat → Prop} {g : GM} {H : List AB} {d b : Nat} (h : MM F g (H.set d .dead) b) : MM F g H b := h.imp id MO_set
theorem HOK.bury {F : Nat → Prop} {g : GM} {w : World} {H : List AB} (d : Nat) (k : HOK F g w H) : HOK F g w (H.set d .dead) := by
  refine HOK.of_all (fun i hi => k.dom i (by simpa using hi)) (fun i hl => k.lv i (live_dead hl).1) (fun i j b c c' h1 h2 => k.inj i j b c c' (live_dead h1).1 (live_dead h2).1) (fun i b cap x hx hg => ?_) (fun b hF => ⟨(k.fr b hF).1, fun h => (k.fr b hF).2 (MO_set h)⟩)
  by_cases e : d = i
  · subst e
    rw [List.getElem?_set_self'] at hx
    cases hy : H[d]? with
    | none => rw [hy] at hx; cases hx
    | some y => rw [hy] at hx; cases hx; trivial
  · rw [List.getElem?_set_ne e] at hx
    exact (k.all hx hg).mono (Chg.refl _ w) (fun _ _ h => MM_set h) (GM.le_refl _) rfl
theorem FCall.bury {P : Program} {f : FuncId} {xs : List AV} {H : List AB} {K : AV → List AB → Prop} (d : Nat) (xs' : List AV) (hx : LnL (fun a i => a = i ∧ a ≠ d) (fun a => a = d) H xs xs') (h : FCall (ACalls P) f xs' (H.set d .dead) K) : FCall (ACalls P) f xs H K := by
  obtain ⟨h1, h2⟩ := h.h
  refine ⟨h1, fun F g w vs k hs hv => ?_⟩
  obtain ⟨hl, hget⟩ := hx.get
  have kd : ∀ a b cap, a = d → live H a → g a = some (b, cap) → ¬ MM F g (H.set d .dead) b := by
    rintro a b cap rfl hla hga (hF | ⟨i, cap', hli, hgi⟩)
    · exact (k.fr b hF).2 ⟨a, cap, hla, hga⟩
    · have := live_dead hli
      exact this.2 (k.inj i a b cap' cap this.1 hla hgi hga)
  refine (h2 F g w vs (k.bury d) (by omega) (fun i y hy => ?_)).mono ?_
  · obtain ⟨x, hx1, hx2⟩ := hget i y hy
    exact hx2.rep k (fun _ h => MM_set h) (fun a i p hai hga => hai.1 ▸ hga) kd (hv i x hx1)
  · rintro en w' ⟨v, r, h', g', e1, T, e2, e3⟩
    exact ⟨v, r, h', g', e1, ⟨T.ok, T.gle, T.chg.weak (fun _ _ h => MO_set h), fun b hb => (T.new b hb).imp MO_set id⟩, e2, e3⟩
end Go.Proofs.Ytlffjnmbpoemnaa

namespace Go.Proofs.Ytlffjnmbpoemnaa
open Go.RowKit

/-- What is in the first set and not in the second one. -/
def sdiff (a b : Nat) : Nat := a ^^^ (a &&& b)
theorem testBit_sdiff (a b i : Nat) : (sdiff a b).testBit i = (a.testBit i && !b.testBit i) := by
  unfold sdiff
  rw [Nat.testBit_xor, Nat.testBit_and]
  cases a.testBit i <;> cases b.testBit i <;> rfl
theorem sdiff_lt {a b n : Nat} (h : a < 2 ^ n) : sdiff a b < 2 ^ n := Nat.xor_lt_two_pow h (Nat.lt_of_le_of_lt Nat.and_le_left h)
abbrev k64 : IntKind → Bool
  | .i64 | .u64 => true
  | _ => false
theorem k64_bits {k : IntKind} (hk : k64 k = true) : k.bits = 64 := by cases k <;> first | rfl | cases hk
theorem wrapN {k : IntKind} (hk : k64 k = true) {n : Nat} (h : n < 9223372036854775808) : k.wrap (n : Int) = n := by
  cases k <;> first | cases hk | skip
  · exact IntWalk.i64_in _ (by omega)
  · exact IntWalk.u64_in _ (by omega)
theorem ofIntN {n : Nat} (h : n < 9223372036854775808) : (BitVec.ofInt 64 (n : Int)).toNat = n := by
  rw [BitVec.ofInt_natCast, BitVec.toNat_ofNat]; exact Nat.mod_eq_of_lt (by omega)
theorem FBit.andN {k : IntKind} (hk : k64 k = true) {a b : Nat} {K : Int → Prop} (ha : a < 9223372036854775808) (hb : b < 9223372036854775808) (h : K ((a &&& b : Nat) : Int)) : FBit .and k (a : Int) (b : Int) K := ⟨by
  have e : ((BitVec.ofInt 64 (a : Int) &&& BitVec.ofInt 64 (b : Int)).toNat : Int) = ((a &&& b : Nat) : Int) := by rw [BitVec.toNat_and, ofIntN ha, ofIntN hb]
  have e2 : rawBit .and k (a : Int) (b : Int) = k.wrap ((BitVec.ofInt 64 (a : Int) &&& BitVec.ofInt 64 (b : Int)).toNat : Int) := by cases k <;> first | rfl | cases hk
  rw [e2, e, wrapN hk (Nat.lt_of_le_of_lt Nat.and_le_left ha)]; exact h⟩
theorem FBit.orN {k : IntKind} (hk : k64 k = true) {a b : Nat} {K : Int → Prop} (ha : a < 9223372036854775808) (hb : b < 9223372036854775808) (h : K ((a ||| b : Nat) : Int)) : FBit .or k (a : Int) (b : Int) K := ⟨by
  have : a ||| b < 2 ^ 63 := Nat.or_lt_two_pow ha hb
  have e2 : rawBit .or k (a : Int) (b : Int) = k.wrap ((BitVec.ofInt 64 (a : Int) ||| BitVec.ofInt 64 (b : Int)).toNat : Int) := by cases k <;> first | rfl | cases hk
  rw [e2, BitVec.toNat_or, ofIntN ha, ofIntN hb, wrapN hk (by omega)]; exact h⟩
theorem FBit.andNotN {k : IntKind} (hk : k64 k = true) {a b : Nat} {K : Int → Prop} (ha : a < 9223372036854775808) (hb : b < 9223372036854775808) (h : K ((sdiff a b : Nat) : Int)) : FBit .andNot k (a : Int) (b : Int) K := ⟨by
  have e2 : rawBit .andNot k (a : Int) (b : Int) = k.wrap ((BitVec.ofInt 64 (a : Int) &&& ~~~ BitVec.ofInt 64 (b : Int)).toNat : Int) := by cases k <;> first | rfl | cases hk
  have e : (BitVec.ofInt 64 (a : Int) &&& ~~~ BitVec.ofInt 64 (b : Int)).toNat = sdiff a b := by
    apply Nat.eq_of_testBit_eq
    intro i
    rw [BitVec.toNat_and, Nat.testBit_and, ofIntN ha, testBit_sdiff]
    by_cases hi : i < 64
    · congr 1
      rw [BitVec.testBit_toNat, BitVec.getLsbD_not, decide_eq_true hi, Bool.true_and, ← BitVec.testBit_toNat, ofIntN hb]
    · have : a.testBit i = false := Nat.testBit_lt_two_pow (Nat.lt_of_lt_of_le ha (by
        have : (2 : Nat) ^ 63 ≤ 2 ^ i := Nat.pow_le_pow_right (by decide) (by omega)
        omega))
      rw [this]; rfl
  rw [e2, e, wrapN hk (Nat.lt_of_lt_of_le (sdiff_lt (n := 63) (by omega)) (by decide))]; exact h⟩
theorem FBit.shl1 {k : IntKind} (hk : k64 k = true) {j : Nat} {K : Int → Prop} (hj : j < 63) (h : K ((2 ^ j : Nat) : Int)) : FBit .shl k 1 (j : Int) K := ⟨by
  simp only [rawBit, k64_bits hk]
  have h1 : (1 : Int) * 2 ^ min ((j : Int)).toNat 64 = ((2 ^ j : Nat) : Int) := by
    rw [Int.toNat_natCast, Nat.min_eq_left (by omega), Int.one_mul]; simp
  have h2 : 2 ^ j < 2 ^ 63 := Nat.pow_lt_pow_right (by decide) hj
  rw [h1, wrapN hk (by omega)]; exact h⟩
theorem FBit.shrN {k : IntKind} (hk : k64 k = true) {m j : Nat} {K : Int → Prop} (hj : j ≤ 64) (h : K ((m >>> j : Nat) : Int)) : FBit .shr k (m : Int) (j : Int) K := ⟨by
  simp only [rawBit, k64_bits hk]
  have h1 : (m : Int).fdiv (2 ^ min ((j : Int)).toNat 64) = ((m >>> j : Nat) : Int) := by
    rw [Int.toNat_natCast, Nat.min_eq_left (by omega), Nat.shiftRight_eq_div_pow]
    have : ((2 : Int) ^ j) = ((2 ^ j : Nat) : Int) := by simp
    rw [this, Int.fdiv_eq_ediv_of_nonneg _ (Int.natCast_nonneg _)]
    rfl
  rw [h1]; exact h⟩
theorem FBit.shrI {k : IntKind} (hk : k64 k = true) {x y : Int} {K : Int → Prop} (hx : 0 ≤ x) (hy : 0 ≤ y ∧ y ≤ 64) (h : K ((x.toNat >>> y.toNat : Nat) : Int)) : FBit .shr k x y K := by
  have := FBit.shrN hk (m := x.toNat) (j := y.toNat) (K := K) (by omega) h
  rwa [Int.toNat_of_nonneg hx, Int.toNat_of_nonneg hy.1] at this
theorem FBit.shrNI {k : IntKind} (hk : k64 k = true) {m : Nat} {y : Int} {K : Int → Prop} (hy : 0 ≤ y ∧ y ≤ 64) (h : K ((m >>> y.toNat : Nat) : Int)) : FBit .shr k (m : Int) y K := FBit.shrI hk (by omega) hy h
theorem FBit.shrIN {k : IntKind} (hk : k64 k = true) {x : Int} {j : Nat} {K : Int → Prop} (hx : 0 ≤ x) (hj : j ≤ 64) (h : K ((x.toNat >>> j : Nat) : Int)) : FBit .shr k x (j : Int) K := FBit.shrI hk hx (by omega) h
theorem FBit.half {k : IntKind} (hk : k64 k = true) {m : Nat} {K : Int → Prop} (h : K ((m / 2 : Nat) : Int)) : FBit .shr k (m : Int) 1 K := by
  refine FBit.shrN (j := 1) hk (by decide) ?_
  rwa [Nat.shiftRight_eq_div_pow]
theorem FBit.shl1I {k : IntKind} (hk : k64 k = true) {y : Int} {K : Int → Prop} (hj : 0 ≤ y ∧ y < 63) (h : K ((2 ^ y.toNat : Nat) : Int)) : FBit .shl k 1 y K := by
  have := FBit.shl1 hk (j := y.toNat) (K := K) (by omega) h
  rwa [Int.toNat_of_nonneg hj.1] at this
theorem FBit.orI {k : IntKind} (hk : k64 k = true) {x y : Int} {a b : Nat} {K : Int → Prop} (hx : x = a) (hy : y = b) (ha : a < 9223372036854775808) (hb : b < 9223372036854775808) (h : K ((a ||| b : Nat) : Int)) : FBit .or k x y K := by
  subst hx; subst hy; exact FBit.orN hk ha hb h
theorem FBit.andI {k : IntKind} (hk : k64 k = true) {x y : Int} {a b : Nat} {K : Int → Prop} (hx : x = a) (hy : y = b) (ha : a < 9223372036854775808) (hb : b < 9223372036854775808) (h : K ((a &&& b : Nat) : Int)) : FBit .and k x y K := by
  subst hx; subst hy; exact FBit.andN hk ha hb h
theorem and1 {k : IntKind} (hk : k64 k = true) (m : Nat) : rawBit .and k (m : Int) 1 = ((m % 2 : Nat) : Int) := by
  have e2 : rawBit .and k (m : Int) 1 = k.wrap ((BitVec.ofInt 64 (m : Int) &&& BitVec.ofInt 64 1).toNat : Int) := by cases k <;> first | rfl | cases hk
  have h1 : (BitVec.ofInt 64 (1 : Int)).toNat = 1 := by decide
  have h2 : (BitVec.ofInt 64 (m : Int)).toNat = m % 2 ^ 64 := by rw [BitVec.ofInt_natCast, BitVec.toNat_ofNat]
  rw [e2, BitVec.toNat_and, h1, h2, Nat.and_one_is_mod, wrapN hk (by omega)]
  congr 1
  omega
theorem FBit.and1 {k : IntKind} (hk : k64 k = true) {m : Nat} {K : Int → Prop} (h : K ((m % 2 : Nat) : Int)) : FBit .and k (m : Int) 1 K := ⟨by rw [Proofs.Ytlffjnmbpoemnaa.and1 hk]; exact h⟩
theorem bit_mod (m j : Nat) : (m >>> j) % 2 = if m.testBit j then 1 else 0 := by
  rw [Nat.testBit_eq_decide_div_mod_eq, Nat.shiftRight_eq_div_pow]
  by_cases h : m / 2 ^ j % 2 = 1
  · rw [decide_eq_true h, h]; rfl
  · rw [decide_eq_false h]
    simp only [Bool.false_eq_true, if_false]
    omega
theorem FBit.has {k : IntKind} (hk : k64 k = true) {m j : Nat} {K : Int → Prop} (h1 : m.testBit j = true → K 1) (h0 : m.testBit j = false → K 0) : FBit .and k ((m >>> j : Nat) : Int) 1 K := ⟨by
  rw [Proofs.Ytlffjnmbpoemnaa.and1 hk, bit_mod]
  cases h : m.testBit j
  · exact h0 h
  · exact h1 h⟩
theorem FBit.hasT {k : IntKind} (hk : k64 k = true) {m j : Nat} {K : Int → Prop} (h : m.testBit j = true) (h1 : K 1) : FBit .and k ((m >>> j : Nat) : Int) 1 K := FBit.has hk (fun _ => h1) (fun h' => by rw [h] at h'; cases h')
theorem FBit.hasF {k : IntKind} (hk : k64 k = true) {m j : Nat} {K : Int → Prop} (h : m.testBit j = false) (h1 : K 0) : FBit .and k ((m >>> j : Nat) : Int) 1 K := FBit.has hk (fun h' => by rw [h] at h'; cases h') (fun _ => h1)
end Go.Proofs.Ytlffjnmbpoemnaa

namespace Go.Proofs.Ytlffjnmbpoemnaa
open Go.RowKit

theorem FCond.tA {q : Bool} {A B : Prop} (a : A) (h : q = true := by first | assumption | (rw [zA]; omega) | (simp only [zA, zB, zC, zD, zE, zF, zG, ne_eq, *]; done) | (simp only [zA, zB, zC, zD, zE, zF, zG, ne_eq]; omega) | decide | fail) : FCond q A B := .t h a
theorem FCond.fA {q : Bool} {A B : Prop} (b : B) (h : q = false := by first | assumption | (rw [zE]; omega) | (simp only [zE, zH, zI, zJ, zA, *]; done) | (simp only [zE, zH, zI, zJ, zA]; omega) | decide | fail) : FCond q A B := .f h b
theorem needA {p : Prop} (h : p := by first | omega | (unfold maxLen; omega) | (simp only [maxLen, List.length_cons, List.length_map, List.length_range, true_or, or_true, true_and, and_true] <;> omega) | ((conv => whnf); exact ⟨rfl⟩) | ((conv => whnf); (repeat ((first | with_reducible refine FCond.tA ?_ | with_reducible refine FCond.fA ?_ | with_reducible refine Need.mk (by omega) ?_ | with_reducible refine FIdx.nat (by omega) ?_ | with_reducible refine FIdx.int (by omega) ?_); (conv => whnf))); exact ⟨rfl⟩) | fail) : p := h
theorem allA {p : Prop} (h : p := by (repeat (first | exact True.intro | exact Ln.sameB _ rfl | exact Ln.sameB _ (by assumption) | exact Ln.slz _ _ _ _ _ _ _ (by decide) | exact Ln.bot _ | exact Ln.own _ _ _ rfl | exact Ln.ptr _ _ _ rfl | exact Ln.rp _ _ _ _ _ rfl | exact Ln.mpv _ _ rfl | (refine Ln.int ?_; first | rfl | omega) | (refine Ln.ownE rfl ?_; omega) | (refine Ln.bool ?_; first | assumption | (simp; done)) | exact Ln.pub _ _ _ _ _ _ (goneB rfl) rfl (by omega) (fun _ _ _ _ => rfl) | refine Ln.fnN ?_ | refine Ln.aggN ?_ | refine Ln.tupN ?_ | refine ⟨?_, ?_⟩))) : p := h
theorem Ln.A {σ : Nat → Nat → Prop} {Bp : Nat → Prop} {H : List AB} {v v' : AV} (h : Ln σ Bp H v v' := by first | exact Ln.sameB _ rfl | exact Ln.sameB _ (by assumption) | exact Ln.slz _ _ _ _ _ _ _ (by decide) | exact Ln.bot _ | exact Ln.own _ _ _ rfl | exact Ln.ptr _ _ _ rfl | exact Ln.rp _ _ _ _ _ rfl | exact Ln.mpv _ _ rfl | (refine Ln.int ?_; first | rfl | omega) | (refine Ln.ownE rfl ?_; omega) | (refine Ln.bool ?_; first | assumption | (simp; done)) | exact Ln.pub _ _ _ _ _ _ (goneB rfl) rfl (by omega) (fun _ _ _ _ => rfl) | (refine Ln.fnN ?_; exact allA) | (refine Ln.aggN ?_; exact allA) | (refine Ln.tupN ?_; exact allA) | fail) : Ln σ Bp H v v' := h
theorem LnB.mpS {σ : Nat → Nat → Prop} {Bp : Nat → Prop} {H : List AB} {kt : Nat} {L : List (List Int × AV)} : LnB σ Bp H (.mp kt L) (.mp kt L) := ⟨rfl, rfl⟩
theorem LnB.mitS {σ : Nat → Nat → Prop} {Bp : Nat → Prop} {H : List AB} {d i n : Nat} {s : List Nat} (h : σ d i) : LnB σ Bp H (.mit (.mpv d) n s) (.mit (.mpv i) n s) := ⟨.mpv d i h, rfl, rfl⟩
theorem LnB.A {σ : Nat → Nat → Prop} {Bp : Nat → Prop} {H : List AB} {x y : AB} (h : LnB σ Bp H x y := by first | exact LnB.rowS | exact LnB.mpS | exact LnB.mitS rfl | exact LnB.app (fun _ _ _ _ => rfl) (fun _ _ => rfl) | exact LnB.app (fun k hk => absurd hk (Nat.not_lt_zero k)) (fun _ _ => rfl) | (refine LnB.boxN ?_; exact allA) | fail) : LnB σ Bp H x y := h
theorem Cut.A {N : Nat} {sel : List Nat} {h h2 : List AB} (p : Cut N sel h h2 := by (refine Cut.of (Nat.le_of_ble_eq_true rfl) rfl rfl ?_; repeat (first | exact CutL.done | (refine CutL.turned rfl LnB.A ?_) | (refine CutL.gone (Nat.lt_of_lt_of_le (Nat.lt_succ_self _) (Nat.le_of_ble_eq_true rfl)) ?_)))) : Cut N sel h h2 := p
theorem avB {a b : Bool} (h : a = b := by (rw [Bool.eq_iff_iff]; simp only [decide_eq_true_eq, Bool.false_eq_true, Bool.and_eq_true, Bool.or_eq_true, false_iff, true_iff, iff_true, iff_false]; omega)) : AV.bool a = AV.bool b := congrArg AV.bool h
theorem FCond.i2 {q : Bool} {A B : Prop} (h1 : q = true → FCond q A B) (h2 : q = false → FCond q A B) : FCond q A B := by
  cases hq : q
  · rw [hq] at h2; exact h2 rfl
  · rw [hq] at h1; exact h1 rfl
theorem FCond.uT {q : Bool} {A B : Prop} (k : q = true → FCond q A B) (h : q = true := by first | assumption | (rw [zA]; omega) | (simp only [zA, zB, zC, zD, zE, zF, zG, ne_eq, *]; done) | (simp only [zA, zB, zC, zD, zE, zF, zG, ne_eq]; omega) | decide | fail) : FCond q A B := k h
theorem FCond.uF {q : Bool} {A B : Prop} (k : q = false → FCond q A B) (h : q = false := by first | assumption | (rw [zE]; omega) | (simp only [zE, zH, zI, zJ, zA, *]; done) | (simp only [zE, zH, zI, zJ, zA]; omega) | decide | fail) : FCond q A B := k h
/-- What several ways have in common is shown once. -/
structure Hold (A : Prop) : Prop where
  h : A
theorem cutG {A B : Prop} (h : Hold A → B) (a : A) : B := h ⟨a⟩
structure LEndM3 {X Y Z : Type} (N : Nat) (S : X → Y → Z → List (Nat × AV)) (H : X → Y → Z → List AB) (Inv : X → Y → Z → Prop) (μ : X → Y → Z → Nat) (n : Nat) (e : Env) (h : List AB) : Prop where
  ex : ∃ x' y' z', Inv x' y' z' ∧ μ x' y' z' < n ∧ ∃ sel, Cut N sel h (H x' y' z') ∧ SlotsL sel h (H x' y' z') (S x' y' z') e
theorem FLoop.of3M {C : CallP} (hC : C.Mono) {N : Nat} {c : ACo} {Q : AEx → Env → List AB → Prop} {e : Env} {h : List AB} {X Y Z : Type} (S : X → Y → Z → List (Nat × AV)) (H : X → Y → Z → List AB) (Inv : X → Y → Z → Prop) (μ : X → Y → Z → Nat) (x0 : X) (y0 : Y) (z0 : Z)
    (start : Inv x0 y0 z0 ∧ ∃ sel, Cut N sel h (H x0 y0 z0) ∧ SlotsL sel h (H x0 y0 z0) (S x0 y0 z0) e)
    (round : ∀ x y z n, Inv x y z → μ x y z = n → fawp C N c (AEx.then (LEndM3 N S H Inv μ n) Q) (slots (S x y z)) (H x y z)) : FLoop C N c Q e h :=
  FLoop.ofA hC (fun p : X × Y × Z => S p.1 p.2.1 p.2.2) (fun p => H p.1 p.2.1 p.2.2) (fun p => Inv p.1 p.2.1 p.2.2) (fun p => μ p.1 p.2.1 p.2.2) (x0, y0, z0) start fun p hp =>
    awp_mono hC c (then_mono fun _ _ ⟨x', y', z', h⟩ => ⟨(x', y', z'), h⟩) (fawp_ok hC c (round p.1 p.2.1 p.2.2 _ hp rfl))
end Go.Proofs.Ytlffjnmbpoemnaa

namespace Go.Proofs.Ytlffjnmbpoemnaa

structure Sheet where
  amounts : List (List Int)
  secret : List Int
  gap : Int
def Sheet.R (s : Sheet) : Nat := s.amounts.length
def Sheet.C (s : Sheet) : Nat := (s.amounts.getD 0 []).length
def Sheet.A (s : Sheet) (r c : Nat) : Int := (s.amounts.getD r []).getD c 0
abbrev inB (n lo hi : Int) : Bool := decide (lo ≤ n ∧ n ≤ hi)
/-- A set of columns for each row. -/
def maskS (s : Sheet) (m : List Int) : Bool := m.all (fun x => inB x 0 (((2 ^ s.C : Nat) : Int) - 1)) && decide (m.length = s.R)
def rowS (C : Nat) (l : List Int) : Bool := decide (l.length = C) && l.all (fun x => inB x 0 10000)
def Sheet.head (s : Sheet) : Bool := inB s.R 1 4 && inB s.C 1 4 && inB s.gap 1 1000 && maskS s s.secret
def Sheet.ok (s : Sheet) : Bool := s.head && s.amounts.all (rowS s.C)
def checkS (s : Sheet) : Int := if s.ok then 0 else 80
def checkM (s : Sheet) (m : List Int) : Int := if s.ok then (if maskS s m then 0 else 81) else 80
theorem check_0 {s : Sheet} : checkS s = 0 ↔ s.ok = true := by
  unfold checkS; split <;> simp_all
theorem check_80 {s : Sheet} (h : s.ok = false) : checkS s = 80 := by unfold checkS; rw [h]; rfl
theorem check_ok' {s : Sheet} (h : s.ok = true) : checkS s = 0 := check_0.2 h
/-- No larger than any statement looks at. -/
structure Near (s : Sheet) : Prop where
  r : s.R ≤ 20
  m : s.secret.length ≤ 20
  c : ∀ r, (s.amounts.getD r []).length ≤ 20
theorem Near.C {s : Sheet} (h : Near s) : s.C ≤ 20 := h.c 0
structure MaskOk (s : Sheet) (m : List Int) : Prop where
  len : m.length = s.R
  bd : ∀ r, r < s.R → 0 ≤ m.getD r 0 ∧ m.getD r 0 < ((2 ^ s.C : Nat) : Int)
structure SheetOk (s : Sheet) : Prop where
  r1 : 1 ≤ s.R
  r4 : s.R ≤ 4
  c1 : 1 ≤ s.C
  c4 : s.C ≤ 4
  gap : 1 ≤ s.gap ∧ s.gap ≤ 1000
  sec : MaskOk s s.secret
  row : ∀ r, r < s.R → (s.amounts.getD r []).length = s.C
  amt : ∀ r c, r < s.R → c < s.C → 0 ≤ s.A r c ∧ s.A r c ≤ 10000
theorem all_getD {α : Type} {q : α → Bool} {l : List α} (d : α) (h : l.all q = true) {i : Nat} (hi : i < l.length) : q (l.getD i d) = true := by
  rw [List.all_eq_true] at h
  exact h _ (by simp [List.getD, List.getElem?_eq_getElem hi])
theorem mask_d {s : Sheet} {m : List Int} (h : maskS s m = true) : MaskOk s m := by
  unfold maskS at h
  simp only [Bool.and_eq_true, decide_eq_true_eq] at h
  refine ⟨h.2, fun r hr => ?_⟩
  have := all_getD (0 : Int) h.1 (show r < m.length by rw [h.2]; exact hr)
  simp only [inB, decide_eq_true_eq] at this
  omega
theorem sheet_d {s : Sheet} (h : s.ok = true) : SheetOk s := by
  unfold Sheet.ok Sheet.head at h
  simp only [Bool.and_eq_true, inB, decide_eq_true_eq] at h
  obtain ⟨⟨⟨⟨h1, h2⟩, h3⟩, h4⟩, h5⟩ := h
  have row : ∀ r, r < s.R → rowS s.C (s.amounts.getD r []) = true := fun r hr => all_getD [] h5 hr
  have len : ∀ r, r < s.R → (s.amounts.getD r []).length = s.C := fun r hr => by
    have := row r hr
    unfold rowS at this
    simp only [Bool.and_eq_true, decide_eq_true_eq] at this
    exact this.1
  refine ⟨by omega, by omega, by omega, by omega, h3, mask_d h4, len, fun r c hr hc => ?_⟩
  have := row r hr
  unfold rowS at this
  simp only [Bool.and_eq_true] at this
  have h6 := all_getD (0 : Int) this.2 (show c < (s.amounts.getD r []).length by rw [len r hr]; exact hc)
  simp only [inB, decide_eq_true_eq] at h6
  exact h6
end Go.Proofs.Ytlffjnmbpoemnaa
