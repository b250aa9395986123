/- From the operations of code to the abstract ones; those that change nothing are sound. No program in sight. -/
import Derived.Test.YtomkjfhepfinhaaAbs2
import Derived.WalkSpells
import Derived.WalkLawsBesides
namespace Go.Proofs.Ytomkjfhepfinhaa
open Go.RowKit
variable {F : Nat → Prop}

/-- A constant. -/
def ofV1 : Value → AV
  | .bool b => .bool b
  | .int k n => .int k n
  | .pointer none => .nilp
  | .nilFunc => .nilf
  | .slice none 0 0 => .sl true true 0 0 (fun _ _ => .bot)
  | _ => .bot
def ofV : Value → AV
  | .agg cs => if cs.toList.all (fun u => u.oneCell') then .agg cs.size (ofL (cs.toList.map ofV1)) else .bot
  | .tuple cs => if cs.size = 0 then und else .bot
  | v => ofV1 v
theorem rep_ofV1 (M : Nat → Prop) (w : World) (g : GM) (v : Value) : rep M w (ofV1 v) g v := by
  unfold ofV1
  split
  · rfl
  · rfl
  · rfl
  · rfl
  · exact ⟨none, 0, rfl, by simp, fun _ => ⟨rfl, rfl⟩, fun _ => rfl, Nat.le_refl _, fun k hk => by omega⟩
  · trivial
theorem ofL_get {l : List AV} {i : Nat} {v : AV} (h : l[i]? = some v) : ofL l i = v := by simp [ofL, List.getD, h]
theorem rep_ofV (M : Nat → Prop) (w : World) (g : GM) (v : Value) : rep M w (ofV v) g v := by
  unfold ofV
  split
  · rename_i cs
    split
    · rename_i h
      refine ⟨cs, rfl, rfl, fun i hi => ⟨cs[i], Array.getElem?_eq_getElem hi, ?_, ?_⟩⟩
      · exact List.all_eq_true.1 h _ (by simp)
      · rw [ofL_get (v := ofV1 cs[i]) (by simp [hi])]
        exact rep_ofV1 M w g _
    · trivial
  · rename_i cs
    split
    · rename_i h
      exact ⟨cs, rfl, h, fun i hi => by omega⟩
    · trivial
  · exact rep_ofV1 M w g v

def cx : Operand → AX
  | .tmp t => .t t
  | .const v => .k (ofV v)
  | .global _ => .k .bot
  | .func f => .k (.fn f 0 (ofL []))

def tyAgg (P : Program) (t : TypeId) : Option Bool := (P.underlying t).map fun | .struct _ | .array _ _ => true | _ => false
def tySz (P : Program) (t : TypeId) : Option Nat := (P.info? t).map (·.size)
def tyFld (P : Program) (t : TypeId) (f : Nat) : Option Field := match P.underlying t with | some (.struct fs) => fs[f]? | _ => none
/-- The element of a slice type: its number, its cells, its bytes, its zero's cells. -/
def tyEl (P : Program) (t : TypeId) : Option (TypeId × TypeInfo) := match P.underlying t with | some (.slice e) => (P.info? e).map fun i => (e, i) | _ => none
/-- A slice of slices. -/
def tySl (P : Program) (t : TypeId) : Bool := match P.underlying t with
  | some (.slice e) => (match P.underlying e with
    | some (.slice _) => true
    | _ => false)
  | _ => false
def zcells (i : TypeInfo) : Option (List Value) := match i.zero with | some z => if z.cells.size = i.size && z.cells.toList.all (fun u => u.oneCell') then some z.cells.toList else none | none => none
def nilT : TypeDesc → Option Nat
  | .slice _ => some 0
  | .pointer _ => some 1
  | .func _ _ _ => some 2
  | _ => none

/-- A struct all of whose fields are numbers. -/
def flatS (P : Program) (t : TypeId) (fs : Array Field) : Bool := !P.stoodInHeld t && !P.eqGuardType P.depth t && (List.range fs.size).all fun i => match fs[i]? with
  | some f => f.offset == i && f.name != "_" && tyAgg P f.type == some false && (match P.underlying f.type with
    | some (.int _) => true
    | _ => false)
  | none => false
def compCall (P : Program) (c : Call) : AOp :=
  match c.callee with
  | .builtin .len => match c.args.toList, (c.argTypes[0]?).bind (tyEl P) with
    | [x], some _ => .len (cx x)
    | _, _ => .no
  | .builtin .clear => match c.args.toList, (c.argTypes[0]?).bind (tyEl P) with
    | [x], some (_, i) => match zcells i with
      | some _ => .clr i.size (cx x)
      | none => .no
    | _, _ => .no
  | .builtin .max => match c.args.toList with
    | [x, y] => .mx (cx x) (cx y)
    | _ => .no
  | .builtin .min => match c.args.toList with
    | [x, y] => .mn (cx x) (cx y)
    | _ => .no
  | .builtin .append => match c.args.toList, c.argTypes.toList with
    | [x, y], [t, t'] => if t = t' then match tyEl P t with
      | some (_, i) => match zcells i with
        | some _ => .app i.size i.bytes (cx x) (cx y)
        | none => .no
      | none => .no
      else .no
    | _, _ => .no
  | .value (.func f) => .call f (c.args.toList.map cx)
  | .value (.tmp t) => .calv (.t t) (c.args.toList.map cx)
  | _ => .no
def partsOf (P : Program) (t : TypeId) : List (Nat × Operand) → Option (List (Nat × Nat × AX))
  | [] => some []
  | (i, x) :: ps => match tyFld P t i, partsOf P t ps with
    | some f, some l => match tySz P f.type with
      | some s => some ((f.offset, s, cx x) :: l)
      | none => none
    | _, _ => none
def compOp (P : Program) : Op → AOp
  | .move x | .assign x => .mv (cx x)
  | .pick c a b => .pick (cx c) (cx a) (cx b)
  | .nilCheck x => .nilck (cx x)
  | .alloc t => match P.info? t with
    | some i => match i.zero with
      | some z => .box (.k (ofV z))
      | none => .no
    | none => .no
  | .box _ x => .box (cx x)
  | .build t ps => match P.underlying t with
    | some (.struct fs) => if fs.toList.all (fun f => (tySz P f.type).isSome) then match (P.info? t).bind zcells, partsOf P t ps.toList with
      | some zs, some l => .build (zs.map ofV1) l
      | _, _ => .no
      else .no
    | _ => .no
  | .buildSlice t n ps => match tyEl P t with
    | some (_, i) => match zcells i with
      | some zs => if 0 < i.size ∧ n * i.size ≤ 1000 then (if tySl P t then .bslp n i.size (zs.map ofV1) (ps.toList.map fun p => (p.1, cx p.2)) else .bsl n i.size (zs.map ofV1) (ps.toList.map fun p => (p.1, cx p.2))) else .no
      | none => .no
    | none => .no
  | .load t a => match tyAgg P t with
    | some true => match tySz P t with
      | some m => .ld (some m) (cx a)
      | none => .no
    | some false => .ld none (cx a)
    | none => .no
  | .store t a v => match tySz P t with
    | some m => .st m (cx a) (cx v)
    | none => .no
  | .fieldAddr s x f => match tyFld P s f with
    | some fd => match tySz P fd.type with
      | some (_ + 1) => .fa (cx x) fd.offset
      | _ => .no
    | none => .no
  | .field s x f => match tyFld P s f with
    | some fd => match tyAgg P fd.type with
      | some true => match tySz P fd.type with
        | some m => .fld (cx x) fd.offset (some m)
        | none => .no
      | some false => .fld (cx x) fd.offset none
      | none => .no
    | none => .no
  | .indexAddr t x i => match tyEl P t with
    | some (_, n) => .ia n.size (cx x) (cx i)
    | none => .no
  | .slice t x lo hi none => match tyEl P t with
    | some (_, n) => .slc n.size (cx x) (lo.map cx) (hi.map cx)
    | none => .no
  | .binOp op t x y _ => match P.underlying t with
    | some (.int _) => .bin op (cx x) (cx y)
    | some .bool => match op with
      | .eql => .binb false (cx x) (cx y)
      | .neq => .binb true (cx x) (cx y)
      | _ => .no
    | some d => match nilT d with
      | some tag => match op with
        | .eql => .eqz tag false (cx x) (cx y)
        | .neq => .eqz tag true (cx x) (cx y)
        | _ => .no
      | none => match d with
        | .struct fs => if flatS P t fs then (match op with
          | .eql => .eqa fs.size false (cx x) (cx y)
          | .neq => .eqa fs.size true (cx x) (cx y)
          | _ => .no) else .no
        | _ => .no
    | none => .no
  | .unOp op _ x => .un op (cx x)
  | .convert s d x => match P.underlying s, P.underlying d with
    | some _, some (.int k) => .conv k (cx x)
    | _, _ => .no
  | .makeFunc (.func f) first cap => if first.toList.isEmpty then .mkf f (cap.toList.map cx) else .no
  | .makeSlice t l c => match tyEl P t with
    | some (_, i) => match zcells i with
      | some zs => if 0 < i.size then .msl i.size i.bytes (zs.map ofV1) (cx l) (cx c) else .no
      | none => .no
    | none => .no
  | .extract t i => .ext (cx t) i
  | .call c => compCall P c
  | _ => .no

/-- The operation gives this value, in this state. -/
def RunsTo (F : Nat → Prop) (P : Program) (s : Sem Next) (g : GM) (h : List AB) (w : World) (r : AV) (h' : List AB) : Prop :=
  ∃ u w' g', (s.run P w = .ok (.value u) w' ∨ (s.run P w = .ok .skip w' ∧ u = undef)) ∧ rep (MM F g' h') w' r g' u ∧ Tr F g h w g' h' w'
theorem RunsTo.same {P : Program} {s : Sem Next} {g : GM} {h : List AB} {w : World} {r : AV} {u : Value} (k : HOK F g w h) (hs : s.run P w = .ok (.value u) w) (hr : rep (MM F g h) w r g u) : RunsTo F P s g h w r h :=
  ⟨u, w, g, .inl hs, hr, Tr.refl k⟩

theorem tyEl_some {P : Program} {t e : TypeId} {i : TypeInfo} (h : tyEl P t = some (e, i)) : P.underlying t = some (.slice e) ∧ P.info? e = some i := by
  unfold tyEl at h
  split at h
  · rename_i e' he
    cases hi : P.info? e' with
    | none => rw [hi] at h; cases h
    | some j =>
      rw [hi] at h
      injection h with h
      injection h with h1 h2
      subst h1; subst h2
      exact ⟨he, hi⟩
  · cases h
theorem tyAgg_run {P : Program} {t : TypeId} {b : Bool} (h : tyAgg P t = some b) (w : World) : (isAgg t).run P w = .ok b w := by
  unfold tyAgg at h
  cases hd : P.underlying t with
  | none => rw [hd] at h; cases h
  | some d =>
    rw [hd] at h
    simp only [isAgg, Sem.run_bind, run_underlying hd, Result.andThen_ok]
    cases d <;> simp only [Option.map_some, Option.some.injEq] at h <;> subst h <;> rfl
theorem tySz_run {P : Program} {t : TypeId} {m : Nat} (h : tySz P t = some m) (w : World) : (sizeOf t).run P w = .ok m w := by
  unfold tySz at h
  cases hd : P.info? t with
  | none => rw [hd] at h; cases h
  | some d =>
    rw [hd] at h
    injection h with h
    simp [sizeOf, typeInfo, hd, h]
theorem run_load_cell {P : Program} {w : World} {a : Addr} {u : Value} (h : w.cell? a = some u) : (load a).run P w = .ok u w := by simp [h]
theorem run_loadVar_one {P : Program} {t : TypeId} {w : World} {a : Addr} {u : Value} (ht : tyAgg P t = some false) (h : w.cell? a = some u) : (loadVar t a).run P w = .ok u w := by
  simp only [loadVar, Sem.run_bind, tyAgg_run ht, Result.andThen_ok, Bool.false_eq_true, if_false]
  exact run_load_cell h
theorem run_loadVar_agg {P : Program} {t : TypeId} {m : Nat} {w : World} {b off : Nat} (f : Nat → Value) (ht : tyAgg P t = some true) (hs : tySz P t = some m) (h : ∀ i, i < m → w.cell? ⟨b, off + i, none⟩ = some (f i)) :
    (loadVar t ⟨b, off, none⟩).run P w = .ok (.agg ((List.range m).map f).toArray) w := by
  simp only [loadVar, Sem.run_bind, tyAgg_run ht, Result.andThen_ok, if_true, tySz_run hs]
  rw [run_loadCells w ⟨b, off, none⟩ m f (fun j hj => by rw [Addr.add_lit]; exact h j hj)]
  rfl

/-- Cells in a row, as an aggregate. -/
theorem rep_cells {M : Nat → Prop} {w : World} {g : GM} {m : Nat} {c : Nat → AV} (f : Nat → Value) (h : ∀ i, i < m → (f i).oneCell' = true ∧ rep M w (c i) g (f i)) : rep M w (.agg m c) g (.agg ((List.range m).map f).toArray) :=
  ⟨_, rfl, by simp, fun i hi => ⟨f i, by simp [hi], (h i hi).1, (h i hi).2⟩⟩
theorem choose_fun {m : Nat} {p : Nat → Value → Prop} (h : ∀ i, i < m → ∃ u, p i u) : ∃ f : Nat → Value, ∀ i, i < m → p i (f i) :=
  ⟨fun i => if hi : i < m then (h i hi).choose else undef, fun i hi => by simp only [hi, dif_pos]; exact (h i hi).choose_spec⟩
end Go.Proofs.Ytomkjfhepfinhaa
