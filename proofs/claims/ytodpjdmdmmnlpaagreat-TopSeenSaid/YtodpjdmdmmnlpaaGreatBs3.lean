/- From the operations of code to the abstract ones; those that change nothing are sound / The operations that change nothing: abstract and real agree / The arithmetic, comparing and other plain operations: abstract and real agree -/
import Derived.Test.YtodpjdmdmmnlpaaGreatBs2
import Derived.WalkSpells
import Derived.WalkLawsBesides
import Derived.Laws.StructEq

namespace Go.Proofs.YtodpjdmdmmnlpaaGreat
open Go.RowKit
variable {F:Nat → Prop}

/-- A constant. -/
def ofV1 : Value → AV
 | .bool b=>.bool b
 | .int k n=>.int k n
 | .pointer none=>.nilp
 | .nilFunc=>.nilf
 | .slice none 0 0=>.sl true true 0 0 (fun _ _=>.bot)
 | _=>.bot
def ofV : Value → AV
 | .agg cs=>if cs.toList.all (fun u=>u.oneCell') then .agg cs.size (ofL (cs.toList.map ofV1)) else .bot
 | .tuple cs=>if cs.size = 0 then und else .bot
 | v=>ofV1 v
theorem rep_ofV1 (M:Nat → Prop) (w:World) (g:GM) (v:Value):rep M w (ofV1 v) g v:=by
 unfold ofV1
 split
 ·rfl
 ·rfl
 ·rfl
 ·rfl
 ·exact ⟨none,0,rfl,by simp,fun _=>⟨rfl,rfl⟩,fun _=>rfl,Nat.le_refl _,fun k hk=>by omega⟩
 ·trivial
theorem ofL_get {l:List AV} {i:Nat} {v:AV} (h:l[i]? = some v):ofL l i = v:=by simp [ofL,List.getD,h]
theorem rep_ofV (M:Nat → Prop) (w:World) (g:GM) (v:Value):rep M w (ofV v) g v:=by
 unfold ofV
 split
 ·rename_i cs
  split
  ·rename_i h
   refine ⟨cs,rfl,rfl,fun i hi=>⟨cs[i],Array.getElem?_eq_getElem hi,?_,?_⟩⟩
   ·exact List.all_eq_true.1 h _ (by simp)
   ·rw [ofL_get (v:=ofV1 cs[i]) (by simp [hi])]
    exact rep_ofV1 M w g _
  ·trivial
 ·rename_i cs
  split
  ·rename_i h
   exact ⟨cs,rfl,h,fun i hi=>by omega⟩
  ·trivial
 ·exact rep_ofV1 M w g v

def cx : Operand → AX
 | .tmp t=>.t t
 | .const v=>.k (ofV v)
 | .global _=>.k .bot
 | .func f=>.k (.fn f 0 (ofL []))

def tyAgg (P:Program) (t:TypeId):Option Bool:=(P.underlying t).map fun | .struct _ | .array _ _=>true|_=>false
def tySz (P:Program) (t:TypeId):Option Nat:=(P.info? t).map (·.size)
def tyFld (P:Program) (t:TypeId) (f:Nat):Option Field:=match P.underlying t with|some (.struct fs)=>fs[f]?|_=>none
/-- The element of a slice type: its number, its cells, its bytes, its zero's cells. -/
def tyEl (P:Program) (t:TypeId):Option (TypeId × TypeInfo):=match P.underlying t with|some (.slice e)=>(P.info? e).map fun i=>(e,i)|_=>none
/-- A slice of slices, or of structs that hold some. -/
def tySl (P:Program) (t:TypeId):Bool:=match P.underlying t with
 | some (.slice e)=>(match P.underlying e with
  | some (.slice _)=>true
  | some (.pointer _)=>true
  | some (.struct fs)=>fs.toList.any fun f=>match P.underlying f.type with
   | some (.slice _)=>true
   | _=>false
  | _=>false)
 | _=>false
def zcells (i:TypeInfo):Option (List Value):=match i.zero with|some z=>if z.cells.size = i.size && z.cells.toList.all (fun u=>u.oneCell') then some z.cells.toList else none|none=>none
def nilT : TypeDesc → Option Nat
 | .slice _=>some 0
 | .pointer _=>some 1
 | .func _ _ _=>some 2
 | _=>none

/-- A struct all of whose fields are numbers. -/
def flatS (P:Program) (t:TypeId) (fs:Array Field):Bool:=!P.stoodInHeld t && !P.eqGuardType P.depth t && (List.range fs.size).all fun i=>match fs[i]? with
 | some f => f.offset == i && f.name != "_" && tyAgg P f.type == some false && (match P.underlying f.type with
  | some (.int _)=>true
  | _=>false)
 | none=>false
/-- The cells of fields, one behind another. -/
def chainB (P:Program):List Field → Nat → Nat → Bool
 | [],a,b=>a == b
 | f :: fs,a,b=>f.offset == a && chainB P fs (a + P.cellsOf f.type) b
/-- A key all of whose cells are numbers. -/
def i64Key (P:Program):Nat → TypeId → Bool
 | 0,_=>false
 | d + 1,t=>match P.underlying t with
  | some (.int q)=>decide (q = .i64) && P.cellsOf t == 1
  | some (.array n e)=>i64Key P d e && P.cellsOf t == n * P.cellsOf e
  | some (.struct fs) => chainB P fs.toList 0 (P.cellsOf t) && fs.toList.all fun f => f.name != "_" && i64Key P d f.type
  | _=>false
/-- A map's type: what its keys are, and its element. -/
def mapT (P:Program) (t:TypeId):Option (Nat × TypeId × TypeId):=match P.underlying t with
 | some (.map k e)=>match P.underlying k with
  | some (.int q)=>if q = .i64 then some (0,k,e) else none
  | some (.struct _)=>match P.cellsOf k with
   | n + 1=>if P.keyTypeAt 4 k && i64Key P 4 k then some (n + 1,k,e) else none
   | 0=>none
  | _=>none
 | _=>none
/-- An array of numbers: its length. -/
def arrZ (P:Program) (t:TypeId):Option Nat:=match P.underlying t with
 | some (.array n e)=>match P.underlying e,P.info? e,P.info? t with
  | some (.int q),some ie,some it=>match it.zero with
   | some (.agg cs)=>if q = .i64 ∧ ie.size = 1 ∧ cs.size = n ∧ n ≤ 1000 ∧ (cs.toList.all fun u=>match u with
     | .int .i64 a=>a == 0
     | _=>false) = true then some n else none
   | _=>none
  | _,_,_=>none
 | _=>none
def compCall (P:Program) (c:Call):AOp :=
 match c.callee with
 | .builtin .len=>match c.args.toList,(c.argTypes[0]?).bind (tyEl P),(c.argTypes[0]?).bind (mapT P) with
  | [x],some _,_=>.len (cx x)
  | [x],none,some _=>.xt (.mlen (cx x))
  | _,_,_=>.no
 | .builtin .clear=>match c.args.toList,(c.argTypes[0]?).bind (tyEl P) with
  | [x],some (_,i)=>match zcells i with
   | some _=>.clr i.size (cx x)
   | none=>.no
  | _,_=>.no
 | .builtin .copy=>match c.args.toList,c.argTypes.toList with
  | [x,y],[t,t']=>if t = t' then match tyEl P t with
   | some (_,i)=>.xt (.cpy i.size (cx x) (cx y))
   | none=>.no
   else .no
  | _,_=>.no
 | .builtin .max=>match c.args.toList with
  | [x,y]=>.mx (cx x) (cx y)
  | _=>.no
 | .builtin .min=>match c.args.toList with
  | [x,y]=>.mn (cx x) (cx y)
  | _=>.no
 | .builtin .append=>match c.args.toList,c.argTypes.toList with
  | [x,y],[t,t']=>if t = t' then match tyEl P t with
   | some (_,i)=>match zcells i with
    | some _=>.app i.size i.bytes (cx x) (cx y)
    | none=>.no
   | none=>.no
   else .no
  | _,_=>.no
 | .value (.func f)=>.call f (c.args.toList.map cx)
 | .value (.tmp t)=>.calv (.t t) (c.args.toList.map cx)
 | _=>.no
def partsOf (P:Program) (t:TypeId):List (Nat × Operand) → Option (List (Nat × Nat × AX))
 | []=>some []
 | (i,x) :: ps=>match tyFld P t i,partsOf P t ps with
  | some f,some l=>match tySz P f.type with
   | some s=>some ((f.offset,s,cx x) :: l)
   | none=>none
  | _,_=>none
def compOp (P:Program):Op → AOp
 | .move x | .assign x=>.mv (cx x)
 | .pick c a b=>.pick (cx c) (cx a) (cx b)
 | .nilCheck x=>.nilck (cx x)
 | .alloc t=>match arrZ P t with
  | some n=>.xt (.boxr n 1 (.int .i64 0))
  | none=>match P.info? t with
   | some i=>match i.zero with
    | some z=>.box (.k (ofV z))
    | none=>.no
   | none=>.no
 | .box _ x=>.box (cx x)
 | .build t ps=>match P.underlying t with
  | some (.struct fs)=>if fs.toList.all (fun f=>(tySz P f.type).isSome) then match (P.info? t).bind zcells,partsOf P t ps.toList with
   | some zs,some l=>.build (zs.map ofV1) l
   | _,_=>.no
   else .no
  | _=>.no
 | .buildSlice t n ps=>match tyEl P t with
  | some (_,i)=>match zcells i with
   | some zs=>if 0 < i.size ∧ n * i.size ≤ 1000 then (if tySl P t then .bslp n i.size (zs.map ofV1) (ps.toList.map fun p=>(p.1,cx p.2)) else .bsl n i.size (zs.map ofV1) (ps.toList.map fun p=>(p.1,cx p.2))) else .no
   | none=>.no
  | none=>.no
 | .load t a=>match tyAgg P t with
  | some true=>match tySz P t with
   | some m=>.ld (some m) (cx a)
   | none=>.no
  | some false=>.ld none (cx a)
  | none=>.no
 | .store t a v=>match tySz P t with
  | some m=>.st m (cx a) (cx v)
  | none=>.no
 | .fieldAddr s x f=>match tyFld P s f with
  | some fd=>match tySz P fd.type with
   | some (_ + 1)=>.fa (cx x) fd.offset
   | _=>.no
  | none=>.no
 | .field s x f=>match tyFld P s f with
  | some fd=>match tyAgg P fd.type with
   | some true=>match tySz P fd.type with
    | some m=>.fld (cx x) fd.offset (some m)
    | none=>.no
   | some false=>.fld (cx x) fd.offset none
   | none=>.no
  | none=>.no
 | .indexAddr t x i=>match tyEl P t with
  | some (_,n)=>.ia n.size (cx x) (cx i)
  | none=>match P.underlying t with
   | some (.array n e)=>match tySz P e with
    | some (sz + 1)=>.xt (.iaa n (sz + 1) (cx x) (cx i))
    | _=>.no
   | _=>.no
 | .index t x i=>match P.underlying t with
  | some (.array n e)=>match tyAgg P e,tySz P e with
   | some true,some (sz + 1)=>.xt (.idx n (sz + 1) (some (sz + 1)) (cx x) (cx i))
   | some false,some 1=>.xt (.idx n 1 none (cx x) (cx i))
   | _,_=>.no
  | _=>.no
 | .makeMap t none=>match mapT P t with
  | some (kt,_,_)=>.xt (.mkm kt)
  | none=>.no
 | .mapUpdate t m k v | .insert t m k v=>match mapT P t with
  | some (kt,_,_)=>.xt (.ins kt (cx m) (cx k) (cx v))
  | none=>.no
 | .lookup t m k ok=>match mapT P t with
  | some (kt,_,e)=>match (P.info? e).bind (·.zero) with
   | some z=>.xt (.lkp kt ok (ofV z) (cx m) (cx k))
   | none=>.no
  | none=>.no
 | .range t m=>match mapT P t with
  | some _=>.xt (.rng (cx m))
  | none=>.no
 | .next it false=>.nxt (cx it)
 | .entry it=>.xt (.ent (cx it))
 | .mapEntry t m k=>match mapT P t with
  | some (kt,_,e)=>match (P.info? e).bind (·.zero) with
   | some z=>.xt (.ment kt (ofV z) (cx m) (cx k))
   | none=>.no
  | none=>.no
 | .entryStore _ m s v=>.xt (.est (cx m) (cx s) (cx v))
 | .slice t x lo hi none=>match tyEl P t with
  | some (_,n)=>.slc n.size (cx x) (lo.map cx) (hi.map cx)
  | none=>.no
 | .binOp op t x y _=>match P.underlying t with
  | some (.int _)=>.bin op (cx x) (cx y)
  | some .bool=>match op with
   | .eql=>.binb false (cx x) (cx y)
   | .neq=>.binb true (cx x) (cx y)
   | _=>.no
  | some d=>match nilT d with
   | some tag=>match op with
    | .eql=>.eqz tag false (cx x) (cx y)
    | .neq=>.eqz tag true (cx x) (cx y)
    | _=>.no
   | none=>match d with
    | .struct fs=>if flatS P t fs then (match op with
     | .eql=>.eqa fs.size false (cx x) (cx y)
     | .neq=>.eqa fs.size true (cx x) (cx y)
     | _=>.no) else .no
    | _=>.no
  | none=>.no
 | .unOp op _ x=>.un op (cx x)
 | .convert s d x=>match P.underlying s,P.underlying d with
  | some _,some (.int k)=>.conv k (cx x)
  | _,_=>.no
 | .makeFunc (.func f) first cap=>if first.toList.isEmpty then .mkf f (cap.toList.map cx) else if cap.toList.isEmpty then .xt (.mmv f (first.toList.map cx)) else .no
 | .makeSlice t l c=>match tyEl P t with
  | some (_,i)=>match zcells i with
   | some zs=>if 0 < i.size then .msl i.size i.bytes (zs.map ofV1) (cx l) (cx c) else .no
   | none=>.no
  | none=>.no
 | .extract t i=>.ext (cx t) i
 | .call c=>compCall P c
 | _=>.no

/-- The operation gives this value, in this state. -/
def RunsTo (F:Nat → Prop) (P:Program) (s:Sem Next) (g:GM) (h:List AB) (w:World) (r:AV) (h':List AB):Prop :=
 ∃ u w' g',(s.run P w = .ok (.value u) w' ∨ (s.run P w = .ok .skip w' ∧ u = undef)) ∧ rep (MM F g' h') w' r g' u ∧ Tr F g h w g' h' w'
theorem RunsTo.same {P:Program} {s:Sem Next} {g:GM} {h:List AB} {w:World} {r:AV} {u:Value} (k:HOK F g w h) (hs:s.run P w = .ok (.value u) w) (hr:rep (MM F g h) w r g u):RunsTo F P s g h w r h :=
 ⟨u,w,g,.inl hs,hr,Tr.refl k⟩

theorem tyEl_some {P:Program} {t e:TypeId} {i:TypeInfo} (h:tyEl P t = some (e,i)):P.underlying t = some (.slice e) ∧ P.info? e = some i:=by
 unfold tyEl at h
 split at h
 ·rename_i e' he
  cases hi:P.info? e' with
  | none=>rw [hi] at h;cases h
  | some j =>
   rw [hi] at h
   injection h with h
   injection h with h1 h2
   subst h1;subst h2
   exact ⟨he,hi⟩
 ·cases h
theorem tyAgg_run {P:Program} {t:TypeId} {b:Bool} (h:tyAgg P t = some b) (w:World):(isAgg t).run P w = .ok b w:=by
 unfold tyAgg at h
 cases hd:P.underlying t with
 | none=>rw [hd] at h;cases h
 | some d =>
  rw [hd] at h
  simp only [isAgg,Sem.run_bind,run_underlying hd,Result.andThen_ok]
  cases d <;> simp only [Option.map_some,Option.some.injEq] at h <;> subst h <;> rfl
theorem tySz_run {P:Program} {t:TypeId} {m:Nat} (h:tySz P t = some m) (w:World):(sizeOf t).run P w = .ok m w:=by
 unfold tySz at h
 cases hd:P.info? t with
 | none=>rw [hd] at h;cases h
 | some d =>
  rw [hd] at h
  injection h with h
  simp [sizeOf,typeInfo,hd,h]
theorem run_load_cell {P:Program} {w:World} {a:Addr} {u:Value} (h:w.cell? a = some u):(load a).run P w = .ok u w:=by simp [h]
theorem run_loadVar_one {P:Program} {t:TypeId} {w:World} {a:Addr} {u:Value} (ht:tyAgg P t = some false) (h:w.cell? a = some u):(loadVar t a).run P w = .ok u w:=by
 simp only [loadVar,Sem.run_bind,tyAgg_run ht,Result.andThen_ok,Bool.false_eq_true,if_false]
 exact run_load_cell h
theorem run_loadVar_agg {P:Program} {t:TypeId} {m:Nat} {w:World} {b off:Nat} (f:Nat → Value) (ht:tyAgg P t = some true) (hs:tySz P t = some m) (h:∀ i,i < m → w.cell? ⟨b,off + i,none⟩ = some (f i)) :
  (loadVar t ⟨b,off,none⟩).run P w = .ok (.agg ((List.range m).map f).toArray) w:=by
 simp only [loadVar,Sem.run_bind,tyAgg_run ht,Result.andThen_ok,if_true,tySz_run hs]
 rw [run_loadCells w ⟨b,off,none⟩ m f (fun j hj=>by rw [Addr.add_lit];exact h j hj)]
 rfl

/-- Cells in a row, as an aggregate. -/
theorem rep_cells {M:Nat → Prop} {w:World} {g:GM} {m:Nat} {c:Nat → AV} (f:Nat → Value) (h:∀ i,i < m → (f i).oneCell' = true ∧ rep M w (c i) g (f i)):rep M w (.agg m c) g (.agg ((List.range m).map f).toArray) :=
 ⟨_,rfl,by simp,fun i hi=>⟨f i,by simp [hi],(h i hi).1,(h i hi).2⟩⟩
theorem choose_fun {m:Nat} {p:Nat → Value → Prop} (h:∀ i,i < m → ∃ u,p i u):∃ f:Nat → Value,∀ i,i < m → p i (f i) :=
 ⟨fun i=>if hi:i < m then (h i hi).choose else undef,fun i hi=>by simp only [hi,dif_pos];exact (h i hi).choose_spec⟩
end Go.Proofs.YtodpjdmdmmnlpaaGreat

namespace Go.Proofs.YtodpjdmdmmnlpaaGreat
open Go.RowKit
variable {F:Nat → Prop}

section
variable {P:Program} {g:GM} {h:List AB} {w:World} {r:AV} {h':List AB}

theorem val_ld {t:TypeId} {v:AV} {u:Value} {m':Option Nat} (hok:HOK F g w h) (ht:(m' = none ∧ tyAgg P t = some false) ∨ ∃ m,m' = some m ∧ tyAgg P t = some true ∧ tySz P t = some m) (hr:rep (MM F g h) w v g u)
  (H:aop (.ld m' (.k v)) (fun x=>x.ev (fun _=>.bot)) h (fun a b=>a = r ∧ b = h')):∃ u',(Instr.loadAt t u).run P w = .ok u' w ∧ rep (MM F g h) w r g u' ∧ h = h':=by
 rcases ht with ⟨rfl,ht⟩|⟨m,rfl,ht,hs⟩
 ·simp only [aop,AX.ev] at H
  cases v <;> simp only at H
  case ptr d o =>
   obtain ⟨b,cap,hg,rfl⟩:=hr
   split at H
   ·rename_i m c hd
    obtain ⟨ho,rfl,rfl⟩:=H
    obtain ⟨cs,t',hh,hm,hc⟩:=hok.box d m c b cap hd hg
    obtain ⟨x,hx,_,hxr⟩:=hc o ho
    exact ⟨x,by simp only [Instr.loadAt,Instr.sureAddr,Sem.run_bind,Sem.run_pure,Result.andThen_ok];exact run_loadVar_one ht (cell_of_heap hh hx),hxr,rfl⟩
   ·exact H.elim
  case rp d sz k o =>
   obtain ⟨b,cap,hg,rfl⟩:=hr
   split at H
   ·rename_i n sz' c hd
    obtain ⟨hk,ho,rfl,rfl,rfl⟩:=H
    obtain ⟨_,_,cs,t',hh,hm,hc⟩:=hok.row d n _ c b cap hd hg
    obtain ⟨x,hx,_,hxr⟩:=hc k hk o ho
    exact ⟨x,by simp only [Instr.loadAt,Instr.sureAddr,Sem.run_bind,Sem.run_pure,Result.andThen_ok];exact run_loadVar_one ht (cell_of_heap hh hx),rep_up (g0_le g) hxr,rfl⟩
   ·rename_i n sz' c hd
    obtain ⟨hk,ho,rfl,rfl,rfl⟩:=H
    obtain ⟨_,_,cs,t',hh,hm,hc⟩:=hok.rwg d n _ c b cap hd hg
    obtain ⟨x,hx,_,hxr⟩:=hc k hk o ho
    exact ⟨x,by simp only [Instr.loadAt,Instr.sureAddr,Sem.run_bind,Sem.run_pure,Result.andThen_ok];exact run_loadVar_one ht (cell_of_heap hh hx),hxr,rfl⟩
   ·exact H.elim
  case ip m c o =>
   obtain ⟨b,off,rfl,hb,hn,hc⟩:=hr
   obtain ⟨ho,rfl,rfl⟩:=H
   obtain ⟨x,hx,_,hxr⟩:=hc o ho
   exact ⟨x,by simp only [Instr.loadAt,Instr.sureAddr,Sem.run_bind,Sem.run_pure,Result.andThen_ok];exact run_loadVar_one ht hx,rep_up (g0_le g) hxr,rfl⟩
 ·simp only [aop,AX.ev] at H
  cases v <;> simp only at H
  case ptr d o =>
   obtain ⟨b,cap,hg,rfl⟩:=hr
   split at H
   ·rename_i m1 c hd
    obtain ⟨ho,rfl,rfl⟩:=H
    obtain ⟨cs,t',hh,hm,hc⟩:=hok.box d m1 c b cap hd hg
    obtain ⟨f,hf⟩:=choose_fun (fun i (hi:i < m)=>hc (o + i) (by omega))
    refine ⟨_,?_,rep_cells f (fun i hi=>by rw [tab_get hi];exact (hf i hi).2),rfl⟩
    simp only [Instr.loadAt,Instr.sureAddr,Sem.run_bind,Sem.run_pure,Result.andThen_ok]
    exact run_loadVar_agg f ht hs (fun i hi=>cell_of_heap hh (hf i hi).1)
   ·exact H.elim
  case rp d sz k o =>
   obtain ⟨b,cap,hg,rfl⟩:=hr
   split at H
   ·rename_i n sz' c hd
    cases hb:(sz == 1 && o == 0) <;> simp only [hb] at H
    ·obtain ⟨hk,ho,rfl,rfl,rfl⟩:=H
     obtain ⟨_,_,cs,t',hh,hm,hc⟩:=hok.row d n _ c b cap hd hg
     obtain ⟨f,hf⟩:=choose_fun (fun i (hi:i < m)=>hc k hk (o + i) (by omega))
     refine ⟨_,?_,rep_cells f (fun i hi=>by rw [tab_get hi];exact ⟨(hf i hi).2.1,rep_up (g0_le g) (hf i hi).2.2⟩),rfl⟩
     simp only [Instr.loadAt,Instr.sureAddr,Sem.run_bind,Sem.run_pure,Result.andThen_ok]
     exact run_loadVar_agg f ht hs (fun i hi=>by rw [Nat.add_assoc];exact cell_of_heap hh (hf i hi).1)
    ·obtain ⟨hk,rfl,rfl,rfl⟩:=H
     simp only [Bool.and_eq_true,beq_iff_eq] at hb
     obtain ⟨rfl,rfl⟩:=hb
     obtain ⟨_,_,cs,t',hh,hm,hc⟩:=hok.row d n _ c b cap hd hg
     obtain ⟨f,hf⟩:=choose_fun (fun i (hi:i < m)=>hc (k + i) (by omega) 0 (by omega))
     refine ⟨_,?_,rep_cells f (fun i hi=>by rw [tab_get hi];exact ⟨(hf i hi).2.1,rep_up (g0_le g) (hf i hi).2.2⟩),rfl⟩
     simp only [Instr.loadAt,Instr.sureAddr,Sem.run_bind,Sem.run_pure,Result.andThen_ok]
     exact run_loadVar_agg f ht hs (fun i hi=>by have:=cell_of_heap hh (hf i hi).1;simpa using this)
   ·rename_i n sz' c hd
    obtain ⟨hk,ho,rfl,rfl,rfl⟩:=H
    obtain ⟨_,_,cs,t',hh,hm,hc⟩:=hok.rwg d n _ c b cap hd hg
    obtain ⟨f,hf⟩:=choose_fun (fun i (hi:i < m)=>hc k hk (o + i) (by omega))
    refine ⟨_,?_,rep_cells f (fun i hi=>by rw [tab_get hi];exact (hf i hi).2),rfl⟩
    simp only [Instr.loadAt,Instr.sureAddr,Sem.run_bind,Sem.run_pure,Result.andThen_ok]
    exact run_loadVar_agg f ht hs (fun i hi=>by rw [Nat.add_assoc];exact cell_of_heap hh (hf i hi).1)
   ·exact H.elim
  case ip m1 c o =>
   obtain ⟨b,off,rfl,hb,hn,hc⟩:=hr
   obtain ⟨ho,rfl,rfl⟩:=H
   obtain ⟨f,hf⟩:=choose_fun (fun i (hi:i < m)=>hc (o + i) (by omega))
   refine ⟨_,?_,rep_cells f (fun i hi=>by rw [tab_get hi];exact ⟨(hf i hi).2.1,rep_up (g0_le g) (hf i hi).2.2⟩),rfl⟩
   simp only [Instr.loadAt,Instr.sureAddr,Sem.run_bind,Sem.run_pure,Result.andThen_ok]
   exact run_loadVar_agg f ht hs (fun i hi=>by rw [Nat.add_assoc];exact (hf i hi).1)

theorem val_fa {s:TypeId} {f:Nat} {fd:Field} {n:Nat} {v:AV} {u:Value} (hf:tyFld P s f = some fd) (hs:tySz P fd.type = some (n + 1)) (hr:rep (MM F g h) w v g u)
  (H:aop (.fa (.k v) fd.offset) (fun x=>x.ev (fun _=>.bot)) h (fun a b=>a = r ∧ b = h')):∃ u',(Instr.fieldAt s u f).run P w = .ok u' w ∧ rep (MM F g h) w r g u' ∧ h = h':=by
 have hd:∃ fs,P.underlying s = some (.struct fs) ∧ fs[f]? = some fd:=by
  unfold tyFld at hf
  split at hf
  ·rename_i fs hfs;exact ⟨fs,hfs,hf⟩
  ·cases hf
 obtain ⟨fs,hu,hfs⟩:=hd
 have key:∀ b o,(Instr.fieldAt s (.pointer (some ⟨b,o,none⟩)) f).run P w = .ok (.pointer (some ⟨b,o + fd.offset,none⟩)) w:=fun b o=>by
  simp only [Instr.fieldAt,Sem.run_bind,run_underlying hu,Result.andThen_ok,hfs,Instr.sureAddr,Sem.run_pure,fieldPlace,tySz_run hs,Nat.add_one_ne_zero,if_false,Addr.add_lit]
 simp only [aop,AX.ev] at H
 cases v <;> simp only at H
 case ptr d o =>
  obtain ⟨b,cap,hg,rfl⟩:=hr
  obtain ⟨rfl,rfl⟩:=H
  exact ⟨_,key b o,⟨b,cap,hg,rfl⟩,rfl⟩
 case rp d sz k o =>
  obtain ⟨b,cap,hg,rfl⟩:=hr
  obtain ⟨rfl,rfl⟩:=H
  exact ⟨_,key b _,⟨b,cap,hg,by rw [Nat.add_assoc]⟩,rfl⟩
 case ip m c o =>
  obtain ⟨b,off,rfl,hb,hn,hc⟩:=hr
  obtain ⟨rfl,rfl⟩:=H
  exact ⟨_,key b _,⟨b,off,by rw [Nat.add_assoc],hb,hn,hc⟩,rfl⟩

theorem val_ia {t e:TypeId} {i:TypeInfo} {v j:AV} {u x:Value} (ht:tyEl P t = some (e,i)) (hr:rep (MM F g h) w v g u) (hj:rep (MM F g h) w j g x)
  (H:aop (.ia i.size (.k v) (.k j)) (fun x=>x.ev (fun _=>.bot)) h (fun a b=>a = r ∧ b = h')):∃ u',(Instr.indexAt t u x).run P w = .ok u' w ∧ rep (MM F g h) w r g u' ∧ h = h':=by
 obtain ⟨hu,hi⟩:=tyEl_some ht
 have hsz:∀ w:World,(sizeOf e).run P w = .ok i.size w:=fun w=>tySz_run (by simp [tySz,hi]) w
 simp only [aop,AX.ev] at H
 cases j <;> cases v <;> simp only at H
 case int.sl k n z ee m sz' c =>
  obtain rfl:=hj
  obtain ⟨rfl,hs0,h0,hlt,rfl,rfl⟩:=H
  obtain ⟨A,cap,rfl,_,_,_,_,hc⟩:=hr
  obtain ⟨b,off,u0,rfl,hb,hn,_⟩:=hc n.toNat (by omega) 0 hs0
  refine ⟨.pointer (some ⟨b,off + n.toNat * i.size,none⟩),?_,⟨b,off + n.toNat * i.size,rfl,hb,hn,fun o ho=>?_⟩,rfl⟩
  ·simp [Instr.indexAt,asIntOf,run_underlying hu,h0,hlt,hsz,Addr.add_lit]
  ·obtain ⟨b',off',u1,hA,_,_,hcell,h1,hr1⟩:=hc n.toNat (by omega) o ho
   injection hA with hA
   injection hA with e1 e2
   subst e1;subst e2
   exact ⟨u1,hcell,h1,hr1⟩
 case int.own k n d m =>
  obtain rfl:=hj
  obtain ⟨h0,hlt,rfl,rfl⟩:=H
  obtain ⟨b,cap,hg,rfl,_⟩:=hr
  refine ⟨.pointer (some ⟨b,n.toNat * i.size,none⟩),?_,⟨b,cap,hg,rfl⟩,rfl⟩
  simp [Instr.indexAt,asIntOf,run_underlying hu,h0,hlt,hsz,Addr.add_lit]
 case int.osl k n d sz' lo m =>
  obtain rfl:=hj
  obtain ⟨rfl,h0,hlt,rfl,rfl⟩:=H
  obtain ⟨b,cap,p,hg,rfl,hcap,hp⟩:=hr
  have hp':=hp (by omega)
  subst hp'
  refine ⟨.pointer (some ⟨b,(lo + n.toNat) * i.size + 0,none⟩),?_,⟨b,cap,hg,rfl⟩,rfl⟩
  simp [Instr.indexAt,asIntOf,run_underlying hu,h0,hlt,hsz,Addr.add_lit,Nat.add_mul]

theorem val_fld {s:TypeId} {f:Nat} {fd:Field} {v:AV} {u:Value} {m':Option Nat} (hf:tyFld P s f = some fd) (ht:(m' = none ∧ tyAgg P fd.type = some false) ∨ ∃ m,m' = some m ∧ tyAgg P fd.type = some true ∧ tySz P fd.type = some m) (hr:rep (MM F g h) w v g u)
  (H:aop (.fld (.k v) fd.offset m') (fun x=>x.ev (fun _=>.bot)) h (fun a b=>a = r ∧ b = h')):∃ u',(Instr.field s u f).run P w = .ok u' w ∧ rep (MM F g h) w r g u' ∧ h = h':=by
 have hd:∃ fs,P.underlying s = some (.struct fs) ∧ fs[f]? = some fd:=by
  unfold tyFld at hf
  split at hf
  ·rename_i fs hfs;exact ⟨fs,hfs,hf⟩
  ·cases hf
 obtain ⟨fs,hu,hfs⟩:=hd
 simp only [aop,AX.ev] at H
 cases v <;> simp only at H
 case agg n c =>
  obtain ⟨cs,rfl,hm,hc⟩:=hr
  rcases ht with ⟨rfl,ht⟩|⟨m,rfl,ht,hs⟩
  ·simp only at H
   obtain ⟨ho,rfl,rfl⟩:=H
   obtain ⟨x,hx,_,hxr⟩:=hc _ ho
   refine ⟨x,?_,hxr,rfl⟩
   simp only [Instr.field,Sem.run_bind,run_underlying hu,Result.andThen_ok,hfs,asAgg,Sem.run_pure,part,tyAgg_run ht,Bool.false_eq_true,if_false,hx]
  ·simp only at H
   obtain ⟨ho,rfl,rfl⟩:=H
   refine ⟨.agg (cs.extract fd.offset (fd.offset + m)),?_,⟨_,rfl,by simp;omega,fun i hi=>?_⟩,rfl⟩
   ·simp only [Instr.field,Sem.run_bind,run_underlying hu,Result.andThen_ok,hfs,asAgg,Sem.run_pure,part,tyAgg_run ht,if_true,tySz_run hs]
   ·obtain ⟨x,hx,h1,hxr⟩:=hc (fd.offset + i) (by omega)
    refine ⟨x,?_,h1,by rw [tab_get hi];exact hxr⟩
    rw [Array.getElem?_extract]
    rw [if_pos (by omega)]
    exact hx

theorem val_slc {t e:TypeId} {i:TypeInfo} {v:AV} {u:Value} {lo hi:Option AV} {ulo uhi:Option Value} (ht:tyEl P t = some (e,i)) (hr:rep (MM F g h) w v g u)
  (hlo:match lo,ulo with|none,none=>True|some a,some x=>rep (MM F g h) w a g x|_,_=>False) (hhi:match hi,uhi with|none,none=>True|some a,some x=>rep (MM F g h) w a g x|_,_=>False)
  (H:aop (.slc i.size (.k v) (lo.map .k) (hi.map .k)) (fun x=>x.ev (fun _=>.bot)) h (fun a b=>a = r ∧ b = h')):∃ u',(Instr.sliceAt t u ulo uhi none).run P w = .ok u' w ∧ rep (MM F g h) w r g u' ∧ h = h':=by
 obtain ⟨hu,hi'⟩:=tyEl_some ht
 have hsz:∀ w:World,(sizeOf e).run P w = .ok i.size w:=fun w=>tySz_run (by simp [tySz,hi']) w
 simp only [aop,AX.ev] at H
 cases v <;> simp only at H
 case own d n =>
  obtain ⟨b,cap,hg,rfl,hncap⟩:=hr
  have run:∀ (xh:Option Value) (hb:Nat),(Instr.sliceBounds true n cap none xh none).run P w = .ok (0,hb,cap) w → (Instr.sliceAt t (.slice (some ⟨b,0,none⟩) n cap) none xh none).run P w = .ok (.slice (some ⟨b,0,none⟩) hb cap) w:=by
   intro xh hb hs
   simp [Instr.sliceAt,Instr.slice,run_underlying hu,hs,hsz,Addr.add]
  cases lo <;> cases hi <;> cases ulo <;> cases uhi <;> simp only at hlo hhi <;> simp only [Option.map_none,Option.map_some] at H
  ·obtain ⟨rfl,rfl⟩:=H
   exact ⟨_,run none n (by simp [Instr.sliceBounds]),⟨b,cap,hg,rfl,hncap⟩,rfl⟩
  ·rename_i j x
   cases j <;> simp only at H
   rename_i k j
   obtain ⟨h0,h1,rfl,rfl⟩:=H
   obtain rfl:=hhi
   have h1':j ≤ (cap:Int):=by omega
   exact ⟨_,run (some (.int k j)) j.toNat (by simp [Instr.sliceBounds,Instr.sliceBound,asIntOf,h0,h1']),⟨b,cap,hg,rfl,by omega⟩,rfl⟩
  ·rename_i j x
   cases j <;> simp only at H
   rename_i k j
   obtain ⟨h0,h1,rfl,rfl⟩:=H
   obtain rfl:=hlo
   have hs:(Instr.sliceBounds true n cap (some (.int k j)) none none).run P w = .ok (j.toNat,n,cap) w:=by simp [Instr.sliceBounds,Instr.sliceBound,asIntOf,h0,h1]
   have hrun:(Instr.sliceAt t (.slice (some ⟨b,0,none⟩) n cap) (some (.int k j)) none none).run P w = .ok (.slice (some ⟨b,if cap = j.toNat then 0 else j.toNat * i.size,none⟩) (n - j.toNat) (cap - j.toNat)) w:=by
    simp only [Instr.sliceAt,Instr.slice,Sem.run_bind,Sem.run_pure,Result.andThen_ok,run_underlying hu,hs,hsz]
    by_cases e1:cap = j.toNat <;> simp [e1,Addr.add_lit]
   exact ⟨_,hrun,⟨b,cap,_,hg,rfl,by omega,fun h=>by rw [if_neg (by omega)]⟩,rfl⟩
 case osl d sz' l0 n =>
  obtain ⟨rfl,H⟩:=H
  obtain ⟨b,cap,p,hg,rfl,hncap,hp⟩:=hr
  cases lo <;> cases hi <;> cases ulo <;> cases uhi <;> simp only at hlo hhi <;> simp only [Option.map_none,Option.map_some] at H
  ·rename_i j x
   cases j <;> simp only at H
   rename_i k j
   obtain ⟨h0,h1,rfl,rfl⟩:=H
   obtain rfl:=hlo
   have hs:(Instr.sliceBounds true n (cap - l0) (some (.int k j)) none none).run P w = .ok (j.toNat,n,cap - l0) w:=by simp [Instr.sliceBounds,Instr.sliceBound,asIntOf,h0,h1]
   have hrun:(Instr.sliceAt t (.slice (some ⟨b,p,none⟩) n (cap - l0)) (some (.int k j)) none none).run P w = .ok (.slice (some ⟨b,if cap - l0 = j.toNat then p else p + j.toNat * i.size,none⟩) (n - j.toNat) (cap - l0 - j.toNat)) w:=by
    simp only [Instr.sliceAt,Instr.slice,Sem.run_bind,Sem.run_pure,Result.andThen_ok,run_underlying hu,hs,hsz]
    by_cases e1:cap - l0 = j.toNat <;> simp [e1,Addr.add_lit]
   refine ⟨_,hrun,⟨b,cap,_,hg,by rw [Nat.sub_sub],by omega,fun h=>?_⟩,rfl⟩
   rw [if_neg (by omega),hp (by omega),Nat.add_mul]
 case sl z ee n sz' c =>
  obtain ⟨rfl,H⟩:=H
  obtain ⟨A,cap,rfl,hz,hnil,hee,hcap,hc⟩:=hr
  have main:∀ (l hb:Nat) (e':Bool),(e' = true → ee = true ∧ hb = n) → l ≤ hb → hb ≤ n → rep (MM F g h) w (.sl z e' (hb - l) i.size (fun k=>c (k + l))) g (.slice (if cap = l then A else A.map (·.add (l * i.size))) (hb - l) (cap - l)):=by
   intro l hb e' he' h1 h2
   refine ⟨_,_,rfl,?_,?_,fun h=>(by have h3:=he' h;have:=hee h3.1;omega),by omega,fun k hk o ho=>?_⟩
   ·rw [hz];split <;> cases A <;> simp
   ·intro hA
    have hA':A = none:=by
     split at hA
     ·exact hA
     ·cases A <;> simp at hA ⊢
    have:=hnil hA'
    omega
   ·obtain ⟨b,off,x,hA,hb',hn,hcell,h1c,hr1⟩:=hc (k + l) (by omega) o ho
    subst hA
    by_cases hcl:cap = l
    ·omega
    ·refine ⟨b,off + l * i.size,x,?_,hb',hn,?_,h1c,hr1⟩
     ·simp [hcl,Addr.add_lit]
     ·rw [← hcell,Nat.add_mul];congr 2;omega
  have zero:rep (MM F g h) w (.sl z false n i.size c) g (.slice A n cap):=⟨A,cap,rfl,hz,hnil,fun h=>(by cases h),hcap,hc⟩
  have run:∀ (xl xh:Option Value) (l hb:Nat),(Instr.sliceBounds true n cap xl xh none).run P w = .ok (l,hb,cap) w → (Instr.sliceAt t (.slice A n cap) xl xh none).run P w = .ok (.slice (if cap = l then A else A.map (·.add (l * i.size))) (hb - l) (cap - l)) w:=by
   intro xl xh l hb hs
   simp [Instr.sliceAt,Instr.slice,run_underlying hu,hs,hsz]
  cases lo <;> cases hi <;> cases ulo <;> cases uhi <;> simp only at hlo hhi <;> simp only [Option.map_none,Option.map_some] at H
  ·obtain ⟨rfl,rfl⟩:=H
   have hm:=main 0 n false (fun h=>by cases h) (by omega) (by omega)
   refine ⟨_,run none none 0 n (by simp [Instr.sliceBounds]),?_,rfl⟩
   simpa using hm
  ·rename_i b x
   cases b <;> simp only at H
   rename_i k b
   obtain ⟨h0,h1,rfl,rfl⟩:=H
   obtain rfl:=hhi
   have hm:=main 0 b.toNat false (fun h=>by cases h) (by omega) (by omega)
   have h1':b ≤ (cap:Int):=by omega
   refine ⟨_,run none (some (.int k b)) 0 b.toNat (by simp [Instr.sliceBounds,Instr.sliceBound,asIntOf,h0,h1']),?_,rfl⟩
   simpa using hm
  ·rename_i a x
   cases a <;> simp only at H
   rename_i k a
   obtain ⟨h0,h1,rfl,rfl⟩:=H
   obtain rfl:=hlo
   exact ⟨_,run (some (.int k a)) none a.toNat n (by simp [Instr.sliceBounds,Instr.sliceBound,asIntOf,h0,h1]),main a.toNat n ee (fun h=>⟨h,rfl⟩) (by omega) (by omega),rfl⟩
  ·rename_i a b x y
   obtain ⟨k,a,rfl⟩:∃ k a',a = .int k a':=by
    cases a with
    | int k' b'=>exact ⟨_,_,rfl⟩
    | _=>exact H.elim
   obtain ⟨k',b,rfl⟩:∃ k' b',b = .int k' b':=by
    cases b with
    | int k' b'=>exact ⟨_,_,rfl⟩
    | _=>exact H.elim
   obtain ⟨h0,h1,h2,rfl,rfl⟩:=H
   obtain rfl:=hlo
   obtain rfl:=hhi
   have h1':b ≤ (cap:Int):=by omega
   have h2':(0:Int) ≤ b:=by omega
   have h3':a ≤ max b 0:=by omega
   exact ⟨_,run (some (.int k a)) (some (.int k' b)) a.toNat b.toNat (by simp [Instr.sliceBounds,Instr.sliceBound,asIntOf,h0,h1',h2',h3']),main a.toNat b.toNat false (fun h=>by cases h) (by omega) (by omega),rfl⟩
end
end Go.Proofs.YtodpjdmdmmnlpaaGreat

namespace Go.Proofs.YtodpjdmdmmnlpaaGreat
open Go.RowKit
variable {F:Nat → Prop}

section
variable {P:Program} {g:GM} {h:List AB} {w:World} {r:AV} {h':List AB}

theorem run_eqGuard_int (op:BinOp) (t:TypeId) (x y:Operand) (k k':IntKind) (a b:Int) (w:World):(eqGuard op t x y (.int k a) (.int k' b)).run P w = .ok () w:=by
 unfold eqGuard
 cases op <;> rfl
theorem val_bin {op:BinOp} {t:TypeId} {x y:Operand} {v j:AV} {u u2:Value} (hr:rep (MM F g h) w v g u) (hj:rep (MM F g h) w j g u2)
  (H:abin op v j (fun a=>a = r)):∃ u',(do eqGuard op t x y u u2;binOp op t u u2:Sem Value).run P w = .ok u' w ∧ rep (MM F g h) w r g u':=by
 cases v <;> cases j <;> simp only [abin] at H
 case int.int k a k' b =>
  obtain rfl:=hr
  obtain rfl:=hj
  simp only [Sem.run_bind,run_eqGuard_int,Result.andThen_ok]
  cases op <;> simp only [ishift,ibin] at H
  case shl =>
   obtain ⟨h0,rfl⟩:=H
   refine ⟨_,?_,rfl⟩
   have h0':¬ b < 0:=by omega
   simp [binOp,Op.shift,h0']
  case shr =>
   obtain ⟨h0,rfl⟩:=H
   refine ⟨_,?_,rfl⟩
   have h0':¬ b < 0:=by omega
   simp [binOp,Op.shift,h0']
  case quo =>
   obtain ⟨rfl,h0,rfl⟩:=H
   refine ⟨_,?_,rfl⟩
   simp [binOp,Op.intDiv,h0]
  case rem =>
   obtain ⟨rfl,h0,rfl⟩:=H
   refine ⟨_,?_,rfl⟩
   simp [binOp,Op.intDiv,h0]
  case eql =>
   obtain ⟨rfl,rfl⟩:=H
   exact ⟨_,by simp [binOp,Op.intCmp];rfl,rfl⟩
  case neq =>
   obtain ⟨rfl,rfl⟩:=H
   exact ⟨_,by simp [binOp,Op.intCmp];rfl,rfl⟩
  all_goals
   obtain ⟨rfl,rfl⟩:=H
   refine ⟨_,?_,rfl⟩
   simp [binOp,Op.intArith,Op.intBits,Op.intCmp]
theorem val_binb {neg:Bool} {t:TypeId} {x y:Operand} {a b:Bool} (ht:P.underlying t = some .bool) :
  (do eqGuard (if neg then .neq else .eql) t x y (.bool a) (.bool b);binOp (if neg then .neq else .eql) t (.bool a) (.bool b):Sem Value).run P w = .ok (.bool (if neg then !(a == b) else (a == b))) w:=by
 have hg:∀ op,(eqGuard op t x y (.bool a) (.bool b)).run P w = .ok () w:=fun op=>by
  unfold eqGuard
  cases op <;> rfl
 simp only [Sem.run_bind,hg,Result.andThen_ok]
 cases neg
 ·simp only [Bool.false_eq_true,if_false];exact run_eql_bool w t a b ht
 ·simp only [if_true];exact run_neq_bool w t a b ht

theorem equal_nil {t:TypeId} {d:TypeDesc} {v j:AV} {u u2:Value} {q:Bool} {tag:Nat} (ht:P.underlying t = some d) (hd:nilT d = some tag) (hr:rep (MM F g h) w v g u) (hj:rep (MM F g h) w j g u2) (H:aeqz tag v j (fun b=>b = q)) (n:Nat) :
  (Op.equalIn (n + 1) t u u2).run P w = .ok q w:=by
 unfold aeqz at H
 split at H
 ·obtain rfl:=H
  obtain ⟨A,cap,rfl,hz,_⟩:=hr
  obtain ⟨B,cap',rfl,hz',_⟩:=hj
  have hA:=hz.1 rfl
  subst hA
  cases d <;> simp [nilT] at hd
  simp only [Op.equalIn,Sem.run_bind,run_underlying ht,Result.andThen_ok]
  cases B <;> simp_all
 ·obtain rfl:=H
  obtain ⟨A,cap,rfl,hz,_⟩:=hr
  obtain ⟨B,cap',rfl,hz',_⟩:=hj
  have hB:=hz'.1 rfl
  subst hB
  cases d <;> simp [nilT] at hd
  simp only [Op.equalIn,Sem.run_bind,run_underlying ht,Result.andThen_ok]
  cases A <;> simp_all
 ·obtain rfl:=H
  obtain ⟨b,cap,_,rfl,_⟩:=hr
  obtain ⟨B,cap',rfl,hz',_⟩:=hj
  have hB:=hz'.1 rfl
  subst hB
  cases d <;> simp [nilT] at hd
  simp [Op.equalIn,run_underlying ht]
 ·obtain rfl:=H
  obtain rfl:=hr
  obtain rfl:=hj
  cases d <;> simp [nilT] at hd
  simp [Op.equalIn,run_underlying ht]
 ·obtain rfl:=H
  obtain ⟨b,cap,_,rfl⟩:=hr
  obtain rfl:=hj
  cases d <;> simp [nilT] at hd
  simp [Op.equalIn,run_underlying ht]
 ·obtain rfl:=H
  obtain ⟨b,off,rfl,_⟩:=hr
  obtain rfl:=hj
  cases d <;> simp [nilT] at hd
  simp [Op.equalIn,run_underlying ht]
 ·obtain rfl:=H
  obtain rfl:=hr
  obtain rfl:=hj
  cases d <;> simp [nilT] at hd
  simp [Op.equalIn,run_underlying ht]
 ·obtain rfl:=H
  obtain ⟨cs,rfl,_⟩:=hr
  obtain rfl:=hj
  cases d <;> simp [nilT] at hd
  simp [Op.equalIn,run_underlying ht]
 ·exact H.elim
theorem val_eqz {t:TypeId} {d:TypeDesc} {v j:AV} {u u2:Value} {q:Bool} {tag:Nat} {neg:Bool} {x y:Operand} (ht:P.underlying t = some d) (hd:nilT d = some tag) (hr:rep (MM F g h) w v g u) (hj:rep (MM F g h) w j g u2) (H:aeqz tag v j (fun b=>b = q)) :
  (do eqGuard (if neg then .neq else .eql) t x y u u2;binOp (if neg then .neq else .eql) t u u2:Sem Value).run P w = .ok (.bool (if neg then !q else q)) w:=by
 have he:(Op.equal t u u2).run P w = .ok q w:=by
  unfold Op.equal Op.maxDepth
  exact equal_nil ht hd hr hj H 9999
 have hs:(∃ a n c b m d,u = .slice a n c ∧ u2 = .slice b m d) ∨ (∃ a b,u = .pointer a ∧ u2 = .pointer b) ∨ (u = .nilFunc ∧ u2 = .nilFunc) ∨ (∃ f cs,u = .func f #[] cs ∧ u2 = .nilFunc):=by
  unfold aeqz at H
  split at H
  ·obtain ⟨A,cap,rfl,_⟩:=hr
   obtain ⟨B,cap',rfl,_⟩:=hj
   exact .inl ⟨_,_,_,_,_,_,rfl,rfl⟩
  ·obtain ⟨A,cap,rfl,_⟩:=hr
   obtain ⟨B,cap',rfl,_⟩:=hj
   exact .inl ⟨_,_,_,_,_,_,rfl,rfl⟩
  ·obtain ⟨b,cap,_,rfl,_⟩:=hr
   obtain ⟨B,cap',rfl,_⟩:=hj
   exact .inl ⟨_,_,_,_,_,_,rfl,rfl⟩
  ·obtain rfl:=hr
   obtain rfl:=hj
   exact .inr (.inl ⟨_,_,rfl,rfl⟩)
  ·obtain ⟨b,cap,_,rfl⟩:=hr
   obtain rfl:=hj
   exact .inr (.inl ⟨_,_,rfl,rfl⟩)
  ·obtain ⟨b,off,rfl,_⟩:=hr
   obtain rfl:=hj
   exact .inr (.inl ⟨_,_,rfl,rfl⟩)
  ·obtain rfl:=hr
   obtain rfl:=hj
   exact .inr (.inr (.inl ⟨rfl,rfl⟩))
  ·obtain ⟨cs,rfl,_⟩:=hr
   obtain rfl:=hj
   exact .inr (.inr (.inr ⟨_,_,rfl,rfl⟩))
  ·exact H.elim
 have hg:(eqGuard (if neg then .neq else .eql) t x y u u2).run P w = .ok () w:=by
  rcases hs with ⟨a,n,c,b,m,dd,rfl,rfl⟩|⟨a,b,rfl,rfl⟩|⟨rfl,rfl⟩|⟨f,cs,rfl,rfl⟩ <;> cases neg <;> rfl
 simp only [Sem.run_bind,hg,Result.andThen_ok]
 rcases hs with ⟨a,n,c,b,m,dd,rfl,rfl⟩|⟨a,b,rfl,rfl⟩|⟨rfl,rfl⟩|⟨f,cs,rfl,rfl⟩ <;> cases neg <;> simp [binOp,he]
theorem val_eqa {t:TypeId} {fs:Array Field} {m:Nat} {c c':Nat → AV} {u u2:Value} {q neg:Bool} {x y:Operand} (ht:P.underlying t = some (.struct fs)) (hf:flatS P t fs = true) (hm:m = fs.size) (hr:rep (MM F g h) w (.agg m c) g u) (hj:rep (MM F g h) w (.agg m c') g u2)
  (H:eqcs m c c' m (fun b=>b = q)):(do eqGuard (if neg then .neq else .eql) t x y u u2;binOp (if neg then .neq else .eql) t u u2:Sem Value).run P w = .ok (.bool (if neg then !q else q)) w:=by
 obtain ⟨xs,rfl,hxs,hx⟩:=hr
 obtain ⟨ys,rfl,hys,hy⟩:=hj
 subst hm
 simp only [flatS,Bool.and_eq_true,Bool.not_eq_true',List.all_eq_true,List.mem_range] at hf
 obtain ⟨⟨hs,hg⟩,hf⟩:=hf
 have hfo:P.fieldsOf t = fs:=by simp [Program.fieldsOf,ht]
 have key:∀ (k:Nat) (q:Bool),k ≤ fs.size → eqcs fs.size c c' k (fun b=>b = q) → ∀ D,(Op.eqFields (D + 1) xs ys (fs.toList.drop (fs.size - k))).run P w = .ok q w:=by
  intro k
  induction k with
  | zero =>
   intro q _ hq D
   simp only [eqcs] at hq
   subst hq
   rw [Nat.sub_zero,List.drop_eq_nil_of_le (by simp)]
   simp [Op.eqFields]
  | succ k ih =>
   intro q hk hq D
   obtain ⟨j,hj⟩:∃ j,j = fs.size - (k + 1):=⟨_,rfl⟩
   have hjl:j < fs.size:=by omega
   simp only [eqcs,← hj] at hq
   have hd:fs.toList.drop (fs.size - (k + 1)) = fs[j] :: fs.toList.drop (fs.size - k):=by
    rw [← hj,List.drop_eq_getElem_cons (by simpa using hjl),Array.getElem_toList,show j + 1 = fs.size - k by omega]
   have hfj:=hf j hjl
   rw [Array.getElem?_eq_getElem hjl] at hfj
   simp only [Bool.and_eq_true,beq_iff_eq,bne_iff_ne,ne_eq] at hfj
   obtain ⟨⟨⟨h1,h2⟩,h3⟩,h4⟩:=hfj
   obtain ⟨a,ha,_,hra⟩:=hx j hjl
   obtain ⟨b,hb,_,hrb⟩:=hy j hjl
   have pa:(part fs[j].type xs fs[j].offset).run P w = .ok a w:=by simp [part,Sem.run_bind,tyAgg_run h3,h1,ha]
   have pb:(part fs[j].type ys fs[j].offset).run P w = .ok b w:=by simp [part,Sem.run_bind,tyAgg_run h3,h1,hb]
   obtain ⟨q1,hq1,k1⟩:=eqc_one hq
   obtain ⟨q2,hq2,k2⟩:=eqcs_one hq1
   have he:(Op.equalIn (D + 1) fs[j].type a b).run P w = .ok q1 w:=by
    have hq1':=k1 (fun b=>b = q1) rfl
    clear hq k1
    unfold eqc at hq1'
    split at hq1'
    ·rename_i k a' k' b' e1 e2
     rw [e1] at hra
     rw [e2] at hrb
     obtain rfl:=hra
     obtain rfl:=hrb
     obtain ⟨rfl,rfl⟩:=hq1'
     split at h4
     ·rename_i kk hu
      simp only [Op.equalIn,Sem.run_bind,run_underlying hu,Result.andThen_ok,if_true,Sem.run_pure]
      congr 1
     ·cases h4
    ·exact hq1'.elim
   have hrest:=ih q2 (by omega) (k2 _ rfl) D
   rw [hd]
   subst hq2
   simp only [Op.eqFields,ne_eq,h2,not_false_eq_true,if_true,Sem.run_bind,pa,pb,Result.andThen_ok,he]
   cases q1
   ·simp
   ·simpa using hrest
 have he:(Op.equal t (.agg xs) (.agg ys)).run P w = .ok q w:=by
  unfold Op.equal Op.maxDepth
  rw [run_equalIn_struct w 9999 t xs ys (by rw [hfo];exact ht) hs,hfo]
  have:=key fs.size q (Nat.le_refl _) H 9998
  rw [Nat.sub_self] at this
  simpa using this
 have hgd:(eqGuard (if neg then .neq else .eql) t x y (.agg xs) (.agg ys)).run P w = .ok () w:=by
  cases neg <;> simp [eqGuard,Sem.run_bind,hg]
 simp only [Sem.run_bind,hgd,Result.andThen_ok]
 cases neg <;> simp [binOp,he]
end
end Go.Proofs.YtodpjdmdmmnlpaaGreat
