/- How a call sees the caller's blocks; a call's contract at its place / A call's contract at its place: the caller's other blocks are left alone / The reading in a form that computes: what is to be shown stands behind names at which the computing stops -/
import Derived.Test.YtbhjehpjjbbhbaaBc4
import Derived.IntWalk
set_option linter.unusedSimpArgs false
set_option linter.unusedVariables false
namespace Go.Proofs.Ytbhjehpjjbbhbaa
open Go.RowKit

/-- Of one value no less is said than of another. -/
def LeV (a b:AV):Prop:=∀ (M:Nat → Prop) (w:World) (u:Value),rep M w a g0 u → rep M w b g0 u
theorem LeV.refl (a:AV):LeV a a:=fun _ _ _ h=>h
theorem LeV.of {a b:AV} (h:b = a):LeV a b:=h ▸ LeV.refl a
theorem LeV.sl {z e e':Bool} {n sz:Nat} {c c':Nat → Nat → AV} (he:e' = true → e = true) (hc:∀ k,k < n → ∀ o,o < sz → LeV (c k o) (c' k o)):LeV (.sl z e n sz c) (.sl z e' n sz c'):=by
 rintro M w u ⟨A,cap,rfl,h2,h3,h4,h5,h6⟩
 refine ⟨A,cap,rfl,h2,h3,fun h=>h4 (he h),h5,fun kk hk o ho=>?_⟩
 obtain ⟨b,off,x,e1,e2,e3,e4,e5,e6⟩:=h6 kk hk o ho
 exact ⟨b,off,x,e1,e2,e3,e4,e5,hc kk hk o ho _ _ _ e6⟩
theorem LeV.slz {z e e':Bool} {sz sz':Nat} {c c':Nat → Nat → AV} (he:e' = true → e = true):LeV (.sl z e 0 sz c) (.sl z e' 0 sz' c'):=by
 rintro M w u ⟨A,cap,rfl,h2,h3,h4,h5,h6⟩
 exact ⟨A,cap,rfl,h2,h3,fun h=>h4 (he h),h5,fun kk hk=>absurd hk (Nat.not_lt_zero _)⟩
theorem LeV.ip {m o:Nat} {c c':Nat → AV} (hc:∀ i,i < m → LeV (c i) (c' i)):LeV (.ip m c o) (.ip m c' o):=by
 rintro M w u ⟨b,off,rfl,e2,e3,h6⟩
 refine ⟨b,off,rfl,e2,e3,fun i hi=>?_⟩
 obtain ⟨x,e4,e5,e6⟩:=h6 i hi
 exact ⟨x,e4,e5,hc i hi _ _ _ e6⟩
theorem LeV.agg {m:Nat} {c c':Nat → AV} (hc:∀ i,i < m → LeV (c i) (c' i)):LeV (.agg m c) (.agg m c'):=by
 rintro M w u ⟨cs,rfl,e2,h6⟩
 refine ⟨cs,rfl,e2,fun i hi=>?_⟩
 obtain ⟨x,e4,e5,e6⟩:=h6 i hi
 exact ⟨x,e4,e5,hc i hi _ _ _ e6⟩
/-- The second value says no more than the first. σ: old and new names of blocks; Bp: the blocks that are let go, or lent, to be read. -/
inductive Ln (σ:Nat → Nat → Prop) (Bp:Nat → Prop) (H:List AB):AV → AV → Prop
 | bot (v:AV):Ln σ Bp H v .bot
 | same (v:AV) (h:v.pure):Ln σ Bp H v v
 | own (d n i:Nat) (h:σ d i):Ln σ Bp H (.own d n) (.own i n)
 | ptr (d o i:Nat) (h:σ d i):Ln σ Bp H (.ptr d o) (.ptr i o)
 | rp (d sz k o i:Nat) (h:σ d i):Ln σ Bp H (.rp d sz k o) (.rp i sz k o)
 | osl (d sz lo n i:Nat) (h:σ d i):Ln σ Bp H (.osl d sz lo n) (.osl i sz lo n)
 | osl0 (d sz n i:Nat) (h:σ d i):Ln σ Bp H (.own d n) (.osl i sz 0 n)
 | mpv (d i:Nat) (h:σ d i):Ln σ Bp H (.mpv d) (.mpv i)
 | pub (d n N sz:Nat) (c c':Nat → Nat → AV) (h:Bp d) (hd:H[d]? = some (.row N sz c)) (hn:n ≤ N) (hc:∀ k,k < n → ∀ o,o < sz → c' k o = c k o):Ln σ Bp H (.own d n) (.sl false false n sz c')
 | pubp (d o m:Nat) (c c':Nat → AV) (h:Bp d) (hd:H[d]? = some (.box m c)) (hc:∀ i,i < m → Ln σ Bp H (c i) (c' i)) (hp:∀ i,i < m → (c' i).pure):Ln σ Bp H (.ptr d o) (.ip m c' o)
 | pubr (d sz k o N:Nat) (c:Nat → Nat → AV) (c':Nat → AV) (h:Bp d) (hd:H[d]? = some (.row N sz c)) (hn:k < N) (hc:∀ i,i < sz → c' i = c k i):Ln σ Bp H (.rp d sz k o) (.ip sz c' o)
 | pubg (d n N sz:Nat) (c c':Nat → Nat → AV) (h:Bp d) (hd:H[d]? = some (.rwg N sz c)) (hn:n ≤ N) (hc:∀ k,k < n → ∀ o,o < sz → Ln σ Bp H (c k o) (c' k o)) (hp:∀ k,k < n → ∀ o,o < sz → (c' k o).pure):Ln σ Bp H (.own d n) (.sl false false n sz c')
 | pubrg (d sz k o N:Nat) (c:Nat → Nat → AV) (c':Nat → AV) (h:Bp d) (hd:H[d]? = some (.rwg N sz c)) (hn:k < N) (hc:∀ i,i < sz → Ln σ Bp H (c k i) (c' i)) (hp:∀ i,i < sz → (c' i).pure):Ln σ Bp H (.rp d sz k o) (.ip sz c' o)
 | agg (m:Nat) (c c':Nat → AV) (hc:∀ i,i < m → Ln σ Bp H (c i) (c' i)):Ln σ Bp H (.agg m c) (.agg m c')
 | tup (m:Nat) (c c':Nat → AV) (hc:∀ i,i < m → Ln σ Bp H (c i) (c' i)):Ln σ Bp H (.tup m c) (.tup m c')
 | fn (f:FuncId) (m:Nat) (c c':Nat → AV) (hc:∀ i,i < m → Ln σ Bp H (c i) (c' i)):Ln σ Bp H (.fn f m c) (.fn f m c')
 | sl (z e e':Bool) (n sz:Nat) (c c':Nat → Nat → AV) (he:e' = true → e = true) (hc:∀ k,k < n → ∀ o,o < sz → c' k o = c k o):Ln σ Bp H (.sl z e n sz c) (.sl z e' n sz c')
 | slz (z e e':Bool) (sz sz':Nat) (c c':Nat → Nat → AV) (he:e' = true → e = true):Ln σ Bp H (.sl z e 0 sz c) (.sl z e' 0 sz' c')
 | ip (m o:Nat) (c c':Nat → AV) (hc:∀ i,i < m → c' i = c i):Ln σ Bp H (.ip m c o) (.ip m c' o)
 | le (v v':AV) (hp:v.pure) (h:LeV v v'):Ln σ Bp H v v'

section
variable {F:Nat → Prop} {σ:Nat → Nat → Prop} {Bp:Nat → Prop} {H:List AB} {g g':GM} {w:World} {M':Nat → Prop}
theorem Ln.rep (k:HOK F g w H) (hM:∀ b,M' b → MM F g H b) (hσ:∀ d i p,σ d i → g d = some p → g' i = some p) (hB:∀ d b cap,Bp d → live H d → g d = some (b,cap) → ¬ M' b) {v v':AV} (L:Ln σ Bp H v v'):∀ {u:Value},rep (MM F g H) w v g u → rep M' w v' g' u:=by
 have pure:∀ (v:AV) {u:Value},v.pure → Proofs.Ytbhjehpjjbbhbaa.rep (MM F g H) w v g u → Proofs.Ytbhjehpjjbbhbaa.rep M' w v g' u:=fun v u hp h=>rep_mono (Chg.refl _ w) (fun b _ h=>hM b h) v (g0_le g') (rep_pure v hp h)
 have zero:∀ (v:AV) {u:Value},Proofs.Ytbhjehpjjbbhbaa.rep (MM F g H) w v g0 u → Proofs.Ytbhjehpjjbbhbaa.rep M' w v g0 u:=fun v u h=>rep_mono (Chg.refl _ w) (fun b _ h=>hM b h) v (GM.le_refl _) h
 induction L with
 | bot v=>intro u _;trivial
 | same v hp=>intro u h;exact pure v hp h
 | own d n i h =>
  rintro u ⟨b,cap,h1,h2⟩
  exact ⟨b,cap,hσ d i _ h h1,h2⟩
 | ptr d o i h =>
  rintro u ⟨b,cap,h1,h2⟩
  exact ⟨b,cap,hσ d i _ h h1,h2⟩
 | rp d sz k o i h =>
  rintro u ⟨b,cap,h1,h2⟩
  exact ⟨b,cap,hσ d i _ h h1,h2⟩
 | osl d sz lo n i h =>
  rintro u ⟨b,cap,p,h1,h2⟩
  exact ⟨b,cap,p,hσ d i _ h h1,h2⟩
 | osl0 d sz n i h =>
  rintro u ⟨b,cap,h1,rfl,h2⟩
  exact ⟨b,cap,0,hσ d i _ h h1,rfl,by omega,fun _=>by omega⟩
 | mpv d i h =>
  rintro u ⟨b,cap,h1,h2⟩
  exact ⟨b,cap,hσ d i _ h h1,h2⟩
 | pub d n N sz c c' h hd hn hc =>
  rintro u ⟨b,cap,h1,rfl,hcap⟩
  obtain ⟨_,_,cs,t,hh,hs,hcs⟩:=k.row d N sz c b cap hd h1
  refine ⟨_,cap,rfl,by simp,by simp,fun h=>(by cases h),hcap,fun kk hk o ho=>?_⟩
  obtain ⟨u,e1,e2,e3⟩:=hcs kk (by omega) o ho
  refine ⟨b,0,u,rfl,lt_of_heap hh,hB d b cap h ⟨_,hd,trivial⟩ h1,?_,e2,?_⟩
  ·rw [Nat.zero_add];exact cell_of_heap hh e1
  ·rw [hc kk hk o ho];exact zero _ e3
 | pubp d o m c c' h hd hc hp ih =>
  rintro u ⟨b,cap,h1,rfl⟩
  obtain ⟨cs,t,hh,hs,hcs⟩:=k.box d m c b cap hd h1
  refine ⟨b,0,by rw [Nat.zero_add],lt_of_heap hh,hB d b cap h ⟨_,hd,trivial⟩ h1,fun i hi=>?_⟩
  obtain ⟨u,e1,e2,e3⟩:=hcs i hi
  exact ⟨u,by rw [Nat.zero_add];exact cell_of_heap hh e1,e2,rep_pure _ (hp i hi) (ih i hi e3)⟩
 | pubr d sz kk o N c c' h hd hn hc =>
  rintro u ⟨b,cap,h1,rfl⟩
  obtain ⟨_,_,cs,t,hh,hs,hcs⟩:=k.row d N sz c b cap hd h1
  refine ⟨b,kk * sz,rfl,lt_of_heap hh,hB d b cap h ⟨_,hd,trivial⟩ h1,fun i hi=>?_⟩
  obtain ⟨u,e1,e2,e3⟩:=hcs kk hn i hi
  exact ⟨u,cell_of_heap hh e1,e2,by rw [hc i hi];exact zero _ e3⟩
 | pubg d n N sz c c' h hd hn hc hp ih =>
  rintro u ⟨b,cap,h1,rfl,hcap⟩
  obtain ⟨_,_,cs,t,hh,hs,hcs⟩:=k.rwg d N sz c b cap hd h1
  refine ⟨_,cap,rfl,by simp,by simp,fun h=>(by cases h),hcap,fun kk hk o ho=>?_⟩
  obtain ⟨u,e1,e2,e3⟩:=hcs kk (by omega) o ho
  refine ⟨b,0,u,rfl,lt_of_heap hh,hB d b cap h ⟨_,hd,trivial⟩ h1,?_,e2,rep_pure _ (hp kk hk o ho) (ih kk hk o ho e3)⟩
  rw [Nat.zero_add];exact cell_of_heap hh e1
 | pubrg d sz kk o N c c' h hd hn hc hp ih =>
  rintro u ⟨b,cap,h1,rfl⟩
  obtain ⟨_,_,cs,t,hh,hs,hcs⟩:=k.rwg d N sz c b cap hd h1
  refine ⟨b,kk * sz,rfl,lt_of_heap hh,hB d b cap h ⟨_,hd,trivial⟩ h1,fun i hi=>?_⟩
  obtain ⟨u,e1,e2,e3⟩:=hcs kk hn i hi
  exact ⟨u,cell_of_heap hh e1,e2,rep_pure _ (hp i hi) (ih i hi e3)⟩
 | agg m c c' hc ih =>
  rintro u ⟨cs,rfl,h2,h3⟩
  refine ⟨cs,rfl,h2,fun i hi=>?_⟩
  obtain ⟨x,e1,e2,e3⟩:=h3 i hi
  exact ⟨x,e1,e2,ih i hi e3⟩
 | tup m c c' hc ih =>
  rintro u ⟨cs,rfl,h2,h3⟩
  refine ⟨cs,rfl,h2,fun i hi=>?_⟩
  obtain ⟨x,e1,e3⟩:=h3 i hi
  exact ⟨x,e1,ih i hi e3⟩
 | fn f m c c' hc ih =>
  rintro u ⟨cs,rfl,h2,h3⟩
  refine ⟨cs,rfl,h2,fun i hi=>?_⟩
  obtain ⟨x,e1,e3⟩:=h3 i hi
  exact ⟨x,e1,ih i hi e3⟩
 | sl z e e' n sz c c' he hc =>
  rintro u ⟨A,cap,rfl,h2,h3,h4,h5,h6⟩
  refine ⟨A,cap,rfl,h2,h3,fun h=>h4 (he h),h5,fun kk hk o ho=>?_⟩
  obtain ⟨b,off,x,e1,e2,e3,e4,e5,e6⟩:=h6 kk hk o ho
  exact ⟨b,off,x,e1,e2,fun h=>e3 (hM b h),e4,e5,by rw [hc kk hk o ho];exact zero _ e6⟩
 | slz z e e' sz sz' c c' he =>
  rintro u ⟨A,cap,rfl,h2,h3,h4,h5,h6⟩
  exact ⟨A,cap,rfl,h2,h3,fun h=>h4 (he h),h5,fun kk hk=>absurd hk (Nat.not_lt_zero _)⟩
 | ip m o c c' hc =>
  rintro u ⟨b,off,rfl,e2,e3,h6⟩
  refine ⟨b,off,rfl,e2,fun h=>e3 (hM b h),fun i hi=>?_⟩
  obtain ⟨x,e4,e5,e6⟩:=h6 i hi
  exact ⟨x,e4,e5,by rw [hc i hi];exact zero _ e6⟩
 | le v v' hp h =>
  intro u hu
  have:=h _ _ _ (rep_pure v hp hu)
  exact rep_mono (Chg.refl _ w) (fun b _ h=>hM b h) v' (g0_le g') this

/-- The same of blocks. -/
def LnB (σ:Nat → Nat → Prop) (Bp:Nat → Prop) (H:List AB):AB → AB → Prop
 | _,.dead=>True
 | .box m c,.box m' c'=>m = m' ∧ ∀ i,i < m → Ln σ Bp H (c i) (c' i)
 | .row n sz c,.row n' sz' c'=>sz = sz' ∧ n' ≤ n ∧ ∀ k,k < n' → ∀ o,o < sz → LeV (c k o) (c' k o)
 | .mp kt L,.mp kt' L'=>kt = kt' ∧ L = L'
 | .mit m n s,.mit m' n' s'=>Ln σ Bp H m m' ∧ n = n' ∧ s = s'
 | .rwg n sz c,.rwg n' sz' c'=>sz = sz' ∧ n' ≤ n ∧ ∀ k,k < n' → ∀ o,o < sz → Ln σ Bp H (c k o) (c' k o)
 | .row n sz c,.rwg n' sz' c'=>sz = sz' ∧ n' ≤ n ∧ ∀ k,k < n' → ∀ o,o < sz → Ln σ Bp H (c k o) (c' k o)
 | .rwg n sz c,.row n' sz' c'=>sz = sz' ∧ n' ≤ n ∧ ∀ k,k < n' → ∀ o,o < sz → Ln σ Bp H (c k o) (c' k o) ∧ (c' k o).pure
 | _,_=>False
theorem LnB.ok (k:HOK F g w H) (hM:∀ b,M' b → MM F g H b) (hσ:∀ d i p,σ d i → g d = some p → g' i = some p) (hB:∀ d b cap,Bp d → live H d → g d = some (b,cap) → ¬ M' b) {x x':AB} (L:LnB σ Bp H x x') {b cap:Nat} (h:ABOK (MM F g H) g w b cap x):ABOK M' g' w b cap x':=by
 cases x' with
 | dead=>trivial
 | box m c =>
  cases x with
  | dead=>exact L.elim
  | row=>exact L.elim
  | rwg=>exact L.elim
  | mp=>exact L.elim
  | mit=>exact L.elim
  | box m2 c2 =>
   obtain ⟨rfl,hc⟩:=L
   obtain ⟨cs,t,h1,h2,h3⟩:=h
   refine ⟨cs,t,h1,h2,fun i hi=>?_⟩
   obtain ⟨u,e1,e2,e3⟩:=h3 i hi
   exact ⟨u,e1,e2,(hc i hi).rep k hM hσ hB e3⟩
 | row n sz c =>
  cases x with
  | dead=>exact L.elim
  | box=>exact L.elim
  | mp=>exact L.elim
  | mit=>exact L.elim
  | rwg n2 sz2 c2 =>
   obtain ⟨rfl,hn,hc⟩:=L
   obtain ⟨h0,hm,cs,t,h1,h2,h3⟩:=h
   refine ⟨by omega,hm,cs,t,h1,h2,fun kk hk o ho=>?_⟩
   obtain ⟨u,e1,e2,e3⟩:=h3 kk (by omega) o ho
   exact ⟨u,e1,e2,rep_pure _ (hc kk hk o ho).2 ((hc kk hk o ho).1.rep k hM hσ hB e3)⟩
  | row n2 sz2 c2 =>
   obtain ⟨rfl,hn,hc⟩:=L
   obtain ⟨h0,hm,cs,t,h1,h2,h3⟩:=h
   refine ⟨by omega,hm,cs,t,h1,h2,fun kk hk o ho=>?_⟩
   obtain ⟨u,e1,e2,e3⟩:=h3 kk (by omega) o ho
   exact ⟨u,e1,e2,hc kk hk o ho _ _ _ (rep_mono (Chg.refl _ w) (fun b _ h=>hM b h) _ (GM.le_refl _) e3)⟩
 | mp kt L1 =>
  cases x with
  | dead=>exact L.elim
  | box=>exact L.elim
  | row=>exact L.elim
  | rwg=>exact L.elim
  | mit=>exact L.elim
  | mp kt2 L2 =>
   obtain ⟨rfl,rfl⟩:=L
   obtain ⟨es,h1,h2⟩:=h
   exact ⟨es,h1,h2.mono (Chg.refl _ w) (fun b _ h=>hM b h)⟩
 | mit m n s =>
  cases x with
  | dead=>exact L.elim
  | box=>exact L.elim
  | row=>exact L.elim
  | rwg=>exact L.elim
  | mp=>exact L.elim
  | mit m2 n2 s2 =>
   obtain ⟨hm,rfl,rfl⟩:=L
   obtain ⟨h1,h2,mb,h3,h4⟩:=h
   exact ⟨h1,h2,mb,hm.rep k hM hσ hB h3,h4⟩
 | rwg n sz c =>
  cases x with
  | dead=>exact L.elim
  | box=>exact L.elim
  | mp=>exact L.elim
  | mit=>exact L.elim
  | rwg n2 sz2 c2 =>
   obtain ⟨rfl,hn,hc⟩:=L
   obtain ⟨h0,hm,cs,t,h1,h2,h3⟩:=h
   refine ⟨by omega,hm,cs,t,h1,h2,fun kk hk o ho=>?_⟩
   obtain ⟨u,e1,e2,e3⟩:=h3 kk (by omega) o ho
   exact ⟨u,e1,e2,(hc kk hk o ho).rep k hM hσ hB e3⟩
  | row n2 sz2 c2 =>
   obtain ⟨rfl,hn,hc⟩:=L
   obtain ⟨h0,hm,cs,t,h1,h2,h3⟩:=h
   refine ⟨by omega,hm,cs,t,h1,h2,fun kk hk o ho=>?_⟩
   obtain ⟨u,e1,e2,e3⟩:=h3 kk (by omega) o ho
   exact ⟨u,e1,e2,(hc kk hk o ho).rep k hM hσ hB (rep_up (g0_le g) e3)⟩
theorem LnB.live {x x':AB} (L:LnB σ Bp H x x') (hl:x'.live):x.live:=by
 cases x' <;> cases x <;> first|trivial|exact hl.elim|exact L.elim
end

/-- What is needed of the blocks that are kept (h2) and of those that are let go. sel: under which names the kept ones stood. -/
def Cut (N:Nat) (sel:List Nat) (h h2:List AB):Prop:=N ≤ h2.length ∧ sel.length = h2.length ∧ sel.Nodup ∧ (∀ i,i < N → sel[i]? = some i) ∧
 ∀ (i d:Nat) (x:AB),sel[i]? = some d → h2[i]? = some x → d < h.length ∧ (x = .dead ∨ ∃ y,h[d]? = some y ∧ LnB (fun d i=>sel[i]? = some d) (fun d=>∀ i,sel[i]? = some d → ¬ live h2 i) h y x)
abbrev LnK (sel:List Nat) (h h2:List AB):AV → AV → Prop:=Ln (fun d i=>sel[i]? = some d) (fun d=>∀ i,sel[i]? = some d → ¬ live h2 i) h
theorem cut {N:Nat} {sel:List Nat} {h h2:List AB} (hc:Cut N sel h h2) {F:Nat → Prop} {gS g:GM} {hS:List AB} {wS w:World} (hSN:hS.length = N) (T:Tr F gS hS wS g h w) (dm:∀ d p,gS d = some p → d < hS.length) :
  ∃ g2,Tr F gS hS wS g2 h2 w ∧ ∀ (v v':AV) (u:Value),LnK sel h h2 v v' → rep (MM F g h) w v g u → rep (MM F g2 h2) w v' g2 u:=by
 obtain ⟨hN,hlen,hnd,hid,hb⟩:=hc
 let g2:GM:=fun i=>(sel[i]?).bind g
 have hlv:∀ i,live h2 i → ∃ d,sel[i]? = some d ∧ live h d:=fun i ⟨x,hx,hl⟩=>by
  have hi:i < h2.length:=by
   rcases Nat.lt_or_ge i h2.length with h'|h'
   ·exact h'
   ·rw [List.getElem?_eq_none h'] at hx;cases hx
  have hs:sel[i]? = some sel[i]:=List.getElem?_eq_getElem (by omega)
  rcases (hb i _ x hs hx).2 with rfl|⟨y,hy,hL⟩
  ·exact hl.elim
  ·exact ⟨_,hs,y,hy,hL.live hl⟩
 have hg2:∀ i p,g2 i = some p → ∃ d,sel[i]? = some d ∧ g d = some p:=fun i p hp=>by
  simp only [g2] at hp
  cases hs:sel[i]? with
  | none=>rw [hs] at hp;cases hp
  | some d=>rw [hs] at hp;exact ⟨d,rfl,hp⟩
 have hO:∀ b,MO g2 h2 b → MO g h b:=fun b ⟨i,cap,hl,hgd⟩=>by
  obtain ⟨d,h1,h3⟩:=hlv i hl
  obtain ⟨d',h1',h3'⟩:=hg2 i _ hgd
  rw [h1] at h1'
  injection h1' with h1'
  subst h1'
  exact ⟨d,cap,h3,h3'⟩
 have hM:∀ b,MM F g2 h2 b → MM F g h b:=fun b=>Or.imp id (hO b)
 have hσ:∀ d i p,sel[i]? = some d → g d = some p → g2 i = some p:=fun d i p h1 hp=>by simp only [g2,h1,Option.bind_some,hp]
 have hB:∀ d b cap,(∀ i,sel[i]? = some d → ¬ live h2 i) → live h d → g d = some (b,cap) → ¬ MM F g2 h2 b:=by
  rintro d b cap hnl hl hgd (hF|⟨i,cap',hl',hg'⟩)
  ·exact (T.ok.fr b hF).2 ⟨d,cap,hl,hgd⟩
  ·obtain ⟨d',h1,h3⟩:=hlv i hl'
   obtain ⟨d2,h1',h3'⟩:=hg2 i _ hg'
   rw [h1] at h1'
   injection h1' with h1'
   subst h1'
   have:=T.ok.inj d d' b cap cap' hl h3 hgd h3'
   subst this
   exact hnl i h1 hl'
 refine ⟨g2,⟨?_,?_,T.chg,fun b hb'=>T.new b (hO b hb')⟩,fun v v' u L hr=>L.rep T.ok hM hσ hB hr⟩
 ·refine HOK.of_all (fun i hi=>?_) (fun i hl=>?_) (fun i j b c c' h1 h2' e1 e2=>?_) (fun i b cap x hx hgd=>?_) (fun b hF=>⟨(T.ok.fr b hF).1,fun h=>(T.ok.fr b hF).2 (hO b h)⟩)
  ·simp only [g2,List.getElem?_eq_none (show sel.length ≤ i by omega),Option.bind_none]
  ·obtain ⟨d,h1,h3⟩:=hlv i hl
   obtain ⟨p,hp⟩:=T.ok.lv d h3
   exact ⟨p,hσ d i p h1 hp⟩
  ·obtain ⟨d,a1,a2⟩:=hlv i h1
   obtain ⟨d',b1,b2⟩:=hlv j h2'
   obtain ⟨d2,a1',a3⟩:=hg2 i _ e1
   obtain ⟨d3,b1',b3⟩:=hg2 j _ e2
   rw [a1] at a1'
   rw [b1] at b1'
   injection a1' with a1'
   injection b1' with b1'
   subst a1';subst b1'
   have:=T.ok.inj d d' b c c' a2 b2 a3 b3
   subst this
   have hi:i < sel.length:=by
    rcases Nat.lt_or_ge i sel.length with h|h
    ·exact h
    ·rw [List.getElem?_eq_none h] at a1;cases a1
   exact (List.getElem?_inj hi hnd).1 (a1.trans b1.symm)
  ·obtain ⟨d,a1,a3⟩:=hg2 i _ hgd
   rcases (hb i d x a1 hx).2 with rfl|⟨y,hy,hL⟩
   ·trivial
   ·exact hL.ok T.ok hM hσ hB (T.ok.all hy a3)
 ·intro d p hp
  have h1:=T.gle d p hp
  have:=dm d p hp
  exact hσ d d p (hid d (by omega)) h1
theorem Wk.gen {N:Nat} {sel:List Nat} {e e2:Env} {h h2:List AB} (hc:Cut N sel h h2) (he:∀ t,LnK sel h h2 (e t) (e2 t)):Wk N e h e2 h2:=by
 rintro F n gS hS wS a w hSN ⟨⟨g,T,hv⟩,dn,sz,dm⟩
 obtain ⟨g2,T2,hr⟩:=cut hc hSN T dm
 exact ⟨⟨g2,T2,fun t=>hr _ _ _ (he t) (hv t)⟩,dn,sz,dm⟩
theorem ACall.wk {P:Program} {f:FuncId} {xs:List AV} {h:List AB} {K:AV → List AB → Prop} (H:ACall P f xs h (fun r h'=>∃ r2 h2 sel,Cut h.length sel h' h2 ∧ LnK sel h' h2 r r2 ∧ K r2 h2)):ACall P f xs h K :=
 ⟨H.1,fun F g w vs hok hs hv=>(H.2 F g w vs hok hs hv).mono fun en w' ⟨v,r,h',g',he,T,hr,r2,h2,sel,hc,hl,hk⟩ =>
  let ⟨g2,T2,hr2⟩:=cut hc rfl T (fun _ _ hp=>hok.lt hp)
  ⟨v,r2,h2,g2,he,T2,hr2 _ _ _ hl hr,hk⟩⟩

def AV.pureB : AV → Bool
 | .own .. | .ptr .. | .rp .. | .osl .. | .mpv ..=>false
 | .fn _ m c | .agg m c | .tup m c=>(List.range m).all fun i=>(c i).pureB
 | _=>true
theorem pureB_ok : ∀ (v:AV),v.pureB = true → v.pure:=by
 intro v
 induction v with
 | own=>intro h;cases h
 | ptr=>intro h;cases h
 | rp=>intro h;cases h
 | osl=>intro h;cases h
 | mpv=>intro h;cases h
 | fn f m c ih=>intro h i hi;simp only [AV.pureB,List.all_eq_true,List.mem_range] at h;exact ih i (h i hi)
 | agg m c ih=>intro h i hi;simp only [AV.pureB,List.all_eq_true,List.mem_range] at h;exact ih i (h i hi)
 | tup m c ih=>intro h i hi;simp only [AV.pureB,List.all_eq_true,List.mem_range] at h;exact ih i (h i hi)
 | _=>intro _;trivial

/-- New names for the blocks of a call: the first are those of the caller in sel, the others come behind the caller's. -/
def tau (sel:List Nat) (N:Nat) (i:Nat):Nat:=match sel[i]? with
 | some d=>d
 | none=>N + (i - sel.length)
def ren (sel:List Nat) (N:Nat):AV → AV
 | .own d n=>.own (tau sel N d) n
 | .ptr d o=>.ptr (tau sel N d) o
 | .rp d sz k o=>.rp (tau sel N d) sz k o
 | .osl d sz lo n=>.osl (tau sel N d) sz lo n
 | .mpv d=>.mpv (tau sel N d)
 | .fn f m c=>match (AV.fn f m c).pureB with
  | true=>.fn f m c
  | false=>.fn f m (tab m fun i=>ren sel N (c i))
 | .agg m c=>match (AV.agg m c).pureB with
  | true=>.agg m c
  | false=>.agg m (tab m fun i=>ren sel N (c i))
 | .tup m c=>match (AV.tup m c).pureB with
  | true=>.tup m c
  | false=>.tup m (tab m fun i=>ren sel N (c i))
 | v=>v
theorem ren_pure {sel:List Nat} {N:Nat} (v:AV) (h:v.pureB = true):ren sel N v = v:=by
 cases v
 case fn f m c=>unfold ren;rw [h]
 case agg m c=>unfold ren;rw [h]
 case tup m c=>unfold ren;rw [h]
 case own=>cases h
 case ptr=>cases h
 case rp=>cases h
 case osl=>cases h
 case mpv=>cases h
 all_goals rfl
def renB (sel:List Nat) (N:Nat):AB → AB
 | .box m c=>.box m (tab m fun i=>ren sel N (c i))
 | .mit m n s=>.mit (ren sel N m) n s
 | .rwg n sz c=>.rwg n sz (fun k o=>ren sel N (c k o))
 | x=>x
def puts (N:Nat) (sel:List Nat):List Nat → List AB → List AB → List AB
 | d :: ds,x :: xs,H=>puts N sel ds xs (H.set d (renB sel N x))
 | [],xs,H=>H ++ xs.map (renB sel N)
 | _ :: _,[],H=>H
/-- The caller's blocks behind a call. -/
def put (sel:List Nat) (H h2:List AB):List AB:=puts H.length sel sel h2 H
/-- A value that leads to no memory but the call's own. -/
def AV.flat : AV → Prop
 | .sl _ _ n _ _=>n = 0
 | .ip ..=>False
 | .agg m c | .tup m c | .fn _ m c | .mv _ m c=>∀ i,i < m → (c i).flat
 | _=>True
def AB.flat : AB → Prop
 | .dead=>True
 | .box m c=>∀ i,i < m → (c i).flat
 | .row n sz c=>∀ k,k < n → ∀ o,o < sz → (c k o).flat
 | .mp _ L=>∀ p ∈ L,p.2.flat
 | .mit m _ _=>m.flat
 | .rwg n sz c=>∀ k,k < n → ∀ o,o < sz → (c k o).flat
theorem rep_flat {M M':Nat → Prop} {w:World}:∀ (v:AV) {g:GM} {u:Value},v.flat → rep M w v g u → rep M' w v g u:=by
 intro v
 induction v with
 | bot=>intros;trivial
 | int k n=>intro g u _ h;exact h
 | bool b=>intro g u _ h;exact h
 | nilp=>intro g u _ h;exact h
 | nilf=>intro g u _ h;exact h
 | sl z e n sz c ih =>
  intro g u hf h
  obtain ⟨A,cap,h1,h2,h3,h4,h5,_⟩:=h
  exact ⟨A,cap,h1,h2,h3,h4,h5,fun k hk=>by rw [show n = 0 from hf] at hk;omega⟩
 | ip m c o ih=>intro g u hf;exact hf.elim
 | mv f m c ih =>
  intro g u hf h
  obtain ⟨cs,h1,h2,h3⟩:=h
  refine ⟨cs,h1,h2,fun i hi=>?_⟩
  obtain ⟨x,hx,hr⟩:=h3 i hi
  exact ⟨x,hx,ih i (hf i hi) hr⟩
 | own d n=>intro g u _ h;exact h
 | ptr d o=>intro g u _ h;exact h
 | rp d sz k o=>intro g u _ h;exact h
 | osl d sz lo n=>intro g u _ h;exact h
 | mpv d=>intro g u _ h;exact h
 | fn f m c ih =>
  intro g u hp h
  obtain ⟨cs,h1,h2,h3⟩:=h
  refine ⟨cs,h1,h2,fun i hi=>?_⟩
  obtain ⟨x,hx,hr⟩:=h3 i hi
  exact ⟨x,hx,ih i (hp i hi) hr⟩
 | agg m c ih =>
  intro g u hp h
  obtain ⟨cs,h1,h2,h3⟩:=h
  refine ⟨cs,h1,h2,fun i hi=>?_⟩
  obtain ⟨x,hx,h1c,hr⟩:=h3 i hi
  exact ⟨x,hx,h1c,ih i (hp i hi) hr⟩
 | tup m c ih =>
  intro g u hp h
  obtain ⟨cs,h1,h2,h3⟩:=h
  refine ⟨cs,h1,h2,fun i hi=>?_⟩
  obtain ⟨x,hx,hr⟩:=h3 i hi
  exact ⟨x,hx,ih i (hp i hi) hr⟩
/-- From the callee's names to the caller's. -/
theorem rep_ren {M:Nat → Prop} {w:World} {sel:List Nat} {N:Nat}:∀ (v:AV) {g g':GM} {u:Value},(∀ i p,g i = some p → g' (tau sel N i) = some p) → rep M w v g u → rep M w (ren sel N v) g' u:=by
 intro v
 induction v with
 | bot=>intros;trivial
 | int k n=>intro g g' u _ h;exact h
 | bool b=>intro g g' u _ h;exact h
 | nilp=>intro g g' u _ h;exact h
 | nilf=>intro g g' u _ h;exact h
 | sl z e n sz c ih=>intro g g' u hf h;exact h
 | ip m c o ih=>intro g g' u hf h;exact h
 | mv f m c ih=>intro g g' u hf h;exact h
 | own d n=>rintro g g' u hg ⟨b,cap,h1,h2⟩;exact ⟨b,cap,hg _ _ h1,h2⟩
 | ptr d o=>rintro g g' u hg ⟨b,cap,h1,h2⟩;exact ⟨b,cap,hg _ _ h1,h2⟩
 | rp d sz k o=>rintro g g' u hg ⟨b,cap,h1,h2⟩;exact ⟨b,cap,hg _ _ h1,h2⟩
 | osl d sz lo n=>rintro g g' u hg ⟨b,cap,p,h1,h2⟩;exact ⟨b,cap,p,hg _ _ h1,h2⟩
 | mpv d=>rintro g g' u hg ⟨b,cap,h1,h2⟩;exact ⟨b,cap,hg _ _ h1,h2⟩
 | fn f m c ih =>
  intro g g' u hg h
  simp only [ren]
  split
  ·rename_i hp
   exact rep_up (g0_le g') (rep_pure _ (pureB_ok _ hp) h)
  obtain ⟨cs,h1,h2,h3⟩:=h
  refine ⟨cs,h1,h2,fun i hi=>?_⟩
  obtain ⟨x,hx,hr⟩:=h3 i hi
  exact ⟨x,hx,by rw [tab_get hi];exact ih i hg hr⟩
 | agg m c ih =>
  intro g g' u hg h
  simp only [ren]
  split
  ·rename_i hp
   exact rep_up (g0_le g') (rep_pure _ (pureB_ok _ hp) h)
  obtain ⟨cs,h1,h2,h3⟩:=h
  refine ⟨cs,h1,h2,fun i hi=>?_⟩
  obtain ⟨x,hx,h1c,hr⟩:=h3 i hi
  exact ⟨x,hx,h1c,by rw [tab_get hi];exact ih i hg hr⟩
 | tup m c ih =>
  intro g g' u hg h
  simp only [ren]
  split
  ·rename_i hp
   exact rep_up (g0_le g') (rep_pure _ (pureB_ok _ hp) h)
  obtain ⟨cs,h1,h2,h3⟩:=h
  refine ⟨cs,h1,h2,fun i hi=>?_⟩
  obtain ⟨x,hx,hr⟩:=h3 i hi
  exact ⟨x,hx,by rw [tab_get hi];exact ih i hg hr⟩
end Go.Proofs.Ytbhjehpjjbbhbaa

namespace Go.Proofs.Ytbhjehpjjbbhbaa
open Go.RowKit

section
variable {N:Nat} {sel:List Nat}
theorem puts_len : ∀ (ds:List Nat) (xs H:List AB),ds.length ≤ xs.length → (puts N sel ds xs H).length = H.length + (xs.length - ds.length)
 | [],xs,H,_=>by simp [puts]
 | _ :: _,[],H,h=>by simp at h
 | d :: ds,x :: xs,H,h=>by
  simp only [puts]
  rw [puts_len ds xs _ (by simpa using h)]
  simp
theorem puts_out : ∀ (ds:List Nat) (xs H:List AB) (d:Nat),d < H.length → d ∉ ds → (puts N sel ds xs H)[d]? = H[d]?
 | [],xs,H,d,hd,_=>by simp [puts,List.getElem?_append_left hd]
 | _ :: _,[],H,d,_,_=>rfl
 | d' :: ds,x :: xs,H,d,hd,hn=>by
  simp only [puts]
  rw [puts_out ds xs _ d (by simpa using hd) (fun h=>hn (List.mem_cons_of_mem _ h))]
  exact List.getElem?_set_ne (fun e=>hn (by rw [e];exact List.mem_cons_self))
theorem puts_new : ∀ (ds:List Nat) (xs H:List AB) (i:Nat),ds.length ≤ xs.length → ds.length ≤ i → (puts N sel ds xs H)[H.length + (i - ds.length)]? = (xs[i]?).map (renB sel N)
 | [],xs,H,i,_,_=>by simp [puts,List.getElem?_append_right (show H.length ≤ H.length + i by omega)]
 | _ :: _,[],H,i,h,_=>by simp at h
 | d :: ds,x :: xs,H,i,h,hi=>by
  simp only [puts]
  obtain ⟨i,rfl⟩:∃ j,i = j + 1:=⟨i - 1,by simp at hi;omega⟩
  have:=puts_new ds xs (H.set d (renB sel N x)) i (by simpa using h) (by simpa using hi)
  simp only [List.length_set] at this
  rw [show i + 1 - (d :: ds).length = i - ds.length by simp]
  rw [this]
  rfl
theorem puts_sel : ∀ (ds:List Nat) (xs H:List AB) (i d:Nat),ds.Nodup → ds.length ≤ xs.length → ds[i]? = some d → d < H.length → (puts N sel ds xs H)[d]? = (xs[i]?).map (renB sel N)
 | [],xs,H,i,d,_,_,h,_=>by simp at h
 | _ :: _,[],H,i,d,_,h,_,_=>by simp at h
 | d' :: ds,x :: xs,H,i,d,hnd,hl,hi,hd=>by
  simp only [puts]
  rw [List.nodup_cons] at hnd
  cases i with
  | zero =>
   simp only [List.getElem?_cons_zero,Option.some.injEq] at hi
   subst hi
   rw [puts_out ds xs _ d' (by simpa using hd) hnd.1]
   simp [hd]
  | succ i=>exact puts_sel ds xs _ i d hnd.2 (by simpa using hl) hi (by simpa using hd)
end

def LnL (σ:Nat → Nat → Prop) (Bp:Nat → Prop) (H:List AB):List AV → List AV → Prop
 | [],[]=>True
 | x :: xs,y :: ys=>Ln σ Bp H x y ∧ LnL σ Bp H xs ys
 | _,_=>False
theorem LnL.get {σ:Nat → Nat → Prop} {Bp:Nat → Prop} {H:List AB}:∀ {xs ys:List AV},LnL σ Bp H xs ys → xs.length = ys.length ∧ ∀ (i:Nat) (y:AV),ys[i]? = some y → ∃ x,xs[i]? = some x ∧ Ln σ Bp H x y
 | [],[],_=>⟨rfl,fun i y h=>by simp at h⟩
 | [],_ :: _,h=>h.elim
 | _ :: _,[],h=>h.elim
 | x :: xs,y :: ys,h=>by
  obtain ⟨h1,h2⟩:=h
  obtain ⟨a,b⟩:=LnL.get h2
  refine ⟨by simp [a],fun i z hz=>?_⟩
  cases i with
  | zero=>simp only [List.getElem?_cons_zero,Option.some.injEq] at hz;subst hz;exact ⟨x,rfl,h1⟩
  | succ i=>exact b i z hz

theorem ACall.at {P:Program} {f:FuncId} {xs xs':List AV} {H h':List AB} {K' K:AV → List AB → Prop} (sel B:List Nat) (con:ACall P f xs' h' K')
  (hnd:sel.Nodup) (hlen:sel.length = h'.length) (hBs:∀ d ∈ B,d ∉ sel)
  (hh:∀ (i d:Nat) (x:AB),sel[i]? = some d → h'[i]? = some x → ∃ y,H[d]? = some y ∧ x.live ∧ LnB (fun d i=>sel[i]? = some d) (fun _=>False) H y x)
  (hx:LnL (fun d i=>sel[i]? = some d) (fun d=>d ∈ B) H xs xs')
  (hK:∀ r h2,K' r h2 → sel.length ≤ h2.length ∧ (B = [] ∨ (r.flat ∧ ∀ x ∈ h2,x.flat)) ∧ K (ren sel H.length r) (put sel H h2)):ACall P f xs H K:=by
 refine ⟨con.1,fun F g w vs k hs hv=>?_⟩
 let gc:GM:=fun i=>(sel[i]?).bind g
 let Fc:Nat → Prop:=fun b=>F b ∨ ∃ d cap,live H d ∧ d ∉ sel ∧ d ∉ B ∧ g d = some (b,cap)
 have selH:∀ i d,sel[i]? = some d → ∃ x y,h'[i]? = some x ∧ H[d]? = some y ∧ x.live ∧ LnB (fun d i=>sel[i]? = some d) (fun _=>False) H y x:=fun i d hd=>by
  have hi:i < sel.length:=by
   rcases Nat.lt_or_ge i sel.length with h|h
   ·exact h
   ·rw [List.getElem?_eq_none h] at hd;cases hd
  have hx:h'[i]? = some h'[i]:=List.getElem?_eq_getElem (by omega)
  obtain ⟨y,h1,h2,h3⟩:=hh i d _ hd hx
  exact ⟨_,y,hx,h1,h2,h3⟩
 have selLive:∀ i d,sel[i]? = some d → live H d:=fun i d hd=>by
  obtain ⟨x,y,_,h2,h3,h4⟩:=selH i d hd
  exact ⟨y,h2,h4.live h3⟩
 have liveSel:∀ i,live h' i → ∃ d,sel[i]? = some d ∧ live H d:=fun i ⟨x,hx,hl⟩=>by
  have hi:i < h'.length:=by
   rcases Nat.lt_or_ge i h'.length with h|h
   ·exact h
   ·rw [List.getElem?_eq_none h] at hx;cases hx
  have hd:sel[i]? = some sel[i]:=List.getElem?_eq_getElem (by omega)
  exact ⟨_,hd,selLive i _ hd⟩
 have gcs:∀ i p,gc i = some p → ∃ d,sel[i]? = some d ∧ g d = some p:=fun i p hp=>by
  simp only [gc] at hp
  cases hd:sel[i]? with
  | none=>rw [hd] at hp;cases hp
  | some d=>rw [hd] at hp;exact ⟨d,rfl,hp⟩
 have gcs':∀ i d,sel[i]? = some d → gc i = g d:=fun i d hd=>by simp only [gc,hd,Option.bind_some]
 have hOc:∀ b,MO gc h' b → ∃ d cap,d ∈ sel ∧ live H d ∧ g d = some (b,cap):=fun b ⟨i,cap,hl,hg⟩=>by
  obtain ⟨d,h1,h2⟩:=gcs i _ hg
  exact ⟨d,cap,List.mem_of_getElem? h1,selLive i d h1,h2⟩
 have hMc:∀ b,MM Fc gc h' b → MM F g H b:=by
  rintro b ((hF|⟨d,cap,h1,_,_,h4⟩)|hO)
  ·exact .inl hF
  ·exact .inr ⟨d,cap,h1,h4⟩
  ·obtain ⟨d,cap,_,h1,h2⟩:=hOc b hO
   exact .inr ⟨d,cap,h1,h2⟩
 have hσ:∀ d i p,sel[i]? = some d → g d = some p → gc i = some p:=fun d i p h1 h2=>by rw [gcs' i d h1];exact h2
 have notO:∀ d b cap,live H d → d ∉ sel → g d = some (b,cap) → ¬ MO gc h' b:=fun d b cap hl hn hg hO=>by
  obtain ⟨d',cap',h1,h2,h3⟩:=hOc b hO
  exact hn (k.inj d d' b cap cap' hl h2 hg h3 ▸ h1)
 have hB:∀ d b cap,d ∈ B → live H d → g d = some (b,cap) → ¬ MM Fc gc h' b:=by
  rintro d b cap hdB hl hg ((hF|⟨d',cap',h1,_,h3,h4⟩)|hO)
  ·exact (k.fr b hF).2 ⟨d,cap,hl,hg⟩
  ·exact h3 (k.inj d d' b cap cap' hl h1 hg h4 ▸ hdB)
  ·exact notO d b cap hl (hBs d hdB) hg hO
 have kc:HOK Fc gc w h':=by
  refine HOK.of_all (fun i hi=>?_) (fun i hl=>?_) (fun i j b c c' h1 h2 e1 e2=>?_) (fun i b cap x hx hg=>?_) (fun b hF=>?_)
  ·simp only [gc,List.getElem?_eq_none (show sel.length ≤ i by omega),Option.bind_none]
  ·obtain ⟨d,h1,h2⟩:=liveSel i hl
   obtain ⟨p,hp⟩:=k.lv d h2
   exact ⟨p,hσ d i p h1 hp⟩
  ·obtain ⟨d,a1,a2⟩:=gcs i _ e1
   obtain ⟨d',b1,b2⟩:=gcs j _ e2
   have:=k.inj d d' b c c' (selLive i d a1) (selLive j d' b1) a2 b2
   subst this
   have hi:i < sel.length:=by
    rcases Nat.lt_or_ge i sel.length with h|h
    ·exact h
    ·rw [List.getElem?_eq_none h] at a1;cases a1
   exact (List.getElem?_inj hi hnd).1 (a1.trans b1.symm)
  ·obtain ⟨d,a1,a2⟩:=gcs i _ hg
   obtain ⟨x2,y,a3,a4,a5,a6⟩:=selH i d a1
   rw [hx] at a3
   injection a3 with a3
   subst a3
   exact a6.ok k hMc hσ (fun _ _ _ h=>h.elim) (k.all a4 a2)
  ·rcases hF with hF|⟨d,cap,h1,h2,h3,h4⟩
   ·exact ⟨(k.fr b hF).1,fun hO=>by obtain ⟨d,cap,_,h1,h2⟩:=hOc b hO;exact (k.fr b hF).2 ⟨d,cap,h1,h2⟩⟩
   ·exact ⟨k.olt ⟨d,cap,h1,h4⟩,notO d b cap h1 h2 h4⟩
 obtain ⟨hl0,hget⟩:=hx.get
 refine (con.2 Fc gc w vs kc (by omega) (fun i y hy=>?_)).mono ?_
 ·obtain ⟨x,h1,h2⟩:=hget i y hy
  exact h2.rep k hMc hσ hB (hv i x h1)
 rintro en w' ⟨v,r,h2,g2,rfl,T,hr,hk⟩
 obtain ⟨hle,hfl,hKr⟩:=hK r h2 hk
 have selLt:∀ i d,sel[i]? = some d → d < H.length:=fun i d hd=>by
  obtain ⟨y,hy,_⟩:=selLive i d hd
  rcases Nat.lt_or_ge d H.length with h|h
  ·exact h
  ·rw [List.getElem?_eq_none h] at hy;cases hy
 let G:GM:=fun d=>if d < H.length then g d else g2 (d - H.length + sel.length)
 have Gold:∀ d,d < H.length → G d = g d:=fun d hd=>by simp only [G,if_pos hd]
 have tau_sel:∀ i d,sel[i]? = some d → tau sel H.length i = d:=fun i d hd=>by simp only [tau,hd]
 have tau_new:∀ i,sel.length ≤ i → tau sel H.length i = H.length + (i - sel.length):=fun i hi=>by simp only [tau,List.getElem?_eq_none hi]
 have Gtau:∀ i p,g2 i = some p → G (tau sel H.length i) = some p:=fun i p hp=>by
  rcases Nat.lt_or_ge i sel.length with hi|hi
  ·have hd:sel[i]? = some sel[i]:=List.getElem?_eq_getElem hi
   rw [tau_sel i _ hd,Gold _ (selLt i _ hd)]
   obtain ⟨q,hq⟩:=k.lv _ (selLive i _ hd)
   have:=T.gle i q (hσ _ i q hd hq)
   rw [hp] at this
   injection this with this
   rw [this];exact hq
  ·rw [tau_new i hi]
   simp only [G,if_neg (show ¬ H.length + (i - sel.length) < H.length by omega)]
   rw [show H.length + (i - sel.length) - H.length + sel.length = i by omega]
   exact hp
 have len2:(put sel H h2).length = H.length + (h2.length - sel.length):=puts_len sel h2 H hle
 have at_tau:∀ i,(put sel H h2)[tau sel H.length i]? = (h2[i]?).map (renB sel H.length):=fun i=>by
  rcases Nat.lt_or_ge i sel.length with hi|hi
  ·have hd:sel[i]? = some sel[i]:=List.getElem?_eq_getElem hi
   rw [tau_sel i _ hd]
   exact puts_sel sel h2 H i _ hnd hle hd (selLt i _ hd)
  ·rw [tau_new i hi]
   exact puts_new sel h2 H i hle hi
 have at_out:∀ d,d < H.length → d ∉ sel → (put sel H h2)[d]? = H[d]?:=fun d hd hn=>puts_out sel h2 H d hd hn
 have ofD:∀ d x,(put sel H h2)[d]? = some x → (∃ i y,d = tau sel H.length i ∧ h2[i]? = some y ∧ x = renB sel H.length y) ∨ (d < H.length ∧ d ∉ sel ∧ H[d]? = some x):=fun d x hx=>by
  by_cases hd:d < H.length
  ·by_cases hs:d ∈ sel
   ·obtain ⟨i,hi⟩:=List.getElem?_of_mem hs
    have:=at_tau i
    rw [tau_sel i d hi,hx] at this
    cases hy:h2[i]? with
    | none=>rw [hy] at this;cases this
    | some y =>
     rw [hy] at this
     injection this with this
     exact .inl ⟨i,y,(tau_sel i d hi).symm,hy,this⟩
   ·exact .inr ⟨hd,hs,by rw [← at_out d hd hs];exact hx⟩
  ·have e1:d = tau sel H.length (d - H.length + sel.length):=by rw [tau_new _ (by omega)];omega
   have:=at_tau (d - H.length + sel.length)
   rw [← e1,hx] at this
   cases hy:h2[d - H.length + sel.length]? with
   | none=>rw [hy] at this;cases this
   | some y =>
    rw [hy] at this
    injection this with this
    exact .inl ⟨_,y,e1,hy,this⟩
 have renLive:∀ y,(renB sel H.length y).live ↔ y.live:=fun y=>by cases y <;> exact Iff.rfl
 have liveD:∀ d,live (put sel H h2) d → (∃ i,d = tau sel H.length i ∧ live h2 i) ∨ (d < H.length ∧ d ∉ sel ∧ live H d):=fun d ⟨x,hx,hl⟩=>by
  rcases ofD d x hx with ⟨i,y,h1,h3,rfl⟩|⟨h1,h3,h4⟩
  ·exact .inl ⟨i,h1,y,h3,(renLive y).1 hl⟩
  ·exact .inr ⟨h1,h3,x,h4,hl⟩
 have Gt:∀ i,live h2 i → ∀ p,G (tau sel H.length i) = some p → g2 i = some p:=fun i hl p hp=>by
  obtain ⟨q,hq⟩:=T.ok.lv i hl
  rw [Gtau i q hq] at hp
  rw [hq];exact hp
 have outO:∀ d b cap,live H d → d ∉ sel → g d = some (b,cap) → ¬ MO g2 h2 b:=fun d b cap hl hn hg hO=>by
  rcases T.new b hO with h|h
  ·exact notO d b cap hl hn hg h
  ·have:=k.olt ⟨d,cap,hl,hg⟩;omega
 have MOof:∀ b,MO G (put sel H h2) b → MO g2 h2 b ∨ ∃ d cap,d < H.length ∧ d ∉ sel ∧ live H d ∧ g d = some (b,cap):=fun b ⟨d,cap,hl,hg⟩=>by
  rcases liveD d hl with ⟨i,rfl,hli⟩|⟨h1,h3,h4⟩
  ·exact .inl ⟨i,cap,hli,Gt i hli _ hg⟩
  ·exact .inr ⟨d,cap,h1,h3,h4,by rw [← Gold d h1];exact hg⟩
 have MOold:∀ b,b < w.heap.size → MO G (put sel H h2) b → MO g H b:=fun b hb hO=>by
  rcases MOof b hO with h|⟨d,cap,h1,_,h3,h4⟩
  ·rcases T.new b h with h|h
   ·obtain ⟨d,cap,_,h1,h2⟩:=hOc b h
    exact ⟨d,cap,h1,h2⟩
   ·omega
  ·exact ⟨d,cap,h3,h4⟩
 have trans:∀ (v:AV) (u:Value),(B = [] ∨ v.flat) → rep (MM Fc g2 h2) w' v g2 u → rep (MM F G (put sel H h2)) w' (ren sel H.length v) G u:=fun v u hf h=>by
  have h1:rep (MM F G (put sel H h2)) w' v g2 u:=by
   rcases hf with hB0|hf
   ·refine rep_mono (Chg.refl _ w') (fun b _ hM=>?_) v (GM.le_refl _) h
    rcases hM with hF|hO
    ·exact .inl (.inl hF)
    ·rcases MOof b hO with h|⟨d,cap,a1,a2,a3,a4⟩
     ·exact .inr h
     ·exact .inl (.inr ⟨d,cap,a3,a2,by rw [hB0];simp,a4⟩)
   ·exact rep_flat v hf h
  exact rep_ren v Gtau h1
 have GT:Tr F g H w G (put sel H h2) w':=by
  refine ⟨HOK.of_all (fun d hd=>?_) (fun d hl=>?_) (fun d d' b c c' l1 l2 e1 e2=>?_) (fun d b cap x hx hg=>?_) (fun b hF=>?_),fun d p hp=>?_,?_,fun b hO=>?_⟩
  ·rw [len2] at hd
   simp only [G,if_neg (show ¬ d < H.length by omega)]
   exact T.ok.dom _ (by omega)
  ·rcases liveD d hl with ⟨i,rfl,hli⟩|⟨h1,h3,h4⟩
   ·obtain ⟨p,hp⟩:=T.ok.lv i hli
    exact ⟨p,Gtau i p hp⟩
   ·rw [Gold d h1];exact k.lv d h4
  ·rcases liveD d l1 with ⟨i,rfl,hli⟩|⟨h1,h3,h4⟩ <;> rcases liveD d' l2 with ⟨j,rfl,hlj⟩|⟨h1',h3',h4'⟩
   ·have:=T.ok.inj i j b c c' hli hlj (Gt i hli _ e1) (Gt j hlj _ e2)
    rw [this]
   ·rw [Gold d' h1'] at e2
    exact (outO d' b c' h4' h3' e2 ⟨i,c,hli,Gt i hli _ e1⟩).elim
   ·rw [Gold d h1] at e1
    exact (outO d b c h4 h3 e1 ⟨j,c',hlj,Gt j hlj _ e2⟩).elim
   ·rw [Gold d h1] at e1
    rw [Gold d' h1'] at e2
    exact k.inj d d' b c c' h4 h4' e1 e2
  ·by_cases hxl:x.live
   ·rcases ofD d x hx with ⟨i,y,rfl,hy,rfl⟩|⟨h1,h3,h4⟩
    ·have hyl:live h2 i:=⟨y,hy,(renLive y).1 hxl⟩
     have hg2:=Gt i hyl _ hg
     have hall:=T.ok.all hy hg2
     have hyf:B = [] ∨ y.flat:=hfl.imp id (fun h=>h.2 y (List.mem_of_getElem? hy))
     cases y with
     | dead=>trivial
     | box m c =>
      obtain ⟨cs,t,b1,b2,b3⟩:=hall
      refine ⟨cs,t,b1,b2,fun j hj=>?_⟩
      obtain ⟨u,c1,c2,c3⟩:=b3 j hj
      exact ⟨u,c1,c2,by rw [tab_get hj];exact trans _ _ (hyf.imp id (fun h=>h j hj)) c3⟩
     | row n sz c =>
      obtain ⟨b0,b0',cs,t,b1,b2,b3⟩:=hall
      refine ⟨b0,b0',cs,t,b1,b2,fun kk hkk o ho=>?_⟩
      obtain ⟨u,c1,c2,c3⟩:=b3 kk hkk o ho
      refine ⟨u,c1,c2,?_⟩
      rcases hyf with hB0|hf
      ·refine rep_mono (Chg.refl _ w') (fun b _ hM=>?_) _ (GM.le_refl _) c3
       rcases hM with hF|hO
       ·exact .inl (.inl hF)
       ·rcases MOof b hO with h|⟨d,cap,a1,a2,a3,a4⟩
        ·exact .inr h
        ·exact .inl (.inr ⟨d,cap,a3,a2,by rw [hB0];simp,a4⟩)
      ·exact rep_flat _ (hf kk hkk o ho) c3
     | mp kt L =>
      obtain ⟨es,b1,b2⟩:=hall
      refine ⟨es,b1,b2.len,fun j hj=>?_,b2.nod,b2.one⟩
      obtain ⟨e,c1,c2,c3,c4⟩:=b2.ent j hj
      refine ⟨e,c1,c2,c3,?_⟩
      rcases hyf with hB0|hf
      ·refine rep_mono (Chg.refl _ w') (fun b _ hM=>?_) _ (GM.le_refl _) c4
       rcases hM with hF|hO
       ·exact .inl (.inl hF)
       ·rcases MOof b hO with h|⟨d,cap,a1,a2,a3,a4⟩
        ·exact .inr h
        ·exact .inl (.inr ⟨d,cap,a3,a2,by rw [hB0];simp,a4⟩)
      ·exact rep_flat _ (hf (L.getD j default) (by simp only [List.getD,List.getElem?_eq_getElem hj,Option.getD_some];exact List.getElem_mem hj)) c4
     | mit m n s =>
      obtain ⟨b1,b2,mb,b3,b4⟩:=hall
      exact ⟨b1,b2,mb,trans _ _ (hyf.imp id (fun h=>h)) b3,b4⟩
     | rwg n sz c =>
      obtain ⟨b0,b0',cs,t,b1,b2,b3⟩:=hall
      refine ⟨b0,b0',cs,t,b1,b2,fun kk hkk o ho=>?_⟩
      obtain ⟨u,c1,c2,c3⟩:=b3 kk hkk o ho
      exact ⟨u,c1,c2,trans _ _ (hyf.imp id (fun h=>h kk hkk o ho)) c3⟩
    ·rw [Gold d h1] at hg
     have hl:live H d:=⟨x,h4,hxl⟩
     have hb:b < w.heap.size:=k.olt ⟨d,cap,hl,hg⟩
     refine (k.all h4 hg).mono (g':=G) (T.chg.weak (fun y _ hO=>?_)) (fun y hy hM=>?_) (fun d p hp=>?_) (T.chg.block b hb (notO d b cap hl h3 hg))
     ·obtain ⟨d,cap,_,a1,a2⟩:=hOc y hO
      exact .inr ⟨d,cap,a1,a2⟩
     ·exact hM.imp id (MOold y hy)
     ·rw [Gold d (k.lt hp)];exact hp
   ·cases x with
    | dead=>trivial
    | box=>exact (hxl trivial).elim
    | row=>exact (hxl trivial).elim
    | mp=>exact (hxl trivial).elim
    | mit=>exact (hxl trivial).elim
    | rwg=>exact (hxl trivial).elim
  ·have hb:=(k.fr b hF).1
   exact ⟨Nat.lt_of_lt_of_le hb T.chg.size,fun hO=>(k.fr b hF).2 (MOold b hb hO)⟩
  ·rw [Gold d (k.lt hp)];exact hp
  ·exact T.chg.weak fun y _ hO=>by obtain ⟨d,cap,_,a1,a2⟩:=hOc y hO;exact ⟨d,cap,a1,a2⟩
  ·rcases Nat.lt_or_ge b w.heap.size with hb|hb
   ·exact .inl (MOold b hb hO)
   ·exact .inr hb
 exact ⟨v,_,_,G,rfl,GT,trans r v (hfl.imp id (fun h=>h.1)) hr,hKr⟩
end Go.Proofs.Ytbhjehpjjbbhbaa

namespace Go.Proofs.Ytbhjehpjjbbhbaa
open Go.RowKit

/-- Two ways. -/
inductive FCond (q:Bool) (A B:Prop):Prop
 | t (h:q = true) (a:A)
 | f (h:q = false) (b:B)
/-- A condition, and the rest. -/
structure Need (p K:Prop):Prop where
 a:p
 b:K
/-- A sum that may wrap. -/
structure Fits (k:IntKind) (n:Int) (K:Int → Prop):Prop where
 h:K (k.wrap n)
/-- An index. -/
structure FIdx (j:Int) (n:Nat) (K:Nat → Prop):Prop where
 a:0 ≤ j ∧ j < n
 h:K j.toNat
/-- A bound of a part of a slice. -/
structure FTo (j:Int) (n:Nat) (K:Nat → Prop):Prop where
 a:0 ≤ j ∧ j ≤ n
 h:K j.toNat
/-- A bit operation, or a shift. -/
def rawBit (op:BinOp) (k:IntKind) (x y:Int):Int:=match op with
 | .and=>k.wrap (BitVec.ofInt k.bits x &&& BitVec.ofInt k.bits y).toNat
 | .or=>k.wrap (BitVec.ofInt k.bits x ||| BitVec.ofInt k.bits y).toNat
 | .xor=>k.wrap (BitVec.ofInt k.bits x ^^^ BitVec.ofInt k.bits y).toNat
 | .andNot=>k.wrap (BitVec.ofInt k.bits x &&& ~~~ BitVec.ofInt k.bits y).toNat
 | .shl=>k.wrap (x * 2 ^ (min y.toNat k.bits))
 | .shr=>x.fdiv (2 ^ (min y.toNat k.bits))
 | _=>0
structure FBit (op:BinOp) (k:IntKind) (x y:Int) (K:Int → Prop):Prop where
 h:K (rawBit op k x y)
/-- A look into a map. -/
structure FLook (o:Option AV) (A:AV → Prop) (B:Prop):Prop where
 s:∀ v,o = some v → A v
 n:o = none → B
structure FLookI (L:List (List Int × AV)) (l:List Int) (A:Nat → AV → Prop) (B:Prop):Prop where
 s:∀ i v,aidx L l = some i → (L.getD i default).2 = v → A i v
 n:aidx L l = none → B
/-- Two orders. -/
structure FAlt (A B:Prop):Prop where
 a:A
 b:B
structure FNext (n:Nat) (seen:List Nat) (A:Prop) (B:Nat → Prop):Prop where
 e:seen.length = n → A
 s:∀ i,i < n → i ∉ seen → B i
structure FEnt (p:List Int × AV) (K:List Int × AV → Prop):Prop where
 h:K p
structure FLast (seen:List Nat) (K:Nat → Prop):Prop where
 h:∃ i,seen.getLast? = some i ∧ K i
structure FCall (C:CallP) (f:FuncId) (xs:List AV) (h:List AB) (K:AV → List AB → Prop):Prop where
 h:C f xs h K
structure Same (a b:AV):Prop where
 h:a = b
structure Fin (K:AV → List AB → Prop) (r:AV) (h:List AB):Prop where
 h:K r h
inductive FApp (A B:Prop):Prop
 | grow (a:A)
 | share (b:B)
/-- A literal that holds own rows: they are let go, to be read only; or kept, and the literal is an own row. -/
inductive FOr (A B:Prop):Prop
 | pub (a:A)
 | keep (b:B)

theorem FCond.i {q:Bool} {A B:Prop} (h1:q = true → A) (h2:q = false → B):FCond q A B:=by
 cases q
 ·exact .f rfl (h2 rfl)
 ·exact .t rfl (h1 rfl)
theorem FCond.ac {q:Bool} {A B:Prop} (h:FCond q A B):acond q A B:=by
 cases h with
 | t h a=>subst h;exact a
 | f h b=>subst h;exact b
theorem FIdx.nat {k n:Nat} {K:Nat → Prop} (hk:k < n) (h:K k):FIdx (k:Int) n K:=⟨⟨by omega,by omega⟩,by simpa using h⟩
theorem FTo.nat {k n:Nat} {K:Nat → Prop} (hk:k ≤ n) (h:K k):FTo (k:Int) n K:=⟨⟨by omega,by omega⟩,by simpa using h⟩

def cnd (b:Bool) (K:Prop):Prop:=match b with
 | true=>K
 | false=>False
theorem cnd_e {b:Bool} {K:Prop} (h:cnd b K):b = true ∧ K:=by
 cases b
 ·exact h.elim
 ·exact ⟨rfl,h⟩
/-- A value is computed before one goes on. -/
def frc (v:AV) (K:AV → Prop):Prop:=match v with
 | .bot=>K .bot
 | .int k n=>K (.int k n)
 | .bool b=>K (.bool b)
 | .nilp=>K .nilp
 | .nilf=>K .nilf
 | .sl z e n sz c=>K (.sl z e n sz c)
 | .ip m c o=>K (.ip m c o)
 | .own d n=>K (.own d n)
 | .ptr d o=>K (.ptr d o)
 | .rp d sz k o=>K (.rp d sz k o)
 | .osl d sz lo n=>K (.osl d sz lo n)
 | .mpv d=>K (.mpv d)
 | .mv f m c=>K (.mv f m c)
 | .fn f m c=>K (.fn f m c)
 | .agg m c=>K (.agg m c)
 | .tup m c=>K (.tup m c)
theorem frc_e {v:AV} {K:AV → Prop} (h:frc v K):K v:=by cases v <;> exact h
def frcs (vs:List AV) (K:List AV → Prop):Prop:=match vs with
 | []=>K []
 | v :: vs=>frc v fun v=>frcs vs fun vs=>K (v :: vs)
theorem frcs_e : ∀ {vs:List AV} {K:List AV → Prop},frcs vs K → K vs
 | [],_,h=>h
 | _ :: vs,K,h=>by
  simp only [frcs] at h
  exact frcs_e (vs:=vs) (K:=fun l=>K (_ :: l)) (frc_e h)
def frcT (m:Nat) (f:Nat → AV) (K:(Nat → AV) → Prop):Prop:=frcs ((List.range m).map f) fun vs=>K (ofL vs)
theorem frcT_e {m:Nat} {f:Nat → AV} {K:(Nat → AV) → Prop} (h:frcT m f K):K (tab m f):=frcs_e (K:=fun vs=>K (ofL vs)) h
/-- A small number is computed before one goes on; a list's spine. -/
def nlit (n:Nat) (K:Nat → Prop):Prop:=match n with
 | 0=>K 0
 | 1=>K 1
 | 2=>K 2
 | 3=>K 3
 | 4=>K 4
 | 5=>K 5
 | 6=>K 6
 | 7=>K 7
 | 8=>K 8
 | 9=>K 9
 | 10=>K 10
 | 11=>K 11
 | 12=>K 12
 | 13=>K 13
 | 14=>K 14
 | 15=>K 15
 | 16=>K 16
 | n=>K n
theorem nlit_e {n:Nat} {K:Nat → Prop} (h:nlit n K):K n:=by
 unfold nlit at h
 split at h <;> exact h
def frcH (h:List AB) (K:List AB → Prop):Prop:=match h with
 | []=>K []
 | x :: xs=>frcH xs fun xs=>K (x :: xs)
theorem frcH_e : ∀ {h:List AB} {K:List AB → Prop},frcH h K → K h
 | [],_,h=>h
 | _ :: xs,K,h=>frcH_e (h:=xs) (K:=fun l=>K (_ :: l)) h
def elemB (sz:Nat) (v:AV):Bool:=match v with
 | .agg m _=>m == sz
 | v=>v.one && sz == 1
theorem elemB_ok {sz:Nat} {v:AV} (h:elemB sz v = true):elemOK sz v:=by
 cases v <;> simp only [elemB,Bool.and_eq_true,beq_iff_eq] at h <;> exact h
def fbin (op:BinOp) (k:IntKind) (x y:Int) (K:AV → Prop):Prop :=
 match op with
 | .add=>Fits k (x + y) (fun z=>K (.int k z))
 | .sub=>Fits k (x - y) (fun z=>K (.int k z))
 | .mul=>Fits k (x * y) (fun z=>K (.int k z))
 | .quo=>Need (y ≠ 0) (Fits k (x.tdiv y) (fun z=>K (.int k z)))
 | .rem=>Need (y ≠ 0) (K (.int k (x.tmod y)))
 | .shl=>Need (0 ≤ y) (FBit .shl k x y (fun z=>K (.int k z)))
 | .shr=>Need (0 ≤ y) (FBit .shr k x y (fun z=>K (.int k z)))
 | .and=>FBit .and k x y (fun z=>K (.int k z))
 | .or=>FBit .or k x y (fun z=>K (.int k z))
 | .xor=>FBit .xor k x y (fun z=>K (.int k z))
 | .andNot=>FBit .andNot k x y (fun z=>K (.int k z))
 | op=>ibin op k x y K
def frcPs (e:AX → AV) (ps:List (Nat × AX)) (K:List (Nat × AV) → Prop):Prop:=match ps with
 | []=>K []
 | (i,x) :: ps=>frc (e x) fun v=>frcPs e ps fun l=>K ((i,v) :: l)
theorem frcPs_e {e:AX → AV}:∀ {ps:List (Nat × AX)} {K:List (Nat × AV) → Prop},frcPs e ps K → K (ps.map fun p=>(p.1,e p.2))
 | [],_,h=>h
 | (i,x) :: ps,K,h=>frcPs_e (ps:=ps) (K:=fun l=>K ((i,e x) :: l)) (frc_e (K:=fun v=>frcPs e ps fun l=>K ((i,v) :: l)) h)
def fpub (h:List AB) (v:AV) (K:AV → List AB → Prop):Prop :=
 match v with
 | .own d n=>(match h[d]? with
  | some (.row N sz c)=>Need (n ≤ N) (frcH (h.set d .dead) fun h'=>K (.sl false false n sz c) h')
  | _=>False)
 | .ptr d o=>(match h[d]? with
  | some (.box m c)=>cnd ((List.range m).all fun i=>(c i).pureB) (frcH (h.set d .dead) fun h'=>K (.ip m c o) h')
  | _=>False)
 | v=>frc v fun v=>cnd v.pureB (K v h)
def fpubs (e:AX → AV) (ps:List (Nat × AX)) (h:List AB) (K:List (Nat × AV) → List AB → Prop):Prop :=
 match ps with
 | []=>K [] h
 | (i,x) :: ps=>fpub h (e x) (fun v h'=>fpubs e ps h' (fun l h''=>K ((i,v) :: l) h''))
theorem fpub_ok {h:List AB} {v:AV} {K:AV → List AB → Prop} (H:fpub h v K):apub h v K:=by
 cases v
 case own d n =>
  simp only [fpub,apub] at H ⊢
  split at H
  ·rename_i hd
   rw [hd]
   exact ⟨H.a,frcH_e H.b⟩
  ·exact H.elim
 case ptr d o =>
  simp only [fpub,apub] at H ⊢
  split at H
  ·rename_i m c hd
   rw [hd]
   obtain ⟨h1,h2⟩:=cnd_e H
   exact ⟨fun i hi=>pureB_ok _ (by simp only [List.all_eq_true,List.mem_range] at h1;exact h1 i hi),frcH_e h2⟩
  ·exact H.elim
 all_goals
  simp only [fpub] at H
  have H2:=frc_e H
  obtain ⟨h1,h2⟩:=cnd_e H2
  exact ⟨pureB_ok _ h1,h2⟩
theorem fpubs_ok {e:AX → AV}:∀ {ps:List (Nat × AX)} {h:List AB} {K K':List (Nat × AV) → List AB → Prop},(∀ l h,K l h → K' l h) → fpubs e ps h K → apubs e ps h K'
 | [],_,_,_,hk,H=>hk _ _ H
 | (i,x) :: ps,h,K,K',hk,H=>by
  obtain ⟨v,h1,H1,k1⟩:=apub_one (fpub_ok H)
  exact k1 _ (fpubs_ok (fun l h hh=>hk _ _ hh) H1)
def fsrc (sz:Nat) (h:List AB) (y:AV) (K:Bool → Nat → (Nat → Nat → AV) → Prop):Prop :=
 match y with
 | .sl _ _ m sz' c'=>Need (sz' = sz ∨ m = 0) (K false m c')
 | .own d m=>(match h[d]? with
  | some (.row N sz' c')=>cnd (sz' == sz) (Need (m ≤ N) (K false m c'))
  | some (.rwg N sz' c')=>cnd (sz' == sz) (Need (m ≤ N) (K true m c'))
  | _=>False)
 | .osl d sz0 lo m=>(match h[d]? with
  | some (.row N sz' c')=>cnd (sz' == sz && sz0 == sz) (Need (lo + m ≤ N) (K false m (fun k=>c' (lo + k))))
  | _=>False)
 | _=>False
theorem fsrc_e {sz:Nat} {h:List AB} {y:AV} {K:Bool → Nat → (Nat → Nat → AV) → Prop} (H:fsrc sz h y K):∃ q m c',Src q sz h y m c' ∧ K q m c':=by
 unfold fsrc at H
 split at H
 ·exact ⟨_,_,_,.inl ⟨_,_,_,rfl,rfl,H.a⟩,H.b⟩
 ·split at H
  ·rename_i hd
   obtain ⟨h1,h2⟩:=cnd_e H
   simp only [beq_iff_eq] at h1
   subst h1
   exact ⟨false,_,_,.inr (.inl ⟨_,_,rfl,hd,h2.a⟩),h2.b⟩
  ·rename_i hd
   obtain ⟨h1,h2⟩:=cnd_e H
   simp only [beq_iff_eq] at h1
   subst h1
   exact ⟨true,_,_,.inr (.inl ⟨_,_,rfl,hd,h2.a⟩),h2.b⟩
  ·exact H.elim
 ·split at H
  ·rename_i hd
   obtain ⟨h1,h2⟩:=cnd_e H
   simp only [Bool.and_eq_true,beq_iff_eq] at h1
   obtain ⟨h1,h1'⟩:=h1
   subst h1;subst h1'
   exact ⟨false,_,_,.inr (.inr ⟨_,_,_,_,rfl,rfl,hd,h2.a,rfl⟩),h2.b⟩
  ·exact H.elim
 ·exact H.elim
/-- A row of the one kind or of the other, computed before one goes on. -/
def frw (q:Bool) (n sz:Nat) (c:Nat → Nat → AV) (K:AB → Prop):Prop:=match q with
 | false=>K (.row n sz c)
 | true=>K (.rwg n sz c)
theorem frw_e {q:Bool} {n sz:Nat} {c:Nat → Nat → AV} {K:AB → Prop} (h:frw q n sz c K):K (.rw q n sz c):=by cases q <;> exact h
def fcellL : List AV → (List Int → Prop) → Prop
 | [],K=>K []
 | v :: vs,K=>match v with
  | .int .i64 a=>Need (in64 a) (fcellL vs fun l=>K (a :: l))
  | _=>False
def fkey (kt:Nat) (v:AV) (K:List Int → Prop):Prop :=
 match kt,v with
 | 0,.int .i64 a=>Need (in64 a) (K [a])
 | n + 1,.agg m c=>cnd (m == n + 1) (fcellL ((List.range m).map c) K)
 | _,_=>False
theorem fcellL_e : ∀ {vs:List AV} {K:List Int → Prop},fcellL vs K → ∃ l,K l ∧ vs = l.map (AV.int .i64) ∧ ∀ a ∈ l,in64 a
 | [],K,H=>⟨[],H,rfl,fun a ha=>by cases ha⟩
 | v :: vs,K,H=>by
  unfold fcellL at H
  split at H
  ·obtain ⟨l,h1,h2,h3⟩:=fcellL_e H.b
   refine ⟨_,h1,by rw [h2];rfl,fun a ha=>?_⟩
   rcases List.mem_cons.1 ha with rfl|ha
   ·exact H.a
   ·exact h3 a ha
  ·exact H.elim
theorem acell_of {c:Nat → AV} {l:List Int}:∀ {m:Nat} {K:List Int → Prop},(∀ i,i < m → c i = .int .i64 (l.getD i 0)) → m ≤ l.length → K (l.take m) → acell c m K
 | 0,K,_,_,h=>by simpa [acell] using h
 | m + 1,K,hc,hm,h=>by
  simp only [acell,hc m (by omega)]
  refine acell_of (fun i hi=>hc i (by omega)) (by omega) ?_
  have:l.take m ++ [l.getD m 0] = l.take (m + 1):=by
   rw [List.take_add_one,List.getElem?_eq_getElem (by omega)];simp [List.getD,List.getElem?_eq_getElem (show m < l.length by omega)]
  simp only [this];exact h
theorem fkey_ok {kt:Nat} {v:AV} {K:List Int → Prop} (H:fkey kt v K):akey kt v K:=by
 unfold fkey at H
 unfold akey
 split at H
 ·exact ⟨H.a,H.b⟩
 ·rename_i n m c
  obtain ⟨h1,h2⟩:=cnd_e H
  have h1:m = n + 1:=by simpa using h1
  obtain ⟨l,k1,k2,k3⟩:=fcellL_e h2
  have hl:l.length = m:=by simpa using (congrArg List.length k2).symm
  refine ⟨h1,acell_of (l:=l) (fun i hi=>?_) (by omega) (by rw [List.take_of_length_le (by omega)];exact ⟨k3,k1⟩)⟩
  have:=congrArg (fun L=>L[i]?) k2
  simp only [List.getElem?_map,List.getElem?_range hi,Option.map_some,List.getElem?_eq_getElem (show i < l.length by omega)] at this
  injection this with this
  rw [this];simp [List.getD,List.getElem?_eq_getElem (show i < l.length by omega)]
 ·exact H.elim
def fdst (sz:Nat) (x:AV) (K:Nat → Nat → Nat → Prop):Prop :=
 match x with
 | .own d n=>K d 0 n
 | .osl d sz' lo n=>cnd (sz' == sz) (K d lo n)
 | _=>False
def fxop (X:XOp) (e:AX → AV) (h:List AB) (K:AV → List AB → Prop):Prop :=
 match X with
 | .mkm kt=>nlit h.length fun d=>frcH (h ++ [.mp kt []]) fun h'=>K (.mpv d) h'
 | .ins kt m k v=>match e m with
  | .mpv d=>(match h[d]? with
   | some (.mp kt' L)=>frc (e v) fun v=>cnd (kt' == kt && v.pureB) (fkey kt (e k) fun l=>frcH (h.set d (.mp kt (aput L l v))) (K und))
   | _=>False)
  | _=>False
 | .lkp kt ok z m k=>match e m with
  | .mpv d=>(match h[d]? with
   | some (.mp kt' L)=>cnd (kt' == kt) (fkey kt (e k) fun l=>FLook (alook L l) (fun v=>match ok with
     | true=>K (.tup 2 (ofL [v,.bool true])) h
     | false=>K v h) (match ok with
     | true=>K (.tup 2 (ofL [z,.bool false])) h
     | false=>K z h))
   | _=>False)
  | _=>False
 | .mlen m=>match e m with
  | .mpv d=>(match h[d]? with
   | some (.mp _ L)=>K (.int .i64 L.length) h
   | _=>False)
  | _=>False
 | .rng m=>match e m with
  | .mpv d=>(match h[d]? with
   | some (.mp _ L)=>nlit h.length fun d'=>frcH (h ++ [.mit (.mpv d) L.length []]) fun h'=>K (.ptr d' 0) h'
   | _=>False)
  | _=>False
 | .ment kt z m k=>match e m with
  | .mpv d=>(match h[d]? with
   | some (.mp kt' L)=>cnd (kt' == kt && z.pureB) (fkey kt (e k) fun l=>FLookI L l (fun i v=>K (.tup 2 (ofL [v,.int .i64 i])) h) (frcH (h.set d (.mp kt (L ++ [(l,z)]))) (K (.tup 2 (ofL [z,.int .i64 L.length])))))
   | _=>False)
  | _=>False
 | .est m s v=>match e m,e s with
  | .mpv d,.int .i64 i=>(match h[d]? with
   | some (.mp kt L)=>frc (e v) fun v=>cnd v.pureB (FIdx i L.length fun i=>frcH (h.set d (.mp kt (L.set i ((L.getD i default).1,v)))) (K und))
   | _=>False)
  | _,_=>False
 | .mmv f xs=>cnd (xs.all fun x=>(e x).pureB) (frcs (xs.map e) fun vs=>K (.mv f xs.length (ofL vs)) h)
 | .cpy sz x y=>cnd (decide (0 < sz)) (fdst sz (e x) fun d lo n=>fsrc sz h (e y) fun q m c'=>match h[d]? with
  | some (.row N sz2 c)=>cnd (!q && sz2 == sz) (Need (lo + n ≤ N) (frcH (h.set d (.row N sz (cpc lo (min m n) c c'))) (K (.int .i64 (min m n:Nat)))))
  | _=>False)
 | .boxr n sz z=>nlit h.length fun d=>frcH (h ++ [.row n sz fun _ _=>z]) fun h'=>K (.rp d sz 0 0) h'
 | .iaa n sz x i=>match e i,e x with
  | .int _ j,.rp d sz' k o=>cnd (sz' == sz && k == 0 && o == 0) (FIdx j n fun j=>K (.rp d sz j 0) h)
  | .int _ j,.ptr d o=>FIdx j n fun j=>nlit (o + j * sz) fun o'=>K (.ptr d o') h
  | .int _ j,.ip m c o=>FIdx j n fun j=>nlit (o + j * sz) fun o'=>K (.ip m c o') h
  | _,_=>False
 | .idx n sz m x i=>match e i,e x with
  | .int _ j,.agg N c=>cnd (decide (n * sz ≤ N) && decide (0 < sz)) (FIdx j n fun j=>match m with
   | none=>frc (c (j * sz)) fun v=>K v h
   | some m'=>cnd (m' == sz) (frcT m' (fun i=>c (j * sz + i)) fun c=>K (.agg m' c) h))
  | _,_=>False
 | .ent x=>match e x with
  | .ptr d 0=>(match h[d]? with
   | some (.mit (.mpv d2) n seen)=>(match h[d2]? with
    | some (.mp kt L)=>Need (L.length = n) (FLast seen fun i=>FEnt (L.getD i default) fun p=>frc (keyA kt p.1) fun kv=>K (.tup 2 (ofL [kv,p.2])) h)
    | _=>False)
   | _=>False)
  | _=>False
def fnext (it:AV) (h:List AB) (K:AV → List AB → Prop):Prop :=
 match it with
 | .ptr d 0=>(match h[d]? with
  | some (.mit (.mpv d2) n seen)=>(match h[d2]? with
   | some (.mp kt L)=>Need (L.length = n) (FNext n seen (K (.tup 1 (ofL [.bool false])) h) fun i=>FEnt (L.getD i default) fun p=>frc (keyA kt p.1) fun kv=>frcH (h.set d (.mit (.mpv d2) n (seen ++ [i]))) fun h'=>K (.tup 3 (ofL [.bool true,kv,p.2])) h')
   | _=>False)
  | _=>False)
 | _=>False
theorem fnext_ok {it:AV} {h:List AB} {K:AV → List AB → Prop} (H:fnext it h K):anext it h K:=by
 unfold fnext at H
 unfold anext
 split at H
 ·split at H
  ·rename_i hd
   split at H
   ·rename_i hd2
    simp only [hd,hd2]
    exact ⟨H.a,H.b.e,fun i hi hn=>frcH_e (frc_e (H.b.s i hi hn).h)⟩
   ·exact H.elim
  ·exact H.elim
 ·exact H.elim
theorem fxop_ok {X:XOp} {e:AX → AV} {h:List AB} {K:AV → List AB → Prop} (H:fxop X e h K):xop X e h K:=by
 cases X <;> simp only [fxop,xop] at H ⊢
 case mkm=>exact frcH_e (nlit_e H)
 case boxr=>exact frcH_e (nlit_e H)
 case cpy sz x y =>
  obtain ⟨h1,H⟩:=cnd_e H
  refine ⟨by simpa using h1,?_⟩
  have key:∀ d lo n,(fsrc sz h (e y) fun q m c'=>match h[d]? with
    | some (AB.row N sz2 c)=>cnd (!q && sz2 == sz) (Need (lo + n ≤ N) (frcH (h.set d (.row N sz (cpc lo (min m n) c c'))) (K (.int .i64 (min m n:Nat)))))
    | _=>False) → asrc sz h (e y) fun q m c'=>match h[d]? with
    | some (AB.row N sz2 c)=>q = false ∧ sz2 = sz ∧ lo + n ≤ N ∧ K (.int .i64 (min m n:Nat)) (h.set d (.row N sz (cpc lo (min m n) c c')))
    | _=>False:=fun d lo n H=>by
   obtain ⟨q,m,c',hs,H⟩:=fsrc_e H
   refine asrc_i hs ?_
   split at H
   ·obtain ⟨a,b⟩:=cnd_e H
    simp only [Bool.and_eq_true,Bool.not_eq_true',beq_iff_eq] at a
    exact ⟨a.1,a.2,b.a,frcH_e b.b⟩
   ·exact H.elim
  unfold fdst at H
  unfold adst
  split at H
  ·rename_i hx;simp only [hx];exact key _ _ _ H
  ·rename_i hx
   obtain ⟨a,b⟩:=cnd_e H
   simp only [hx]
   exact ⟨by simpa using a,key _ _ _ b⟩
  ·exact H.elim
 case mmv f xs =>
  obtain ⟨h1,h2⟩:=cnd_e H
  simp only [List.all_eq_true] at h1
  exact ⟨fun x hx=>pureB_ok _ (h1 x hx),frcs_e (K:=fun vs=>K (.mv f xs.length (ofL vs)) h) h2⟩
 case ins =>
  split at H
  ·rename_i hm
   split at H
   ·rename_i hd
    have H:=frc_e H
    obtain ⟨h1,h2⟩:=cnd_e H
    simp only [Bool.and_eq_true,beq_iff_eq] at h1
    simp only [hm,hd]
    refine ⟨h1.1,pureB_ok _ h1.2,?_⟩
    obtain ⟨l,k1,_,_,k2⟩:=akey_one (fkey_ok h2)
    exact k2 _ (frcH_e k1)
   ·exact H.elim
  ·exact H.elim
 case lkp kt ok z m k =>
  split at H
  ·rename_i hm
   split at H
   ·rename_i kt' L hd
    obtain ⟨h1,h2⟩:=cnd_e H
    simp only [hm,hd]
    refine ⟨by simpa using h1,?_⟩
    obtain ⟨l,k1,_,_,k2⟩:=akey_one (fkey_ok h2)
    refine k2 _ ?_
    cases ho:alook L l with
    | none=>have:=k1.n ho;cases ok <;> exact this
    | some v=>have:=k1.s v ho;cases ok <;> exact this
   ·exact H.elim
  ·exact H.elim
 case mlen=>exact H
 case rng =>
  split at H
  ·rename_i hm
   split at H
   ·rename_i hd
    simp only [hm,hd]
    exact frcH_e (nlit_e H)
   ·exact H.elim
  ·exact H.elim
 case ment =>
  split at H
  ·rename_i hm
   split at H
   ·rename_i kt' L hd
    obtain ⟨h1,h2⟩:=cnd_e H
    simp only [Bool.and_eq_true,beq_iff_eq] at h1
    simp only [hm,hd]
    refine ⟨h1.1,pureB_ok _ h1.2,?_⟩
    obtain ⟨l,k1,_,_,k2⟩:=akey_one (fkey_ok h2)
    refine k2 _ ?_
    cases ho:aidx L l with
    | none=>exact frcH_e (k1.n ho)
    | some i=>exact k1.s i _ ho rfl
   ·exact H.elim
  ·exact H.elim
 case est =>
  split at H
  ·rename_i hm hs
   split at H
   ·rename_i hd
    have H:=frc_e H
    obtain ⟨h1,h2⟩:=cnd_e H
    simp only [hm,hs,hd]
    exact ⟨h2.a.1,h2.a.2,pureB_ok _ h1,frcH_e h2.h⟩
   ·exact H.elim
  ·exact H.elim
 case iaa =>
  split at H
  ·rename_i hi hx
   obtain ⟨h1,h2⟩:=cnd_e H
   simp only [Bool.and_eq_true,beq_iff_eq] at h1
   simp only [hi,hx]
   exact ⟨h1.1.1,h1.1.2,h1.2,h2.a.1,h2.a.2,h2.h⟩
  ·rename_i hi hx
   simp only [hi,hx]
   exact ⟨H.a.1,H.a.2,nlit_e H.h⟩
  ·rename_i hi hx
   simp only [hi,hx]
   exact ⟨H.a.1,H.a.2,nlit_e H.h⟩
  ·exact H.elim
 case idx n sz m x i =>
  split at H
  ·rename_i hi hx
   obtain ⟨h1,h2⟩:=cnd_e H
   simp only [Bool.and_eq_true,decide_eq_true_eq] at h1
   simp only [hi,hx]
   refine ⟨h2.a.1,h2.a.2,h1.1,h1.2,?_⟩
   have h3:=h2.h
   cases m with
   | none=>exact frc_e h3
   | some m' =>
    obtain ⟨a,b⟩:=cnd_e h3
    exact ⟨by simpa using a,frcT_e b⟩
  ·exact H.elim
 case ent =>
  split at H
  ·rename_i hx
   split at H
   ·rename_i hd
    split at H
    ·rename_i hd2
     obtain ⟨i,h1,h2⟩:=H.b.h
     simp only [hx,hd,hd2,h1]
     exact ⟨H.a,frc_e h2.h⟩
    ·exact H.elim
   ·exact H.elim
  ·exact H.elim
def fop (o:AOp) (e:AX → AV) (h:List AB) (K:AV → List AB → Prop):Prop :=
 match o with
 | .mv x=>frc (e x) fun v=>K v h
 | .box x=>match e x with
  | .agg m c=>nlit h.length fun d=>frcH (h ++ [.box m c]) fun h'=>K (.ptr d 0) h'
  | .bot=>False
  | .tup ..=>False
  | v=>nlit h.length fun d=>frcH (h ++ [.box 1 (ofL [v])]) fun h'=>K (.ptr d 0) h'
 | .fa x off=>match e x with
  | .ptr d o=>nlit (o + off) fun o'=>K (.ptr d o') h
  | .rp d sz k o=>nlit (o + off) fun o'=>K (.rp d sz k o') h
  | .ip m c o=>nlit (o + off) fun o'=>K (.ip m c o') h
  | _=>False
 | .pick c a b=>match e c with
  | .bool q=>FCond q (frc (e a) fun v=>K v h) (frc (e b) fun v=>K v h)
  | _=>False
 | .build zs ps=>cnd (ps.all fun p=>elemB p.2.1 (e p.2.2) && decide (p.1 + p.2.1 ≤ zs.length)) (frcT zs.length (buildC (ofL zs) (ps.map fun p=>(p.1,p.2.1,e p.2.2))) fun c=>K (.agg zs.length c) h)
 | .bsl n sz zs ps=>cnd (ps.all fun p=>elemB sz (e p.2) && (e p.2).pureB && decide (p.1 < n)) (frcPs e ps fun es=>K (.sl false true n sz (bslC (fun _=>ofL zs) es)) h)
 | .bslp n sz zs ps=>match ps.all fun p=>(e p.2).pureB with
  | true=>fpubs e ps h (fun es h'=>cnd (es.all fun p=>elemB sz p.2 && decide (p.1 < n)) (K (.sl false true n sz (bslC (fun _=>ofL zs) es)) h'))
  | false=>FOr (fpubs e ps h (fun es h'=>cnd (es.all fun p=>elemB sz p.2 && decide (p.1 < n)) (K (.sl false true n sz (bslC (fun _=>ofL zs) es)) h')))
   (cnd (ps.all fun p=>elemB sz (e p.2) && decide (p.1 < n)) (frcPs e ps fun es=>nlit h.length fun d=>frcH (h ++ [.rwg n sz (bslC (fun _=>ofL zs) es)]) fun h'=>K (.own d n) h'))
 | .ld none x=>match e x with
  | .ptr d o=>(match h[d]? with
   | some (.box m c)=>cnd (decide (o < m)) (frc (c o) fun v=>K v h)
   | _=>False)
  | .rp d sz k o=>(match h[d]? with
   | some (.row n sz' c)=>cnd (decide (o < sz) && sz' == sz) (Need (k < n) (frc (c k o) fun v=>K v h))
   | some (.rwg n sz' c)=>cnd (decide (o < sz) && sz' == sz) (Need (k < n) (frc (c k o) fun v=>K v h))
   | _=>False)
  | .ip m c o=>cnd (decide (o < m)) (frc (c o) fun v=>K v h)
  | _=>False
 | .ld (some m') x=>match e x with
  | .ptr d o=>(match h[d]? with
   | some (.box m c)=>cnd (decide (o + m' ≤ m)) (frcT m' (fun i=>c (o + i)) fun c=>K (.agg m' c) h)
   | _=>False)
  | .rp d sz k o=>(match h[d]? with
   | some (.row n sz' c)=>(match sz == 1 && o == 0 with
    | true=>cnd (sz' == sz) (Need (k + m' ≤ n) (K (.agg m' (tab m' fun i=>c (k + i) 0)) h))
    | false=>cnd (decide (o + m' ≤ sz) && sz' == sz) (Need (k < n) (frcT m' (fun i=>c k (o + i)) fun c=>K (.agg m' c) h)))
   | some (.rwg n sz' c)=>cnd (decide (o + m' ≤ sz) && sz' == sz) (Need (k < n) (frcT m' (fun i=>c k (o + i)) fun c=>K (.agg m' c) h))
   | _=>False)
  | .ip m c o=>cnd (decide (o + m' ≤ m)) (frcT m' (fun i=>c (o + i)) fun c=>K (.agg m' c) h)
  | _=>False
 | .st m x y=>match e x with
  | .ptr d o=>(match h[d]? with
   | some (.box m' c)=>cnd (decide (o + m ≤ m') && elemB m (e y)) (frcT m' (stM c o (elemC (e y)) m) fun c=>frcH (h.set d (.box m' c)) (K und))
   | _=>False)
  | .rp d sz k o=>(match h[d]? with
   | some (.row n sz' c)=>cnd (sz' == sz && elemB m (e y) && (e y).pureB) (Need (k < n) (match m == sz && o == 0 with
    | true=>frcH (h.set d (.row n sz (updRm c k (elemC (e y))))) (K und)
    | false=>cnd (m == 1 && decide (o < sz)) (frcH (h.set d (.row n sz (updR c k o (elemC (e y) 0)))) (K und))))
   | some (.rwg n sz' c)=>cnd (sz' == sz && elemB m (e y)) (Need (k < n) (match m == sz && o == 0 with
    | true=>frcH (h.set d (.rwg n sz (updRm c k (elemC (e y))))) (K und)
    | false=>cnd (m == 1 && decide (o < sz)) (frcH (h.set d (.rwg n sz (updR c k o (elemC (e y) 0)))) (K und))))
   | _=>False)
  | _=>False
 | .fld x off m=>match e x with
  | .agg n c=>(match m with
   | none=>cnd (decide (off < n)) (frc (c off) fun v=>K v h)
   | some m'=>cnd (decide (off + m' ≤ n)) (frcT m' (fun i=>c (off + i)) fun c=>K (.agg m' c) h))
  | _=>False
 | .ia sz x i=>match e i,e x with
  | .int _ j,.sl _ _ n sz' c=>cnd (sz' == sz && decide (0 < sz)) (FIdx j n fun j=>K (.ip sz (c j) 0) h)
  | .int _ j,.own d n=>FIdx j n fun j=>K (.rp d sz j 0) h
  | .int _ j,.osl d sz' lo n=>cnd (sz' == sz) (FIdx j n fun j=>K (.rp d sz (lo + j) 0) h)
  | _,_=>False
 | .slc sz x lo hi=>match e x with
  | .sl z ee n sz' c=>cnd (sz' == sz) (match lo.map e,hi.map e with
   | none,none=>K (.sl z false n sz c) h
   | none,some (.int _ b)=>FTo b n fun b=>K (.sl z false b sz c) h
   | some (.int _ a),none=>FTo a n fun a=>K (.sl z ee (n - a) sz (fun k=>c (k + a))) h
   | some (.int _ a),some (.int _ b)=>FTo b n fun b=>FTo a b fun a=>K (.sl z false (b - a) sz (fun k=>c (k + a))) h
   | _,_=>False)
  | .own d n=>(match lo.map e,hi.map e with
   | none,none=>K (.own d n) h
   | none,some (.int _ b)=>FTo b n fun b=>K (.own d b) h
   | some (.int _ a),none=>FTo a n fun a=>K (.osl d sz a (n - a)) h
   | _,_=>False)
  | .osl d sz' l0 n=>cnd (sz' == sz) (match lo.map e,hi.map e with
   | some (.int _ a),none=>FTo a n fun a=>K (.osl d sz (l0 + a) (n - a)) h
   | _,_=>False)
  | _=>False
 | .eqa m neg x y=>match e x,e y with
  | .agg m1 c,.agg m2 c'=>cnd (m1 == m && m2 == m) (eqcs m c c' m fun b=>K (.bool (match neg with|true=>!b|false=>b)) h)
  | _,_=>False
 | .clr sz x=>match e x with
  | .osl d sz' lo _=>(match h[d]? with
   | some (.row N sz2 c)=>cnd (sz' == sz && sz2 == sz) (Need (lo ≤ N) (frcH (h.set d (.row lo sz c)) (K und)))
   | _=>False)
  | _=>False
 | .bin op x y=>match e x,e y with
  | .int k a,.int k' b=>(match op with
   | .shl=>fbin .shl k a b (fun v=>K v h)
   | .shr=>fbin .shr k a b (fun v=>K v h)
   | op=>cnd (decide (k = k')) (fbin op k a b (fun v=>K v h)))
  | _,_=>False
 | .un op x=>match op,e x with
  | .not,.bool b=>K (.bool !b) h
  | .neg,.int k n=>Fits k (0 - n) (fun z=>K (.int k z) h)
  | _,_=>False
 | .conv k x=>match e x with
  | .int _ n=>Fits k n (fun z=>K (.int k z) h)
  | _=>False
 | .msl sz bytes zs x y=>match e x,e y with
  | .int .i64 n,.int .i64 n'=>cnd (zs.length == sz) (Need (0 ≤ n ∧ n ≤ n' ∧ n' ≤ 9223372036854775807 ∧ n' * bytes ≤ 140737488355328) (nlit h.length fun d=>frcH (h ++ [.row n.toNat sz fun _=>ofL zs]) fun h'=>K (.own d n.toNat) h'))
  | _,_=>False
 | .app sz bytes x y=>cnd (decide (0 < sz)) (fsrc sz h (e y) fun q m c'=>match e x with
   | .sl z ee n sz2 c=>cnd ee (Need ((sz2 = sz ∨ n = 0) ∧ n + m ≤ maxLen ∧ (n + m) * bytes ≤ 140737488355328) (match m with
    | 0=>K (.sl z ee n sz2 c) h
    | m' + 1=>nlit h.length fun d=>frw q (n + (m' + 1)) sz (appc n c c') fun x=>frcH (h ++ [x]) fun h'=>K (.own d (n + (m' + 1))) h'))
   | .own d n=>(match h[d]? with
    | some (.row n' sz2 c)=>cnd (sz2 == sz) (Need (n + m ≤ maxLen ∧ (n + m) * bytes ≤ 140737488355328) (FApp (Need (n' = n) (nlit h.length fun d'=>frw q (n + m) sz (appc n c c') fun x=>frcH (h.set d .dead ++ [x]) fun h'=>K (.own d' (n + m)) h'))
      (cnd (!q) (Need (n ≤ n') (Need (frcH (h.set d (.row (n + m) sz (appc n c c'))) fun h'=>K (.own d (n + m)) h') (nlit h.length fun d'=>frcH (h ++ [.row (n + m) sz (appc n c c')]) fun h'=>K (.own d' (n + m)) h'))))))
    | some (.rwg n' sz2 c)=>cnd (sz2 == sz) (Need (n + m ≤ maxLen ∧ (n + m) * bytes ≤ 140737488355328) (Need (n' = n) (nlit h.length fun d'=>frcH (h.set d .dead ++ [.rwg (n + m) sz (appc n c c')]) fun h'=>K (.own d' (n + m)) h')))
    | _=>False)
   | .osl d sz3 lo n=>(match h[d]? with
    | some (.row n' sz2 c)=>cnd (sz2 == sz && sz3 == sz) (Need (lo + n ≤ n' ∧ n + m ≤ maxLen ∧ (n + m) * bytes ≤ 140737488355328) (FApp False
      (cnd (!q) (Need (lo + n ≤ n') (Need (frcH (h.set d (.row (lo + (n + m)) sz (appc (lo + n) c c'))) fun h'=>K (.osl d sz lo (n + m)) h') (nlit h.length fun d'=>frcH (h ++ [.row (n + m) sz (appc n (fun k=>c (lo + k)) c')]) fun h'=>K (.own d' (n + m)) h'))))))
    | _=>False)
   | _=>False)
 | .ext x i=>match e x with
  | .tup m c=>cnd (decide (i < m)) (frc (c i) fun v=>K v h)
  | _=>False
 | .xt X=>fxop X e h K
 | o=>aop o e h K
def fstep (C:CallP) (o:AOp) (e:Env) (h:List AB) (K:AV → List AB → Prop):Prop :=
 match o with
 | .call f xs=>frcs (xs.map (AX.ev e)) fun vs=>FCall C f vs h K
 | .calv x xs=>match x.ev e with
  | .fn f m c=>frcs (xs.map (AX.ev e) ++ (List.range m).map c) fun vs=>FCall C f vs h K
  | _=>False
 | .nxt x=>fnext (x.ev e) h K
 | o=>fop o (AX.ev e) h K

theorem fbin_ok {op:BinOp} {k:IntKind} {x y:Int} {K:AV → Prop} (H:fbin op k x y K) (h1:op ≠ .shl) (h2:op ≠ .shr):ibin op k x y K:=by
 cases op <;> simp only [fbin,ibin] at H ⊢ <;> first|exact H.h|exact H|exact ⟨H.a,H.b.h⟩|exact ⟨H.a,H.b⟩|exact (h1 rfl).elim|exact (h2 rfl).elim
theorem fop_ok (o:AOp) {e:AX → AV} {h:List AB} {K:AV → List AB → Prop} (H:fop o e h K):aop o e h K ∨ asplit o e h K:=by
 cases o
 case mv x=>left;simp only [fop] at H;exact frc_e H
 case xt X=>left;exact fxop_ok H
 case box x =>
  left
  simp only [fop,aop] at H ⊢
  generalize e x = v at H ⊢
  cases v <;> simp only at H ⊢ <;> exact frcH_e (nlit_e H)
 case fa x off =>
  left
  simp only [fop,aop] at H ⊢
  generalize e x = v at H ⊢
  cases v <;> simp only at H ⊢ <;> exact nlit_e H
 case pick c a b =>
  left
  simp only [fop,aop] at H ⊢
  generalize e c = v at H ⊢
  cases v <;> simp only at H ⊢
  exact FCond.ac (match H with
   | .t h a=>.t h (frc_e a)
   | .f h a=>.f h (frc_e a))
 case build zs ps =>
  left
  simp only [fop,aop] at H ⊢
  obtain ⟨h1,h2⟩:=cnd_e H
  simp only [List.all_eq_true,Bool.and_eq_true,decide_eq_true_eq] at h1
  exact ⟨fun p hp=>elemB_ok (h1 p hp).1,fun p hp=>(h1 p hp).2,frcT_e h2⟩
 case bsl n sz zs ps =>
  left
  simp only [fop,aop] at H ⊢
  obtain ⟨h1,h2⟩:=cnd_e H
  simp only [List.all_eq_true,Bool.and_eq_true,decide_eq_true_eq] at h1
  exact ⟨fun p hp=>⟨elemB_ok (h1 p hp).1.1,pureB_ok _ (h1 p hp).1.2⟩,fun p hp=>(h1 p hp).2,frcPs_e (K:=fun es=>K (.sl false true n sz (bslC (fun _=>ofL zs) es)) h) h2⟩
 case bslp n sz zs ps =>
  left
  simp only [fop,aop] at H ⊢
  have pubs:fpubs e ps h (fun es h'=>cnd (es.all fun p=>elemB sz p.2 && decide (p.1 < n)) (K (.sl false true n sz (bslC (fun _=>ofL zs) es)) h')) → apubs e ps h (fun es h'=>(∀ p ∈ es,elemOK sz p.2 ∧ p.1 < n) ∧ K (.sl false true n sz (bslC (fun _=>ofL zs) es)) h'):=fun H=>by
   refine fpubs_ok (fun l h' hh=>?_) H
   obtain ⟨h1,h2⟩:=cnd_e hh
   simp only [List.all_eq_true,Bool.and_eq_true,decide_eq_true_eq] at h1
   exact ⟨fun p hp=>⟨elemB_ok (h1 p hp).1,(h1 p hp).2⟩,h2⟩
  split at H
  ·exact .inl (pubs H)
  ·cases H with
   | pub a=>exact .inl (pubs a)
   | keep b =>
    obtain ⟨h1,h2⟩:=cnd_e b
    simp only [List.all_eq_true,Bool.and_eq_true,decide_eq_true_eq] at h1
    exact .inr ⟨fun p hp=>⟨elemB_ok (h1 p hp).1,(h1 p hp).2⟩,frcH_e (nlit_e (frcPs_e (K:=fun es=>nlit h.length fun d=>frcH (h ++ [.rwg n sz (bslC (fun _=>ofL zs) es)]) fun h'=>K (.own d n) h') h2))⟩
 case ld m x =>
  left
  cases m <;> simp only [fop,aop] at H ⊢ <;> generalize e x = v at H ⊢ <;> cases v <;> simp only at H ⊢
  case none.ip=>obtain ⟨h1,h2⟩:=cnd_e H;exact ⟨by simpa using h1,frc_e h2⟩
  case some.ip=>obtain ⟨h1,h2⟩:=cnd_e H;exact ⟨by simpa using h1,frcT_e h2⟩
  case none.ptr =>
   split at H
   ·rename_i heq
    rw [heq]
    obtain ⟨h1,h2⟩:=cnd_e H
    exact ⟨by simpa using h1,frc_e h2⟩
   ·exact H.elim
  case some.ptr =>
   split at H
   ·rename_i heq
    rw [heq]
    obtain ⟨h1,h2⟩:=cnd_e H
    exact ⟨by simpa using h1,frcT_e h2⟩
   ·exact H.elim
  case none.rp =>
   split at H
   ·rename_i heq
    rw [heq]
    obtain ⟨h1,h2⟩:=cnd_e H
    simp only [Bool.and_eq_true,decide_eq_true_eq,beq_iff_eq] at h1
    exact ⟨h2.a,h1.1,h1.2,frc_e h2.b⟩
   ·rename_i heq
    rw [heq]
    obtain ⟨h1,h2⟩:=cnd_e H
    simp only [Bool.and_eq_true,decide_eq_true_eq,beq_iff_eq] at h1
    exact ⟨h2.a,h1.1,h1.2,frc_e h2.b⟩
   ·exact H.elim
  case some.rp d sz k o =>
   split at H
   ·rename_i heq
    rw [heq]
    cases hb:(sz == 1 && o == 0) <;> simp only [hb] at H ⊢
    ·obtain ⟨h1,h2⟩:=cnd_e H
     simp only [Bool.and_eq_true,decide_eq_true_eq,beq_iff_eq] at h1
     exact ⟨h2.a,h1.1,h1.2,frcT_e h2.b⟩
    ·obtain ⟨h1,h2⟩:=cnd_e H
     simp only [beq_iff_eq] at h1
     exact ⟨h2.a,h1,h2.b⟩
   ·rename_i heq
    rw [heq]
    obtain ⟨h1,h2⟩:=cnd_e H
    simp only [Bool.and_eq_true,decide_eq_true_eq,beq_iff_eq] at h1
    exact ⟨h2.a,h1.1,h1.2,frcT_e h2.b⟩
   ·exact H.elim
 case st m x y =>
  left
  simp only [fop,aop] at H ⊢
  generalize e x = v at H ⊢
  cases v <;> simp only at H ⊢
  case ptr =>
   split at H
   ·rename_i heq
    rw [heq]
    obtain ⟨h1,h2⟩:=cnd_e H
    simp only [Bool.and_eq_true,decide_eq_true_eq] at h1
    exact ⟨h1.1,elemB_ok h1.2,frcH_e (frcT_e (K:=fun c=>frcH (h.set _ (.box _ c)) (K und)) h2)⟩
   ·exact H.elim
  case rp =>
   split at H
   ·rename_i heq
    rw [heq]
    obtain ⟨h1,h2⟩:=cnd_e H
    simp only [Bool.and_eq_true,beq_iff_eq] at h1
    refine ⟨h2.a,h1.1.1,elemB_ok h1.1.2,pureB_ok _ h1.2,?_⟩
    have h3:=h2.b
    split at h3
    ·rename_i hc
     simp only [Bool.and_eq_true,beq_iff_eq] at hc
     exact .inr ⟨hc.1,hc.2,frcH_e h3⟩
    ·obtain ⟨h4,h5⟩:=cnd_e h3
     simp only [Bool.and_eq_true,beq_iff_eq,decide_eq_true_eq] at h4
     exact .inl ⟨h4.1,h4.2,frcH_e h5⟩
   ·rename_i heq
    rw [heq]
    obtain ⟨h1,h2⟩:=cnd_e H
    simp only [Bool.and_eq_true,beq_iff_eq] at h1
    refine ⟨h2.a,h1.1,elemB_ok h1.2,?_⟩
    have h3:=h2.b
    split at h3
    ·rename_i hc
     simp only [Bool.and_eq_true,beq_iff_eq] at hc
     exact .inr ⟨hc.1,hc.2,frcH_e h3⟩
    ·obtain ⟨h4,h5⟩:=cnd_e h3
     simp only [Bool.and_eq_true,beq_iff_eq,decide_eq_true_eq] at h4
     exact .inl ⟨h4.1,h4.2,frcH_e h5⟩
   ·exact H.elim
 case fld x off m =>
  left
  simp only [fop,aop] at H ⊢
  generalize e x = v at H ⊢
  cases v <;> simp only at H ⊢
  cases m <;> (simp only at H ⊢;obtain ⟨h1,h2⟩:=cnd_e H;first|exact ⟨by simpa using h1,frcT_e h2⟩|exact ⟨by simpa using h1,frc_e h2⟩)
 case ia sz x i =>
  left
  simp only [fop,aop] at H ⊢
  generalize e x = v at H ⊢
  generalize e i = j at H ⊢
  cases j <;> cases v <;> simp only at H ⊢
  ·obtain ⟨h1,h2⟩:=cnd_e H
   simp only [Bool.and_eq_true,beq_iff_eq,decide_eq_true_eq] at h1
   exact ⟨h1.1,h1.2,h2.a.1,h2.a.2,h2.h⟩
  ·exact ⟨H.a.1,H.a.2,H.h⟩
  ·obtain ⟨h1,h2⟩:=cnd_e H
   exact ⟨by simpa using h1,h2.a.1,h2.a.2,h2.h⟩
 case slc sz x lo hi =>
  left
  simp only [fop,aop] at H ⊢
  generalize e x = v at H ⊢
  cases v <;> simp only at H ⊢
  case sl =>
   obtain ⟨h1,H⟩:=cnd_e H
   refine ⟨by simpa using h1,?_⟩
   generalize lo.map e = l at H ⊢
   generalize hi.map e = m at H ⊢
   split at H
   ·exact H
   ·exact ⟨H.a.1,H.a.2,H.h⟩
   ·exact ⟨H.a.1,H.a.2,H.h⟩
   ·have h3:=H.h.a
    have h4:=H.a
    exact ⟨h3.1,by omega,h4.2,H.h.h⟩
   ·exact H.elim
  case own =>
   generalize lo.map e = l at H ⊢
   generalize hi.map e = m at H ⊢
   split at H
   ·exact H
   ·exact ⟨H.a.1,H.a.2,H.h⟩
   ·exact ⟨H.a.1,H.a.2,H.h⟩
   ·exact H.elim
  case osl =>
   obtain ⟨h1,H⟩:=cnd_e H
   refine ⟨by simpa using h1,?_⟩
   generalize lo.map e = l at H ⊢
   generalize hi.map e = m at H ⊢
   split at H
   ·exact ⟨H.a.1,H.a.2,H.h⟩
   ·exact H.elim
 case eqa m neg x y =>
  left
  simp only [fop,aop] at H ⊢
  generalize e x = v at H ⊢
  generalize e y = u at H ⊢
  cases v <;> cases u <;> simp only at H ⊢
  obtain ⟨h1,h2⟩:=cnd_e H
  simp only [Bool.and_eq_true,beq_iff_eq] at h1
  refine ⟨h1.1,h1.2,?_⟩
  obtain ⟨q,g1,k1⟩:=eqcs_one h2
  refine k1 _ ?_
  cases neg <;> exact g1
 case clr sz x =>
  left
  simp only [fop,aop] at H ⊢
  generalize e x = v at H ⊢
  cases v <;> simp only at H ⊢
  split at H
  ·rename_i hd
   rw [hd]
   obtain ⟨h1,h2⟩:=cnd_e H
   simp only [Bool.and_eq_true,beq_iff_eq] at h1
   exact ⟨h1.1,h1.2,h2.a,frcH_e h2.b⟩
  ·exact H.elim
 case bin op x y =>
  left
  simp only [fop,aop] at H ⊢
  generalize e x = v at H ⊢
  generalize e y = u at H ⊢
  cases v <;> cases u <;> simp only at H ⊢
  simp only [abin]
  cases op <;> simp only at H ⊢
  case shl=>exact ⟨H.a,H.b.h⟩
  case shr=>exact ⟨H.a,H.b.h⟩
  all_goals
   obtain ⟨h1,h2⟩:=cnd_e H
   exact ⟨by simpa using h1,fbin_ok h2 (by simp) (by simp)⟩
 case un op x =>
  left
  simp only [fop,aop] at H ⊢
  generalize e x = v at H ⊢
  cases op <;> cases v <;> simp only at H ⊢ <;> first|exact H|exact H.h
 case conv k x =>
  left
  simp only [fop,aop] at H ⊢
  generalize e x = v at H ⊢
  cases v <;> simp only at H ⊢ <;> exact H.h
 case msl sz bytes zs x y =>
  left
  simp only [fop,aop] at H ⊢
  generalize e x = v at H ⊢
  generalize e y = u at H ⊢
  split at H
  ·obtain ⟨h1,h2⟩:=cnd_e H
   exact ⟨by simpa using h1,h2.a.1,h2.a.2.1,h2.a.2.2.1,h2.a.2.2.2,frcH_e (nlit_e h2.b)⟩
  ·exact H.elim
 case app sz bytes x y =>
  simp only [fop,aop,asplit] at H ⊢
  obtain ⟨h0,H2⟩:=cnd_e H
  clear H
  have h0':0 < sz:=by simpa using h0
  obtain ⟨q,m,c',hs,H⟩:=fsrc_e H2
  clear H2 h0
  generalize e x = v at H ⊢
  cases v <;> simp only at H
  case sl z ee n sz2 c =>
   left
   obtain ⟨h1,h2⟩:=cnd_e H
   refine ⟨h0',asrc_i hs ⟨h1,h2.a.1,fun hm=>?_,fun hm=>?_⟩⟩
   ·subst hm;exact h2.b
   ·obtain ⟨m',rfl⟩:∃ m',m = m' + 1:=⟨m - 1,by omega⟩
    exact ⟨h2.a.2.1,h2.a.2.2,frcH_e (frw_e (nlit_e h2.b))⟩
  case own d n =>
   split at H
   ·rename_i n' sz2 c hd
    obtain ⟨h1,h2⟩:=cnd_e H
    have h1':sz2 = sz:=by simpa using h1
    cases h2.b with
    | grow a=>left;exact ⟨h0',asrc_i hs (by simp only [hd];exact ⟨a.a,h1',h2.a.1,h2.a.2,frcH_e (frw_e (nlit_e a.b))⟩)⟩
    | share b=>right;obtain ⟨b0,b⟩:=cnd_e b;exact ⟨h0',asrc_i hs (by simp only [hd];exact ⟨by simpa using b0,h1',b.a,h2.a.1,h2.a.2,frcH_e b.b.a,frcH_e (nlit_e b.b.b)⟩)⟩
   ·rename_i n' sz2 c hd
    obtain ⟨h1,h2⟩:=cnd_e H
    have h1':sz2 = sz:=by simpa using h1
    left;exact ⟨h0',asrc_i hs (by simp only [hd];exact ⟨h2.b.a,h1',h2.a.1,h2.a.2,frcH_e (nlit_e h2.b.b)⟩)⟩
   ·exact H.elim
  case osl d sz3 lo n =>
   split at H
   ·rename_i n' sz2 c hd
    obtain ⟨h1,h2⟩:=cnd_e H
    simp only [Bool.and_eq_true,beq_iff_eq] at h1
    cases h2.b with
    | grow a=>exact a.elim
    | share b=>right;obtain ⟨b0,b⟩:=cnd_e b;exact ⟨h0',asrc_i hs (by simp only [hd];exact ⟨by simpa using b0,h1.2,h1.1,h2.a.1,h2.a.2.1,h2.a.2.2,frcH_e b.b.a,frcH_e (nlit_e b.b.b)⟩)⟩
   ·exact H.elim
 case ext x i =>
  left
  simp only [fop,aop] at H ⊢
  generalize e x = v at H ⊢
  cases v <;> simp only at H ⊢
  obtain ⟨h1,h2⟩:=cnd_e H
  exact ⟨by simpa using h1,frc_e h2⟩
 all_goals (left;exact H)
theorem fop_aop (o:AOp) {e:AX → AV} {h:List AB} {K:AV → List AB → Prop} (H:fop o e h K) (ho:o.chg = false):aop o e h K:=by
 rcases fop_ok o H with h1|h1
 ·exact h1
 ·cases o <;> simp only [asplit] at h1 <;> simp [AOp.chg] at ho
theorem fstep_ok {C:CallP} {o:AOp} {e:Env} {h:List AB} {K:AV → List AB → Prop} (H:fstep C o e h K):astep C o e h K:=by
 cases o
 case call f xs=>exact (frcs_e H).h
 case calv x xs =>
  simp only [fstep,astep] at H ⊢
  generalize x.ev e = v at H ⊢
  cases v <;> simp only at H ⊢
  exact (frcs_e H).h
 case app=>exact fop_ok _ H
 case nxt x=>exact fnext_ok H
 all_goals
  simp only [fstep] at H
  rcases fop_ok _ H with h1|h1
  ·exact h1
  ·exact h1.elim
/-- The next state of the temporaries. -/
def Env.upd (e:Env) (d:Nat) (v:AV):Env:=fun t=>if t = d then v else e t
def fput (e:Env) (d:Option Nat) (v:AV) (K:Env → Prop):Prop:=match d with
 | some d=>K (e.upd d v)
 | none=>K e
theorem fput_e {e:Env} {d:Option Nat} {v:AV} {K:Env → Prop} (h:fput e d v K):K (e.put d v):=by cases d <;> exact h
def fgstep (C:CallP) (o:AO) (e:Env) (h:List AB) (K:AV → List AB → Prop):Prop :=
 match o.guard with
 | none=>fstep C o.op e h K
 | some (t,b)=>match e t with
  | .bool q=>(match b with
   | true=>FCond q (fstep C o.op e h K) (K und h)
   | false=>FCond q (K und h) (fstep C o.op e h K))
  | .tup 0 _=>K und h
  | _=>False
theorem fgstep_ok {C:CallP} {o:AO} {e:Env} {h:List AB} {K:AV → List AB → Prop} (H:fgstep C o e h K):gstep C o e h K:=by
 unfold fgstep at H
 unfold gstep
 cases hg:o.guard with
 | none=>rw [hg] at H;exact fstep_ok H
 | some p =>
  obtain ⟨t,b⟩:=p
  rw [hg] at H
  simp only at H ⊢
  generalize e t = v at H ⊢
  split at H
  ·rename_i q
   cases b <;> simp only at H
   ·cases H with
    | t h a=>subst h;exact a
    | f h a=>subst h;exact fstep_ok a
   ·cases H with
    | t h a=>subst h;exact fstep_ok a
    | f h a=>subst h;exact a
  ·exact H
  ·exact H.elim
def fwats (C:CallP) (ws:List AO) (e:Env) (h:List AB) (p:Prop):Prop:=match ws with
 | []=>p
 | o :: ws=>match o.dst with
  | some d=>Need (fgstep C o e h (fun v _=>Same v (e d))) (fwats C ws e h p)
  | none=>fwats C ws e h p
def fregs (C:CallP) (l:List (AO × List AO)) (Q:Env → List AB → Prop) (e:Env) (h:List AB):Prop :=
 match l with
 | []=>Q e h
 | (⟨dst,op,gd⟩,ws) :: rest=>fgstep C ⟨dst,op,gd⟩ e h (fun r h'=>fwats C ws e h' (fput e dst r fun e=>fregs C rest Q e h'))
theorem fwats_ok {C:CallP} (hC:C.Mono) {e:Env} {h:List AB} {p q:Prop} (hpq:p → q):∀ {ws:List AO},fwats C ws e h p → wats C ws e h q
 | [],H=>hpq H
 | o :: ws,H=>by
  simp only [fwats] at H
  refine ⟨?_,?_⟩
  ·unfold watp
   cases hd:o.dst with
   | some d=>rw [hd] at H;exact gstep_mono hC (fun _ _ h=>h.h) (fgstep_ok H.a)
   | none=>trivial
  ·cases hd:o.dst with
   | some d=>rw [hd] at H;exact fwats_ok hC hpq H.b
   | none=>rw [hd] at H;exact fwats_ok hC hpq H
theorem fregs_ok {C:CallP} (hC:C.Mono) {Q Q':Env → List AB → Prop} (hQ:∀ e h,Q e h → Q' e h):∀ (l:List (AO × List AO)) {e:Env} {h:List AB},fregs C l Q e h → aregs C l Q' e h
 | [],_,_,H=>hQ _ _ H
 | (⟨_,_,_⟩,_) :: rest,_,_,H=>gstep_mono hC (fun _ _ hh=>fwats_ok hC (fun h=>fregs_ok hC hQ rest (fput_e h)) hh) (fgstep_ok H)

def ftree (C:CallP) (l:List AO) (W:Nat → List Nat):HT → (Env → List AB → Prop) → Env → List AB → Prop
 | .leaf,Q,e,h=>Q e h
 | .alt c qs sub .leaf,Q,e,h=>fregs C (opsI l W (c :: qs)) (ftree C l W sub Q) e h
 | .alt c qs sub (.alt c2 qs2 sub2 next2),Q,e,h=>FAlt (fregs C (opsI l W (c :: qs)) (ftree C l W sub Q) e h) (ftree C l W (.alt c2 qs2 sub2 next2) Q e h)
def fregT (C:CallP) (l:List AO) (T:THint) (Q:Env → List AB → Prop) (e:Env) (h:List AB):Prop:=fregs C (opsI l (watchOf T.w) T.qs) (ftree C l (watchOf T.w) T.t Q) e h
theorem ftree_ok {C:CallP} (hC:C.Mono) {l:List AO} {W:Nat → List Nat} {Q Q':Env → List AB → Prop} (hQ:∀ e h,Q e h → Q' e h):∀ (t:HT) {e:Env} {h:List AB},ftree C l W t Q e h → atree C l W t Q' e h
 | .leaf,_,_,H=>hQ _ _ H
 | .alt c qs sub .leaf,_,_,H=>fregs_ok hC (fun _ _ hh=>ftree_ok hC hQ sub hh) _ H
 | .alt c qs sub (.alt c2 qs2 sub2 next2),_,_,H=>⟨fregs_ok hC (fun _ _ hh=>ftree_ok hC hQ sub hh) _ H.a,ftree_ok hC hQ (.alt c2 qs2 sub2 next2) H.b⟩
/-- A loop: it is shown by a relation and a measure. -/
structure FLoop (C:CallP) (N:Nat) (c:ACo) (Q:AEx → Env → List AB → Prop) (e:Env) (h:List AB):Prop where
 h:awp C N (.loop c) Q e h
/-- A place at which a state may be weakened. -/
structure FWk (N:Nat) (id:Nat) (K:Env → List AB → Prop) (e:Env) (h:List AB):Prop where
 ex:∃ e2 h2,Wk N e h e2 h2 ∧ K e2 h2
/-- A loop over a function: shown by what it yields, and a relation. -/
structure FRange (C:CallP) (N:Nat) (it:AX) (ps:List Nat) (a b:ACo) (Q:AEx → Env → List AB → Prop) (e:Env) (h:List AB):Prop where
 h:awp C N (.rf it ps a b) Q e h
def fawp (C:CallP) (N:Nat):ACo → (AEx → Env → List AB → Prop) → Env → List AB → Prop
 | .skip,Q,e,h=>Q .normal e h
 | .reg _ l,Q,e,h=>fregs C l (Q .normal) e h
 | .regT l T,Q,e,h=>fregT C l T (Q .normal) e h
 | .wk id,Q,e,h=>FWk N id (Q .normal) e h
 | .seq a b,Q,e,h=>fawp C N a (AEx.then (fawp C N b Q) Q) e h
 | .cond c a b,Q,e,h=>match c.ev e with
  | .bool q=>FCond q (fawp C N a Q e h) (fawp C N b Q e h)
  | _=>False
 | .block id c,Q,e,h=>fawp C N c (AEx.inBlock id Q) e h
 | .loop c,Q,e,h=>FLoop C N c Q e h
 | .exit id,Q,e,h=>Q (.exit id) e h
 | .ret,Q,e,h=>Q .ret e h
 | .rf it ps a b,Q,e,h=>FRange C N it ps a b Q e h
 | .no,_,_,_=>False
theorem wats_mono {C:CallP} {e:Env} {h:List AB} {p q:Prop} (hpq:p → q):∀ {ws:List AO},wats C ws e h p → wats C ws e h q
 | [],hw=>hpq hw
 | _ :: _,hw=>⟨hw.1,wats_mono hpq hw.2⟩
theorem aregs_mono {C:CallP} (hC:C.Mono) {Q Q':Env → List AB → Prop} (hQ:∀ e h,Q e h → Q' e h):∀ (l:List (AO × List AO)) {e:Env} {h:List AB},aregs C l Q e h → aregs C l Q' e h
 | [],_,_,H=>hQ _ _ H
 | _ :: rest,_,_,H=>gstep_mono hC (fun _ _ hh=>wats_mono (aregs_mono hC hQ rest) hh) H
theorem atree_mono {C:CallP} (hC:C.Mono) {l:List AO} {W:Nat → List Nat} {Q Q':Env → List AB → Prop} (hQ:∀ e h,Q e h → Q' e h):∀ (t:HT) {e:Env} {h:List AB},atree C l W t Q e h → atree C l W t Q' e h
 | .leaf,_,_,H=>hQ _ _ H
 | .alt c qs sub .leaf,_,_,H=>aregs_mono hC (fun _ _ hh=>atree_mono hC hQ sub hh) _ H
 | .alt c qs sub (.alt c2 qs2 sub2 next2),_,_,H=>⟨aregs_mono hC (fun _ _ hh=>atree_mono hC hQ sub hh) _ H.1,atree_mono hC hQ (.alt c2 qs2 sub2 next2) H.2⟩
theorem rfA_mono {K K':Env → List AB → Prop} (hk:∀ e h,K e h → K' e h):∀ x e h,rfA K x e h → rfA K' x e h:=fun x e h H=>by
 cases x with
 | normal=>exact hk _ _ H
 | exit id=>exact H
 | ret=>exact H
theorem rfB_mono {N:Nat} {e1:Env} {K:Env → List AB → Prop} {Q Q':AEx → Env → List AB → Prop} (hq:∀ x e h,Q x e h → Q' x e h):∀ x e h,rfB N e1 K Q x e h → rfB N e1 K Q' x e h:=fun x e h H=>by
 cases x with
 | normal=>exact H
 | exit id=>exact hq _ _ _ H
 | ret=>exact hq _ _ _ H
theorem awp_mono {C:CallP} (hC:C.Mono):∀ (c:ACo) {N:Nat} {Q Q':AEx → Env → List AB → Prop} {e:Env} {h:List AB},(∀ x e h,Q x e h → Q' x e h) → awp C N c Q e h → awp C N c Q' e h:=by
 intro c
 induction c with
 | rf it ps a b ia ib =>
  rintro N Q Q' e h hQ ⟨e0,h0,mv,gf,m,c,L,I,h1,h2,h3,h4,h5,h6,h7,h8⟩
  exact ⟨e0,h0,mv,gf,m,c,L,I,h1,h2,h3,h4,h5,h6,fun k e1 hh hk hi=>ia (rfA_mono fun _ _ H=>ib (rfB_mono hQ) H) (h7 k e1 hh hk hi),fun e1 hh hi=>hQ _ _ _ (h8 e1 hh hi)⟩
 | skip=>intro N Q Q' e h hQ H;exact hQ _ _ _ H
 | reg _ l=>intro N Q Q' e h hQ H;exact aregs_mono hC (hQ .normal) l H
 | regT l T=>intro N Q Q' e h hQ H;exact aregs_mono hC (fun e h hh=>atree_mono hC (hQ .normal) T.t hh) _ H
 | wk _=>intro N Q Q' e h hQ ⟨e2,h2,hw,hq⟩;exact ⟨e2,h2,hw,hQ _ _ _ hq⟩
 | seq a b ia ib =>
  intro N Q Q' e h hQ H
  refine ia (fun x e h hh=>?_) H
  cases x with
  | normal=>exact ib hQ hh
  | exit id=>exact hQ _ _ _ hh
  | ret=>exact hQ _ _ _ hh
 | cond x a b ia ib =>
  intro N Q Q' e h hQ H
  simp only [awp] at H ⊢
  generalize x.ev e = v at H ⊢
  cases v <;> simp only at H ⊢
  rcases acond_e H with ⟨rfl,h1⟩|⟨rfl,h1⟩
  ·exact ia hQ h1
  ·exact ib hQ h1
 | block id c ic =>
  intro N Q Q' e h hQ H
  refine ic (fun x e h hh=>?_) H
  cases x with
  | normal=>exact hQ _ _ _ hh
  | exit id' =>
   simp only [AEx.inBlock] at hh ⊢
   split
   ·rename_i he;rw [if_pos he] at hh;exact hQ _ _ _ hh
   ·rename_i he;rw [if_neg he] at hh;exact hQ _ _ _ hh
  | ret=>exact hQ _ _ _ hh
 | loop c ic =>
  intro N Q Q' e h hQ H
  obtain ⟨I,μ,h0,hr⟩:=H
  refine ⟨I,μ,h0,fun e h hi=>ic (fun x e h hh=>?_) (hr e h hi)⟩
  cases x with
  | normal=>exact hh
  | exit id=>exact hQ _ _ _ hh
  | ret=>exact hQ _ _ _ hh
 | exit id=>intro N Q Q' e h hQ H;exact hQ _ _ _ H
 | ret=>intro N Q Q' e h hQ H;exact hQ _ _ _ H
 | no=>intro N Q Q' e h _ H;exact H
theorem fawp_ok {C:CallP} (hC:C.Mono) {N:Nat}:∀ (c:ACo) {Q:AEx → Env → List AB → Prop} {e:Env} {h:List AB},fawp C N c Q e h → awp C N c Q e h:=by
 intro c
 induction c with
 | skip=>intro Q e h H;exact H
 | reg _ l=>intro Q e h H;exact fregs_ok hC (fun _ _ h=>h) l H
 | regT l T=>intro Q e h H;exact fregs_ok hC (fun _ _ hh=>ftree_ok hC (fun _ _ h=>h) T.t hh) _ H
 | wk _=>intro Q e h H;exact H.ex
 | seq a b ia ib =>
  intro Q e h H
  refine awp_mono hC a (fun x e h hh=>?_) (ia H)
  cases x with
  | normal=>exact ib hh
  | exit id=>exact hh
  | ret=>exact hh
 | cond x a b ia ib =>
  intro Q e h H
  simp only [fawp,awp] at H ⊢
  generalize x.ev e = v at H ⊢
  cases v <;> simp only at H ⊢
  cases H with
  | t h a=>subst h;exact ia a
  | f h a=>subst h;exact ib a
 | block id c ic=>intro Q e h H;exact ic H
 | loop c ic=>intro Q e h H;exact H.h
 | exit id=>intro Q e h H;exact H
 | ret=>intro Q e h H;exact H
 | rf it ps a b=>intro Q e h H;exact H.h
 | no=>intro Q e h H;exact H
def fares : List ARes → Env → List AB → (List AV → Prop) → Prop
 | [],_,_,K=>K []
 | .tmp t :: rs,e,h,K=>frc (e t) fun v=>fares rs e h (fun l=>K (v :: l))
 | .cell t m :: rs,e,h,K=>fop (.ld m (.t t)) (AX.ev e) h (fun v _=>fares rs e h (fun l=>K (v :: l)))
def ffins (K:AV → List AB → Prop) (l:List AV) (h:List AB):Prop:=match l with
 | [v]=>Fin K v h
 | l=>Fin K (.tup l.length (ofL l)) h
theorem ffins_e {K:AV → List AB → Prop} {l:List AV} {h:List AB} (H:ffins K l h):K (tupOf l) h:=by
 match l with
 | [v]=>exact H.h
 | []=>exact H.h
 | _ :: _ :: _=>exact H.h
def ffin (rs:List ARes) (K:AV → List AB → Prop):AEx → Env → List AB → Prop
 | .exit _,_,_=>False
 | _,e,h=>fares rs e h (fun l=>ffins K l h)
theorem fares_ok {e:Env} {h:List AB}:∀ (rs:List ARes) {K K':List AV → Prop},(∀ l,K l → K' l) → fares rs e h K → ares rs e h K'
 | [],_,_,hK,H=>hK _ H
 | .tmp _ :: rs,_,_,hK,H=>fares_ok rs (fun _ h=>hK _ h) (frc_e H)
 | .cell _ _ :: rs,_,_,hK,H=>aop_mono _ (fun _ _ h=>fares_ok rs (fun _ h=>hK _ h) h) (fop_aop _ H rfl)
/-- A function's text, read: what a call of it does. -/
theorem fcall_of {P : Program} (hm : P.follows .mixedOrders = true) {f : FuncId} {fn : Func} {c : Code} (hf : P.funcs[f]? = some fn) (hb : fn.body = some c) (hn : (fn.name == "runtime.NumGoroutine") = false) {hs : Hints} (hk : okCode P fn.ntmps hs c = true) {ac : ACo} (hc : acomp P fn.ntmps hs c = ac) {rs : List ARes} (hrs : compRes P fn.results.toList = some rs)
  {xs:List AV} {h:List AB} {K:AV → List AB → Prop} (hl:xs.length ≤ fn.ntmps)
  (H:fawp (ACalls P) h.length ac (ffin rs (fun r h'=>∃ r2 h2 sel,Cut h.length sel h' h2 ∧ LnK sel h' h2 r r2 ∧ K r2 h2)) (eArgs xs) h):ACall P f xs h K:=by
 refine ACall.wk (acall_of hm hf hb hn hk hc hrs hl (awp_mono (ACalls.mono P) _ (fun x e h' hh=>?_) (fawp_ok (ACalls.mono P) _ H)))
 cases x with
 | normal=>exact fares_ok rs (fun _ h=>ffins_e h) hh
 | ret=>exact fares_ok rs (fun _ h=>ffins_e h) hh
 | exit id=>exact hh
end Go.Proofs.Ytbhjehpjjbbhbaa
