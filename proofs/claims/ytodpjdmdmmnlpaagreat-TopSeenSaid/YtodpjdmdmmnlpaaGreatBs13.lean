/- How a call sees the caller's blocks; a call's contract at its place / A call's contract at its place: the caller's other blocks are left alone -/
import Derived.Test.YtodpjdmdmmnlpaaGreatBs12
set_option linter.unusedSimpArgs false
set_option linter.unusedVariables false
namespace Go.Proofs.YtodpjdmdmmnlpaaGreat
open Go.RowKit

/-- Of one value no less is said than of another. -/
def LeV (a b:AV):Prop:=∀ (M:Nat → Prop) (w:World) (u:Value),rep M w a g0 u → rep M w b g0 u
theorem LeV.refl (a:AV):LeV a a:=fun _ _ _ h=>h
theorem LeV.of {a b:AV} (h:b = a):LeV a b:=h ▸ LeV.refl a
theorem LeV.sl {z e e':Bool} {n sz:Nat} {c c':Nat → Nat → AV} (he:e' = true → e = true) (hc:∀ k,k < n → ∀ o,o < sz → LeV (c k o) (c' k o)):LeV (.sl z e n sz c) (.sl z e' n sz c'):=by
 rintro M w u ⟨A,cap,rfl,h2,h3,h4,h5,h6⟩
 refine ⟨A,cap,rfl,h2,h3,fun h=>h4 (he h),h5,fun kk hk o ho=>?_⟩
 obtain ⟨b,off,x,e1,e2,e3,e4,e5,e6⟩:=h6 kk hk o ho
 exact ⟨b,off,x,e1,e2,e3,e4,e5,hc kk hk o ho _ _ _ e6⟩
theorem LeV.slz {z e e':Bool} {sz sz':Nat} {c c':Nat → Nat → AV} (he:e' = true → e = true):LeV (.sl z e 0 sz c) (.sl z e' 0 sz' c'):=by
 rintro M w u ⟨A,cap,rfl,h2,h3,h4,h5,h6⟩
 exact ⟨A,cap,rfl,h2,h3,fun h=>h4 (he h),h5,fun kk hk=>absurd hk (Nat.not_lt_zero _)⟩
theorem LeV.ip {m o:Nat} {c c':Nat → AV} (hc:∀ i,i < m → LeV (c i) (c' i)):LeV (.ip m c o) (.ip m c' o):=by
 rintro M w u ⟨b,off,rfl,e2,e3,h6⟩
 refine ⟨b,off,rfl,e2,e3,fun i hi=>?_⟩
 obtain ⟨x,e4,e5,e6⟩:=h6 i hi
 exact ⟨x,e4,e5,hc i hi _ _ _ e6⟩
theorem LeV.agg {m:Nat} {c c':Nat → AV} (hc:∀ i,i < m → LeV (c i) (c' i)):LeV (.agg m c) (.agg m c'):=by
 rintro M w u ⟨cs,rfl,e2,h6⟩
 refine ⟨cs,rfl,e2,fun i hi=>?_⟩
 obtain ⟨x,e4,e5,e6⟩:=h6 i hi
 exact ⟨x,e4,e5,hc i hi _ _ _ e6⟩
/-- The second value says no more than the first. σ: old and new names of blocks; Bp: the blocks that are let go, or lent, to be read. -/
inductive Ln (σ:Nat → Nat → Prop) (Bp:Nat → Prop) (H:List AB):AV → AV → Prop
 | bot (v:AV):Ln σ Bp H v .bot
 | same (v:AV) (h:v.pure):Ln σ Bp H v v
 | own (d n i:Nat) (h:σ d i):Ln σ Bp H (.own d n) (.own i n)
 | ptr (d o i:Nat) (h:σ d i):Ln σ Bp H (.ptr d o) (.ptr i o)
 | rp (d sz k o i:Nat) (h:σ d i):Ln σ Bp H (.rp d sz k o) (.rp i sz k o)
 | osl (d sz lo n i:Nat) (h:σ d i):Ln σ Bp H (.osl d sz lo n) (.osl i sz lo n)
 | osl0 (d sz n i:Nat) (h:σ d i):Ln σ Bp H (.own d n) (.osl i sz 0 n)
 | mpv (d i:Nat) (h:σ d i):Ln σ Bp H (.mpv d) (.mpv i)
 | pub (d n N sz:Nat) (c c':Nat → Nat → AV) (h:Bp d) (hd:H[d]? = some (.row N sz c)) (hn:n ≤ N) (hc:∀ k,k < n → ∀ o,o < sz → c' k o = c k o):Ln σ Bp H (.own d n) (.sl false false n sz c')
 | pubp (d o m:Nat) (c c':Nat → AV) (h:Bp d) (hd:H[d]? = some (.box m c)) (hc:∀ i,i < m → Ln σ Bp H (c i) (c' i)) (hp:∀ i,i < m → (c' i).pure):Ln σ Bp H (.ptr d o) (.ip m c' o)
 | pubr (d sz k o N:Nat) (c:Nat → Nat → AV) (c':Nat → AV) (h:Bp d) (hd:H[d]? = some (.row N sz c)) (hn:k < N) (hc:∀ i,i < sz → c' i = c k i):Ln σ Bp H (.rp d sz k o) (.ip sz c' o)
 | pubg (d n N sz:Nat) (c c':Nat → Nat → AV) (h:Bp d) (hd:H[d]? = some (.rwg N sz c)) (hn:n ≤ N) (hc:∀ k,k < n → ∀ o,o < sz → Ln σ Bp H (c k o) (c' k o)) (hp:∀ k,k < n → ∀ o,o < sz → (c' k o).pure):Ln σ Bp H (.own d n) (.sl false false n sz c')
 | pubrg (d sz k o N:Nat) (c:Nat → Nat → AV) (c':Nat → AV) (h:Bp d) (hd:H[d]? = some (.rwg N sz c)) (hn:k < N) (hc:∀ i,i < sz → Ln σ Bp H (c k i) (c' i)) (hp:∀ i,i < sz → (c' i).pure):Ln σ Bp H (.rp d sz k o) (.ip sz c' o)
 | agg (m:Nat) (c c':Nat → AV) (hc:∀ i,i < m → Ln σ Bp H (c i) (c' i)):Ln σ Bp H (.agg m c) (.agg m c')
 | tup (m:Nat) (c c':Nat → AV) (hc:∀ i,i < m → Ln σ Bp H (c i) (c' i)):Ln σ Bp H (.tup m c) (.tup m c')
 | fn (f:FuncId) (m:Nat) (c c':Nat → AV) (hc:∀ i,i < m → Ln σ Bp H (c i) (c' i)):Ln σ Bp H (.fn f m c) (.fn f m c')
 | sl (z e e':Bool) (n sz:Nat) (c c':Nat → Nat → AV) (he:e' = true → e = true) (hc:∀ k,k < n → ∀ o,o < sz → c' k o = c k o):Ln σ Bp H (.sl z e n sz c) (.sl z e' n sz c')
 | slz (z e e':Bool) (sz sz':Nat) (c c':Nat → Nat → AV) (he:e' = true → e = true):Ln σ Bp H (.sl z e 0 sz c) (.sl z e' 0 sz' c')
 | ip (m o:Nat) (c c':Nat → AV) (hc:∀ i,i < m → c' i = c i):Ln σ Bp H (.ip m c o) (.ip m c' o)
 | le (v v':AV) (hp:v.pure) (h:LeV v v'):Ln σ Bp H v v'

section
variable {F:Nat → Prop} {σ:Nat → Nat → Prop} {Bp:Nat → Prop} {H:List AB} {g g':GM} {w:World} {M':Nat → Prop}
theorem Ln.rep (k:HOK F g w H) (hM:∀ b,M' b → MM F g H b) (hσ:∀ d i p,σ d i → g d = some p → g' i = some p) (hB:∀ d b cap,Bp d → live H d → g d = some (b,cap) → ¬ M' b) {v v':AV} (L:Ln σ Bp H v v'):∀ {u:Value},rep (MM F g H) w v g u → rep M' w v' g' u:=by
 have pure:∀ (v:AV) {u:Value},v.pure → Proofs.YtodpjdmdmmnlpaaGreat.rep (MM F g H) w v g u → Proofs.YtodpjdmdmmnlpaaGreat.rep M' w v g' u:=fun v u hp h=>rep_mono (Chg.refl _ w) (fun b _ h=>hM b h) v (g0_le g') (rep_pure v hp h)
 have zero:∀ (v:AV) {u:Value},Proofs.YtodpjdmdmmnlpaaGreat.rep (MM F g H) w v g0 u → Proofs.YtodpjdmdmmnlpaaGreat.rep M' w v g0 u:=fun v u h=>rep_mono (Chg.refl _ w) (fun b _ h=>hM b h) v (GM.le_refl _) h
 induction L with
 | bot v=>intro u _;trivial
 | same v hp=>intro u h;exact pure v hp h
 | own d n i h =>
  rintro u ⟨b,cap,h1,h2⟩
  exact ⟨b,cap,hσ d i _ h h1,h2⟩
 | ptr d o i h =>
  rintro u ⟨b,cap,h1,h2⟩
  exact ⟨b,cap,hσ d i _ h h1,h2⟩
 | rp d sz k o i h =>
  rintro u ⟨b,cap,h1,h2⟩
  exact ⟨b,cap,hσ d i _ h h1,h2⟩
 | osl d sz lo n i h =>
  rintro u ⟨b,cap,p,h1,h2⟩
  exact ⟨b,cap,p,hσ d i _ h h1,h2⟩
 | osl0 d sz n i h =>
  rintro u ⟨b,cap,h1,rfl,h2⟩
  exact ⟨b,cap,0,hσ d i _ h h1,rfl,by omega,fun _=>by omega⟩
 | mpv d i h =>
  rintro u ⟨b,cap,h1,h2⟩
  exact ⟨b,cap,hσ d i _ h h1,h2⟩
 | pub d n N sz c c' h hd hn hc =>
  rintro u ⟨b,cap,h1,rfl,hcap⟩
  obtain ⟨_,_,cs,t,hh,hs,hcs⟩:=k.row d N sz c b cap hd h1
  refine ⟨_,cap,rfl,by simp,by simp,fun h=>(by cases h),hcap,fun kk hk o ho=>?_⟩
  obtain ⟨u,e1,e2,e3⟩:=hcs kk (by omega) o ho
  refine ⟨b,0,u,rfl,lt_of_heap hh,hB d b cap h ⟨_,hd,trivial⟩ h1,?_,e2,?_⟩
  ·rw [Nat.zero_add];exact cell_of_heap hh e1
  ·rw [hc kk hk o ho];exact zero _ e3
 | pubp d o m c c' h hd hc hp ih =>
  rintro u ⟨b,cap,h1,rfl⟩
  obtain ⟨cs,t,hh,hs,hcs⟩:=k.box d m c b cap hd h1
  refine ⟨b,0,by rw [Nat.zero_add],lt_of_heap hh,hB d b cap h ⟨_,hd,trivial⟩ h1,fun i hi=>?_⟩
  obtain ⟨u,e1,e2,e3⟩:=hcs i hi
  exact ⟨u,by rw [Nat.zero_add];exact cell_of_heap hh e1,e2,rep_pure _ (hp i hi) (ih i hi e3)⟩
 | pubr d sz kk o N c c' h hd hn hc =>
  rintro u ⟨b,cap,h1,rfl⟩
  obtain ⟨_,_,cs,t,hh,hs,hcs⟩:=k.row d N sz c b cap hd h1
  refine ⟨b,kk * sz,rfl,lt_of_heap hh,hB d b cap h ⟨_,hd,trivial⟩ h1,fun i hi=>?_⟩
  obtain ⟨u,e1,e2,e3⟩:=hcs kk hn i hi
  exact ⟨u,cell_of_heap hh e1,e2,by rw [hc i hi];exact zero _ e3⟩
 | pubg d n N sz c c' h hd hn hc hp ih =>
  rintro u ⟨b,cap,h1,rfl,hcap⟩
  obtain ⟨_,_,cs,t,hh,hs,hcs⟩:=k.rwg d N sz c b cap hd h1
  refine ⟨_,cap,rfl,by simp,by simp,fun h=>(by cases h),hcap,fun kk hk o ho=>?_⟩
  obtain ⟨u,e1,e2,e3⟩:=hcs kk (by omega) o ho
  refine ⟨b,0,u,rfl,lt_of_heap hh,hB d b cap h ⟨_,hd,trivial⟩ h1,?_,e2,rep_pure _ (hp kk hk o ho) (ih kk hk o ho e3)⟩
  rw [Nat.zero_add];exact cell_of_heap hh e1
 | pubrg d sz kk o N c c' h hd hn hc hp ih =>
  rintro u ⟨b,cap,h1,rfl⟩
  obtain ⟨_,_,cs,t,hh,hs,hcs⟩:=k.rwg d N sz c b cap hd h1
  refine ⟨b,kk * sz,rfl,lt_of_heap hh,hB d b cap h ⟨_,hd,trivial⟩ h1,fun i hi=>?_⟩
  obtain ⟨u,e1,e2,e3⟩:=hcs kk hn i hi
  exact ⟨u,cell_of_heap hh e1,e2,rep_pure _ (hp i hi) (ih i hi e3)⟩
 | agg m c c' hc ih =>
  rintro u ⟨cs,rfl,h2,h3⟩
  refine ⟨cs,rfl,h2,fun i hi=>?_⟩
  obtain ⟨x,e1,e2,e3⟩:=h3 i hi
  exact ⟨x,e1,e2,ih i hi e3⟩
 | tup m c c' hc ih =>
  rintro u ⟨cs,rfl,h2,h3⟩
  refine ⟨cs,rfl,h2,fun i hi=>?_⟩
  obtain ⟨x,e1,e3⟩:=h3 i hi
  exact ⟨x,e1,ih i hi e3⟩
 | fn f m c c' hc ih =>
  rintro u ⟨cs,rfl,h2,h3⟩
  refine ⟨cs,rfl,h2,fun i hi=>?_⟩
  obtain ⟨x,e1,e3⟩:=h3 i hi
  exact ⟨x,e1,ih i hi e3⟩
 | sl z e e' n sz c c' he hc =>
  rintro u ⟨A,cap,rfl,h2,h3,h4,h5,h6⟩
  refine ⟨A,cap,rfl,h2,h3,fun h=>h4 (he h),h5,fun kk hk o ho=>?_⟩
  obtain ⟨b,off,x,e1,e2,e3,e4,e5,e6⟩:=h6 kk hk o ho
  exact ⟨b,off,x,e1,e2,fun h=>e3 (hM b h),e4,e5,by rw [hc kk hk o ho];exact zero _ e6⟩
 | slz z e e' sz sz' c c' he =>
  rintro u ⟨A,cap,rfl,h2,h3,h4,h5,h6⟩
  exact ⟨A,cap,rfl,h2,h3,fun h=>h4 (he h),h5,fun kk hk=>absurd hk (Nat.not_lt_zero _)⟩
 | ip m o c c' hc =>
  rintro u ⟨b,off,rfl,e2,e3,h6⟩
  refine ⟨b,off,rfl,e2,fun h=>e3 (hM b h),fun i hi=>?_⟩
  obtain ⟨x,e4,e5,e6⟩:=h6 i hi
  exact ⟨x,e4,e5,by rw [hc i hi];exact zero _ e6⟩
 | le v v' hp h =>
  intro u hu
  have:=h _ _ _ (rep_pure v hp hu)
  exact rep_mono (Chg.refl _ w) (fun b _ h=>hM b h) v' (g0_le g') this

/-- The same of blocks. -/
def LnB (σ:Nat → Nat → Prop) (Bp:Nat → Prop) (H:List AB):AB → AB → Prop
 | _,.dead=>True
 | .box m c,.box m' c'=>m = m' ∧ ∀ i,i < m → Ln σ Bp H (c i) (c' i)
 | .row n sz c,.row n' sz' c'=>sz = sz' ∧ n' ≤ n ∧ ∀ k,k < n' → ∀ o,o < sz → LeV (c k o) (c' k o)
 | .mp kt L,.mp kt' L'=>kt = kt' ∧ L = L'
 | .mit m n s,.mit m' n' s'=>Ln σ Bp H m m' ∧ n = n' ∧ s = s'
 | .rwg n sz c,.rwg n' sz' c'=>sz = sz' ∧ n' ≤ n ∧ ∀ k,k < n' → ∀ o,o < sz → Ln σ Bp H (c k o) (c' k o)
 | .row n sz c,.rwg n' sz' c'=>sz = sz' ∧ n' ≤ n ∧ ∀ k,k < n' → ∀ o,o < sz → Ln σ Bp H (c k o) (c' k o)
 | .rwg n sz c,.row n' sz' c'=>sz = sz' ∧ n' ≤ n ∧ ∀ k,k < n' → ∀ o,o < sz → Ln σ Bp H (c k o) (c' k o) ∧ (c' k o).pure
 | _,_=>False
theorem LnB.ok (k:HOK F g w H) (hM:∀ b,M' b → MM F g H b) (hσ:∀ d i p,σ d i → g d = some p → g' i = some p) (hB:∀ d b cap,Bp d → live H d → g d = some (b,cap) → ¬ M' b) {x x':AB} (L:LnB σ Bp H x x') {b cap:Nat} (h:ABOK (MM F g H) g w b cap x):ABOK M' g' w b cap x':=by
 cases x' with
 | dead=>trivial
 | box m c =>
  cases x with
  | dead=>exact L.elim
  | row=>exact L.elim
  | rwg=>exact L.elim
  | mp=>exact L.elim
  | mit=>exact L.elim
  | box m2 c2 =>
   obtain ⟨rfl,hc⟩:=L
   obtain ⟨cs,t,h1,h2,h3⟩:=h
   refine ⟨cs,t,h1,h2,fun i hi=>?_⟩
   obtain ⟨u,e1,e2,e3⟩:=h3 i hi
   exact ⟨u,e1,e2,(hc i hi).rep k hM hσ hB e3⟩
 | row n sz c =>
  cases x with
  | dead=>exact L.elim
  | box=>exact L.elim
  | mp=>exact L.elim
  | mit=>exact L.elim
  | rwg n2 sz2 c2 =>
   obtain ⟨rfl,hn,hc⟩:=L
   obtain ⟨h0,hm,cs,t,h1,h2,h3⟩:=h
   refine ⟨by omega,hm,cs,t,h1,h2,fun kk hk o ho=>?_⟩
   obtain ⟨u,e1,e2,e3⟩:=h3 kk (by omega) o ho
   exact ⟨u,e1,e2,rep_pure _ (hc kk hk o ho).2 ((hc kk hk o ho).1.rep k hM hσ hB e3)⟩
  | row n2 sz2 c2 =>
   obtain ⟨rfl,hn,hc⟩:=L
   obtain ⟨h0,hm,cs,t,h1,h2,h3⟩:=h
   refine ⟨by omega,hm,cs,t,h1,h2,fun kk hk o ho=>?_⟩
   obtain ⟨u,e1,e2,e3⟩:=h3 kk (by omega) o ho
   exact ⟨u,e1,e2,hc kk hk o ho _ _ _ (rep_mono (Chg.refl _ w) (fun b _ h=>hM b h) _ (GM.le_refl _) e3)⟩
 | mp kt L1 =>
  cases x with
  | dead=>exact L.elim
  | box=>exact L.elim
  | row=>exact L.elim
  | rwg=>exact L.elim
  | mit=>exact L.elim
  | mp kt2 L2 =>
   obtain ⟨rfl,rfl⟩:=L
   obtain ⟨es,h1,h2⟩:=h
   exact ⟨es,h1,h2.mono (Chg.refl _ w) (fun b _ h=>hM b h)⟩
 | mit m n s =>
  cases x with
  | dead=>exact L.elim
  | box=>exact L.elim
  | row=>exact L.elim
  | rwg=>exact L.elim
  | mp=>exact L.elim
  | mit m2 n2 s2 =>
   obtain ⟨hm,rfl,rfl⟩:=L
   obtain ⟨h1,h2,mb,h3,h4⟩:=h
   exact ⟨h1,h2,mb,hm.rep k hM hσ hB h3,h4⟩
 | rwg n sz c =>
  cases x with
  | dead=>exact L.elim
  | box=>exact L.elim
  | mp=>exact L.elim
  | mit=>exact L.elim
  | rwg n2 sz2 c2 =>
   obtain ⟨rfl,hn,hc⟩:=L
   obtain ⟨h0,hm,cs,t,h1,h2,h3⟩:=h
   refine ⟨by omega,hm,cs,t,h1,h2,fun kk hk o ho=>?_⟩
   obtain ⟨u,e1,e2,e3⟩:=h3 kk (by omega) o ho
   exact ⟨u,e1,e2,(hc kk hk o ho).rep k hM hσ hB e3⟩
  | row n2 sz2 c2 =>
   obtain ⟨rfl,hn,hc⟩:=L
   obtain ⟨h0,hm,cs,t,h1,h2,h3⟩:=h
   refine ⟨by omega,hm,cs,t,h1,h2,fun kk hk o ho=>?_⟩
   obtain ⟨u,e1,e2,e3⟩:=h3 kk (by omega) o ho
   exact ⟨u,e1,e2,(hc kk hk o ho).rep k hM hσ hB (rep_up (g0_le g) e3)⟩
theorem LnB.live {x x':AB} (L:LnB σ Bp H x x') (hl:x'.live):x.live:=by
 cases x' <;> cases x <;> first|trivial|exact hl.elim|exact L.elim
end

/-- What is needed of the blocks that are kept (h2) and of those that are let go. sel: under which names the kept ones stood. -/
def Cut (N:Nat) (sel:List Nat) (h h2:List AB):Prop:=N ≤ h2.length ∧ sel.length = h2.length ∧ sel.Nodup ∧ (∀ i,i < N → sel[i]? = some i) ∧
 ∀ (i d:Nat) (x:AB),sel[i]? = some d → h2[i]? = some x → d < h.length ∧ (x = .dead ∨ ∃ y,h[d]? = some y ∧ LnB (fun d i=>sel[i]? = some d) (fun d=>∀ i,sel[i]? = some d → ¬ live h2 i) h y x)
abbrev LnK (sel:List Nat) (h h2:List AB):AV → AV → Prop:=Ln (fun d i=>sel[i]? = some d) (fun d=>∀ i,sel[i]? = some d → ¬ live h2 i) h
theorem cut {N:Nat} {sel:List Nat} {h h2:List AB} (hc:Cut N sel h h2) {F:Nat → Prop} {gS g:GM} {hS:List AB} {wS w:World} (hSN:hS.length = N) (T:Tr F gS hS wS g h w) (dm:∀ d p,gS d = some p → d < hS.length) :
  ∃ g2,Tr F gS hS wS g2 h2 w ∧ ∀ (v v':AV) (u:Value),LnK sel h h2 v v' → rep (MM F g h) w v g u → rep (MM F g2 h2) w v' g2 u:=by
 obtain ⟨hN,hlen,hnd,hid,hb⟩:=hc
 let g2:GM:=fun i=>(sel[i]?).bind g
 have hlv:∀ i,live h2 i → ∃ d,sel[i]? = some d ∧ live h d:=fun i ⟨x,hx,hl⟩=>by
  have hi:i < h2.length:=by
   rcases Nat.lt_or_ge i h2.length with h'|h'
   ·exact h'
   ·rw [List.getElem?_eq_none h'] at hx;cases hx
  have hs:sel[i]? = some sel[i]:=List.getElem?_eq_getElem (by omega)
  rcases (hb i _ x hs hx).2 with rfl|⟨y,hy,hL⟩
  ·exact hl.elim
  ·exact ⟨_,hs,y,hy,hL.live hl⟩
 have hg2:∀ i p,g2 i = some p → ∃ d,sel[i]? = some d ∧ g d = some p:=fun i p hp=>by
  simp only [g2] at hp
  cases hs:sel[i]? with
  | none=>rw [hs] at hp;cases hp
  | some d=>rw [hs] at hp;exact ⟨d,rfl,hp⟩
 have hO:∀ b,MO g2 h2 b → MO g h b:=fun b ⟨i,cap,hl,hgd⟩=>by
  obtain ⟨d,h1,h3⟩:=hlv i hl
  obtain ⟨d',h1',h3'⟩:=hg2 i _ hgd
  rw [h1] at h1'
  injection h1' with h1'
  subst h1'
  exact ⟨d,cap,h3,h3'⟩
 have hM:∀ b,MM F g2 h2 b → MM F g h b:=fun b=>Or.imp id (hO b)
 have hσ:∀ d i p,sel[i]? = some d → g d = some p → g2 i = some p:=fun d i p h1 hp=>by simp only [g2,h1,Option.bind_some,hp]
 have hB:∀ d b cap,(∀ i,sel[i]? = some d → ¬ live h2 i) → live h d → g d = some (b,cap) → ¬ MM F g2 h2 b:=by
  rintro d b cap hnl hl hgd (hF|⟨i,cap',hl',hg'⟩)
  ·exact (T.ok.fr b hF).2 ⟨d,cap,hl,hgd⟩
  ·obtain ⟨d',h1,h3⟩:=hlv i hl'
   obtain ⟨d2,h1',h3'⟩:=hg2 i _ hg'
   rw [h1] at h1'
   injection h1' with h1'
   subst h1'
   have:=T.ok.inj d d' b cap cap' hl h3 hgd h3'
   subst this
   exact hnl i h1 hl'
 refine ⟨g2,⟨?_,?_,T.chg,fun b hb'=>T.new b (hO b hb')⟩,fun v v' u L hr=>L.rep T.ok hM hσ hB hr⟩
 ·refine HOK.of_all (fun i hi=>?_) (fun i hl=>?_) (fun i j b c c' h1 h2' e1 e2=>?_) (fun i b cap x hx hgd=>?_) (fun b hF=>⟨(T.ok.fr b hF).1,fun h=>(T.ok.fr b hF).2 (hO b h)⟩)
  ·simp only [g2,List.getElem?_eq_none (show sel.length ≤ i by omega),Option.bind_none]
  ·obtain ⟨d,h1,h3⟩:=hlv i hl
   obtain ⟨p,hp⟩:=T.ok.lv d h3
   exact ⟨p,hσ d i p h1 hp⟩
  ·obtain ⟨d,a1,a2⟩:=hlv i h1
   obtain ⟨d',b1,b2⟩:=hlv j h2'
   obtain ⟨d2,a1',a3⟩:=hg2 i _ e1
   obtain ⟨d3,b1',b3⟩:=hg2 j _ e2
   rw [a1] at a1'
   rw [b1] at b1'
   injection a1' with a1'
   injection b1' with b1'
   subst a1';subst b1'
   have:=T.ok.inj d d' b c c' a2 b2 a3 b3
   subst this
   have hi:i < sel.length:=by
    rcases Nat.lt_or_ge i sel.length with h|h
    ·exact h
    ·rw [List.getElem?_eq_none h] at a1;cases a1
   exact (List.getElem?_inj hi hnd).1 (a1.trans b1.symm)
  ·obtain ⟨d,a1,a3⟩:=hg2 i _ hgd
   rcases (hb i d x a1 hx).2 with rfl|⟨y,hy,hL⟩
   ·trivial
   ·exact hL.ok T.ok hM hσ hB (T.ok.all hy a3)
 ·intro d p hp
  have h1:=T.gle d p hp
  have:=dm d p hp
  exact hσ d d p (hid d (by omega)) h1
theorem Wk.gen {N:Nat} {sel:List Nat} {e e2:Env} {h h2:List AB} (hc:Cut N sel h h2) (he:∀ t,LnK sel h h2 (e t) (e2 t)):Wk N e h e2 h2:=by
 rintro F n gS hS wS a w hSN ⟨⟨g,T,hv⟩,dn,sz,dm⟩
 obtain ⟨g2,T2,hr⟩:=cut hc hSN T dm
 exact ⟨⟨g2,T2,fun t=>hr _ _ _ (he t) (hv t)⟩,dn,sz,dm⟩
theorem ACall.wk {P:Program} {f:FuncId} {xs:List AV} {h:List AB} {K:AV → List AB → Prop} (H:ACall P f xs h (fun r h'=>∃ r2 h2 sel,Cut h.length sel h' h2 ∧ LnK sel h' h2 r r2 ∧ K r2 h2)):ACall P f xs h K :=
 ⟨H.1,fun F g w vs hok hs hv=>(H.2 F g w vs hok hs hv).mono fun en w' ⟨v,r,h',g',he,T,hr,r2,h2,sel,hc,hl,hk⟩ =>
  let ⟨g2,T2,hr2⟩:=cut hc rfl T (fun _ _ hp=>hok.lt hp)
  ⟨v,r2,h2,g2,he,T2,hr2 _ _ _ hl hr,hk⟩⟩

def AV.pureB : AV → Bool
 | .own .. | .ptr .. | .rp .. | .osl .. | .mpv ..=>false
 | .fn _ m c | .agg m c | .tup m c=>(List.range m).all fun i=>(c i).pureB
 | _=>true
theorem pureB_ok : ∀ (v:AV),v.pureB = true → v.pure:=by
 intro v
 induction v with
 | own=>intro h;cases h
 | ptr=>intro h;cases h
 | rp=>intro h;cases h
 | osl=>intro h;cases h
 | mpv=>intro h;cases h
 | fn f m c ih=>intro h i hi;simp only [AV.pureB,List.all_eq_true,List.mem_range] at h;exact ih i (h i hi)
 | agg m c ih=>intro h i hi;simp only [AV.pureB,List.all_eq_true,List.mem_range] at h;exact ih i (h i hi)
 | tup m c ih=>intro h i hi;simp only [AV.pureB,List.all_eq_true,List.mem_range] at h;exact ih i (h i hi)
 | _=>intro _;trivial

/-- New names for the blocks of a call: the first are those of the caller in sel, the others come behind the caller's. -/
def tau (sel:List Nat) (N:Nat) (i:Nat):Nat:=match sel[i]? with
 | some d=>d
 | none=>N + (i - sel.length)
def ren (sel:List Nat) (N:Nat):AV → AV
 | .own d n=>.own (tau sel N d) n
 | .ptr d o=>.ptr (tau sel N d) o
 | .rp d sz k o=>.rp (tau sel N d) sz k o
 | .osl d sz lo n=>.osl (tau sel N d) sz lo n
 | .mpv d=>.mpv (tau sel N d)
 | .fn f m c=>match (AV.fn f m c).pureB with
  | true=>.fn f m c
  | false=>.fn f m (tab m fun i=>ren sel N (c i))
 | .agg m c=>match (AV.agg m c).pureB with
  | true=>.agg m c
  | false=>.agg m (tab m fun i=>ren sel N (c i))
 | .tup m c=>match (AV.tup m c).pureB with
  | true=>.tup m c
  | false=>.tup m (tab m fun i=>ren sel N (c i))
 | v=>v
theorem ren_pure {sel:List Nat} {N:Nat} (v:AV) (h:v.pureB = true):ren sel N v = v:=by
 cases v
 case fn f m c=>unfold ren;rw [h]
 case agg m c=>unfold ren;rw [h]
 case tup m c=>unfold ren;rw [h]
 case own=>cases h
 case ptr=>cases h
 case rp=>cases h
 case osl=>cases h
 case mpv=>cases h
 all_goals rfl
def renB (sel:List Nat) (N:Nat):AB → AB
 | .box m c=>.box m (tab m fun i=>ren sel N (c i))
 | .mit m n s=>.mit (ren sel N m) n s
 | .rwg n sz c=>.rwg n sz (fun k o=>ren sel N (c k o))
 | x=>x
def puts (N:Nat) (sel:List Nat):List Nat → List AB → List AB → List AB
 | d :: ds,x :: xs,H=>puts N sel ds xs (H.set d (renB sel N x))
 | [],xs,H=>H ++ xs.map (renB sel N)
 | _ :: _,[],H=>H
/-- The caller's blocks behind a call. -/
def put (sel:List Nat) (H h2:List AB):List AB:=puts H.length sel sel h2 H
/-- A value that leads to no memory but the call's own. -/
def AV.flat : AV → Prop
 | .sl _ _ n _ _=>n = 0
 | .ip ..=>False
 | .agg m c | .tup m c | .fn _ m c | .mv _ m c=>∀ i,i < m → (c i).flat
 | _=>True
def AB.flat : AB → Prop
 | .dead=>True
 | .box m c=>∀ i,i < m → (c i).flat
 | .row n sz c=>∀ k,k < n → ∀ o,o < sz → (c k o).flat
 | .mp _ L=>∀ p ∈ L,p.2.flat
 | .mit m _ _=>m.flat
 | .rwg n sz c=>∀ k,k < n → ∀ o,o < sz → (c k o).flat
theorem rep_flat {M M':Nat → Prop} {w:World}:∀ (v:AV) {g:GM} {u:Value},v.flat → rep M w v g u → rep M' w v g u:=by
 intro v
 induction v with
 | bot=>intros;trivial
 | int k n=>intro g u _ h;exact h
 | bool b=>intro g u _ h;exact h
 | nilp=>intro g u _ h;exact h
 | nilf=>intro g u _ h;exact h
 | sl z e n sz c ih =>
  intro g u hf h
  obtain ⟨A,cap,h1,h2,h3,h4,h5,_⟩:=h
  exact ⟨A,cap,h1,h2,h3,h4,h5,fun k hk=>by rw [show n = 0 from hf] at hk;omega⟩
 | ip m c o ih=>intro g u hf;exact hf.elim
 | mv f m c ih =>
  intro g u hf h
  obtain ⟨cs,h1,h2,h3⟩:=h
  refine ⟨cs,h1,h2,fun i hi=>?_⟩
  obtain ⟨x,hx,hr⟩:=h3 i hi
  exact ⟨x,hx,ih i (hf i hi) hr⟩
 | own d n=>intro g u _ h;exact h
 | ptr d o=>intro g u _ h;exact h
 | rp d sz k o=>intro g u _ h;exact h
 | osl d sz lo n=>intro g u _ h;exact h
 | mpv d=>intro g u _ h;exact h
 | fn f m c ih =>
  intro g u hp h
  obtain ⟨cs,h1,h2,h3⟩:=h
  refine ⟨cs,h1,h2,fun i hi=>?_⟩
  obtain ⟨x,hx,hr⟩:=h3 i hi
  exact ⟨x,hx,ih i (hp i hi) hr⟩
 | agg m c ih =>
  intro g u hp h
  obtain ⟨cs,h1,h2,h3⟩:=h
  refine ⟨cs,h1,h2,fun i hi=>?_⟩
  obtain ⟨x,hx,h1c,hr⟩:=h3 i hi
  exact ⟨x,hx,h1c,ih i (hp i hi) hr⟩
 | tup m c ih =>
  intro g u hp h
  obtain ⟨cs,h1,h2,h3⟩:=h
  refine ⟨cs,h1,h2,fun i hi=>?_⟩
  obtain ⟨x,hx,hr⟩:=h3 i hi
  exact ⟨x,hx,ih i (hp i hi) hr⟩
/-- From the callee's names to the caller's. -/
theorem rep_ren {M:Nat → Prop} {w:World} {sel:List Nat} {N:Nat}:∀ (v:AV) {g g':GM} {u:Value},(∀ i p,g i = some p → g' (tau sel N i) = some p) → rep M w v g u → rep M w (ren sel N v) g' u:=by
 intro v
 induction v with
 | bot=>intros;trivial
 | int k n=>intro g g' u _ h;exact h
 | bool b=>intro g g' u _ h;exact h
 | nilp=>intro g g' u _ h;exact h
 | nilf=>intro g g' u _ h;exact h
 | sl z e n sz c ih=>intro g g' u hf h;exact h
 | ip m c o ih=>intro g g' u hf h;exact h
 | mv f m c ih=>intro g g' u hf h;exact h
 | own d n=>rintro g g' u hg ⟨b,cap,h1,h2⟩;exact ⟨b,cap,hg _ _ h1,h2⟩
 | ptr d o=>rintro g g' u hg ⟨b,cap,h1,h2⟩;exact ⟨b,cap,hg _ _ h1,h2⟩
 | rp d sz k o=>rintro g g' u hg ⟨b,cap,h1,h2⟩;exact ⟨b,cap,hg _ _ h1,h2⟩
 | osl d sz lo n=>rintro g g' u hg ⟨b,cap,p,h1,h2⟩;exact ⟨b,cap,p,hg _ _ h1,h2⟩
 | mpv d=>rintro g g' u hg ⟨b,cap,h1,h2⟩;exact ⟨b,cap,hg _ _ h1,h2⟩
 | fn f m c ih =>
  intro g g' u hg h
  simp only [ren]
  split
  ·rename_i hp
   exact rep_up (g0_le g') (rep_pure _ (pureB_ok _ hp) h)
  obtain ⟨cs,h1,h2,h3⟩:=h
  refine ⟨cs,h1,h2,fun i hi=>?_⟩
  obtain ⟨x,hx,hr⟩:=h3 i hi
  exact ⟨x,hx,by rw [tab_get hi];exact ih i hg hr⟩
 | agg m c ih =>
  intro g g' u hg h
  simp only [ren]
  split
  ·rename_i hp
   exact rep_up (g0_le g') (rep_pure _ (pureB_ok _ hp) h)
  obtain ⟨cs,h1,h2,h3⟩:=h
  refine ⟨cs,h1,h2,fun i hi=>?_⟩
  obtain ⟨x,hx,h1c,hr⟩:=h3 i hi
  exact ⟨x,hx,h1c,by rw [tab_get hi];exact ih i hg hr⟩
 | tup m c ih =>
  intro g g' u hg h
  simp only [ren]
  split
  ·rename_i hp
   exact rep_up (g0_le g') (rep_pure _ (pureB_ok _ hp) h)
  obtain ⟨cs,h1,h2,h3⟩:=h
  refine ⟨cs,h1,h2,fun i hi=>?_⟩
  obtain ⟨x,hx,hr⟩:=h3 i hi
  exact ⟨x,hx,by rw [tab_get hi];exact ih i hg hr⟩
end Go.Proofs.YtodpjdmdmmnlpaaGreat

namespace Go.Proofs.YtodpjdmdmmnlpaaGreat
open Go.RowKit

section
variable {N:Nat} {sel:List Nat}
theorem puts_len : ∀ (ds:List Nat) (xs H:List AB),ds.length ≤ xs.length → (puts N sel ds xs H).length = H.length + (xs.length - ds.length)
 | [],xs,H,_=>by simp [puts]
 | _ :: _,[],H,h=>by simp at h
 | d :: ds,x :: xs,H,h=>by
  simp only [puts]
  rw [puts_len ds xs _ (by simpa using h)]
  simp
theorem puts_out : ∀ (ds:List Nat) (xs H:List AB) (d:Nat),d < H.length → d ∉ ds → (puts N sel ds xs H)[d]? = H[d]?
 | [],xs,H,d,hd,_=>by simp [puts,List.getElem?_append_left hd]
 | _ :: _,[],H,d,_,_=>rfl
 | d' :: ds,x :: xs,H,d,hd,hn=>by
  simp only [puts]
  rw [puts_out ds xs _ d (by simpa using hd) (fun h=>hn (List.mem_cons_of_mem _ h))]
  exact List.getElem?_set_ne (fun e=>hn (by rw [e];exact List.mem_cons_self))
theorem puts_new : ∀ (ds:List Nat) (xs H:List AB) (i:Nat),ds.length ≤ xs.length → ds.length ≤ i → (puts N sel ds xs H)[H.length + (i - ds.length)]? = (xs[i]?).map (renB sel N)
 | [],xs,H,i,_,_=>by simp [puts,List.getElem?_append_right (show H.length ≤ H.length + i by omega)]
 | _ :: _,[],H,i,h,_=>by simp at h
 | d :: ds,x :: xs,H,i,h,hi=>by
  simp only [puts]
  obtain ⟨i,rfl⟩:∃ j,i = j + 1:=⟨i - 1,by simp at hi;omega⟩
  have:=puts_new ds xs (H.set d (renB sel N x)) i (by simpa using h) (by simpa using hi)
  simp only [List.length_set] at this
  rw [show i + 1 - (d :: ds).length = i - ds.length by simp]
  rw [this]
  rfl
theorem puts_sel : ∀ (ds:List Nat) (xs H:List AB) (i d:Nat),ds.Nodup → ds.length ≤ xs.length → ds[i]? = some d → d < H.length → (puts N sel ds xs H)[d]? = (xs[i]?).map (renB sel N)
 | [],xs,H,i,d,_,_,h,_=>by simp at h
 | _ :: _,[],H,i,d,_,h,_,_=>by simp at h
 | d' :: ds,x :: xs,H,i,d,hnd,hl,hi,hd=>by
  simp only [puts]
  rw [List.nodup_cons] at hnd
  cases i with
  | zero =>
   simp only [List.getElem?_cons_zero,Option.some.injEq] at hi
   subst hi
   rw [puts_out ds xs _ d' (by simpa using hd) hnd.1]
   simp [hd]
  | succ i=>exact puts_sel ds xs _ i d hnd.2 (by simpa using hl) hi (by simpa using hd)
end

def LnL (σ:Nat → Nat → Prop) (Bp:Nat → Prop) (H:List AB):List AV → List AV → Prop
 | [],[]=>True
 | x :: xs,y :: ys=>Ln σ Bp H x y ∧ LnL σ Bp H xs ys
 | _,_=>False
theorem LnL.get {σ:Nat → Nat → Prop} {Bp:Nat → Prop} {H:List AB}:∀ {xs ys:List AV},LnL σ Bp H xs ys → xs.length = ys.length ∧ ∀ (i:Nat) (y:AV),ys[i]? = some y → ∃ x,xs[i]? = some x ∧ Ln σ Bp H x y
 | [],[],_=>⟨rfl,fun i y h=>by simp at h⟩
 | [],_ :: _,h=>h.elim
 | _ :: _,[],h=>h.elim
 | x :: xs,y :: ys,h=>by
  obtain ⟨h1,h2⟩:=h
  obtain ⟨a,b⟩:=LnL.get h2
  refine ⟨by simp [a],fun i z hz=>?_⟩
  cases i with
  | zero=>simp only [List.getElem?_cons_zero,Option.some.injEq] at hz;subst hz;exact ⟨x,rfl,h1⟩
  | succ i=>exact b i z hz

theorem ACall.at {P:Program} {f:FuncId} {xs xs':List AV} {H h':List AB} {K' K:AV → List AB → Prop} (sel B:List Nat) (con:ACall P f xs' h' K')
  (hnd:sel.Nodup) (hlen:sel.length = h'.length) (hBs:∀ d ∈ B,d ∉ sel)
  (hh:∀ (i d:Nat) (x:AB),sel[i]? = some d → h'[i]? = some x → ∃ y,H[d]? = some y ∧ x.live ∧ LnB (fun d i=>sel[i]? = some d) (fun _=>False) H y x)
  (hx:LnL (fun d i=>sel[i]? = some d) (fun d=>d ∈ B) H xs xs')
  (hK:∀ r h2,K' r h2 → sel.length ≤ h2.length ∧ (B = [] ∨ (r.flat ∧ ∀ x ∈ h2,x.flat)) ∧ K (ren sel H.length r) (put sel H h2)):ACall P f xs H K:=by
 refine ⟨con.1,fun F g w vs k hs hv=>?_⟩
 let gc:GM:=fun i=>(sel[i]?).bind g
 let Fc:Nat → Prop:=fun b=>F b ∨ ∃ d cap,live H d ∧ d ∉ sel ∧ d ∉ B ∧ g d = some (b,cap)
 have selH:∀ i d,sel[i]? = some d → ∃ x y,h'[i]? = some x ∧ H[d]? = some y ∧ x.live ∧ LnB (fun d i=>sel[i]? = some d) (fun _=>False) H y x:=fun i d hd=>by
  have hi:i < sel.length:=by
   rcases Nat.lt_or_ge i sel.length with h|h
   ·exact h
   ·rw [List.getElem?_eq_none h] at hd;cases hd
  have hx:h'[i]? = some h'[i]:=List.getElem?_eq_getElem (by omega)
  obtain ⟨y,h1,h2,h3⟩:=hh i d _ hd hx
  exact ⟨_,y,hx,h1,h2,h3⟩
 have selLive:∀ i d,sel[i]? = some d → live H d:=fun i d hd=>by
  obtain ⟨x,y,_,h2,h3,h4⟩:=selH i d hd
  exact ⟨y,h2,h4.live h3⟩
 have liveSel:∀ i,live h' i → ∃ d,sel[i]? = some d ∧ live H d:=fun i ⟨x,hx,hl⟩=>by
  have hi:i < h'.length:=by
   rcases Nat.lt_or_ge i h'.length with h|h
   ·exact h
   ·rw [List.getElem?_eq_none h] at hx;cases hx
  have hd:sel[i]? = some sel[i]:=List.getElem?_eq_getElem (by omega)
  exact ⟨_,hd,selLive i _ hd⟩
 have gcs:∀ i p,gc i = some p → ∃ d,sel[i]? = some d ∧ g d = some p:=fun i p hp=>by
  simp only [gc] at hp
  cases hd:sel[i]? with
  | none=>rw [hd] at hp;cases hp
  | some d=>rw [hd] at hp;exact ⟨d,rfl,hp⟩
 have gcs':∀ i d,sel[i]? = some d → gc i = g d:=fun i d hd=>by simp only [gc,hd,Option.bind_some]
 have hOc:∀ b,MO gc h' b → ∃ d cap,d ∈ sel ∧ live H d ∧ g d = some (b,cap):=fun b ⟨i,cap,hl,hg⟩=>by
  obtain ⟨d,h1,h2⟩:=gcs i _ hg
  exact ⟨d,cap,List.mem_of_getElem? h1,selLive i d h1,h2⟩
 have hMc:∀ b,MM Fc gc h' b → MM F g H b:=by
  rintro b ((hF|⟨d,cap,h1,_,_,h4⟩)|hO)
  ·exact .inl hF
  ·exact .inr ⟨d,cap,h1,h4⟩
  ·obtain ⟨d,cap,_,h1,h2⟩:=hOc b hO
   exact .inr ⟨d,cap,h1,h2⟩
 have hσ:∀ d i p,sel[i]? = some d → g d = some p → gc i = some p:=fun d i p h1 h2=>by rw [gcs' i d h1];exact h2
 have notO:∀ d b cap,live H d → d ∉ sel → g d = some (b,cap) → ¬ MO gc h' b:=fun d b cap hl hn hg hO=>by
  obtain ⟨d',cap',h1,h2,h3⟩:=hOc b hO
  exact hn (k.inj d d' b cap cap' hl h2 hg h3 ▸ h1)
 have hB:∀ d b cap,d ∈ B → live H d → g d = some (b,cap) → ¬ MM Fc gc h' b:=by
  rintro d b cap hdB hl hg ((hF|⟨d',cap',h1,_,h3,h4⟩)|hO)
  ·exact (k.fr b hF).2 ⟨d,cap,hl,hg⟩
  ·exact h3 (k.inj d d' b cap cap' hl h1 hg h4 ▸ hdB)
  ·exact notO d b cap hl (hBs d hdB) hg hO
 have kc:HOK Fc gc w h':=by
  refine HOK.of_all (fun i hi=>?_) (fun i hl=>?_) (fun i j b c c' h1 h2 e1 e2=>?_) (fun i b cap x hx hg=>?_) (fun b hF=>?_)
  ·simp only [gc,List.getElem?_eq_none (show sel.length ≤ i by omega),Option.bind_none]
  ·obtain ⟨d,h1,h2⟩:=liveSel i hl
   obtain ⟨p,hp⟩:=k.lv d h2
   exact ⟨p,hσ d i p h1 hp⟩
  ·obtain ⟨d,a1,a2⟩:=gcs i _ e1
   obtain ⟨d',b1,b2⟩:=gcs j _ e2
   have:=k.inj d d' b c c' (selLive i d a1) (selLive j d' b1) a2 b2
   subst this
   have hi:i < sel.length:=by
    rcases Nat.lt_or_ge i sel.length with h|h
    ·exact h
    ·rw [List.getElem?_eq_none h] at a1;cases a1
   exact (List.getElem?_inj hi hnd).1 (a1.trans b1.symm)
  ·obtain ⟨d,a1,a2⟩:=gcs i _ hg
   obtain ⟨x2,y,a3,a4,a5,a6⟩:=selH i d a1
   rw [hx] at a3
   injection a3 with a3
   subst a3
   exact a6.ok k hMc hσ (fun _ _ _ h=>h.elim) (k.all a4 a2)
  ·rcases hF with hF|⟨d,cap,h1,h2,h3,h4⟩
   ·exact ⟨(k.fr b hF).1,fun hO=>by obtain ⟨d,cap,_,h1,h2⟩:=hOc b hO;exact (k.fr b hF).2 ⟨d,cap,h1,h2⟩⟩
   ·exact ⟨k.olt ⟨d,cap,h1,h4⟩,notO d b cap h1 h2 h4⟩
 obtain ⟨hl0,hget⟩:=hx.get
 refine (con.2 Fc gc w vs kc (by omega) (fun i y hy=>?_)).mono ?_
 ·obtain ⟨x,h1,h2⟩:=hget i y hy
  exact h2.rep k hMc hσ hB (hv i x h1)
 rintro en w' ⟨v,r,h2,g2,rfl,T,hr,hk⟩
 obtain ⟨hle,hfl,hKr⟩:=hK r h2 hk
 have selLt:∀ i d,sel[i]? = some d → d < H.length:=fun i d hd=>by
  obtain ⟨y,hy,_⟩:=selLive i d hd
  rcases Nat.lt_or_ge d H.length with h|h
  ·exact h
  ·rw [List.getElem?_eq_none h] at hy;cases hy
 let G:GM:=fun d=>if d < H.length then g d else g2 (d - H.length + sel.length)
 have Gold:∀ d,d < H.length → G d = g d:=fun d hd=>by simp only [G,if_pos hd]
 have tau_sel:∀ i d,sel[i]? = some d → tau sel H.length i = d:=fun i d hd=>by simp only [tau,hd]
 have tau_new:∀ i,sel.length ≤ i → tau sel H.length i = H.length + (i - sel.length):=fun i hi=>by simp only [tau,List.getElem?_eq_none hi]
 have Gtau:∀ i p,g2 i = some p → G (tau sel H.length i) = some p:=fun i p hp=>by
  rcases Nat.lt_or_ge i sel.length with hi|hi
  ·have hd:sel[i]? = some sel[i]:=List.getElem?_eq_getElem hi
   rw [tau_sel i _ hd,Gold _ (selLt i _ hd)]
   obtain ⟨q,hq⟩:=k.lv _ (selLive i _ hd)
   have:=T.gle i q (hσ _ i q hd hq)
   rw [hp] at this
   injection this with this
   rw [this];exact hq
  ·rw [tau_new i hi]
   simp only [G,if_neg (show ¬ H.length + (i - sel.length) < H.length by omega)]
   rw [show H.length + (i - sel.length) - H.length + sel.length = i by omega]
   exact hp
 have len2:(put sel H h2).length = H.length + (h2.length - sel.length):=puts_len sel h2 H hle
 have at_tau:∀ i,(put sel H h2)[tau sel H.length i]? = (h2[i]?).map (renB sel H.length):=fun i=>by
  rcases Nat.lt_or_ge i sel.length with hi|hi
  ·have hd:sel[i]? = some sel[i]:=List.getElem?_eq_getElem hi
   rw [tau_sel i _ hd]
   exact puts_sel sel h2 H i _ hnd hle hd (selLt i _ hd)
  ·rw [tau_new i hi]
   exact puts_new sel h2 H i hle hi
 have at_out:∀ d,d < H.length → d ∉ sel → (put sel H h2)[d]? = H[d]?:=fun d hd hn=>puts_out sel h2 H d hd hn
 have ofD:∀ d x,(put sel H h2)[d]? = some x → (∃ i y,d = tau sel H.length i ∧ h2[i]? = some y ∧ x = renB sel H.length y) ∨ (d < H.length ∧ d ∉ sel ∧ H[d]? = some x):=fun d x hx=>by
  by_cases hd:d < H.length
  ·by_cases hs:d ∈ sel
   ·obtain ⟨i,hi⟩:=List.getElem?_of_mem hs
    have:=at_tau i
    rw [tau_sel i d hi,hx] at this
    cases hy:h2[i]? with
    | none=>rw [hy] at this;cases this
    | some y =>
     rw [hy] at this
     injection this with this
     exact .inl ⟨i,y,(tau_sel i d hi).symm,hy,this⟩
   ·exact .inr ⟨hd,hs,by rw [← at_out d hd hs];exact hx⟩
  ·have e1:d = tau sel H.length (d - H.length + sel.length):=by rw [tau_new _ (by omega)];omega
   have:=at_tau (d - H.length + sel.length)
   rw [← e1,hx] at this
   cases hy:h2[d - H.length + sel.length]? with
   | none=>rw [hy] at this;cases this
   | some y =>
    rw [hy] at this
    injection this with this
    exact .inl ⟨_,y,e1,hy,this⟩
 have renLive:∀ y,(renB sel H.length y).live ↔ y.live:=fun y=>by cases y <;> exact Iff.rfl
 have liveD:∀ d,live (put sel H h2) d → (∃ i,d = tau sel H.length i ∧ live h2 i) ∨ (d < H.length ∧ d ∉ sel ∧ live H d):=fun d ⟨x,hx,hl⟩=>by
  rcases ofD d x hx with ⟨i,y,h1,h3,rfl⟩|⟨h1,h3,h4⟩
  ·exact .inl ⟨i,h1,y,h3,(renLive y).1 hl⟩
  ·exact .inr ⟨h1,h3,x,h4,hl⟩
 have Gt:∀ i,live h2 i → ∀ p,G (tau sel H.length i) = some p → g2 i = some p:=fun i hl p hp=>by
  obtain ⟨q,hq⟩:=T.ok.lv i hl
  rw [Gtau i q hq] at hp
  rw [hq];exact hp
 have outO:∀ d b cap,live H d → d ∉ sel → g d = some (b,cap) → ¬ MO g2 h2 b:=fun d b cap hl hn hg hO=>by
  rcases T.new b hO with h|h
  ·exact notO d b cap hl hn hg h
  ·have:=k.olt ⟨d,cap,hl,hg⟩;omega
 have MOof:∀ b,MO G (put sel H h2) b → MO g2 h2 b ∨ ∃ d cap,d < H.length ∧ d ∉ sel ∧ live H d ∧ g d = some (b,cap):=fun b ⟨d,cap,hl,hg⟩=>by
  rcases liveD d hl with ⟨i,rfl,hli⟩|⟨h1,h3,h4⟩
  ·exact .inl ⟨i,cap,hli,Gt i hli _ hg⟩
  ·exact .inr ⟨d,cap,h1,h3,h4,by rw [← Gold d h1];exact hg⟩
 have MOold:∀ b,b < w.heap.size → MO G (put sel H h2) b → MO g H b:=fun b hb hO=>by
  rcases MOof b hO with h|⟨d,cap,h1,_,h3,h4⟩
  ·rcases T.new b h with h|h
   ·obtain ⟨d,cap,_,h1,h2⟩:=hOc b h
    exact ⟨d,cap,h1,h2⟩
   ·omega
  ·exact ⟨d,cap,h3,h4⟩
 have trans:∀ (v:AV) (u:Value),(B = [] ∨ v.flat) → rep (MM Fc g2 h2) w' v g2 u → rep (MM F G (put sel H h2)) w' (ren sel H.length v) G u:=fun v u hf h=>by
  have h1:rep (MM F G (put sel H h2)) w' v g2 u:=by
   rcases hf with hB0|hf
   ·refine rep_mono (Chg.refl _ w') (fun b _ hM=>?_) v (GM.le_refl _) h
    rcases hM with hF|hO
    ·exact .inl (.inl hF)
    ·rcases MOof b hO with h|⟨d,cap,a1,a2,a3,a4⟩
     ·exact .inr h
     ·exact .inl (.inr ⟨d,cap,a3,a2,by rw [hB0];simp,a4⟩)
   ·exact rep_flat v hf h
  exact rep_ren v Gtau h1
 have GT:Tr F g H w G (put sel H h2) w':=by
  refine ⟨HOK.of_all (fun d hd=>?_) (fun d hl=>?_) (fun d d' b c c' l1 l2 e1 e2=>?_) (fun d b cap x hx hg=>?_) (fun b hF=>?_),fun d p hp=>?_,?_,fun b hO=>?_⟩
  ·rw [len2] at hd
   simp only [G,if_neg (show ¬ d < H.length by omega)]
   exact T.ok.dom _ (by omega)
  ·rcases liveD d hl with ⟨i,rfl,hli⟩|⟨h1,h3,h4⟩
   ·obtain ⟨p,hp⟩:=T.ok.lv i hli
    exact ⟨p,Gtau i p hp⟩
   ·rw [Gold d h1];exact k.lv d h4
  ·rcases liveD d l1 with ⟨i,rfl,hli⟩|⟨h1,h3,h4⟩ <;> rcases liveD d' l2 with ⟨j,rfl,hlj⟩|⟨h1',h3',h4'⟩
   ·have:=T.ok.inj i j b c c' hli hlj (Gt i hli _ e1) (Gt j hlj _ e2)
    rw [this]
   ·rw [Gold d' h1'] at e2
    exact (outO d' b c' h4' h3' e2 ⟨i,c,hli,Gt i hli _ e1⟩).elim
   ·rw [Gold d h1] at e1
    exact (outO d b c h4 h3 e1 ⟨j,c',hlj,Gt j hlj _ e2⟩).elim
   ·rw [Gold d h1] at e1
    rw [Gold d' h1'] at e2
    exact k.inj d d' b c c' h4 h4' e1 e2
  ·by_cases hxl:x.live
   ·rcases ofD d x hx with ⟨i,y,rfl,hy,rfl⟩|⟨h1,h3,h4⟩
    ·have hyl:live h2 i:=⟨y,hy,(renLive y).1 hxl⟩
     have hg2:=Gt i hyl _ hg
     have hall:=T.ok.all hy hg2
     have hyf:B = [] ∨ y.flat:=hfl.imp id (fun h=>h.2 y (List.mem_of_getElem? hy))
     cases y with
     | dead=>trivial
     | box m c =>
      obtain ⟨cs,t,b1,b2,b3⟩:=hall
      refine ⟨cs,t,b1,b2,fun j hj=>?_⟩
      obtain ⟨u,c1,c2,c3⟩:=b3 j hj
      exact ⟨u,c1,c2,by rw [tab_get hj];exact trans _ _ (hyf.imp id (fun h=>h j hj)) c3⟩
     | row n sz c =>
      obtain ⟨b0,b0',cs,t,b1,b2,b3⟩:=hall
      refine ⟨b0,b0',cs,t,b1,b2,fun kk hkk o ho=>?_⟩
      obtain ⟨u,c1,c2,c3⟩:=b3 kk hkk o ho
      refine ⟨u,c1,c2,?_⟩
      rcases hyf with hB0|hf
      ·refine rep_mono (Chg.refl _ w') (fun b _ hM=>?_) _ (GM.le_refl _) c3
       rcases hM with hF|hO
       ·exact .inl (.inl hF)
       ·rcases MOof b hO with h|⟨d,cap,a1,a2,a3,a4⟩
        ·exact .inr h
        ·exact .inl (.inr ⟨d,cap,a3,a2,by rw [hB0];simp,a4⟩)
      ·exact rep_flat _ (hf kk hkk o ho) c3
     | mp kt L =>
      obtain ⟨es,b1,b2⟩:=hall
      refine ⟨es,b1,b2.len,fun j hj=>?_,b2.nod,b2.one⟩
      obtain ⟨e,c1,c2,c3,c4⟩:=b2.ent j hj
      refine ⟨e,c1,c2,c3,?_⟩
      rcases hyf with hB0|hf
      ·refine rep_mono (Chg.refl _ w') (fun b _ hM=>?_) _ (GM.le_refl _) c4
       rcases hM with hF|hO
       ·exact .inl (.inl hF)
       ·rcases MOof b hO with h|⟨d,cap,a1,a2,a3,a4⟩
        ·exact .inr h
        ·exact .inl (.inr ⟨d,cap,a3,a2,by rw [hB0];simp,a4⟩)
      ·exact rep_flat _ (hf (L.getD j default) (by simp only [List.getD,List.getElem?_eq_getElem hj,Option.getD_some];exact List.getElem_mem hj)) c4
     | mit m n s =>
      obtain ⟨b1,b2,mb,b3,b4⟩:=hall
      exact ⟨b1,b2,mb,trans _ _ (hyf.imp id (fun h=>h)) b3,b4⟩
     | rwg n sz c =>
      obtain ⟨b0,b0',cs,t,b1,b2,b3⟩:=hall
      refine ⟨b0,b0',cs,t,b1,b2,fun kk hkk o ho=>?_⟩
      obtain ⟨u,c1,c2,c3⟩:=b3 kk hkk o ho
      exact ⟨u,c1,c2,trans _ _ (hyf.imp id (fun h=>h kk hkk o ho)) c3⟩
    ·rw [Gold d h1] at hg
     have hl:live H d:=⟨x,h4,hxl⟩
     have hb:b < w.heap.size:=k.olt ⟨d,cap,hl,hg⟩
     refine (k.all h4 hg).mono (g':=G) (T.chg.weak (fun y _ hO=>?_)) (fun y hy hM=>?_) (fun d p hp=>?_) (T.chg.block b hb (notO d b cap hl h3 hg))
     ·obtain ⟨d,cap,_,a1,a2⟩:=hOc y hO
      exact .inr ⟨d,cap,a1,a2⟩
     ·exact hM.imp id (MOold y hy)
     ·rw [Gold d (k.lt hp)];exact hp
   ·cases x with
    | dead=>trivial
    | box=>exact (hxl trivial).elim
    | row=>exact (hxl trivial).elim
    | mp=>exact (hxl trivial).elim
    | mit=>exact (hxl trivial).elim
    | rwg=>exact (hxl trivial).elim
  ·have hb:=(k.fr b hF).1
   exact ⟨Nat.lt_of_lt_of_le hb T.chg.size,fun hO=>(k.fr b hF).2 (MOold b hb hO)⟩
  ·rw [Gold d (k.lt hp)];exact hp
  ·exact T.chg.weak fun y _ hO=>by obtain ⟨d,cap,_,a1,a2⟩:=hOc y hO;exact ⟨d,cap,a1,a2⟩
  ·rcases Nat.lt_or_ge b w.heap.size with hb|hb
   ·exact .inl (MOold b hb hO)
   ·exact .inr hb
 exact ⟨v,_,_,G,rfl,GT,trans r v (hfl.imp id (fun h=>h.1)) hr,hKr⟩
end Go.Proofs.YtodpjdmdmmnlpaaGreat
