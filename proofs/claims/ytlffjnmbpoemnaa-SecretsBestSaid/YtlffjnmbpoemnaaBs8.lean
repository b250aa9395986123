/- Secrets: the search for a way / Secrets: words for queues and ways in memory. / Secrets: words for rows of own rows and for the steps of a way. / Secrets: what Range, Safe and Other give. / Secrets: words for the program's search for a way. / Secrets: plain steps of the program's search for a way. / Secrets: Clone and begin of the program. / Secrets: plain words for the program's push. -/
import Derived.Test.YtlffjnmbpoemnaaBs7
set_option linter.unusedSimpArgs false
set_option linter.unusedVariables false
namespace Go.Proofs.Ytlffjnmbpoemnaa

/-- Rows have their numbers, columns follow. -/
def nd (R k:Nat):Nd:=if k < R then (true,k) else (false,k - R)
/-- The amount of a step. -/
def cellOf (R a b:Nat):Nat × Nat:=if a < R then (a,b - R) else (b,a - R)
/-- The graph of a search: x: the amounts; dr: the steps from rows take away, else those from columns. -/
structure Gr where
 R:Nat
 C:Nat
 m:List Int
 r0:Nat
 c0:Nat
 x:Nat → Nat → Int
 dr:Bool
def Gr.N (g:Gr):Nat:=g.R + g.C
def Gr.al (g:Gr) (a b:Nat):Bool:=decide ((a < g.R ∧ g.R ≤ b) ∨ (g.R ≤ a ∧ b < g.R)) && outS g.m (cellOf g.R a b).1 (cellOf g.R a b).2 && !decide ((cellOf g.R a b).1 = g.r0 ∧ (cellOf g.R a b).2 = g.c0)
def Gr.cap (g:Gr) (a b:Nat):Int:=if decide (a < g.R) = g.dr then g.x (cellOf g.R a b).1 (cellOf g.R a b).2 else 1099511627776
def Gr.adj (g:Gr) (a b:Nat):Bool:=g.al a b && decide (0 < g.cap a b)
abbrev Pth := Nat → List (Nat × Int)
def Pth.set (P:Pth) (j:Nat) (l:List (Nat × Int)):Pth:=fun k=>if k = j then l else P k
theorem Pth.set_at (P:Pth) (j:Nat) (l:List (Nat × Int)):P.set j l j = l:=if_pos rfl
theorem Pth.set_ne {P:Pth} {j k:Nat} {l:List (Nat × Int)} (h:k ≠ j):P.set j l k = P k:=if_neg h
/-- How a node was come to: P k is the way to k, the last node first, with how much can be shifted up to there. -/
structure Tree (g:Gr) (f:Nat) (P:Pth):Prop where
 fr:∃ v,P f = [(f,v)]
 tr:∀ k,P k ≠ [] → k < g.N ∧ ((P k).map (·.1)).Nodup ∧ ∃ v t,P k = (k,v) :: t ∧ 1 ≤ v ∧ v ≤ 1099511627776 ∧ (k = f ∧ t = [] ∨ ∃ b w u,b < g.N ∧ t = P b ∧ P b = (b,w) :: u ∧ g.adj b k = true ∧ v ≤ w ∧ v ≤ g.cap b k)
theorem Tree.mem {g:Gr} {f:Nat} {P:Pth} (h:Tree g f P):∀ (n k:Nat),(P k).length ≤ n → ∀ i v,(i,v) ∈ P k → P i ≠ []
 | 0,k,hn,i,v,hi=>by
  rw [List.eq_nil_of_length_eq_zero (show (P k).length = 0 by omega)] at hi;cases hi
 | n + 1,k,hn,i,v,hi=>by
  have hne:P k ≠ []:=fun e=>by rw [e] at hi;cases hi
  obtain ⟨_,_,v',t,e,_,_,ht⟩:=h.tr k hne
  rw [e] at hi hn
  rcases List.mem_cons.1 hi with hi|hi
  ·injection hi with a b;rw [a];exact hne
  ·rcases ht with ⟨_,rfl⟩|⟨b,w,u,_,rfl,_⟩
   ·cases hi
   ·exact h.mem n b (by simp at hn;omega) i v hi
/-- The search: l is the queue. -/
structure Bfs (g:Gr) (f:Nat) (P:Pth) (l:List Nat):Prop extends Tree g f P where
 qs:∀ k,k ∈ l → P k ≠ []
 dn:∀ k,P k ≠ [] → k ∉ l → ∀ j,j < g.N → g.adj k j = true → P j ≠ []
theorem Bfs.begin {g:Gr} {f:Nat} (hf:f < g.N) {v:Int} (hv:1 ≤ v) (hv2:v ≤ 1099511627776):Bfs g f (Pth.set (fun _=>[]) f [(f,v)]) [f]:=by
 refine ⟨⟨⟨v,Pth.set_at _ _ _⟩,fun k hk=>?_⟩,fun k hk=>?_,fun k hk hn=>?_⟩
 ·by_cases e:k = f
  ·subst e
   rw [Pth.set_at]
   exact ⟨hf,by simp,v,[],rfl,hv,hv2,.inl ⟨rfl,rfl⟩⟩
  ·rw [Pth.set_ne e] at hk;exact (hk rfl).elim
 ·rw [List.mem_singleton.1 hk,Pth.set_at];simp
 ·by_cases e:k = f
  ·exact (hn (by rw [e];exact List.mem_cons_self)).elim
  ·rw [Pth.set_ne e] at hk;exact (hk rfl).elim
theorem Bfs.push {g:Gr} {f h j:Nat} {P:Pth} {l:List Nat} {v w:Int} {u:List (Nat × Int)} (B:Bfs g f P (h :: l)) (hj:j < g.N) (hn:P j = []) (he:P h = (h,w) :: u) (ha:g.adj h j = true) (h1:1 ≤ v) (h2:v ≤ w) (h3:v ≤ g.cap h j) :
  Bfs g f (P.set j ((j,v) :: P h)) (h :: (l ++ [j])):=by
 have hjh:h ≠ j:=fun e=>by rw [← e,he] at hn;cases hn
 have keep:∀ k,P k ≠ [] → P.set j ((j,v) :: P h) k = P k:=fun k hk=>Pth.set_ne fun e=>hk (by rw [e];exact hn)
 have up:∀ k,P k ≠ [] → P.set j ((j,v) :: P h) k ≠ []:=fun k hk=>by rw [keep k hk];exact hk
 have hhne:P h ≠ []:=by rw [he];simp
 have hw:=B.tr h hhne
 refine ⟨⟨?_,fun k hk=>?_⟩,fun k hk=>?_,fun k hk hl i hi hadj=>?_⟩
 ·obtain ⟨v0,h0⟩:=B.fr
  exact ⟨v0,by rw [keep f (by rw [h0];simp)];exact h0⟩
 ·by_cases e:k = j
  ·subst e
   rw [Pth.set_at]
   refine ⟨hj,?_,v,P h,rfl,h1,?_,.inr ⟨h,w,u,hw.1,(keep h hhne).symm,by rw [keep h hhne];exact he,ha,h2,h3⟩⟩
   ·rw [List.map_cons,List.nodup_cons]
    refine ⟨fun hm=>?_,hw.2.1⟩
    obtain ⟨⟨i,z⟩,hi,hz⟩:=List.mem_map.1 hm
    simp only at hz
    subst hz
    exact B.mem _ h (Nat.le_refl _) i z hi hn
   ·obtain ⟨v',t,e',_,hv',_⟩:=hw.2.2
    rw [he] at e'
    injection e' with e' _
    injection e' with _ e'
    omega
  ·rw [Pth.set_ne e] at hk ⊢
   obtain ⟨a,b,v',t,e1,e2,e2',e3⟩:=B.tr k hk
   refine ⟨a,b,v',t,e1,e2,e2',e3.imp id fun ⟨b,w',u',hb,f1,f2,f3⟩=>⟨b,w',u',hb,?_,?_,f3⟩⟩
   ·rw [keep b (by rw [f2];simp)];exact f1
   ·rw [keep b (by rw [f2];simp)];exact f2
 ·rcases List.mem_cons.1 hk with rfl|hk
  ·exact up _ hhne
  ·rcases List.mem_append.1 hk with hk|hk
   ·exact up k (B.qs k (List.mem_cons_of_mem _ hk))
   ·rw [List.mem_singleton.1 hk,Pth.set_at];simp
 ·by_cases e:k = j
  ·subst e;exact (hl (by simp)).elim
  ·rw [Pth.set_ne e] at hk
   exact up i (B.dn k hk (fun hm=>hl (by rcases List.mem_cons.1 hm with h|h <;> simp [h])) i hi hadj)
theorem Bfs.pop {g:Gr} {f h:Nat} {P:Pth} {l:List Nat} (B:Bfs g f P (h :: l)) (hd:∀ j,j < g.N → g.adj h j = true → P j ≠ []):Bfs g f P l:=by
 refine ⟨B.toTree,fun k hk=>B.qs k (List.mem_cons_of_mem _ hk),fun k hk hl j hj ha=>?_⟩
 by_cases e:k = h
 ·subst e;exact hd j hj ha
 ·exact B.dn k hk (fun hm=>(List.mem_cons.1 hm).elim (fun h=>e h) hl) j hj ha
/-- How many nodes were not come to. -/
def unv (P:Pth):Nat → Nat
 | 0=>0
 | k + 1=>unv P k + if P k = [] then 1 else 0
theorem unv_le (P:Pth):∀ n,unv P n ≤ n
 | 0=>Nat.le_refl _
 | k + 1=>by
  have:=unv_le P k
  simp only [unv]
  split <;> omega
theorem unv_set {P:Pth} {j:Nat} {q:Nat × Int} {l:List (Nat × Int)} (hn:P j = []):∀ n,unv (P.set j (q :: l)) n + (if j < n then 1 else 0) = unv P n
 | 0=>by simp [unv]
 | k + 1=>by
  have ih:=unv_set (q:=q) (l:=l) hn k
  simp only [unv]
  by_cases e:k = j
  ·subst e
   rw [Pth.set_at,if_neg (by simp),hn,if_pos rfl,if_pos (Nat.lt_succ_self k)]
   rw [if_neg (Nat.lt_irrefl k)] at ih
   omega
  ·rw [Pth.set_ne e]
   by_cases hjk:j < k
   ·rw [if_pos hjk] at ih
    rw [if_pos (show j < k + 1 by omega)]
    omega
   ·rw [if_neg hjk] at ih
    rw [if_neg (show ¬ j < k + 1 by omega)]
    omega
theorem unv_push {P:Pth} {j n:Nat} {q:Nat × Int} {l:List (Nat × Int)} (hn:P j = []) (hj:j < n):unv (P.set j (q :: l)) n + 1 = unv P n:=by
 have:=unv_set (q:=q) (l:=l) hn n
 rw [if_pos hj] at this
 exact this
/-- The way as nodes. -/
def nds (R:Nat) (p:List (Nat × Int)):List Nd:=p.map fun q=>nd R q.1
theorem nd_row {R k:Nat} (h:k < R):nd R k = (true,k):=if_pos h
theorem nd_col (R c:Nat):nd R (R + c) = (false,c):=by unfold nd;rw [if_neg (by omega),show R + c - R = c by omega]
theorem nd_inj {R:Nat}:Function.Injective (nd R):=fun a b h=>by
 unfold nd at h
 split at h <;> split at h <;> injection h with h1 h2 <;> first|omega|cases h1
theorem nodup_map_inj {α β:Type} {f:α → β} (hf:Function.Injective f):∀ {l:List α},l.Nodup → (l.map f).Nodup
 | [],_=>List.nodup_nil
 | a :: t,h=>by
  rw [List.nodup_cons] at h
  rw [List.map_cons,List.nodup_cons]
  refine ⟨fun hm=>?_,nodup_map_inj hf h.2⟩
  obtain ⟨b,hb,e⟩:=List.mem_map.1 hm
  exact h.1 (hf e ▸ hb)
/-- What is known of a way whose last node stands first. -/
structure Chn (g:Gr) (f:Nat) (p:List (Nat × Int)):Prop where
 ne:p ≠ []
 nod:(p.map (·.1)).Nodup
 lt:∀ q,q ∈ p → q.1 < g.N
 last:(p.getLast ne).1 = f
 stp:∀ e,e ∈ stepsB (nds g.R p) → ∃ a b,e = (nd g.R a,nd g.R b) ∧ g.adj a b = true ∧ (p.head ne).2 ≤ g.cap a b
 pos:1 ≤ (p.head ne).2
theorem Tree.chn {g:Gr} {f:Nat} {P:Pth} (h:Tree g f P):∀ (n k:Nat),(P k).length ≤ n → P k ≠ [] → Chn g f (P k)
 | 0,k,hn,hk=>(hk (List.eq_nil_of_length_eq_zero (by omega))).elim
 | n + 1,k,hn,hk=>by
  obtain ⟨h1,h2,v,t,e,hv,_,ht⟩:=h.tr k hk
  rcases ht with ⟨rfl,rfl⟩|⟨b,w,u,hb,rfl,e2,ha,hvw,hvc⟩
  ·refine ⟨hk,h2,fun q hq=>?_,?_,fun x hx=>?_,?_⟩
   ·rw [e] at hq;rw [List.mem_singleton.1 hq];exact h1
   ·simp [e]
   ·rw [e] at hx;cases hx
   ·simp [e];exact hv
  ·have hbn:P b ≠ []:=by rw [e2];simp
   have ih:=h.chn n b (by rw [e] at hn;simp at hn;omega) hbn
   refine ⟨hk,h2,fun q hq=>?_,?_,fun x hx=>?_,?_⟩
   ·rw [e] at hq
    rcases List.mem_cons.1 hq with rfl|hq
    ·exact h1
    ·exact ih.lt q hq
   ·simp only [e]
    rw [List.getLast_cons hbn]
    exact ih.last
   ·have hs:stepsB (nds g.R (P k)) = (nd g.R b,nd g.R k) :: stepsB (nds g.R (P b)):=by
     rw [e,e2];rfl
    rw [hs] at hx
    have hh:((P k).head hk).2 = v:=by simp [e]
    have hh2:((P b).head hbn).2 = w:=by simp [e2]
    rw [hh]
    rcases List.mem_cons.1 hx with rfl|hx
    ·exact ⟨b,k,rfl,ha,hvc⟩
    ·obtain ⟨a',b',e',a1,a2⟩:=ih.stp x hx
     exact ⟨a',b',e',a1,by rw [hh2] at a2;omega⟩
   ·simp [e];exact hv
theorem Tree.chn' {g:Gr} {f k:Nat} {P:Pth} (h:Tree g f P) (hk:P k ≠ []):Chn g f (P k):=h.chn _ k (Nat.le_refl _) hk
/-- One step more. -/
theorem Chn.cons {g:Gr} {f b k:Nat} {v w:Int} {u:List (Nat × Int)} (ih:Chn g f ((b,w) :: u)) (hk:k < g.N) (hn:k ∉ ((b,w) :: u).map (·.1)) (ha:g.adj b k = true) (hv:1 ≤ v) (hvw:v ≤ w) (hvc:v ≤ g.cap b k):Chn g f ((k,v) :: (b,w) :: u):=by
 refine ⟨by simp,by rw [List.map_cons];exact List.nodup_cons.2 ⟨hn,ih.nod⟩,fun q hq=>?_,?_,fun x hx=>?_,hv⟩
 ·rcases List.mem_cons.1 hq with rfl|hq
  ·exact hk
  ·exact ih.lt q hq
 ·rw [List.getLast_cons (by simp)];exact ih.last
 ·have hs:stepsB (nds g.R ((k,v) :: (b,w) :: u)) = (nd g.R b,nd g.R k) :: stepsB (nds g.R ((b,w) :: u)):=rfl
  rw [hs] at hx
  rcases List.mem_cons.1 hx with rfl|hx
  ·exact ⟨b,k,rfl,ha,hvc⟩
  ·obtain ⟨a',b',e',a1,a2⟩:=ih.stp x hx
   exact ⟨a',b',e',a1,by simp only [List.head_cons] at a2 ⊢;omega⟩
theorem al_d {g:Gr} {a b:Nat} (h:g.al a b = true):((a < g.R ∧ g.R ≤ b) ∨ (g.R ≤ a ∧ b < g.R)) ∧ outS g.m (cellOf g.R a b).1 (cellOf g.R a b).2 = true ∧ ¬ ((cellOf g.R a b).1 = g.r0 ∧ (cellOf g.R a b).2 = g.c0):=by
 unfold Gr.al at h
 simp only [Bool.and_eq_true,decide_eq_true_eq,Bool.not_eq_true',decide_eq_false_iff_not] at h
 exact ⟨h.1.1,h.1.2,h.2⟩
theorem adj_d {g:Gr} {a b:Nat} (h:g.adj a b = true):g.al a b = true ∧ 0 < g.cap a b:=by
 unfold Gr.adj at h
 simpa only [Bool.and_eq_true,decide_eq_true_eq] using h
/-- A way that was found shifts the amount. down: it begins with the row. -/
theorem Chn.way {g:Gr} {s:Sheet} {down:Bool} {p:List (Nat × Int)} {f t:Nat} (hR:g.R = s.R) (hC:g.C = s.C) (h:Chn g f p) (hf:f = if down then g.r0 else g.R + g.c0) (ht:t = if down then g.R + g.c0 else g.r0) (hr:g.r0 < s.R) (hp:(p.head h.ne).1 = t):WayFor s g.m g.r0 g.c0 down (nds g.R p):=by
 have hne:nds g.R p ≠ []:=by unfold nds;simpa using h.ne
 refine ⟨⟨?_,fun u hu=>?_,fun e he=>?_⟩,hne,?_,?_,fun r c hrc=>?_⟩
 ·unfold nds
  have:=nodup_map_inj (nd_inj (R:=g.R)) h.nod
  rwa [List.map_map] at this
 ·obtain ⟨q,hq,rfl⟩:=List.mem_map.1 hu
  have hlt:q.1 < g.R + g.C:=h.lt q hq
  unfold nd
  by_cases hk:q.1 < g.R
  ·rw [if_pos hk];simp;omega
  ·rw [if_neg hk];simp;omega
 ·obtain ⟨a,b,rfl,h1,_⟩:=h.stp e he
  have:=(al_d (adj_d h1).1).1
  rcases this with ⟨x,y⟩|⟨x,y⟩
  ·unfold nd;rw [if_pos x,if_neg (by omega)];rfl
  ·unfold nd;rw [if_neg (by omega),if_pos y];rfl
 ·have e1:(nds g.R p).getLast hne = nd g.R (p.getLast h.ne).1:=List.getLast_map (l:=p) (f:=fun q:Nat × Int=>nd g.R q.1) hne
  rw [e1,h.last,hf]
  cases down
  ·simp only [Bool.false_eq_true,if_false];exact nd_col _ _
  ·simp only [if_true];exact nd_row (by omega)
 ·have e1:(nds g.R p).head hne = nd g.R (p.head h.ne).1:=List.head_map (l:=p) (f:=fun q:Nat × Int=>nd g.R q.1) hne
  rw [e1,hp,ht]
  cases down
  ·simp only [Bool.false_eq_true,if_false];exact nd_row (by omega)
  ·simp only [if_true];exact nd_col _ _
 ·have key:∀ a b,g.adj a b = true → ((nd g.R a = (true,r) ∧ nd g.R b = (false,c)) ∨ (nd g.R a = (false,c) ∧ nd g.R b = (true,r))) → outS g.m r c = true ∧ ¬ (r = g.r0 ∧ c = g.c0):=by
   intro a b hab hh
   obtain ⟨k1,k2,k3⟩:=al_d (adj_d hab).1
   have e1:cellOf g.R a b = (r,c):=by
    unfold nd at hh
    unfold cellOf
    rcases k1 with ⟨x,y⟩|⟨x,y⟩
    ·rw [if_pos x,if_neg (by omega)] at hh
     rw [if_pos x]
     rcases hh with ⟨h1,h2⟩|⟨h1,h2⟩
     ·injection h1 with _ h1;injection h2 with _ h2;rw [h1,h2]
     ·cases h1
    ·rw [if_neg (by omega),if_pos y] at hh
     rw [if_neg (by omega)]
     rcases hh with ⟨h1,h2⟩|⟨h1,h2⟩
     ·cases h1
     ·injection h1 with _ h1;injection h2 with _ h2;rw [h1,h2]
   rw [e1] at k2 k3
   exact ⟨k2,k3⟩
  rcases hrc with hm|hm
  ·obtain ⟨a,b,e,h1,_⟩:=h.stp _ hm
   injection e with e1 e2
   exact key a b h1 (.inl ⟨e1.symm,e2.symm⟩)
  ·obtain ⟨a,b,e,h1,_⟩:=h.stp _ hm
   injection e with e1 e2
   exact key a b h1 (.inr ⟨e1.symm,e2.symm⟩)
theorem nd_of_row {R a r:Nat} (h:nd R a = (true,r)):a = r ∧ a < R:=by
 unfold nd at h
 split at h
 ·injection h with _ h;exact ⟨h,by omega⟩
 ·cases h
theorem nd_of_col {R a c:Nat} (h:nd R a = (false,c)):a = R + c:=by
 unfold nd at h
 split at h
 ·cases h
 ·injection h with _ h;omega
/-- What the steps of a way take away is there. -/
theorem Chn.cap_col {g:Gr} {f:Nat} {p:List (Nat × Int)} (h:Chn g f p) (hd:g.dr = false) {r c:Nat} (hm:((false,c),(true,r)) ∈ stepsB (nds g.R p)):(p.head h.ne).2 ≤ g.x r c:=by
 obtain ⟨a,b,e,h1,h2⟩:=h.stp _ hm
 injection e with e1 e2
 obtain rfl:=nd_of_col e1.symm
 obtain ⟨rfl,hb⟩:=nd_of_row e2.symm
 unfold Gr.cap cellOf at h2
 rw [if_pos (by rw [hd];exact decide_eq_false (by omega)),if_neg (show ¬ g.R + c < g.R by omega)] at h2
 simpa [show g.R + c - g.R = c by omega] using h2
theorem Chn.cap_row {g:Gr} {f:Nat} {p:List (Nat × Int)} (h:Chn g f p) (hd:g.dr = true) {r c:Nat} (hm:((true,r),(false,c)) ∈ stepsB (nds g.R p)):(p.head h.ne).2 ≤ g.x r c:=by
 obtain ⟨a,b,e,h1,h2⟩:=h.stp _ hm
 injection e with e1 e2
 obtain ⟨rfl,ha⟩:=nd_of_row e1.symm
 obtain rfl:=nd_of_col e2.symm
 unfold Gr.cap cellOf at h2
 rw [if_pos (by rw [hd];exact decide_eq_true ha),if_pos ha] at h2
 simpa [show g.R + c - g.R = c by omega] using h2
/-- Nothing leads out of a set of rows and columns. -/
structure Shut (g:Gr) (p q:Nat → Bool):Prop where
 rc:∀ r c,r < g.R → c < g.C → p r = true → q c = false → g.adj r (g.R + c) = false
 cr:∀ r c,r < g.R → c < g.C → p r = false → q c = true → g.adj (g.R + c) r = false
theorem adj_rc {g:Gr} {r c:Nat} (hr:r < g.R) (h:g.adj r (g.R + c) = false) (hn:¬ (r = g.r0 ∧ c = g.c0)):outS g.m r c = false ∨ (g.dr = true ∧ g.x r c ≤ 0):=by
 cases ho:outS g.m r c
 ·exact .inl rfl
 ·right
  have e1:cellOf g.R r (g.R + c) = (r,c):=by unfold cellOf;rw [if_pos hr,show g.R + c - g.R = c by omega]
  have hal:g.al r (g.R + c) = true:=by
   unfold Gr.al
   rw [e1]
   simp only [Bool.and_eq_true,decide_eq_true_eq,Bool.not_eq_true',decide_eq_false_iff_not]
   exact ⟨⟨.inl ⟨hr,by omega⟩,ho⟩,hn⟩
  unfold Gr.adj at h
  rw [hal,Bool.true_and,decide_eq_false_iff_not] at h
  unfold Gr.cap at h
  rw [e1] at h
  rw [decide_eq_true hr] at h
  split at h
  ·rename_i e;exact ⟨e.symm,by simp only at h;omega⟩
  ·omega
theorem adj_cr {g:Gr} {r c:Nat} (hr:r < g.R) (h:g.adj (g.R + c) r = false) (hn:¬ (r = g.r0 ∧ c = g.c0)):outS g.m r c = false ∨ (g.dr = false ∧ g.x r c ≤ 0):=by
 cases ho:outS g.m r c
 ·exact .inl rfl
 ·right
  have e1:cellOf g.R (g.R + c) r = (r,c):=by unfold cellOf;rw [if_neg (by omega),show g.R + c - g.R = c by omega]
  have hal:g.al (g.R + c) r = true:=by
   unfold Gr.al
   rw [e1]
   simp only [Bool.and_eq_true,decide_eq_true_eq,Bool.not_eq_true',decide_eq_false_iff_not]
   exact ⟨⟨.inr ⟨by omega,hr⟩,ho⟩,hn⟩
  unfold Gr.adj at h
  rw [hal,Bool.true_and,decide_eq_false_iff_not] at h
  unfold Gr.cap at h
  rw [e1] at h
  rw [decide_eq_false (show ¬ g.R + c < g.R by omega)] at h
  split at h
  ·rename_i e;exact ⟨e.symm,by simp only at h;omega⟩
  ·omega
/-- A search that did not come to its end shuts in what it came to. -/
theorem Bfs.shut {g:Gr} {f:Nat} {P:Pth} (B:Bfs g f P []):Shut g (fun r=>!(P r).isEmpty) (fun c=>!(P (g.R + c)).isEmpty):=by
 refine ⟨fun r c hr hc h1 h2=>?_,fun r c hr hc h1 h2=>?_⟩
 ·cases h:g.adj r (g.R + c)
  ·rfl
  ·exfalso
   have:=B.dn r (fun e=>by rw [e] at h1;cases h1) (by simp) (g.R + c) (by unfold Gr.N;omega) h
   cases hP:P (g.R + c) with
   | nil=>exact this hP
   | cons=>rw [hP] at h2;cases h2
 ·cases h:g.adj (g.R + c) r
  ·rfl
  ·exfalso
   have:=B.dn (g.R + c) (fun e=>by rw [e] at h2;cases h2) (by simp) r (by unfold Gr.N;omega) h
   cases hP:P r with
   | nil=>exact this hP
   | cons=>rw [hP] at h1;cases h1
section
variable {g:Gr} {s:Sheet} {p q:Nat → Bool}
theorem Shut.hi_col (hR:g.R = s.R) (hC:g.C = s.C) (S:Shut g p q) (hr0:g.r0 < s.R) (hc0:g.c0 < s.C) (hd:g.dr = false) (hp:p g.r0 = false) (hq:q g.c0 = true) (hx:Ag s g.m g.x):∀ y,Ag s g.m y → y g.r0 g.c0 ≤ g.x g.r0 g.c0:=fun y hy =>
 cut_hi1 hr0 hc0 p q hp hq
  (fun r c hr hc h1 h2=>by
   rcases adj_rc (by omega) (S.rc r c (by omega) (by omega) h1 h2) (by rintro ⟨rfl,rfl⟩;rw [hp] at h1;cases h1) with h|h
   ·exact h
   ·rw [hd] at h;cases h.1)
  (fun r c hr hc h1 h2 hn=>(adj_cr (by omega) (S.cr r c (by omega) (by omega) h1 h2) hn).imp id fun h=>by have:=hx.nn r c hr hc;omega) hx hy
theorem Shut.hi_row (hR:g.R = s.R) (hC:g.C = s.C) (S:Shut g p q) (hr0:g.r0 < s.R) (hc0:g.c0 < s.C) (hd:g.dr = true) (hp:p g.r0 = true) (hq:q g.c0 = false) (hx:Ag s g.m g.x):∀ y,Ag s g.m y → y g.r0 g.c0 ≤ g.x g.r0 g.c0:=fun y hy =>
 cut_hi2 hr0 hc0 p q hp hq
  (fun r c hr hc h1 h2 hn=>(adj_rc (by omega) (S.rc r c (by omega) (by omega) h1 h2) hn).imp id fun h=>by have:=hx.nn r c hr hc;omega)
  (fun r c hr hc h1 h2=>by
   rcases adj_cr (by omega) (S.cr r c (by omega) (by omega) h1 h2) (by rintro ⟨rfl,rfl⟩;rw [hp] at h1;cases h1) with h|h
   ·exact h
   ·rw [hd] at h;cases h.1) hx hy
theorem Shut.lo_row (hR:g.R = s.R) (hC:g.C = s.C) (S:Shut g p q) (hr0:g.r0 < s.R) (hc0:g.c0 < s.C) (hd:g.dr = false) (hp:p g.r0 = true) (hq:q g.c0 = false) (hx:Ag s g.m g.x):∀ y,Ag s g.m y → g.x g.r0 g.c0 ≤ y g.r0 g.c0:=fun y hy =>
 cut_lo hr0 hc0 p q hp hq
  (fun r c hr hc h1 h2 hn=>by
   rcases adj_rc (by omega) (S.rc r c (by omega) (by omega) h1 h2) hn with h|h
   ·exact h
   ·rw [hd] at h;cases h.1)
  (fun r c hr hc h1 h2=>(adj_cr (by omega) (S.cr r c (by omega) (by omega) h1 h2) (by rintro ⟨rfl,rfl⟩;rw [hp] at h1;cases h1)).imp id fun h=>by have:=hx.nn r c hr hc;omega) hx hy
end
end Go.Proofs.Ytlffjnmbpoemnaa

namespace Go.Proofs.Ytlffjnmbpoemnaa
open Go.RowKit

abbrev rowN (L:List Nat):AB:=.row L.length 1 (fun k _=>AI ((L.getD k 0:Nat):Int))
abbrev one0 (t:Nat):AV:=.sl false true 1 1 (fun _ _=>AI t)
theorem drop_c {L:List Nat} {k h:Nat} {l:List Nat} (e:L.drop k = h :: l):k < L.length ∧ L.getD k 0 = h ∧ L.drop (k + 1) = l ∧ L.length = k + 1 + l.length:=by
 have hk:k < L.length:=by
  rcases Nat.lt_or_ge k L.length with h'|h'
  ·exact h'
  ·rw [List.drop_eq_nil_of_le h'] at e;cases e
 rw [drop_eq 0 hk] at e
 injection e with e1 e2
 refine ⟨hk,e1,e2,?_⟩
 have:=congrArg List.length e2
 rw [List.length_drop] at this
 omega
theorem Ln.oslE {σ:Nat → Nat → Prop} {Bp:Nat → Prop} {H:List AB} {d sz lo n n' i:Nat} (h:σ d i) (e:n = n'):Ln σ Bp H (.osl d sz lo n) (.osl i sz lo n'):=e ▸ .osl d sz lo n i h
theorem Ln.osl0E {σ:Nat → Nat → Prop} {Bp:Nat → Prop} {H:List AB} {d sz n n' i:Nat} (h:σ d i) (e:n = n'):Ln σ Bp H (.own d n) (.osl i sz 0 n'):=e ▸ .osl0 d sz n i h
theorem len_sn {α:Type} {L:List α} {p:α}:(L ++ [p]).length = L.length + 1:=by simp
theorem drop_sn {α:Type} {L l:List α} {k:Nat} {p:α} (hk:k ≤ L.length) (e:L.drop k = l):(L ++ [p]).drop k = l ++ [p]:=by
 rw [List.drop_append_of_le_length hk,e]
theorem getD_sn (L:List Nat) (p i:Nat):(L ++ [p]).getD i 0 = if i < L.length then L.getD i 0 else if i = L.length then p else 0:=by
 simp only [List.getD]
 by_cases h:i < L.length
 ·rw [if_pos h,List.getElem?_append_left h]
 ·rw [if_neg h,List.getElem?_append_right (by omega)]
  by_cases h2:i = L.length
  ·subst h2;simp
  ·rw [if_neg h2,List.getElem?_eq_none (by simp;omega)];rfl
theorem row_sn {L:List Nat} {p k i o:Nat} {z:Nat → Nat → AV} (hk:k ≤ L.length) (hi:i < L.length + 1) (ho:o < 1):AI (((L ++ [p]).getD i 0:Nat):Int) = appc (k + (L.length - k)) (fun k _=>AI ((L.getD k 0:Nat):Int)) (bslC z [(0,AI (p:Int))]) i o:=by
 rw [getD_sn]
 simp only [appc]
 by_cases h:i < L.length
 ·rw [if_pos h,if_pos (by omega)]
 ·rw [if_neg h,if_pos (by omega),if_neg (by omega),show i - (k + (L.length - k)) = 0 by omega]
  rfl
theorem row_dr {L:List Nat} {p k i o:Nat} {z:Nat → Nat → AV} (hi:i < L.length - k + 1) (ho:o < 1):AI (((L.drop k ++ [p]).getD i 0:Nat):Int) = appc (L.length - k) (fun i=>(fun k _=>AI ((L.getD k 0:Nat):Int)) (k + i)) (bslC z [(0,AI (p:Int))]) i o:=by
 rw [getD_sn,List.length_drop]
 simp only [appc]
 by_cases h:i < L.length - k
 ·rw [if_pos h,if_pos h]
  simp [List.getD]
 ·rw [if_neg h,if_pos (by omega),if_neg h,show i - (L.length - k) = 0 by omega]
  rfl
/-- No more than there is room for. -/
theorem pig {α:Type} [DecidableEq α]:∀ {l1 l2:List α},l1.Nodup → (∀ x,x ∈ l1 → x ∈ l2) → l1.length ≤ l2.length
 | [],_,_,_=>Nat.zero_le _
 | x :: l1,l2,h1,h2=>by
  have hx:=h2 x List.mem_cons_self
  have hn:=List.nodup_cons.1 h1
  have:=pig (l1:=l1) (l2:=l2.erase x) hn.2 (fun y hy=>by
   refine (List.mem_erase_of_ne ?_).2 (h2 y (List.mem_cons_of_mem _ hy))
   intro e
   subst e
   exact hn.1 hy)
  rw [List.length_erase_of_mem hx] at this
  have hp:0 < l2.length:=List.length_pos_of_mem hx
  simp only [List.length_cons]
  omega
/-- From which node a node was come to; -1: it was not. -/
def befI : List (Nat × Int) → Int
 | []=>-1
 | [a]=>a.1
 | _ :: b :: _=>b.1
theorem befI_nn {l:List (Nat × Int)}:0 ≤ befI l ↔ l ≠ []:=by
 match l with
 | []=>simp [befI]
 | [a]=>simp [befI]
 | _ :: b :: _=>simp [befI]
abbrev befR (P:Pth) (N:Nat):AB:=rowF N (fun k=>befI (P k))
theorem befI_set {P:Pth} {j h:Nat} {v w:Int} {u:List (Nat × Int)} (he:P h = (h,w) :: u) (k:Nat):befI (P.set j ((j,v) :: P h) k) = if k = j then (h:Int) else befI (P k):=by
 by_cases e:k = j
 ·subst e;rw [Pth.set_at,if_pos rfl,he];rfl
 ·rw [Pth.set_ne e,if_neg e]
theorem LnB.bef {σ:Nat → Nat → Prop} {Bp:Nat → Prop} {H:List AB} {P:Pth} {N j h:Nat} {v w:Int} {u:List (Nat × Int)} (he:P h = (h,w) :: u):LnB σ Bp H (.row N 1 (updRm (fun k _=>AI (befI (P k))) j (elemC (AI (h:Int))))) (befR (P.set j ((j,v) :: P h)) N) :=
 LnB.rowE (Nat.le_refl _) fun k _ o ho=>by
  show AI (befI (P.set j ((j,v) :: P h) k)) = _
  rw [befI_set he]
  simp only [updRm]
  by_cases e:k = j
  ·rw [if_pos e,if_pos e];rfl
  ·rw [if_neg e,if_neg e]
/-- The rest of a way is the way to its first node. -/
theorem Tree.sub {g:Gr} {f:Nat} {P:Pth} (h:Tree g f P):∀ (i k:Nat),i < (P k).length → P ((P k).getD i (0,0)).1 = (P k).drop i
 | 0,k,hi=>by
  have hk:P k ≠ []:=fun e=>by rw [e] at hi;exact absurd hi (Nat.not_lt_zero _)
  obtain ⟨_,_,v,t,e,_⟩:=h.tr k hk
  rw [e]
  show P k = _
  rw [e];rfl
 | i + 1,k,hi=>by
  have hk:P k ≠ []:=fun e=>by rw [e] at hi;exact absurd hi (Nat.not_lt_zero _)
  obtain ⟨_,_,v,t,e,_,_,ht⟩:=h.tr k hk
  rcases ht with ⟨_,rfl⟩|⟨b,w,u,_,rfl,_⟩
  ·rw [e] at hi;simp at hi
  ·rw [e] at hi
   rw [e,List.drop_succ_cons,List.getD_cons_succ]
   exact h.sub i b (by simpa using hi)
theorem chn_last {g:Gr} {f:Nat} {p:List (Nat × Int)} (h:Chn g f p) {i:Nat} (hi:i < p.length):(p.getD i (0,0)).1 = f ↔ i = p.length - 1:=by
 have h0:0 < p.length:=List.length_pos_iff.2 h.ne
 have hl:(p.getD (p.length - 1) (0,0)).1 = f:=by
  have:=h.last
  rw [List.getLast_eq_getElem] at this
  rw [← this]
  simp [List.getD,List.getElem?_eq_getElem (show p.length - 1 < p.length by omega)]
 constructor
 ·intro e
  have e2:(p.map (·.1))[i]? = (p.map (·.1))[p.length - 1]?:=by
   rw [← hl] at e
   simp only [List.getD,List.getElem?_eq_getElem hi,List.getElem?_eq_getElem (show p.length - 1 < p.length by omega),Option.getD_some] at e
   simp [List.getElem?_eq_getElem hi,List.getElem?_eq_getElem (show p.length - 1 < p.length by omega),e]
  exact (List.getElem?_inj (by simpa using hi) h.nod).1 e2
 ·rintro rfl;exact hl
/-- A node of a way, counted from its end. -/
def atW (p:List (Nat × Int)) (i:Nat):Nat:=(p.getD i (0,0)).1
theorem bef_at {g:Gr} {f:Nat} {P:Pth} (h:Tree g f P) {k i:Nat} (hi:i + 1 < (P k).length):befI (P (atW (P k) i)) = (atW (P k) (i + 1):Nat):=by
 unfold atW
 rw [h.sub i k (by omega)]
 have e1:(P k).drop i = (P k).getD i (0,0) :: (P k).getD (i + 1) (0,0) :: (P k).drop (i + 2):=by
  rw [drop_eq (0,0) (show i < (P k).length by omega),drop_eq (0,0) hi]
 rw [e1];rfl
theorem atW_lt {g:Gr} {f:Nat} {p:List (Nat × Int)} (h:Chn g f p) {i:Nat} (hi:i < p.length):atW p i < g.N:=by
 unfold atW
 simp only [List.getD,List.getElem?_eq_getElem hi,Option.getD_some]
 exact h.lt _ (List.getElem_mem hi)
/-- What is written of a way so far, the first node first. -/
abbrev rowW (p:List (Nat × Int)) (k:Nat):AB:=.row (k + 1) 1 (fun i _=>AI ((atW p (k - i):Nat):Int))
theorem rowW_step {p:List (Nat × Int)} {k i o:Nat} {b:Int} {z c:Nat → Nat → AV} (hb:b = (atW p (k + 1):Nat)) (hc:∀ i,i < k + 1 → c i 0 = AI ((atW p (k - i):Nat):Int)) (hi:i < k + 2) (ho:o < 1):AI ((atW p (k + 1 - i):Nat):Int) = appc 1 (bslC z [(0,AI b)]) c i o:=by
 obtain rfl:o = 0:=by omega
 simp only [appc]
 by_cases h:i < 1
 ·obtain rfl:i = 0:=by omega
  rw [if_pos h];show AI _ = AI b;rw [hb];rfl
 ·rw [if_neg h,hc (i - 1) (by omega),show k - (i - 1) = k + 1 - i by omega]
abbrev aMat (R C:Nat) (x:Nat → Nat → Int):AV:=.sl false false R 1 (fun r _=>aFun C (x r))
theorem has_int (s n:Int) (hs:0 ≤ s) (hn:0 ≤ n ∧ n ≤ 64):ACall Try.prog 54 [AI s,AI n] [] (fun r h=>r = .bool (s.toNat.testBit n.toNat) ∧ h = []):=by
 have:=has_ok s.toNat n.toNat (by omega)
 rw [Int.toNat_of_nonneg hs,Int.toNat_of_nonneg hn.1] at this
 exact this
/-- A queue: a literal at first, then the rest of an own row. -/
def qV (f:Nat) (e:Nat) (L:List Nat):AV:=match e,L with
 | 0,[]=>.sl false true 0 1 (fun _ _=>.bot)
 | 0,_ :: _=>one0 f
 | k + 1,L=>.osl 1 1 k (L.length - k)
def qW (e:Nat) (L:List Nat):AV:=match e with
 | 0=>.sl false true 0 1 (fun _ _=>.bot)
 | k + 1=>.osl 1 1 k (L.length - k)
def qB (e:Nat) (L:List Nat):List AB:=match e with
 | 0=>[]
 | _ + 1=>[rowN L]
/-- The graph of the reference's search. -/
abbrev gRef (s:Sheet) (m:List Int) (r0 c0:Nat) (x:Nat → Nat → Int):Gr:=⟨s.R,s.C,m,r0,c0,x,false⟩
theorem al_rc {g:Gr} {h j:Nat} (hh:h < g.R) (hj:g.R ≤ j):g.al h j = (outS g.m h (j - g.R) && !decide (h = g.r0 ∧ j - g.R = g.c0)):=by
 unfold Gr.al cellOf
 rw [if_pos hh,decide_eq_true (.inl ⟨hh,hj⟩),Bool.true_and]
theorem al_cr {g:Gr} {h j:Nat} (hh:g.R ≤ h) (hj:j < g.R):g.al h j = (outS g.m j (h - g.R) && !decide (j = g.r0 ∧ h - g.R = g.c0)):=by
 unfold Gr.al cellOf
 rw [if_neg (by omega),decide_eq_true (.inr ⟨hh,hj⟩),Bool.true_and]
theorem adj_rr {g:Gr} {h j:Nat} (hh:h < g.R) (hj:j < g.R):g.adj h j = false:=by
 unfold Gr.adj Gr.al
 rw [decide_eq_false (show ¬ ((h < g.R ∧ g.R ≤ j) ∨ (g.R ≤ h ∧ j < g.R)) by omega)];rfl
theorem adj_cc {g:Gr} {h j:Nat} (hh:g.R ≤ h) (hj:g.R ≤ j):g.adj h j = false:=by
 unfold Gr.adj Gr.al
 rw [decide_eq_false (show ¬ ((h < g.R ∧ g.R ≤ j) ∨ (g.R ≤ h ∧ j < g.R)) by omega)];rfl
theorem cap_rc {g:Gr} {h j:Nat} (hh:h < g.R):g.cap h j = if g.dr = true then g.x h (j - g.R) else 1099511627776:=by
 unfold Gr.cap cellOf
 rw [show (if h < g.R then (h,j - g.R) else (j,h - g.R)) = (h,j - g.R) from if_pos hh,decide_eq_true hh]
 by_cases e:g.dr = true
 ·rw [if_pos e,if_pos e.symm]
 ·rw [if_neg e,if_neg (fun h=>e h.symm)]
theorem cap_cr {g:Gr} {h j:Nat} (hh:g.R ≤ h):g.cap h j = if g.dr = true then 1099511627776 else g.x j (h - g.R):=by
 unfold Gr.cap cellOf
 rw [show (if h < g.R then (h,j - g.R) else (j,h - g.R)) = (j,h - g.R) from if_neg (by omega),decide_eq_false (show ¬ h < g.R by omega)]
 cases g.dr
 ·rw [if_pos rfl,if_neg (by decide)]
 ·rw [if_neg (by decide),if_pos rfl]
/-- What a step of the reference's search asks. -/
theorem adj_ref {s:Sheet} {m:List Int} {r0 c0:Nat} {x:Nat → Nat → Int} {h j:Nat} (ha:(gRef s m r0 c0 x).adj h j = true):(h < s.R ∧ s.R ≤ j ∧ (m.getD h 0).toNat.testBit ((j:Int) - s.R).toNat = true ∧ ¬ ((h:Int) = r0 ∧ (j:Int) - s.R = c0)) ∨ (s.R ≤ h ∧ j < s.R ∧ (m.getD j 0).toNat.testBit ((h:Int) - s.R).toNat = true ∧ ¬ ((j:Int) = r0 ∧ (h:Int) - s.R = c0) ∧ 0 < x j ((h:Int) - s.R).toNat):=by
 obtain ⟨h1,h2⟩:=adj_d ha
 obtain ⟨k1,k2,k3⟩:=al_d h1
 rcases k1 with ⟨a,b⟩|⟨a,b⟩
 ·left
  have a':h < s.R:=a
  have b':s.R ≤ j:=b
  have e1:cellOf s.R h j = (h,j - s.R):=by unfold cellOf;rw [if_pos a']
  rw [show cellOf (gRef s m r0 c0 x).R h j = _ from e1] at k2 k3
  refine ⟨a',b',?_,fun e=>k3 ⟨by show h = r0;omega,by show j - s.R = c0;omega⟩⟩
  rw [show ((j:Int) - (s.R:Int)).toNat = j - s.R by omega];exact k2
 ·right
  have a':s.R ≤ h:=a
  have b':j < s.R:=b
  have e1:cellOf s.R h j = (j,h - s.R):=by unfold cellOf;rw [if_neg (by omega)]
  rw [show cellOf (gRef s m r0 c0 x).R h j = _ from e1] at k2 k3
  have e3:((h:Int) - (s.R:Int)).toNat = h - s.R:=by omega
  refine ⟨a',b',?_,fun e=>k3 ⟨by show j = r0;omega,by show h - s.R = c0;omega⟩,?_⟩
  ·rw [e3];exact k2
  ·rw [e3]
   have h3:=cap_cr (g:=gRef s m r0 c0 x) (j:=j) a
   rw [h3] at h2
   exact h2
theorem ref_adj {s:Sheet} {m:List Int} {r0 c0:Nat} {x:Nat → Nat → Int} {h j:Nat} (k:(h < s.R ∧ s.R ≤ j ∧ (m.getD h 0).toNat.testBit ((j:Int) - s.R).toNat = true ∧ ¬ ((h:Int) = r0 ∧ (j:Int) - s.R = c0)) ∨ (s.R ≤ h ∧ j < s.R ∧ (m.getD j 0).toNat.testBit ((h:Int) - s.R).toNat = true ∧ ¬ ((j:Int) = r0 ∧ (h:Int) - s.R = c0) ∧ 0 < x j ((h:Int) - s.R).toNat)):(gRef s m r0 c0 x).adj h j = true ∧ 1 ≤ (gRef s m r0 c0 x).cap h j:=by
 rcases k with ⟨a,b,k2,k3⟩|⟨a,b,k2,k3,k4⟩
 ·rw [show ((j:Int) - (s.R:Int)).toNat = j - s.R by omega] at k2
  have hc:(gRef s m r0 c0 x).cap h j = 1099511627776:=cap_rc (g:=gRef s m r0 c0 x) a
  refine ⟨?_,by rw [hc];decide⟩
  unfold Gr.adj
  rw [hc,al_rc (g:=gRef s m r0 c0 x) a b,show outS m h (j - s.R) = true from k2,decide_eq_false (show ¬ (h = r0 ∧ j - s.R = c0) from fun e=>k3 ⟨by omega,by omega⟩)];rfl
 ·have e3:((h:Int) - (s.R:Int)).toNat = h - s.R:=by omega
  rw [e3] at k2 k4
  have hc:(gRef s m r0 c0 x).cap h j = x j (h - s.R):=cap_cr (g:=gRef s m r0 c0 x) a
  refine ⟨?_,by rw [hc];omega⟩
  unfold Gr.adj
  rw [hc,al_cr (g:=gRef s m r0 c0 x) a b,show outS m j (h - s.R) = true from k2,decide_eq_false (show ¬ (j = r0 ∧ h - s.R = c0) from fun e=>k3 ⟨by omega,by omega⟩),decide_eq_true k4];rfl
end Go.Proofs.Ytlffjnmbpoemnaa

namespace Go.Proofs.Ytlffjnmbpoemnaa
open Go.RowKit

theorem no_next {g:Gr} {h j:Nat} {P:Pth} (hno:∀ i,i < j → g.adj h i = true → P i ≠ []) (k:g.adj h j = true → P j ≠ []):∀ i,i < j + 1 → g.adj h i = true → P i ≠ []:=fun i hi ha=>by
 by_cases e:i = j
 ·subst e;exact k ha
 ·exact hno i (by omega) ha
theorem no_push' {g:Gr} {h j:Nat} {P:Pth} {q:Nat × Int} {l:List (Nat × Int)} (hno:∀ i,i < j → g.adj h i = true → P i ≠ []) (hj:P j = []):∀ i,i < j + 1 → g.adj h i = true → P.set j (q :: l) i ≠ []:=fun i hi ha=>by
 by_cases e:i = j
 ·subst e;rw [Pth.set_at];simp
 ·rw [Pth.set_ne e];exact hno i (by omega) ha
theorem sumTo_shift (f:Nat → Int):∀ n,sumTo f (n + 1) = f 0 + sumTo (fun j=>f (j + 1)) n
 | 0=>by simp [sumTo]
 | n + 1=>by
  have e:sumTo f (n + 1 + 1) = sumTo f (n + 1) + f (n + 1):=rfl
  have e2:sumTo (fun j=>f (j + 1)) (n + 1) = sumTo (fun j=>f (j + 1)) n + f (n + 1):=rfl
  rw [e,sumTo_shift f n,e2];omega
theorem sumTo_rev (f:Nat → Int):∀ n,sumTo f n = sumTo (fun t=>f (n - 1 - t)) n
 | 0=>rfl
 | n + 1=>by
  rw [sumTo_shift (fun t=>f (n + 1 - 1 - t)) n]
  have e:sumTo f (n + 1) = sumTo f n + f n:=rfl
  rw [e,sumTo_rev f n,sumTo_congr (f:=fun j=>f (n + 1 - 1 - (j + 1))) (g:=fun t=>f (n - 1 - t)) fun i hi=>by congr 1;omega]
  show _ + _ = f n + _
  omega
/-- The step into the j-th node of a way, counted from its end. -/
def stE (R:Nat) (p:List (Nat × Int)) (j r c:Nat):Int:=stepE (nd R (atW p (j + 1))) (nd R (atW p j)) r c
theorem sumE_idx (R r c:Nat):∀ p:List (Nat × Int),sumE (stepsB (nds R p)) r c = sumTo (fun j=>stE R p j r c) (p.length - 1)
 | []=>rfl
 | [a]=>rfl
 | a :: b :: t=>by
  have ih:=sumE_idx R r c (b :: t)
  have e1:sumE (stepsB (nds R (a :: b :: t))) r c = stepE (nd R b.1) (nd R a.1) r c + sumE (stepsB (nds R (b :: t))) r c:=rfl
  have e2:(a :: b :: t).length - 1 = (b :: t).length - 1 + 1:=rfl
  rw [e1,ih,e2,sumTo_shift];rfl
theorem stepsB_idx (R:Nat):∀ (p:List (Nat × Int)) (j:Nat),j + 1 < p.length → (nd R (atW p (j + 1)),nd R (atW p j)) ∈ stepsB (nds R p)
 | [],j,h=>absurd h (by simp)
 | [a],j,h=>absurd h (by simp)
 | a :: b :: t,0,_=>List.mem_cons_self
 | a :: b :: t,j + 1,h=>List.mem_cons_of_mem _ (stepsB_idx R (b :: t) j (by simpa using h))
theorem Chn.adj {g:Gr} {f:Nat} {p:List (Nat × Int)} (h:Chn g f p) {j:Nat} (hj:j + 1 < p.length):g.adj (atW p (j + 1)) (atW p j) = true:=by
 obtain ⟨a,b,e,h1,_⟩:=h.stp _ (stepsB_idx g.R p j hj)
 injection e with e1 e2
 rw [nd_inj e1,nd_inj e2];exact h1
theorem stepE_bd (u v:Nd) (r c:Nat):-1 ≤ stepE u v r c ∧ stepE u v r c ≤ 1:=by
 unfold stepE
 split <;> split <;> omega
theorem stE_bd {f:Nat → Int} (h:∀ i,-1 ≤ f i ∧ f i ≤ 1) (k:Nat):-(k:Int) ≤ sumTo f k ∧ sumTo f k ≤ k:=by
 have:=sumTo_bd (f:=f) (B:=1) (by decide) (k:=k) fun i _=>h i
 omega
/-- Amounts in which some steps of a way are done: the first ones, or the last ones first. -/
def doneF (R:Nat) (p:List (Nat × Int)) (n:Nat) (x:Nat → Nat → Int) (i r c:Nat):Int:=x r c + sumTo (fun t=>stE R p (n - 1 - t) r c) i
theorem doneF_zero (R:Nat) (p:List (Nat × Int)) (n:Nat) (x:Nat → Nat → Int) (r c:Nat):doneF R p n x 0 r c = x r c:=by unfold doneF sumTo;omega
theorem doneF_step (R:Nat) (p:List (Nat × Int)) (n:Nat) (x:Nat → Nat → Int) (i r c:Nat):doneF R p n x (i + 1) r c = doneF R p n x i r c + stE R p (n - 1 - i) r c:=by
 unfold doneF;simp only [sumTo];omega
theorem doneF_all (R:Nat) (p:List (Nat × Int)) (x:Nat → Nat → Int) (r c:Nat):doneF R p (p.length - 1) x (p.length - 1) r c = x r c + sumE (stepsB (nds R p)) r c:=by
 unfold doneF;rw [sumE_idx,sumTo_rev (fun j=>stE R p j r c)]
theorem doneF_bd {R:Nat} {p:List (Nat × Int)} {n:Nat} {x:Nat → Nat → Int} {i r c:Nat} {B:Int} (h:0 ≤ x r c ∧ x r c ≤ B):-(i:Int) ≤ doneF R p n x i r c ∧ doneF R p n x i r c ≤ B + i:=by
 unfold doneF
 have:=stE_bd (f:=fun t=>stE R p (n - 1 - t) r c) (fun j=>stepE_bd _ _ _ _) i
 omega
theorem stE_rc {R:Nat} {p:List (Nat × Int)} {j a b:Nat} (h1:atW p (j + 1) = a) (h2:atW p j = b) (ha:a < R) (hb:R ≤ b) (r c:Nat):stE R p j r c = if r = a ∧ c = b - R then 1 else 0:=by
 unfold stE stepE
 rw [h1,h2,nd_row ha,show nd R b = (false,b - R) from if_neg (by omega)];rfl
theorem stE_cr {R:Nat} {p:List (Nat × Int)} {j a b:Nat} (h1:atW p (j + 1) = a) (h2:atW p j = b) (ha:R ≤ a) (hb:b < R) (r c:Nat):stE R p j r c = if r = b ∧ c = a - R then -1 else 0:=by
 unfold stE stepE
 rw [h1,h2,nd_row hb,show nd R a = (false,a - R) from if_neg (by omega)];rfl
theorem LnB.rwg1 {σ:Nat → Nat → Prop} {Bp:Nat → Prop} {H:List AB} {n:Nat} {c c':Nat → Nat → AV} (h0:Ln σ Bp H (c 0 0) (c' 0 0)) (hn:1 ≤ n):LnB σ Bp H (.rwg n 1 c) (.rwg 1 1 c'):=by
 refine ⟨rfl,hn,fun k hk o ho=>?_⟩
 obtain rfl:k = 0:=by omega
 obtain rfl:o = 0:=by omega
 exact h0
theorem LnB.rwg2 {σ:Nat → Nat → Prop} {Bp:Nat → Prop} {H:List AB} {n:Nat} {c c':Nat → Nat → AV} (h0:Ln σ Bp H (c 0 0) (c' 0 0)) (h1:Ln σ Bp H (c 1 0) (c' 1 0)) (hn:2 ≤ n):LnB σ Bp H (.rwg n 1 c) (.rwg 2 1 c'):=by
 refine ⟨rfl,hn,fun k hk o ho=>?_⟩
 obtain rfl:o = 0:=by omega
 have:k = 0 ∨ k = 1:=by omega
 rcases this with rfl|rfl
 ·exact h0
 ·exact h1
theorem LnB.rwg3 {σ:Nat → Nat → Prop} {Bp:Nat → Prop} {H:List AB} {n:Nat} {c c':Nat → Nat → AV} (h0:Ln σ Bp H (c 0 0) (c' 0 0)) (h1:Ln σ Bp H (c 1 0) (c' 1 0)) (h2:Ln σ Bp H (c 2 0) (c' 2 0)) (hn:3 ≤ n):LnB σ Bp H (.rwg n 1 c) (.rwg 3 1 c'):=by
 refine ⟨rfl,hn,fun k hk o ho=>?_⟩
 obtain rfl:o = 0:=by omega
 have:k = 0 ∨ k = 1 ∨ k = 2:=by omega
 rcases this with rfl|rfl|rfl
 ·exact h0
 ·exact h1
 ·exact h2
theorem FIdx.eqN {j:Int} {n:Nat} {K:Nat → Prop} (m:Nat) (h:j = m) (hm:m < n) (k:K m):FIdx j n K:=by subst h;exact ⟨⟨by omega,by omega⟩,by simpa using k⟩
theorem Ln.mat {σ:Nat → Nat → Prop} {Bp:Nat → Prop} {H:List AB} {d R C N:Nat} {c:Nat → Nat → AV} {x:Nat → Nat → Int} (h:Bp d) (hd:H[d]? = some (.rwg N 1 c)) (hn:R ≤ N) (hc:∀ k,k < R → Ln σ Bp H (c k 0) (aFun C (x k))):Ln σ Bp H (.own d R) (aMat R C x) :=
 Ln.pubg d R N 1 c _ h hd hn (fun k hk o ho=>by obtain rfl:o = 0:=(by omega);exact hc k hk) (fun _ _ _ _=>trivial)
theorem below1 {p:Nat → Prop} (h0:p 0):∀ k,k < 1 → p k:=fun k hk=>by obtain rfl:k = 0:=(by omega);exact h0
theorem below2 {p:Nat → Prop} (h0:p 0) (h1:p 1):∀ k,k < 2 → p k:=fun k hk=>by
 have:k = 0 ∨ k = 1:=by omega
 rcases this with rfl|rfl
 ·exact h0
 ·exact h1
theorem below3 {p:Nat → Prop} (h0:p 0) (h1:p 1) (h2:p 2):∀ k,k < 3 → p k:=fun k hk=>by
 have:k = 0 ∨ k = 1 ∨ k = 2:=by omega
 rcases this with rfl|rfl|rfl
 ·exact h0
 ·exact h1
 ·exact h2
theorem LnB.offR {σ:Nat → Nat → Prop} {Bp:Nat → Prop} {H:List AB} {C:Nat} {y y':Nat → Int} (h:∀ j,y' j = y j):LnB σ Bp H (.row C 1 (fun j _=>AI (y j))) (rowF C y') :=
 LnB.rowE (Nat.le_refl _) fun j _ _ _=>int_eq (h j)
theorem LnB.hitR {σ:Nat → Nat → Prop} {Bp:Nat → Prop} {H:List AB} {C c:Nat} {v:Int} {y y':Nat → Int} (h:∀ j,y' j = if j = c then v else y j):LnB σ Bp H (.row C 1 (updRm (fun j _=>AI (y j)) c (elemC (AI v)))) (rowF C y') :=
 LnB.rowE (Nat.le_refl _) fun j _ o ho=>by
  show AI (y' j) = _
  rw [h]
  simp only [updRm]
  by_cases e:j = c
  ·rw [if_pos e,if_pos e];rfl
  ·rw [if_neg e,if_neg e]
theorem done_rc {R:Nat} {p:List (Nat × Int)} {n i a b:Nat} (x:Nat → Nat → Int) (h1:atW p (n - 1 - i + 1) = a) (h2:atW p (n - 1 - i) = b) (ha:a < R) (hb:R ≤ b) (r j:Nat):doneF R p n x (i + 1) r j = if r = a ∧ j = b - R then doneF R p n x i r j + 1 else doneF R p n x i r j:=by
 rw [doneF_step,stE_rc h1 h2 ha hb]
 split <;> omega
theorem done_cr {R:Nat} {p:List (Nat × Int)} {n i a b:Nat} (x:Nat → Nat → Int) (h1:atW p (n - 1 - i + 1) = a) (h2:atW p (n - 1 - i) = b) (ha:R ≤ a) (hb:b < R) (r j:Nat):doneF R p n x (i + 1) r j = if r = b ∧ j = a - R then doneF R p n x i r j - 1 else doneF R p n x i r j:=by
 rw [doneF_step,stE_cr h1 h2 ha hb]
 split <;> omega
theorem hit1 {y y':Nat → Int} {r a c c':Nat} {v:Int} (h:∀ j,y' j = if r = a ∧ j = c then v else y j) (hr:r = a) (hc:c' = c):∀ j,y' j = if j = c' then v else y j:=fun j=>by
 rw [h];subst hc;subst hr
 by_cases e:j = c'
 ·rw [if_pos ⟨rfl,e⟩,if_pos e]
 ·rw [if_neg (fun h=>e h.2),if_neg e]
theorem hitA {y y':Nat → Int} {r a c c':Nat} {d:Int} (h:∀ j,y' j = if r = a ∧ j = c then y j + d else y j) (hr:r = a) (hc:c' = c):∀ j,y' j = if j = c' then y c' + d else y j:=fun j=>by
 rw [h];subst hc;subst hr
 by_cases e:j = c'
 ·rw [if_pos ⟨rfl,e⟩,if_pos e,e]
 ·rw [if_neg (fun h=>e h.2),if_neg e]
theorem off1 {y y':Nat → Int} {r a c:Nat} {w:Nat → Int} (h:∀ j,y' j = if r = a ∧ j = c then w j else y j) (hr:r ≠ a):∀ j,y' j = y j:=fun j=>by
 rw [h,if_neg (fun e=>hr e.1)]
theorem shut_col {g:Gr} {f:Nat} {P:Pth} (B:Bfs g f P []):P f ≠ []:=by obtain ⟨v,h⟩:=B.fr;rw [h];simp
end Go.Proofs.Ytlffjnmbpoemnaa

namespace Go.Proofs.Ytlffjnmbpoemnaa
open Go.RowKit

abbrev spanA (lo hi:Int):AV:=.agg 2 (ofL [AI lo,AI hi])
/-- What Range gives. -/
noncomputable def rangeV (s:Sheet) (m:List Int) (r c:Int):AV:=.tup 2 (ofL [if checkP s m r c = 0 then spanA (loV s m r.toNat c.toNat) (hiV s m r.toNat c.toNat) else spanA 0 0,AI (checkP s m r c)])
structure PlaceOk (s:Sheet) (m:List Int) (r c:Int):Prop where
 ok:s.ok = true
 sh:SheetOk s
 m:MaskOk s m
 r:0 ≤ r ∧ r < s.R
 c:0 ≤ c ∧ c < s.C
theorem checkP_0 {s:Sheet} {m:List Int} {r c:Int} (h:checkP s m r c = 0):PlaceOk s m r c:=by
 unfold checkP at h
 by_cases h0:checkM s m = 0
 ·rw [if_pos h0] at h
  obtain ⟨a,b⟩:=checkM_0 h0
  cases hp:placeOk s r c
  ·rw [hp] at h;cases h
  ·unfold placeOk at hp
   simp only [Bool.and_eq_true,inB,decide_eq_true_eq] at hp
   exact ⟨a,sheet_d a,mask_d b,by omega,by omega⟩
 ·rw [if_neg h0] at h;exact (h0 h).elim
/-- One secret amount is safe. -/
noncomputable def cellSafe (s:Sheet) (m:List Int) (r c:Nat):Bool:=!outS s.secret r c || (outS m r c && decide (s.gap ≤ hiV s m r c - loV s m r c))
noncomputable def rowSafe (s:Sheet) (m:List Int) (r:Nat):Bool:=(List.range s.C).all (cellSafe s m r)
noncomputable def safeS (s:Sheet) (m:List Int):Bool:=(List.range s.R).all (rowSafe s m)
noncomputable def safeV (s:Sheet) (m:List Int):AV:=.tup 2 (ofL [.bool (decide (checkM s m = 0) && safeS s m),AI (checkM s m)])
noncomputable def checkO (s:Sheet) (m:List Int) (r c a:Int):Int:=if checkP s m r c = 0 then (if inB a (loV s m r.toNat c.toNat) (hiV s m r.toNat c.toNat) then 0 else 3) else checkP s m r c
end Go.Proofs.Ytlffjnmbpoemnaa

namespace Go.Proofs.Ytlffjnmbpoemnaa
open Go.RowKit

def vis (P:Pth) (k:Nat):Bool:=!(P k).isEmpty
theorem vis_f {P:Pth} {k:Nat}:vis P k = false ↔ P k = []:=by
 unfold vis
 cases P k <;> simp
theorem vis_t {P:Pth} {k:Nat}:vis P k = true ↔ P k ≠ []:=by
 unfold vis
 cases P k <;> simp
theorem vis_set {P:Pth} {j k:Nat} {q:Nat × Int} {l:List (Nat × Int)}:vis (P.set j (q :: l)) k = if k = j then true else vis P k:=by
 unfold vis
 by_cases e:k = j
 ·subst e;rw [Pth.set_at,if_pos rfl];rfl
 ·rw [Pth.set_ne e,if_neg e]
/-- The program's graph. dr: the amount is to become greater. -/
abbrev gPr (s:Sheet) (m:List Int) (r0 c0:Nat) (x:Nat → Nat → Int) (dr:Bool):Gr:=⟨s.R,s.C,m,r0,c0,x,dr⟩
theorem pr_rc {g:Gr} {h j:Nat} (hh:h < g.R):g.adj h (g.R + j) = (outS g.m h j && !decide (h = g.r0 ∧ j = g.c0) && (!g.dr || decide (0 < g.x h j))):=by
 unfold Gr.adj
 rw [al_rc hh (by omega),cap_rc hh,show g.R + j - g.R = j by omega]
 cases g.dr <;> simp
theorem pr_cr {g:Gr} {c j:Nat} (hj:j < g.R):g.adj (g.R + c) j = (outS g.m j c && !decide (j = g.r0 ∧ c = g.c0) && (g.dr || decide (0 < g.x j c))):=by
 unfold Gr.adj
 rw [al_cr (by omega) hj,cap_cr (by omega),show g.R + c - g.R = c by omega]
 cases g.dr <;> simp
theorem pcap_rc {g:Gr} {h j:Nat} (hh:h < g.R):g.cap h (g.R + j) = if g.dr = true then g.x h j else 1099511627776:=by
 rw [cap_rc hh,show g.R + j - g.R = j by omega]
theorem pcap_cr {g:Gr} {c j:Nat}:g.cap (g.R + c) j = if g.dr = true then 1099511627776 else g.x j c:=by
 rw [cap_cr (by omega),show g.R + c - g.R = c by omega]
/-- A way as nodes that lead back. -/
def aCh (R:Nat):List (Nat × Int) → AV
 | []=>.nilp
 | q :: t=>.ip 4 (ofL [.bool (decide (q.1 < R)),AI ((if q.1 < R then q.1 else q.1 - R:Nat):Int),aCh R t,AI q.2]) 0
theorem aCh_col (R j:Nat) (v:Int) (t:List (Nat × Int)):aCh R ((R + j,v) :: t) = .ip 4 (ofL [.bool false,AI (j:Nat),aCh R t,AI v]) 0:=by
 simp only [aCh]
 rw [decide_eq_false (show ¬ R + j < R by omega),if_neg (show ¬ R + j < R by omega),show R + j - R = j by omega]
theorem aCh_row {R j:Nat} (hj:j < R) (v:Int) (t:List (Nat × Int)):aCh R ((j,v) :: t) = .ip 4 (ofL [.bool true,AI (j:Nat),aCh R t,AI v]) 0:=by
 simp only [aCh]
 rw [decide_eq_true hj,if_pos hj]
def nodeC (R:Nat):List (Nat × Int) → Nat → AV
 | []=>fun _=>.bot
 | q :: t=>ofL [.bool (decide (q.1 < R)),AI ((if q.1 < R then q.1 else q.1 - R:Nat):Int),aCh R t,AI q.2]
abbrev nodeV (R:Nat) (l:List (Nat × Int)):AV:=.ip 4 (nodeC R l) 0
theorem aCh_pure (R:Nat) (p:List (Nat × Int)):(aCh R p).pureB = true:=by cases p <;> rfl
/-- The queue: a literal at first, then the rest of an own row (block d). -/
def qX (d:Nat) (f:AV) (e:Nat) (L:List Nat):AV:=match e,L with
 | 0,[]=>.sl false true 0 1 (fun _ _=>.bot)
 | 0,_ :: _=>.sl false true 1 1 (fun _ _=>f)
 | k + 1,L=>.osl d 1 k (L.length - k)
def qY (d:Nat) (e:Nat) (L:List Nat):AV:=match e with
 | 0=>.sl false true 0 1 (fun _ _=>.bot)
 | k + 1=>.osl d 1 k (L.length - k)
abbrev rowQ (R:Nat) (P:Pth) (L:List Nat):AB:=.row L.length 1 (fun k _=>nodeV R (P (L.getD k 0)))
def qR (R:Nat) (P:Pth) (e:Nat) (L:List Nat):List AB:=match e with
 | 0=>[]
 | _ + 1=>[rowQ R P L]
abbrev rowB (n:Nat) (f:Nat → Bool):AB:=.row n 1 (fun k _=>.bool (f k))
theorem LnB.visE {σ:Nat → Nat → Prop} {Bp:Nat → Prop} {H:List AB} {N:Nat} {f g:Nat → Bool} (h:∀ k,k < N → g k = f k):LnB σ Bp H (.row N 1 (fun k _=>.bool (f k))) (rowB N g) :=
 LnB.rowE (Nat.le_refl _) fun k hk _ _=>bool_eq (h k hk)
theorem LnB.visS {σ:Nat → Nat → Prop} {Bp:Nat → Prop} {H:List AB} {N j:Nat} {f g:Nat → Bool} (h:∀ k,k < N → g k = if k = j then true else f k):LnB σ Bp H (.row N 1 (updRm (fun k _=>.bool (f k)) j (elemC (.bool true)))) (rowB N g) :=
 LnB.rowE (Nat.le_refl _) fun k hk o ho=>by
  show AV.bool (g k) = _
  rw [h k hk]
  simp only [updRm]
  by_cases e:k = j
  ·rw [if_pos e,if_pos e];rfl
  ·rw [if_neg e,if_neg e]
theorem getD_mem {L:List Nat} {i:Nat} (hi:i < L.length):L.getD i 0 ∈ L:=by
 simp only [List.getD,List.getElem?_eq_getElem hi,Option.getD_some];exact List.getElem_mem hi
theorem old_path {P:Pth} {j:Nat} {l:List (Nat × Int)} {L:List Nat} (hL:∀ i,i ∈ L → P i ≠ []) (hj:P j = []) {i:Nat} (hi:i ∈ L):P.set j l i = P i:=Pth.set_ne fun e=>hL i hi (e ▸ hj)
theorem new_L {P:Pth} {j:Nat} {q:Nat × Int} {l:List (Nat × Int)} {L:List Nat} (hL:∀ i,i ∈ L → P i ≠ []) (hj:P j = []):∀ i,i ∈ L ++ [j] → P.set j (q :: l) i ≠ []:=fun i hi=>by
 rcases List.mem_append.1 hi with hi|hi
 ·rw [old_path hL hj hi];exact hL i hi
 ·rw [List.mem_singleton.1 hi,Pth.set_at];simp
theorem rowQ_sn {R:Nat} {P:Pth} {L:List Nat} {j k i o:Nat} {q:Nat × Int} {l:List (Nat × Int)} {a:AV} {z:Nat → Nat → AV} (hL:∀ i,i ∈ L → P i ≠ []) (hj:P j = []) (ha:aCh R (q :: l) = a) (hk:k ≤ L.length) (hi:i < L.length + 1) (ho:o < 1) :
  nodeV R (P.set j (q :: l) ((L ++ [j]).getD i 0)) = appc (k + (L.length - k)) (fun k _=>nodeV R (P (L.getD k 0))) (bslC z [(0,a)]) i o:=by
 rw [getD_sn]
 simp only [appc]
 by_cases h:i < L.length
 ·rw [if_pos h,if_pos (by omega),old_path hL hj (getD_mem h)]
 ·rw [if_neg h,if_pos (by omega),if_neg (by omega),show i - (k + (L.length - k)) = 0 by omega,Pth.set_at]
  obtain rfl:o = 0:=by omega
  subst ha;rfl
theorem rowQ_dr {R:Nat} {P:Pth} {L:List Nat} {j k i o:Nat} {q:Nat × Int} {l:List (Nat × Int)} {a:AV} {z:Nat → Nat → AV} (hL:∀ i,i ∈ L → P i ≠ []) (hj:P j = []) (ha:aCh R (q :: l) = a) (hi:i < L.length - k + 1) (ho:o < 1) :
  nodeV R (P.set j (q :: l) ((L.drop k ++ [j]).getD i 0)) = appc (L.length - k) (fun i=>(fun k _=>nodeV R (P (L.getD k 0))) (k + i)) (bslC z [(0,a)]) i o:=by
 rw [getD_sn,List.length_drop]
 simp only [appc]
 by_cases h:i < L.length - k
 ·rw [if_pos h,if_pos h,show (L.drop k).getD i 0 = L.getD (k + i) 0 by simp [List.getD],old_path hL hj (getD_mem (by omega))]
 ·rw [if_neg h,if_pos (by omega),if_neg h,show i - (L.length - k) = 0 by omega,Pth.set_at]
  obtain rfl:o = 0:=by omega
  subst ha;rfl
/-- What the program's search gives. -/
def WayP (g:Gr) (f tgt:Nat) (v:AV):Prop:=(v = .nilp ∧ ∃ P,Bfs g f P [] ∧ P tgt = []) ∨ ∃ (p:List (Nat × Int)) (C:Chn g f p),(p.head C.ne).1 = tgt ∧ v = aCh g.R p
theorem WayP.some {g:Gr} {f h tgt:Nat} {P:Pth} {v w:Int} {u:List (Nat × Int)} (T:Tree g f P) (hP:P h = (h,w) :: u) (ht:P tgt = []) (htN:tgt < g.N) (ha:g.adj h tgt = true) (h1:1 ≤ v) (h2:v ≤ w) (h3:v ≤ g.cap h tgt):WayP g f tgt (aCh g.R ((tgt,v) :: (h,w) :: u)):=by
 have C:=T.chn' (show P h ≠ [] by rw [hP];simp)
 rw [hP] at C
 refine .inr ⟨_,C.cons htN (fun hm=>?_) ha h1 h2 h3,rfl,rfl⟩
 obtain ⟨⟨i,z⟩,hi,hz⟩:=List.mem_map.1 hm
 simp only at hz
 subst hz
 exact T.mem _ h (Nat.le_refl _) i z (by rw [hP];exact hi) ht
theorem mem_L {L:List Nat} {k:Nat} {P:Pth} (hL:∀ i,i ∈ L → P i ≠ []):∀ i,i ∈ L.drop k → P i ≠ []:=fun i hi=>hL i (List.mem_of_mem_drop hi)
theorem drop_L {L:List Nat} {k j:Nat} {P:Pth} {q:Nat × Int} {l:List (Nat × Int)} (hL:∀ i,i ∈ L → P i ≠ []) (hj:P j = []):∀ i,i ∈ L.drop k ++ [j] → P.set j (q :: l) i ≠ []:=new_L (mem_L hL) hj
end Go.Proofs.Ytlffjnmbpoemnaa

namespace Go.Proofs.Ytlffjnmbpoemnaa

section
variable {g:Gr} {h j:Nat} {P:Pth}
theorem no_nextC (hno:∀ i,i < j → g.adj h (g.R + i) = true → P (g.R + i) ≠ []) (k:g.adj h (g.R + j) = true → P (g.R + j) ≠ []):∀ i,i < j + 1 → g.adj h (g.R + i) = true → P (g.R + i) ≠ []:=fun i hi ha=>by
 by_cases e:i = j
 ·subst e;exact k ha
 ·exact hno i (by omega) ha
theorem no_pushC {q:Nat × Int} {l:List (Nat × Int)} (hno:∀ i,i < j → g.adj h (g.R + i) = true → P (g.R + i) ≠ []) (hj:P (g.R + j) = []):∀ i,i < j + 1 → g.adj h (g.R + i) = true → P.set (g.R + j) (q :: l) (g.R + i) ≠ []:=fun i hi ha=>by
 by_cases e:i = j
 ·subst e;rw [Pth.set_at];simp
 ·rw [Pth.set_ne (by omega)];exact hno i (by omega) ha
theorem adj_pc (hh:h < g.R) (ha:g.adj h (g.R + j) = true):outS g.m h j = true ∧ ¬ ((h:Int) = g.r0 ∧ (j:Int) = g.c0) ∧ (g.dr = true → 0 < g.x h j):=by
 rw [pr_rc hh] at ha
 simp only [Bool.and_eq_true,Bool.not_eq_true',decide_eq_false_iff_not,Bool.or_eq_true,decide_eq_true_eq] at ha
 refine ⟨ha.1.1,fun e=>ha.1.2 ⟨by omega,by omega⟩,fun e=>?_⟩
 rcases ha.2 with h1|h1
 ·rw [e] at h1;cases h1
 ·exact h1
theorem fnd_cU {w:Int} (hh:h < g.R) (hd:g.dr = true) (ho:outS g.m h j = true) (hp:¬ (h = g.r0 ∧ j = g.c0)) (hx:0 < g.x h j):g.adj h (g.R + j) = true ∧ min w (g.x h j) ≤ g.cap h (g.R + j):=by
 rw [pr_rc hh,pcap_rc hh,ho,hd,decide_eq_false hp,decide_eq_true hx,if_pos rfl]
 exact ⟨rfl,by omega⟩
theorem fnd_cD {w:Int} (hh:h < g.R) (hd:g.dr = false) (ho:outS g.m h j = true) (hp:¬ (h = g.r0 ∧ j = g.c0)) (hw:w ≤ 1099511627776):g.adj h (g.R + j) = true ∧ w ≤ g.cap h (g.R + j):=by
 rw [pr_rc hh,pcap_rc hh,ho,hd,decide_eq_false hp]
 exact ⟨rfl,by simpa using hw⟩
theorem adj_pr {c:Nat} (hj:j < g.R) (ha:g.adj (g.R + c) j = true):outS g.m j c = true ∧ ¬ ((j:Int) = g.r0 ∧ (c:Int) = g.c0) ∧ (g.dr = false → 0 < g.x j c):=by
 rw [pr_cr hj] at ha
 simp only [Bool.and_eq_true,Bool.not_eq_true',decide_eq_false_iff_not,Bool.or_eq_true,decide_eq_true_eq] at ha
 refine ⟨ha.1.1,fun e=>ha.1.2 ⟨by omega,by omega⟩,fun e=>?_⟩
 rcases ha.2 with h1|h1
 ·rw [e] at h1;cases h1
 ·exact h1
theorem fnd_rD {c:Nat} {w:Int} (hj:j < g.R) (hd:g.dr = false) (ho:outS g.m j c = true) (hp:¬ (j = g.r0 ∧ c = g.c0)) (hx:0 < g.x j c):g.adj (g.R + c) j = true ∧ min w (g.x j c) ≤ g.cap (g.R + c) j:=by
 rw [pr_cr hj,pcap_cr,ho,hd,decide_eq_false hp,decide_eq_true hx]
 exact ⟨rfl,by rw [if_neg (by decide)];omega⟩
theorem fnd_rU {c:Nat} {w:Int} (hj:j < g.R) (hd:g.dr = true) (ho:outS g.m j c = true) (hp:¬ (j = g.r0 ∧ c = g.c0)) (hw:w ≤ 1099511627776):g.adj (g.R + c) j = true ∧ w ≤ g.cap (g.R + c) j:=by
 rw [pr_cr hj,pcap_cr,ho,hd,decide_eq_false hp]
 exact ⟨rfl,by simpa using hw⟩
theorem root_unv {N f:Nat} {v:Int} (hf:f < N):[f].length + unv (Pth.set (fun _=>[]) f [(f,v)]) N ≤ N:=by
 have h1:=unv_push (P:=fun _=>[]) (q:=(f,v)) (l:=[]) rfl hf
 have h2:=unv_le (fun _=>([]:List (Nat × Int))) N
 show 1 + _ ≤ N
 omega
theorem root_vis {f:Nat} {v:Int}:∀ i,i ∈ [f] → Pth.set (fun _=>[]) f [(f,v)] i ≠ []:=fun i hi=>by
 rw [List.mem_singleton.1 hi,Pth.set_at];simp
theorem unv_mono {P P':Pth} (h:∀ k,P k ≠ [] → P' k ≠ []):∀ n,unv P' n ≤ unv P n
 | 0=>Nat.le_refl _
 | k + 1=>by
  have:=unv_mono h k
  simp only [unv]
  by_cases e:P k = []
  ·rw [if_pos e];split <;> omega
  ·rw [if_neg e,if_neg (h k e)];omega
end
end Go.Proofs.Ytlffjnmbpoemnaa

namespace Go.Proofs.Ytlffjnmbpoemnaa
open Go.RowKit

theorem ACall.void {P:Program} {f:FuncId} {ys xs:List AV} {hh h:List AB} {KK K:AV → List AB → Prop} (con:ACall P f ys hh KK) {i:Nat} {x:AV} (hi:xs[i]? = some x) (hx:∀ M w g u,¬ rep M w x g u):ACall P f xs h K :=
 ⟨con.1,fun F g w vs _ _ hv=>absurd (hv i x hi) (hx _ _ _ _)⟩
theorem sl_void {e:Bool} {n sz:Nat} {c:Nat → Nat → AV} (hn:0 < n) (M:Nat → Prop) (w:World) (g:GM) (u:Value):¬ rep M w (.sl true e n sz c) g u:=by
 rintro ⟨A,cap,_,hz,hnil,_⟩
 have:=(hnil (hz.1 rfl)).1
 omega
set_option maxHeartbeats 8000000
set_option maxRecDepth 100000
theorem clone_nz (e:Bool) (l:List Int) (C:Nat) (hl:l.length = C + 1) (hC:C ≤ 1000):ACall Try.prog 74 [aInts false e l] [] (fun v h=>v = .own 0 (C + 1) ∧ h = [rowF (C + 1) (fun k=>l.getD k 0)]):=by
 show ACall Try.prog _ [.sl false e l.length 1 (fun k _=>AI (l.getD k 0))] [] _
 rw [hl]
 (refine fcall_of mixed Try.func74 rfl (by decide) (hs:={}) ?k (ac:=?ac) ?c (rs:=?rs) ?r ?l ?H;(case k=>kernel_rfl);(case c=>(conv=>(lhs;cbv)));(case r=>(conv=>(lhs;cbv)));(case l=>exact Nat.le_of_ble_eq_true rfl))
 (repeat' ((try conv=>whnf);first|(with_reducible first|refine wT ?_|refine wF ?_|(refine wI (fun hq=>?_) (fun hq=>?_) <;> try simp only [zA,zE,zD,zJ,zB,zI,wK,wL] at hq)|refine wA ?_|refine wB ?_|refine wC ?_|refine wD ?_|refine wE ?_)|((with_reducible refine wN ?_ ?_);focus exact needA)|(with_reducible refine wG ?_)|(with_reducible refine wP ?_)))
 all_goals (try conv=>whnf)
 refine ⟨⟨.own 0 (C + 1),[rowF (C + 1) (fun k=>l.getD k 0)],[0],?_,Ln.ownE rfl (by omega),rfl,rfl⟩⟩
 exact wO rfl rfl rfl (wV rfl (LnB.rowE (by omega) fun k hk o ho=>by simp [appc]) wX)
theorem clone_ok (z e:Bool) (l:List Int) (C:Nat) (hl:l.length = C + 1) (hC:C ≤ 1000):ACall Try.prog 74 [aInts z e l] [] (fun v h=>v = .own 0 (C + 1) ∧ h = [rowF (C + 1) (fun k=>l.getD k 0)]):=by
 cases z
 ·exact clone_nz e l C hl hC
 ·exact ACall.void (clone_nz e l C hl hC) (i:=0) rfl (sl_void (by omega))
/-- The blocks of a shift: the struct, the rows' row, the rows. -/
def shB (f:ShF) (s:Sheet) (z em:Bool) (m:List Int) (r0 c0:Nat) (d:Int) (C:Nat) (x:Nat → Nat → Int):Nat → List AB
 | 0=>[.box 5 (ofL [iSt f s z em m,nilS,AI r0,AI c0,AI d])]
 | 1=>[.box 5 (ofL [iSt f s z em m,.own 1 1,AI r0,AI c0,AI d]),.rwg 1 1 (fun _ _=>.own 2 C),rowF C (x 0)]
 | 2=>[.box 5 (ofL [iSt f s z em m,.own 1 2,AI r0,AI c0,AI d]),.rwg 2 1 (fun k _=>match k with|0=>.own 2 C|_=>.own 3 C),rowF C (x 0),rowF C (x 1)]
 | _=>[.box 5 (ofL [iSt f s z em m,.own 1 3,AI r0,AI c0,AI d]),.rwg 3 1 (fun k _=>match k with|0=>.own 2 C|1=>.own 3 C|_=>.own 4 C),rowF C (x 0),rowF C (x 1),rowF C (x 2)]
theorem begin_ok (f:ShF) (s:Sheet) (hs:SheetOk s) (h3:s.R ≤ 3) (z em:Bool) (m:List Int) (r0 c0:Nat) (d:Int):ACall Try.prog 57 [iSt f s z em m,AI r0,AI c0,AI d] [] (fun v h=>v = .ptr 0 0 ∧ h = shB f s z em m r0 c0 d s.C s.A s.R):=by
 have c4:=hs.c4
 have r1:=hs.r1
 have hR:s.R = s.amounts.length:=rfl
 obtain ⟨C',hC⟩:∃ C',s.C = C' + 1:=⟨s.C - 1,by have:=hs.c1;omega⟩
 rw [hC]
 (refine fcall_of mixed Try.func57 rfl (by decide) (hs:={ ord:=[(5,[(0,[]),(1,[]),(2,[]),(3,[]),(4,[]),(5,[]),(6,[4]),(7,[4]),(8,[]),(9,[]),(10,[]),(11,[])])] }) ?k (ac:=?ac) ?c (rs:=?rs) ?r ?l ?H;(case k=>kernel_rfl);(case c=>(conv=>(lhs;cbv)));(case r=>(conv=>(lhs;cbv)));(case l=>exact Nat.le_of_ble_eq_true rfl))
 (repeat' ((try conv=>whnf);first|(with_reducible first|refine wT ?_|refine wF ?_|(refine wI (fun hq=>?_) (fun hq=>?_) <;> try simp only [zA,zE,zD,zJ,zB,zI,wK,wL] at hq)|refine wA ?_|refine wB ?_|refine wC ?_|refine wD ?_|refine wE ?_)|((with_reducible refine wN ?_ ?_);focus exact needA)|(with_reducible refine wG ?_)|(with_reducible refine wP ?_)))
 all_goals (try conv=>whnf)
 refine FLoop.of (ACalls.mono _) (X:=Nat) (fun i=>[(9,.ptr 0 0),(22,aRows f.za f.ea f.rz f.re s.amounts),(23,AI s.R),(24,AI i)]) (fun i=>shB f s z em m r0 c0 d (C' + 1) s.A i) (fun i=>i ≤ s.R) (fun i=>s.R - i) 0 ⟨Nat.zero_le _,[0],Cut.A,allA⟩ ?_
 intro i hi
 by_cases hlt:i < s.R
 ·have hli:=hs.row i hlt
  rw [hC] at hli
  have cK:=clone_ok (f.rz i) (f.re i) (s.amounts.getD i []) C' hli (by omega)
  have i3:i = 0 ∨ i = 1 ∨ i = 2:=by omega
  rcases i3 with rfl|rfl|rfl
  all_goals
   (repeat' ((try conv=>whnf);first|(with_reducible first|refine wT ?_|refine wF ?_|(refine wI (fun hq=>?_) (fun hq=>?_) <;> try simp only [zA,zE,zD,zJ,zB,zI,wK,wL] at hq)|refine wA ?_|refine wB ?_|refine wC ?_|refine wD ?_|refine wE ?_)|((with_reducible refine wN ?_ ?_);focus exact needA)|(with_reducible refine wG ?_)|(refine FOr.keep ?_)|(with_reducible refine wP ?_)))
   (try conv=>whnf)
   ((refine FCall.give [] [] (cK) rfl rfl True.intro ⟨Ln.A,True.intro⟩ ?_);rintro _ _ ⟨rfl,rfl⟩;(refine ⟨by first|exact Nat.le_of_ble_eq_true rfl|omega,.inl rfl,?_⟩))
   (repeat' ((try conv=>whnf);first|(with_reducible first|refine wT ?_|refine wF ?_|(refine wI (fun hq=>?_) (fun hq=>?_) <;> try simp only [zA,zE,zD,zJ,zB,zI,wK,wL] at hq)|refine wA ?_|refine wB ?_|refine wC ?_|refine wD ?_|refine wE ?_)|((with_reducible refine wN ?_ ?_);focus exact needA)|(with_reducible refine wG ?_)|(refine FOr.keep ?_)|(with_reducible refine wP ?_)))
   (try conv=>whnf)
  ·exact ⟨⟨0 + 1,hlt,by show _ - (0 + 1) < _ - 0;omega,[0,3,1],wO rfl rfl rfl (wV rfl (LnB.boxN ⟨⟨⟨⟨⟨True.intro,Ln.A⟩,Ln.ownE rfl rfl⟩,Ln.A⟩,Ln.A⟩,Ln.A⟩) (wV rfl (LnB.rwg1 (Ln.ownE rfl rfl) (Nat.le_of_ble_eq_true rfl)) (wV rfl (LnB.rowE (by omega) fun k hk o ho=>by obtain rfl:o = 0:=(by omega);rfl) wX))),allA⟩⟩
  ·exact ⟨⟨1 + 1,hlt,by show _ - (1 + 1) < _ - 1;omega,[0,5,2,3],wO rfl rfl rfl (wV rfl (LnB.boxN ⟨⟨⟨⟨⟨True.intro,Ln.A⟩,Ln.ownE rfl rfl⟩,Ln.A⟩,Ln.A⟩,Ln.A⟩) (wV rfl (LnB.rwg2 (Ln.ownE rfl rfl) (Ln.ownE rfl rfl) (Nat.le_of_ble_eq_true rfl)) (wV rfl LnB.A (wV rfl (LnB.rowE (by omega) fun k hk o ho=>by obtain rfl:o = 0:=(by omega);rfl) wX)))),allA⟩⟩
  ·exact ⟨⟨2 + 1,hlt,by show _ - (2 + 1) < _ - 2;omega,[0,6,2,3,4],wO rfl rfl rfl (wV rfl (LnB.boxN ⟨⟨⟨⟨⟨True.intro,Ln.A⟩,Ln.ownE rfl rfl⟩,Ln.A⟩,Ln.A⟩,Ln.A⟩) (wV rfl (LnB.rwg3 (Ln.ownE rfl rfl) (Ln.ownE rfl rfl) (Ln.ownE rfl rfl) (Nat.le_of_ble_eq_true rfl)) (wV rfl LnB.A (wV rfl LnB.A (wV rfl (LnB.rowE (by omega) fun k hk o ho=>by obtain rfl:o = 0:=(by omega);rfl) wX))))),allA⟩⟩
 ·have hiE:s.R = i:=by omega
  have i3:i = 1 ∨ i = 2 ∨ i = 3:=by omega
  rw [hiE]
  rcases i3 with rfl|rfl|rfl
  all_goals
   (repeat' ((try conv=>whnf);first|(with_reducible first|refine wT ?_|refine wF ?_|(refine wI (fun hq=>?_) (fun hq=>?_) <;> try simp only [zA,zE,zD,zJ,zB,zI,wK,wL] at hq)|refine wA ?_|refine wB ?_|refine wC ?_|refine wD ?_|refine wE ?_)|((with_reducible refine wN ?_ ?_);focus exact needA)|(with_reducible refine wG ?_)|(with_reducible refine wP ?_)))
   (try conv=>whnf)
  ·exact ⟨⟨_,shB f s z em m r0 c0 d (C' + 1) s.A 1,[0,1,2],wO rfl rfl rfl (wV rfl LnB.A (wV rfl (LnB.rwg1 (Ln.ownE rfl rfl) (Nat.le_refl _)) (wV rfl LnB.A wX))),Ln.A,rfl,rfl⟩⟩
  ·exact ⟨⟨_,shB f s z em m r0 c0 d (C' + 1) s.A 2,[0,1,2,3],wO rfl rfl rfl (wV rfl LnB.A (wV rfl (LnB.rwg2 (Ln.ownE rfl rfl) (Ln.ownE rfl rfl) (Nat.le_refl _)) (wV rfl LnB.A (wV rfl LnB.A wX)))),Ln.A,rfl,rfl⟩⟩
  ·exact ⟨⟨_,shB f s z em m r0 c0 d (C' + 1) s.A 3,[0,1,2,3,4],wO rfl rfl rfl (wV rfl LnB.A (wV rfl (LnB.rwg3 (Ln.ownE rfl rfl) (Ln.ownE rfl rfl) (Ln.ownE rfl rfl) (Nat.le_refl _)) (wV rfl LnB.A (wV rfl LnB.A (wV rfl LnB.A wX))))),Ln.A,rfl,rfl⟩⟩
end Go.Proofs.Ytlffjnmbpoemnaa

namespace Go.Proofs.Ytlffjnmbpoemnaa
open Go.RowKit

/-- Amounts in which the last steps of a way are done, g along each. -/
def pushF (R:Nat) (p:List (Nat × Int)) (g:Int) (x:Nat → Nat → Int) (i r c:Nat):Int:=x r c + g * sumTo (fun j=>stE R p j r c) i
theorem pushF_zero (R:Nat) (p:List (Nat × Int)) (g:Int) (x:Nat → Nat → Int) (r c:Nat):pushF R p g x 0 r c = x r c:=by unfold pushF sumTo;simp
theorem pushF_step (R:Nat) (p:List (Nat × Int)) (g:Int) (x:Nat → Nat → Int) (i r c:Nat):pushF R p g x (i + 1) r c = pushF R p g x i r c + g * stE R p i r c:=by
 unfold pushF;simp only [sumTo];rw [Int.mul_add];omega
theorem pushF_bd {R:Nat} {p:List (Nat × Int)} {g:Int} {x:Nat → Nat → Int} {i r c:Nat} {k:Int} (h:0 ≤ x r c ∧ x r c ≤ 40000) (hk:1 ≤ k ∧ k ≤ 200000) (hg:g = k ∨ g = -k:=by omega) (hi:i ≤ 1000:=by omega):-300000000 ≤ pushF R p g x i r c ∧ pushF R p g x i r c ≤ 300000000:=by
 have h1:=stE_bd (f:=fun j=>stE R p j r c) (fun j=>stepE_bd _ _ _ _) i
 unfold pushF
 have h2:-200000000 ≤ g * sumTo (fun j=>stE R p j r c) i ∧ g * sumTo (fun j=>stE R p j r c) i ≤ 200000000:=by
  generalize sumTo (fun j=>stE R p j r c) i = S at h1
  have hS:-1000 ≤ S ∧ S ≤ 1000:=by omega
  have key:∀ a b:Int,0 ≤ a → a ≤ 200000 → -1000 ≤ b → b ≤ 1000 → -200000000 ≤ a * b ∧ a * b ≤ 200000000:=fun a b h1 h2 h3 h4=>by
   constructor
   ·have e1:a * -1000 ≤ a * b:=Int.mul_le_mul_of_nonneg_left h3 h1
    omega
   ·have e1:a * b ≤ a * 1000:=Int.mul_le_mul_of_nonneg_left h4 h1
    omega
  rcases hg with rfl|rfl
  ·exact key g S (by omega) (by omega) hS.1 hS.2
  ·have:=key k S (by omega) (by omega) hS.1 hS.2
   rw [Int.neg_mul];omega
 omega
theorem push_rc {R:Nat} {p:List (Nat × Int)} {g:Int} {i a b:Nat} (x:Nat → Nat → Int) (h1:atW p (i + 1) = b) (h2:atW p i = a) (hb:b < R) (ha:R ≤ a) (r j:Nat):pushF R p g x (i + 1) r j = if r = b ∧ j = a - R then pushF R p g x i r j + g else pushF R p g x i r j:=by
 rw [pushF_step,stE_rc h1 h2 hb ha]
 split <;> simp
theorem push_cr {R:Nat} {p:List (Nat × Int)} {g:Int} {i a b:Nat} (x:Nat → Nat → Int) (h1:atW p (i + 1) = b) (h2:atW p i = a) (hb:R ≤ b) (ha:a < R) (r j:Nat):pushF R p g x (i + 1) r j = if r = a ∧ j = b - R then pushF R p g x i r j + -g else pushF R p g x i r j:=by
 rw [pushF_step,stE_cr h1 h2 hb ha]
 split <;> simp
/-- All steps done, and the amount itself. -/
def lastP (R:Nat) (p:List (Nat × Int)) (g:Int) (x:Nat → Nat → Int) (r0 c0:Nat) (d:Int) (r c:Nat):Int:=if r = r0 ∧ c = c0 then pushF R p g x (p.length - 1) r c + d else pushF R p g x (p.length - 1) r c
theorem lastP_eq {R:Nat} {p:List (Nat × Int)} {x:Nat → Nat → Int} {r0 c0:Nat} {g:Int} {n:Nat} (hn:p.length - 1 = n):lastP R p g x r0 c0 (-g) = fun r c=>x r c + wayD true (nds R p) r0 c0 g r c:=by
 funext r c
 unfold lastP wayD hit pushF
 rw [sumE_idx]
 by_cases h:r = r0 ∧ c = c0
 ·rw [if_pos h,if_pos h];simp [Int.mul_add];omega
 ·rw [if_neg h,if_neg h];simp
theorem hitV {y y':Nat → Int} {r a c c':Nat} {d v:Int} (h:∀ j,y' j = if r = a ∧ j = c then y j + d else y j) (hr:r = a) (hc:c' = c) (hv:v = y c' + d):∀ j,y' j = if j = c' then v else y j:=fun j=>by
 rw [h,hv];subst hc;subst hr
 by_cases e:j = c'
 ·rw [if_pos ⟨rfl,e⟩,if_pos e,e]
 ·rw [if_neg (fun h=>e h.2),if_neg e]
/-- What push gives. up: the amount is to become greater. -/
def PushOut (s:Sheet) (m:List Int) (r0 c0:Nat) (up:Bool) (most:Int) (y:Nat → Nat → Int) (d:Int):Prop :=
 Ag s m y ∧ (0 ≤ d ∧ d ≤ most) ∧ (up = true → y r0 c0 = s.A r0 c0 + d) ∧ (up = false → y r0 c0 = s.A r0 c0 - d) ∧ (d = most ∨ ((up = true → ∀ w,Ag s m w → w r0 c0 ≤ y r0 c0) ∧ (up = false → ∀ w,Ag s m w → y r0 c0 ≤ w r0 c0)))
theorem vis0 {g:Gr} {f:Nat} {P:Pth} (B:Bfs g f P []):(!(P f).isEmpty) = true:=by
 have:=shut_col B
 cases hP:P f with
 | nil=>exact (this hP).elim
 | cons=>rfl
theorem drop_two {p:List (Nat × Int)} {i:Nat} (h:i + 1 + 1 ≤ p.length):∃ a b t,p.drop i = a :: b :: t :=
 ⟨p.getD i (0,0),p.getD (i + 1) (0,0),p.drop (i + 2),by rw [drop_eq (0,0) (show i < p.length by omega),drop_eq (0,0) (show i + 1 < p.length by omega)]⟩
theorem drop_one {p:List (Nat × Int)} {i:Nat} (h:p.length = i + 1):∃ a,p.drop i = [a] :=
 ⟨p.getD i (0,0),by rw [drop_eq (0,0) (show i < p.length by omega),List.drop_eq_nil_of_le (by omega)]⟩
theorem atW_drop {p t:List (Nat × Int)} {i a:Nat} {v:Int} (h:p.drop i = (a,v) :: t):atW p i = a:=by
 have hi:i < p.length:=by
  rcases Nat.lt_or_ge i p.length with h'|h'
  ·exact h'
  ·rw [List.drop_eq_nil_of_le h'] at h;cases h
 rw [drop_eq (0,0) hi] at h
 injection h with h _
 unfold atW;rw [h]
theorem drop_next {p t:List (Nat × Int)} {i:Nat} {q:Nat × Int} (h:p.drop i = q :: t):p.drop (i + 1) = t:=by
 have hi:i < p.length:=by
  rcases Nat.lt_or_ge i p.length with h'|h'
  ·exact h'
  ·rw [List.drop_eq_nil_of_le h'] at h;cases h
 rw [drop_eq (0,0) hi] at h
 injection h
theorem atW_drop1 {p t:List (Nat × Int)} {i:Nat} {q:Nat × Int} {b:Nat} {v:Int} (h:p.drop i = q :: (b,v) :: t):atW p (i + 1) = b:=atW_drop (drop_next h)
end Go.Proofs.Ytlffjnmbpoemnaa
