/- Regions that draw their order, with operations of which either may come first: all orders of those are read, one by one -/
import Derived.Test.YtodpjdmdmmnlpaaGreatBs10

namespace Go.Proofs.YtodpjdmdmmnlpaaGreat
open Go.RowKit

/-- What may come next: one operation and the quiet ones behind it, then what may come next; or another one. -/
inductive HT where
 | leaf
 | alt (c:Nat) (qs:List Nat) (sub next:HT)
 deriving Inhabited
def HT.ops : HT → List Nat
 | .leaf=>[]
 | .alt c qs sub _=>c :: (qs ++ sub.ops)
def HT.heads : HT → List Nat
 | .leaf=>[]
 | .alt c _ _ next=>c :: next.heads
structure THint where
 qs:List Nat
 t:HT
 w:Hint
 deriving Inhabited
def nodB : List Nat → Bool
 | []=>true
 | x :: xs=>!xs.contains x && nodB xs
theorem nodB_ok : ∀ {l:List Nat},nodB l = true ↔ l.Nodup
 | []=>by simp [nodB]
 | x :: xs=>by simp [nodB,nodB_ok]
def sameB (a b:List Nat):Bool:=(a.all b.contains) && (b.all a.contains)
def covB (clo:Nat → Nat → Bool) (heads rem:List Nat):Bool:=rem.all fun i=>heads.contains i || rem.any fun j=>j != i && clo i j
def okAlt (ao:Nat → AO) (W:Nat → List Nat) (clo:Nat → Nat → Bool) (c:Nat) (qs:List Nat) (sub:HT) (acc rem:List Nat):Bool :=
 sameB rem (c :: (qs ++ sub.ops)) && nodB (acc ++ (c :: (qs ++ sub.ops))) && (qs.all fun j=>!(ao j).op.chg) && (acc.all fun j=>pairB ao W clo j c && qs.all (pairB ao W clo j)) && pairsB ao W clo qs && covB clo sub.heads sub.ops && ((qs ++ sub.ops).all fun k=>!clo c k)
def okT (ao:Nat → AO) (W:Nat → List Nat) (clo:Nat → Nat → Bool):HT → List Nat → List Nat → Bool
 | .leaf,_,_=>true
 | .alt c qs sub next,acc,rem=>okAlt ao W clo c qs sub acc rem && okT ao W clo sub (acc ++ qs) sub.ops && okT ao W clo next acc rem
def opsI (l:List AO) (W:Nat → List Nat) (L:List Nat):List (AO × List AO):=L.map fun i=>(l.getD i default,(W i).map fun j=>l.getD j default)
def atree (C:CallP) (l:List AO) (W:Nat → List Nat):HT → (Env → List AB → Prop) → Env → List AB → Prop
 | .leaf,Q,e,h=>Q e h
 | .alt c qs sub .leaf,Q,e,h=>aregs C (opsI l W (c :: qs)) (atree C l W sub Q) e h
 | .alt c qs sub (.alt c2 qs2 sub2 next2),Q,e,h=>aregs C (opsI l W (c :: qs)) (atree C l W sub Q) e h ∧ atree C l W (.alt c2 qs2 sub2 next2) Q e h
/-- A region with its tree. -/
def aregT (C:CallP) (l:List AO) (T:THint) (Q:Env → List AB → Prop) (e:Env) (h:List AB):Prop:=aregs C (opsI l (watchOf T.w) T.qs) (atree C l (watchOf T.w) T.t Q) e h
def okRegT (P:Program) (n:Nat) (ops:Array Oper) (T:THint):Bool :=
 match ops.toList.mapM (compAO P n ops) with
 | none=>false
 | some l =>
  let ao:=fun i=>l.getD i default
  let b:=Region.before ops
  let W:=watchOf T.w
  cloOK ops b && stillB ops.size ao W (cloB b) && (T.w.all fun p=>p.2.all (decide <| · < ops.size)) && sameB (T.qs ++ T.t.ops) (List.range ops.size) && nodB (T.qs ++ T.t.ops) && (T.qs.all fun j=>!(ao j).op.chg) && pairsB ao W (cloB b) T.qs && covB (cloB b) T.t.heads T.t.ops && okT ao W (cloB b) T.t T.qs T.t.ops

section
variable {ao:Nat → AO} {W:Nat → List Nat} {clo:Nat → Nat → Bool}
theorem pair_of {j i:Nat} (h:pairB ao W clo j i = true):Pair ao W (fun i j=>clo i j = true) j i:=by
 have:pairsB ao W clo [j,i] = true:=by simp [pairsB,h]
 exact List.rel_of_pairwise_cons (pairs_of this) (by simp)
theorem okT_sub : ∀ {t:HT} {acc acc' rem:List Nat},acc'.Sublist acc → okT ao W clo t acc rem = true → okT ao W clo t acc' rem = true
 | .leaf,_,_,_,_,_=>rfl
 | .alt c qs sub next,acc,acc',rem,hs,h=>by
  simp only [okT,okAlt,Bool.and_eq_true] at h ⊢
  obtain ⟨⟨⟨⟨⟨⟨⟨⟨a1,a2⟩,a3⟩,a4⟩,a5⟩,a6⟩,a7⟩,a8⟩,a9⟩:=h
  refine ⟨⟨⟨⟨⟨⟨⟨⟨a1,?_⟩,a3⟩,?_⟩,a5⟩,a6⟩,a7⟩,okT_sub (hs.append_right qs) a8⟩,okT_sub hs a9⟩
  ·rw [nodB_ok] at a2 ⊢
   exact a2.sublist (hs.append_right _)
  ·rw [List.all_eq_true] at a4 ⊢
   exact fun j hj=>a4 j (hs.subset hj)
theorem okT_pairs : ∀ {t:HT} {acc rem:List Nat},okT ao W clo t acc rem = true → ∀ j ∈ acc,∀ k ∈ t.ops,Pair ao W (fun i j=>clo i j = true) j k
 | .leaf,_,_,_,_,_,_,hk=>by cases hk
 | .alt c qs sub next,acc,rem,h,j,hj,k,hk=>by
  simp only [okT,okAlt,Bool.and_eq_true] at h
  obtain ⟨⟨⟨⟨⟨⟨⟨⟨a1,a2⟩,a3⟩,a4⟩,a5⟩,a6⟩,a7⟩,a8⟩,a9⟩:=h
  rw [List.all_eq_true] at a4
  have:=a4 j hj
  simp only [Bool.and_eq_true,List.all_eq_true] at this
  simp only [HT.ops,List.mem_cons,List.mem_append] at hk
  rcases hk with rfl|hk|hk
  ·exact pair_of this.1
  ·exact pair_of (this.2 k hk)
  ·exact okT_pairs a8 j (List.mem_append_left _ hj) k hk
/-- One of the ways that a tree has. -/
theorem head_of {C:CallP} {l:List AO} {W':Nat → List Nat}:∀ {t:HT} {acc rem:List Nat} {i:Nat},i ∈ t.heads → okT ao W clo t acc rem = true →
  ∃ qs sub,(∀ Q e h,atree C l W' t Q e h → aregs C (opsI l W' (i :: qs)) (atree C l W' sub Q) e h) ∧ okAlt ao W clo i qs sub acc rem = true ∧ okT ao W clo sub (acc ++ qs) sub.ops = true
 | .leaf,_,_,_,hi,_=>by cases hi
 | .alt c qs sub next,acc,rem,i,hi,h=>by
  simp only [okT,Bool.and_eq_true] at h
  obtain ⟨⟨a1,a2⟩,a3⟩:=h
  rcases List.mem_cons.1 hi with rfl|hi
  ·refine ⟨qs,sub,fun Q e h H=>?_,a1,a2⟩
   cases next with
   | leaf=>exact H
   | alt=>exact H.1
  ·obtain ⟨qs',sub',k1,k2,k3⟩:=head_of (C:=C) (l:=l) (W':=W') hi a3
   refine ⟨qs',sub',fun Q e h H=>?_,k2,k3⟩
   cases next with
   | leaf=>cases hi
   | alt=>exact k1 Q e h H.2
end
section
variable {C:CallP} {ao:Nat → AO} {W:Nat → List Nat}
theorem arun_Q (hC:C.Mono):∀ (l:List Nat) {D:Nat → Prop} {Q Q':Env → List AB → Prop} {e:Env} {h:List AB},(∀ e h,Q e h → Q' e h) → arun C ao W l D Q e h → arun C ao W l D Q' e h
 | [],_,_,_,_,_,hq,H=>hq _ _ H
 | _ :: rest,_,_,_,_,_,hq,H=>gstep_mono hC (fun _ _ hh=>⟨hh.1,arun_Q hC rest hq hh.2⟩) H
theorem arun_app (hC:C.Mono):∀ (l1 l2:List Nat) {D:Nat → Prop} {Q:Env → List AB → Prop} {e:Env} {h:List AB},arun C ao W l1 D (fun e h=>∀ D,arun C ao W l2 D Q e h) e h → arun C ao W (l1 ++ l2) D Q e h
 | [],_,_,_,_,_,H=>H _
 | _ :: l1,l2,_,_,_,_,H=>gstep_mono hC (fun _ _ hh=>⟨hh.1,arun_app hC l1 l2 hh.2⟩) H
end
section
variable {rd:Option Nat} {md:Nat} {F:Nat → Prop} {P:Program} {n:Nat} {gS:GM} {hS:List AB} {wS:World}
theorem aregs_all {C:CallP} (hC:C.Mono) {l:List AO} {W:Nat → List Nat} {Q:Env → List AB → Prop} {L:List Nat} {e:Env} {h:List AB} (H:aregs C (opsI l W L) Q e h):∀ D,arun C (fun i=>l.getD i default) W L D Q e h:=fun D=>arun_of hC L D H
theorem tree_ok {ops:Array Oper} {l:List AO} (hao:∀ (i:Nat) (o:Oper),ops[i]? = some o → compAO P n ops o = some (l.getD i default)) {W:Nat → List Nat} {b:Array Nat} (hb:cloOK ops b = true) (S:Still (fun i=>l.getD i default) W (fun i j=>cloB b i j = true) ops.size)
  {Q':Env → List AB → Prop} {Q:Exit → Act → World → Prop} (hQ:∀ e h a w,Q' e h → Rel F n gS hS wS e h a w → Q .normal a w) :
  ∀ (fuel:Nat) (qs:List Nat) (t:HT) (listed:Array Bool) (e:Env) (h:List AB) (a:Act) (w:World),(qs ++ t.ops).length = fuel → listed.size = ops.size → (∀ j,j ∈ qs ++ t.ops ↔ j < ops.size ∧ listed.getD j false = false) → (qs ++ t.ops).Nodup →
   (∀ j ∈ qs,(l.getD j default).op.chg = false) → qs.Pairwise (Pair (fun i=>l.getD i default) W (fun i j=>cloB b i j = true)) → covB (cloB b) t.heads t.ops = true → okT (fun i=>l.getD i default) W (cloB b) t qs t.ops = true →
   (∀ k j,j < ops.size → listed.getD k false = true → cloB b k j = true → listed.getD j false = true) → Rel F n gS hS wS e h a w → arun (ACalls P) (fun i=>l.getD i default) W qs (fun k=>listed.getD k false = true) (atree (ACalls P) l W t Q') e h → wpAnyIn (Wd rd) md P .any ops Q fuel listed a w:=by
 have hgt:∀ (listed:Array Bool) (j:Nat),listed.size = ops.size → j < ops.size → listed.getD j true = listed.getD j false:=fun listed j hs hj=>by
  have:j < listed.size:=by omega
  simp [this]
 simp only [cloOK,List.all_eq_true,List.mem_range,Bool.and_eq_true,Bool.not_eq_true'] at hb
 have hcl:∀ (i:Nat) (o:Oper),ops[i]? = some o → cloB b i i = false ∧ (∀ x ∈ o.after,Region.binds .any x = true → x.on < ops.size ∧ cloB b i x.on = true) ∧ ∀ j,j < ops.size → cloB b i j = true → ∃ x ∈ o.after,Region.binds .any x = true ∧ (x.on = j ∨ cloB b x.on j = true):=fun i o ho=>by
  have hi:i < ops.size:=by
   rcases Nat.lt_or_ge i ops.size with h|h
   ·exact h
   ·rw [Array.getElem?_eq_none h] at ho;cases ho
  have:=hb i hi
  rw [ho] at this
  simp only [List.all_eq_true,Bool.and_eq_true,Bool.or_eq_true,Bool.not_eq_true',decide_eq_true_eq,List.any_eq_true,beq_iff_eq,Array.mem_toList_iff,List.mem_range] at this
  refine ⟨this.1,fun x hx hbx=>?_,fun j hj hc=>?_⟩
  ·rcases this.2.1 x hx with h|h
   ·rw [hbx] at h;cases h
   ·exact h
  ·rcases this.2.2 j hj with h|h
   ·rw [hc] at h;cases h
   ·obtain ⟨x,hx,h1,h2⟩:=h
    exact ⟨x,hx,h1,h2⟩
 intro fuel
 induction fuel with
 | zero =>
  intro qs t listed e h a w hR hs hm hnd hqq hp hcov hT hclo hr H
  have hnil:=List.eq_nil_of_length_eq_zero hR
  obtain ⟨rfl,h2⟩:=List.append_eq_nil_iff.1 hnil
  cases t with
  | alt=>simp [HT.ops] at h2
  | leaf =>
   refine ⟨?_,hQ e h a w H hr⟩
   rw [List.eq_nil_iff_forall_not_mem]
   intro j hj
   obtain ⟨h1,o,ho,_⟩:=mem_ready.1 hj
   have hjl:j < ops.size:=by
    rcases Nat.lt_or_ge j ops.size with h|h
    ·exact h
    ·rw [Array.getElem?_eq_none h] at ho;cases ho
   have:=(hm j).2 ⟨hjl,by rw [← hgt listed j hs hjl];exact h1⟩
   cases this
 | succ fuel ih =>
  intro qs t listed e h a w hR hs hm hnd hqq hp hcov hT hclo hr H
  have rdy:∀ i0,i0 ∈ qs ++ t.ops → (∀ k ∈ qs ++ t.ops,k ≠ i0 → cloB b i0 k ≠ true) → i0 ∈ Region.ready .any ops listed:=fun i0 hi0 hfree=>by
   have h0:=(hm i0).1 hi0
   have ho:ops[i0]? = some ops[i0]:=Array.getElem?_eq_getElem h0.1
   have hc:=hcl i0 _ ho
   refine mem_ready.2 ⟨by rw [hgt listed i0 hs h0.1];exact h0.2,_,ho,fun x hx hbx=>?_⟩
   obtain ⟨h1,h2⟩:=hc.2.1 x hx hbx
   cases hl:listed.getD x.on false with
   | true=>rfl
   | false =>
    have hmem:=(hm x.on).2 ⟨h1,hl⟩
    by_cases e1:x.on = i0
    ·rw [e1,hc.1] at h2;cases h2
    ·exact (hfree _ hmem e1 h2).elim
  refine ⟨fun hno=>?_,fun i hi=>?_⟩
  ·cases qs with
   | cons i0 qs =>
    have:=rdy i0 (by simp) (fun k hk hne hcl'=>by
     simp only [List.cons_append,List.mem_cons,List.mem_append] at hk
     rcases hk with h|h|h
     ·exact hne h
     ·exact ((List.pairwise_cons.1 hp).1 _ h).2.1 hcl'
     ·exact (okT_pairs hT i0 (by simp) k h).2.1 hcl')
    rw [hno] at this;cases this
   | nil =>
    cases t with
    | leaf=>simp [HT.ops] at hR
    | alt c qs' sub next =>
     simp only [okT,okAlt,Bool.and_eq_true,List.all_eq_true,Bool.not_eq_true'] at hT
     have a7:=hT.1.1.2
     have:=rdy c (by simp [HT.ops]) (fun k hk hne hcl'=>by
      simp only [HT.ops,List.nil_append,List.mem_cons] at hk
      rcases hk with h|h
      ·exact hne h
      ·rw [a7 k h] at hcl';cases hcl')
     rw [hno] at this;cases this
  ·obtain ⟨h1,o,ho,hed⟩:=mem_ready.1 hi
   have hil:i < ops.size:=by
    rcases Nat.lt_or_ge i ops.size with h|h
    ·exact h
    ·rw [Array.getElem?_eq_none h] at ho;cases ho
   have hiR:=(hm i).2 ⟨hil,by rw [← hgt listed i hs hil];exact h1⟩
   have hc:=hcl i o ho
   have unl:∀ j ∈ qs ++ t.ops,j < ops.size ∧ listed.getD j false = false:=fun j hj=>(hm j).1 hj
   have hij:∀ j ∈ qs ++ t.ops,¬ cloB b i j = true:=fun j hj hcj=>by
    obtain ⟨x,hx,hbx,hxj⟩:=hc.2.2 j (unl j hj).1 hcj
    have hlx:=hed x hx hbx
    have:listed.getD j false = true:=by
     rcases hxj with rfl|hxj
     ·exact hlx
     ·exact hclo _ _ (unl j hj).1 hlx hxj
    rw [(unl j hj).2] at this
    cases this
   have hDN:∀ k,listed.getD k false = true → k < ops.size:=fun k hk=>by
    rcases Nat.lt_or_ge k ops.size with h|h
    ·exact h
    ·have:listed.size ≤ k:=by omega
     simp [Array.getElem?_eq_none this] at hk
   have getne:∀ j,j ≠ i → (listed.setIfInBounds i true).getD j false = listed.getD j false:=fun j hj=>getD_set_ne false (Ne.symm hj)
   have geteq:(listed.setIfInBounds i true).getD i false = true:=by
    have:i < listed.size:=by omega
    simp [this]
   have hDD:∀ k,listed.getD k false = true → ∀ j ∈ qs,¬ cloB b k j = true ∧ k ≠ j:=fun k hk j hj=>by
    have uj:=unl j (List.mem_append_left _ hj)
    exact ⟨fun hkj=>(by have:=hclo k j uj.1 hk hkj;rw [uj.2] at this;cases this),fun e1=>(by subst e1;rw [uj.2] at hk;cases hk)⟩
   have clo':∀ k j,j < ops.size → (listed.setIfInBounds i true).getD k false = true → cloB b k j = true → (listed.setIfInBounds i true).getD j false = true:=fun k j hjs hk hkj=>by
    by_cases e2:j = i
    ·subst e2;exact geteq
    ·rw [getne j e2]
     by_cases e1:k = i
     ·subst e1
      obtain ⟨x,hx,hbx,hxj⟩:=hc.2.2 j hjs hkj
      have hlx:=hed x hx hbx
      rcases hxj with rfl|hxj
      ·exact hlx
      ·exact hclo _ _ hjs hlx hxj
     ·rw [getne k e1] at hk
      exact hclo k j hjs hk hkj
   have anti:∀ k,(listed.setIfInBounds i true).getD k false = true → k = i ∨ listed.getD k false = true:=fun k hk=>by
    by_cases e1:k = i
    ·exact .inl e1
    ·rw [getne k e1] at hk
     exact .inr hk
   rcases List.mem_append.1 hiR with hq|ht
   ·obtain ⟨pre,rest,rfl⟩:=List.append_of_mem hq
    rw [List.pairwise_append] at hp
    obtain ⟨p1,p2,p3⟩:=hp
    have G:=pull (ACalls.mono P) S hil rest (atree (ACalls P) l W t Q') pre (fun k=>listed.getD k false = true) e h (fun j hj=>(unl j (by simp [hj])).1) hDN p1 (fun j hj=>⟨p3 j hj i List.mem_cons_self,hij j (by simp [hj])⟩)
     (fun k hk j hj=>hDD k hk j (by simp [hj])) H
    have hni:i ∉ pre ++ rest ∧ i ∉ t.ops:=by
     have:=hnd
     simp only [List.append_assoc,List.cons_append,List.nodup_append,List.nodup_cons,List.mem_append,List.mem_cons,not_or] at this
     obtain ⟨_,⟨⟨n1,n2⟩,_⟩,n3⟩:=this
     exact ⟨by simp only [List.mem_append,not_or];exact ⟨fun hp=>n3 i hp i (.inl rfl) rfl,n1⟩,n2⟩
    refine gstep_ok ho (hao i o ho) hr (fun r h' a' w' hk hr'=>?_) G
    refine ih (pre ++ rest) t (listed.setIfInBounds i true) _ _ _ _ (by simp at hR ⊢;omega) (by simp [hs]) (fun j=>?_) ?_ (fun j hj=>hqq j ?_) ?_ hcov (okT_sub ?_ hT) clo' hr' (arun_anti (ACalls.mono P) _ anti hk.2)
    ·by_cases e1:j = i
     ·subst e1
      rw [geteq]
      simp only [List.mem_append,not_or] at hni
      simp [hni]
     ·rw [getne j e1,← hm j]
      simp [e1]
    ·refine hnd.sublist ?_
     exact ((List.Sublist.refl pre).append (List.sublist_cons_self i rest)).append_right t.ops
    ·simp only [List.mem_append,List.mem_cons] at hj ⊢
     rcases hj with h|h
     ·exact .inl h
     ·exact .inr (.inr h)
    ·rw [List.pairwise_append]
     exact ⟨p1,(List.pairwise_cons.1 p2).2,fun x hx y hy=>p3 x hx y (List.mem_cons_of_mem _ hy)⟩
    ·exact (List.Sublist.refl pre).append (List.sublist_cons_self i rest)
   ·have hhead:i ∈ t.heads:=by
     unfold covB at hcov
     rw [List.all_eq_true] at hcov
     have:=hcov i ht
     simp only [Bool.or_eq_true,List.contains_iff_mem,List.any_eq_true,Bool.and_eq_true,bne_iff_ne,ne_eq] at this
     rcases this with h|⟨j,hj,_,hc'⟩
     ·exact h
     ·exact (hij j (List.mem_append_right _ hj) hc').elim
    obtain ⟨qs',sub,k1,k2,k3⟩:=head_of (C:=ACalls P) (l:=l) (W':=W) hhead hT
    simp only [okAlt,Bool.and_eq_true] at k2
    obtain ⟨⟨⟨⟨⟨⟨a1,a2⟩,a3⟩,a4⟩,a5⟩,a6⟩,a7⟩:=k2
    have H2:arun (ACalls P) (fun i=>l.getD i default) W (qs ++ i :: qs') (fun k=>listed.getD k false = true) (atree (ACalls P) l W sub Q') e h :=
     arun_app (ACalls.mono P) qs (i :: qs') (arun_Q (ACalls.mono P) qs (fun e h hh=>aregs_all (ACalls.mono P) (k1 Q' e h hh)) H)
    have G:=pull (ACalls.mono P) S hil qs' (atree (ACalls P) l W sub Q') qs (fun k=>listed.getD k false = true) e h (fun j hj=>(unl j (List.mem_append_left _ hj)).1) hDN hp (fun j hj=>⟨okT_pairs hT j hj i ht,hij j (List.mem_append_left _ hj)⟩)
     (fun k hk j hj=>hDD k hk j hj) H2
    simp only [sameB,Bool.and_eq_true,List.all_eq_true,List.contains_iff_mem] at a1
    rw [nodB_ok] at a2
    have a2':=a2
    simp only [List.nodup_append,List.nodup_cons,List.mem_append,List.mem_cons,not_or] at a2'
    obtain ⟨_,⟨⟨n1,n1'⟩,n4⟩,n3⟩:=a2'
    have hlen:(qs ++ t.ops).length = (qs ++ (i :: (qs' ++ sub.ops))).length:=by
     have e1:t.ops.length ≤ (i :: (qs' ++ sub.ops)).length:=nodup_le (hnd.sublist (List.sublist_append_right _ _)) (fun x hx=>a1.1 x hx)
     have e2:(i :: (qs' ++ sub.ops)).length ≤ t.ops.length:=nodup_le (a2.sublist (List.sublist_append_right _ _)) (fun x hx=>a1.2 x hx)
     simp only [List.length_append] at e1 e2 ⊢
     omega
    have hpq:(qs ++ qs').Pairwise (Pair (fun i=>l.getD i default) W (fun i j=>cloB b i j = true)):=by
     rw [List.pairwise_append]
     refine ⟨hp,pairs_of a5,fun x hx y hy=>?_⟩
     rw [List.all_eq_true] at a4
     have:=a4 x hx
     simp only [Bool.and_eq_true,List.all_eq_true] at this
     exact pair_of (this.2 y hy)
    refine gstep_ok ho (hao i o ho) hr (fun r h' a' w' hk hr'=>?_) G
    refine ih (qs ++ qs') sub (listed.setIfInBounds i true) _ _ _ _ (by rw [hR] at hlen;simp at hlen ⊢;omega) (by simp [hs]) (fun j=>?_) ?_ (fun j hj=>?_) hpq a6 k3 clo' hr' (arun_anti (ACalls.mono P) _ anti hk.2)
    ·have hmem:j ∈ t.ops ↔ j = i ∨ j ∈ qs' ∨ j ∈ sub.ops:=by
      constructor
      ·intro h
       have:=a1.1 j h
       simpa using this
      ·intro h
       exact a1.2 j (by simpa using h)
     by_cases e1:j = i
     ·subst e1
      rw [geteq]
      have:j ∉ qs:=fun h=>n3 j h j (.inl rfl) rfl
      simp [this,n1,n1']
     ·rw [getne j e1,← hm j]
      simp only [List.mem_append,hmem,e1,false_or,or_assoc]
    ·refine a2.sublist ?_
     rw [List.append_assoc]
     exact (List.Sublist.refl qs).append (List.sublist_cons_self i _)
    ·rcases List.mem_append.1 hj with h|h
     ·exact hqq j h
     ·rw [List.all_eq_true] at a3
      simpa using a3 j h
end
end Go.Proofs.YtodpjdmdmmnlpaaGreat
