/- Regions over abstract values: one order stands for all / The order of a region's operations: over abstract values one order stands for all -/
import Derived.Test.YtodpjdmdmmnlpaaGreatBs8
set_option linter.unusedSimpArgs false
set_option linter.unusedVariables false
namespace Go.Proofs.YtodpjdmdmmnlpaaGreat
open Go.RowKit

def AOp.xs : AOp → List AX
 | .mv x | .nilck x | .box x | .ld _ x | .fa x _ | .fld x _ _ | .un _ x | .conv _ x | .len x | .ext x _ | .clr _ x=>[x]
 | .pick c a b=>[c,a,b]
 | .build _ ps=>ps.map (·.2.2)
 | .bsl _ _ _ ps | .bslp _ _ _ ps=>ps.map (·.2)
 | .st _ x y | .ia _ x y | .bin _ x y | .binb _ x y | .eqz _ _ x y | .eqa _ _ x y | .msl _ _ _ x y | .app _ _ x y | .mx x y | .mn x y=>[x,y]
 | .slc _ x lo hi=>x :: (lo.toList ++ hi.toList)
 | .mkf _ xs | .call _ xs=>xs
 | .calv x xs=>x :: xs
 | .xt X=>X.xs
 | .nxt x=>[x]
 | .no=>[]
/-- It may change the call's own blocks. -/
def AOp.chg : AOp → Bool
 | .bslp .. | .box _ | .st .. | .msl .. | .app .. | .clr .. | .call .. | .calv .. | .nxt _=>true
 | .xt X=>X.chg
 | _=>false
/-- It looks at them. -/
def AOp.rds : AOp → Bool
 | .ld ..=>true
 | .xt X=>X.rds
 | o=>o.chg

theorem map_congr_ev {α:Type} {ps:List α} {f:α → AX} {e e':AX → AV} (h:∀ x ∈ ps.map f,e x = e' x) {β:Type} (g:α → AV → β):(ps.map fun p=>g p (e (f p))) = ps.map fun p=>g p (e' (f p)) :=
 List.map_congr_left fun p hp=>by rw [h (f p) (List.mem_map.2 ⟨p,hp,rfl⟩)]
theorem apubs_env {e e':AX → AV}:∀ {ps:List (Nat × AX)} {h:List AB} {K:List (Nat × AV) → List AB → Prop},(∀ x ∈ ps.map (·.2),e x = e' x) → apubs e ps h K → apubs e' ps h K
 | [],_,_,_,H=>H
 | (i,x) :: ps,h,K,hx,H=>by
  simp only [apubs] at H ⊢
  rw [← hx x (by simp)]
  obtain ⟨v,h1,H1,k1⟩:=apub_one H
  exact k1 _ (apubs_env (fun y hy=>hx y (List.mem_cons_of_mem _ hy)) H1)
theorem aop_env (o:AOp) {e e':AX → AV} {h:List AB} {K:AV → List AB → Prop} (hx:∀ x ∈ o.xs,e x = e' x) (H:aop o e h K):aop o e' h K:=by
 cases o <;> simp only [AOp.xs,List.mem_cons,List.not_mem_nil,or_false,forall_eq,forall_eq_or_imp] at hx
 case build zs ps =>
  simp only [aop] at H ⊢
  have h1:=map_congr_ev (f:=fun p:Nat × Nat × AX=>p.2.2) hx (fun p v=>(p.1,p.2.1,v))
  refine ⟨fun p hp=>?_,H.2.1,?_⟩
  ·rw [← hx _ (List.mem_map.2 ⟨p,hp,rfl⟩)];exact H.1 p hp
  ·rw [← h1];exact H.2.2
 case bsl n sz zs ps =>
  simp only [aop] at H ⊢
  have h1:=map_congr_ev (f:=fun p:Nat × AX=>p.2) hx (fun p v=>(p.1,v))
  refine ⟨fun p hp=>?_,H.2.1,?_⟩
  ·rw [← hx _ (List.mem_map.2 ⟨p,hp,rfl⟩)];exact H.1 p hp
  ·rw [← h1];exact H.2.2
 case bslp n sz zs ps =>
  rcases H with H|H
  ·exact .inl (apubs_env hx H)
  ·refine .inr ⟨fun p hp=>?_,?_⟩
   ·rw [← hx _ (List.mem_map.2 ⟨p,hp,rfl⟩)];exact H.1 p hp
   ·rw [← map_congr_ev (f:=fun p:Nat × AX=>p.2) hx (fun p v=>(p.1,v))];exact H.2
 case slc sz x lo hi =>
  obtain ⟨h1,h2⟩:=hx
  have hlo:lo.map e = lo.map e':=by
   cases lo with
   | none=>rfl
   | some a=>simp only [Option.map_some];rw [h2 a (by simp)]
  have hhi:hi.map e = hi.map e':=by
   cases hi with
   | none=>rfl
   | some a=>simp only [Option.map_some];rw [h2 a (by simp)]
  simp only [aop] at H ⊢
  rw [← h1,← hlo,← hhi];exact H
 case mkf f xs =>
  simp only [aop] at H ⊢
  rw [← List.map_congr_left hx];exact H
 case ld m x=>cases m <;> (simp only [aop] at H ⊢;rw [← hx];exact H)
 case call=>exact H
 case calv=>exact H
 case xt X=>exact xop_env hx H
 case nxt=>exact H
 case no=>exact H
 case pick c a b =>
  obtain ⟨h1,h2,h3⟩:=hx
  simp only [aop] at H ⊢
  rw [← h1,← h2,← h3];exact H
 all_goals
  first
  | (simp only [aop] at H ⊢;rw [← hx];exact H)
  | (obtain ⟨h1,h2⟩:=hx;simp only [aop] at H ⊢;rw [← h1,← h2];exact H)
theorem asplit_env (o:AOp) {e e':AX → AV} {h:List AB} {K:AV → List AB → Prop} (hx:∀ x ∈ o.xs,e x = e' x) (H:asplit o e h K):asplit o e' h K:=by
 cases o <;> simp only [asplit] at H ⊢
 case app sz b x y =>
  simp only [AOp.xs,List.mem_cons,List.not_mem_nil,or_false,forall_eq,forall_eq_or_imp] at hx
  obtain ⟨h1,h2⟩:=hx
  rw [← h1,← h2];exact H
theorem aop_mono (o:AOp) {e:AX → AV} {h:List AB} {K K':AV → List AB → Prop} (hk:∀ r h',K r h' → K' r h') (H:aop o e h K):aop o e h K':=by
 obtain ⟨r,h',h1,h2⟩:=aop_one o e h K H
 have h3:=hk r h' h2
 clear H h2
 have key:∀ {K1:AV → List AB → Prop},aop o e h K1 → (∀ a b,K1 a b → K' a b) → aop o e h K':=by
  clear h1 h3 hk
  intro K1 H hm
  cases o <;> simp only [aop] at H ⊢
  case mv=>exact hm _ _ H
  case pick c a b =>
   generalize e c = v at H ⊢
   cases v <;> simp only at H ⊢
   case bool q=>cases q <;> exact hm _ _ H
  case nilck x =>
   generalize e x = v at H ⊢
   cases v <;> simp only at H ⊢ <;> exact hm _ _ H
  case box x =>
   generalize e x = v at H ⊢
   cases v <;> simp only at H ⊢ <;> exact hm _ _ H
  case xt X =>
   obtain ⟨r,h',h1,_,h2,_⟩:=xop_one H
   exact h2 _ (hm _ _ h1)
  case build=>exact ⟨H.1,H.2.1,hm _ _ H.2.2⟩
  case bsl=>exact ⟨H.1,H.2.1,hm _ _ H.2.2⟩
  case bslp =>
   rcases H with H|H
   ·obtain ⟨l,h',H1,k1⟩:=apubs_one H
    exact .inl (k1 _ ⟨H1.1,hm _ _ H1.2⟩)
   ·exact .inr ⟨H.1,hm _ _ H.2⟩
  case ld m x =>
   cases m <;> simp only at H ⊢ <;> generalize e x = v at H ⊢ <;> cases v <;> simp only at H ⊢
   case none.ip=>exact ⟨H.1,hm _ _ H.2⟩
   case some.ip=>exact ⟨H.1,hm _ _ H.2⟩
   case none.ptr=>split at H <;> first|exact ⟨H.1,hm _ _ H.2⟩|exact H.elim
   case some.ptr=>split at H <;> first|exact ⟨H.1,hm _ _ H.2⟩|exact H.elim
   case none.rp=>split at H <;> first|exact ⟨H.1,H.2.1,H.2.2.1,hm _ _ H.2.2.2⟩|exact H.elim
   case some.rp d sz k o =>
    split at H
    ·cases hb:(sz == 1 && o == 0) <;> simp only [hb] at H ⊢
     ·exact ⟨H.1,H.2.1,H.2.2.1,hm _ _ H.2.2.2⟩
     ·exact ⟨H.1,H.2.1,hm _ _ H.2.2⟩
    ·exact ⟨H.1,H.2.1,H.2.2.1,hm _ _ H.2.2.2⟩
    ·exact H.elim
  case st m x y =>
   generalize e x = v at H ⊢
   cases v <;> simp only at H ⊢
   case ptr=>split at H <;> first|exact ⟨H.1,H.2.1,hm _ _ H.2.2⟩|exact H.elim
   case rp =>
    split at H
    ·exact ⟨H.1,H.2.1,H.2.2.1,H.2.2.2.1,H.2.2.2.2.imp (fun h=>⟨h.1,h.2.1,hm _ _ h.2.2⟩) (fun h=>⟨h.1,h.2.1,hm _ _ h.2.2⟩)⟩
    ·exact ⟨H.1,H.2.1,H.2.2.1,H.2.2.2.imp (fun h=>⟨h.1,h.2.1,hm _ _ h.2.2⟩) (fun h=>⟨h.1,h.2.1,hm _ _ h.2.2⟩)⟩
    ·exact H.elim
  case fa x off =>
   generalize e x = v at H ⊢
   cases v <;> simp only at H ⊢ <;> exact hm _ _ H
  case fld x off m =>
   generalize e x = v at H ⊢
   cases v <;> simp only at H ⊢
   case agg=>cases m <;> exact ⟨H.1,hm _ _ H.2⟩
  case ia sz x i =>
   generalize e x = v at H ⊢
   generalize e i = j at H ⊢
   cases j <;> cases v <;> simp only at H ⊢
   ·exact ⟨H.1,H.2.1,H.2.2.1,H.2.2.2.1,hm _ _ H.2.2.2.2⟩
   ·exact ⟨H.1,H.2.1,hm _ _ H.2.2⟩
   ·exact ⟨H.1,H.2.1,H.2.2.1,hm _ _ H.2.2.2⟩
  case slc sz x lo hi =>
   generalize e x = v at H ⊢
   cases v <;> simp only at H ⊢
   case sl =>
    refine ⟨H.1,?_⟩
    have H:=H.2
    split at H
    ·exact hm _ _ H
    ·exact ⟨H.1,H.2.1,hm _ _ H.2.2⟩
    ·exact ⟨H.1,H.2.1,hm _ _ H.2.2⟩
    ·exact ⟨H.1,H.2.1,H.2.2.1,hm _ _ H.2.2.2⟩
    ·exact H.elim
   case own =>
    split at H
    ·exact hm _ _ H
    ·exact ⟨H.1,H.2.1,hm _ _ H.2.2⟩
    ·exact ⟨H.1,H.2.1,hm _ _ H.2.2⟩
    ·exact H.elim
   case osl =>
    refine ⟨H.1,?_⟩
    have H:=H.2
    split at H
    ·exact ⟨H.1,H.2.1,hm _ _ H.2.2⟩
    ·exact H.elim
  case eqa m neg x y =>
   generalize e x = v at H ⊢
   generalize e y = u at H ⊢
   cases v <;> cases u <;> simp only at H ⊢
   obtain ⟨q,g1,k1⟩:=eqcs_one H.2.2
   exact ⟨H.1,H.2.1,k1 _ (hm _ _ g1)⟩
  case clr sz x =>
   generalize e x = v at H ⊢
   cases v <;> simp only at H ⊢
   split at H
   ·exact ⟨H.1,H.2.1,H.2.2.1,hm _ _ H.2.2.2⟩
   ·exact H.elim
  case bin op x y =>
   obtain ⟨r,h1,h2⟩:=abin_one H
   have:∀ {A B:AV → Prop} {x y:AV},(∀ r,A r → B r) → abin op x y A → abin op x y B:=fun {A B x y} hab hh=>by
    cases x <;> cases y <;> simp only [abin] at hh ⊢
    cases op <;> simp only [ishift,ibin] at hh ⊢ <;> first|exact ⟨hh.1,hh.2.1,hab _ hh.2.2⟩|exact ⟨hh.1,hab _ hh.2⟩|exact hab _ hh
   exact this (fun r hr=>hm _ _ hr) H
  case binb neg x y =>
   generalize e x = v at H ⊢
   generalize e y = u at H ⊢
   cases v <;> cases u <;> simp only at H ⊢ <;> exact hm _ _ H
  case eqz tag neg x y =>
   unfold aeqz at H ⊢
   split at H <;> first|exact hm _ _ H|exact H.elim
  case un op x =>
   generalize e x = v at H ⊢
   cases op <;> cases v <;> simp only at H ⊢ <;> exact hm _ _ H
  case conv k x =>
   generalize e x = v at H ⊢
   cases v <;> simp only at H ⊢ <;> exact hm _ _ H
  case mkf=>exact hm _ _ H
  case msl sz bytes zs x y =>
   split at H
   ·rename_i h1 h2
    exact ⟨H.1,H.2.1,H.2.2.1,H.2.2.2.1,H.2.2.2.2.1,hm _ _ H.2.2.2.2.2⟩
   ·exact H.elim
  case len x =>
   generalize e x = v at H ⊢
   cases v <;> simp only at H ⊢ <;> exact hm _ _ H
  case app sz bytes x y =>
   refine ⟨H.1,?_⟩
   obtain ⟨q,m,c',hs,H⟩:=asrc_e H.2
   refine asrc_i hs ?_
   generalize e x = v at H ⊢
   cases v <;> simp only at H ⊢
   case sl=>exact ⟨H.1,H.2.1,fun h0=>hm _ _ (H.2.2.1 h0),fun h0=>⟨(H.2.2.2 h0).1,(H.2.2.2 h0).2.1,hm _ _ (H.2.2.2 h0).2.2⟩⟩
   case own =>
    split at H
    ·exact ⟨H.1,H.2.1,H.2.2.1,H.2.2.2.1,hm _ _ H.2.2.2.2⟩
    ·exact ⟨H.1,H.2.1,H.2.2.1,H.2.2.2.1,hm _ _ H.2.2.2.2⟩
    ·exact H.elim
  case mx x y =>
   generalize e x = v at H ⊢
   generalize e y = u at H ⊢
   cases v <;> cases u <;> simp only at H ⊢ <;> exact hm _ _ H
  case mn x y =>
   generalize e x = v at H ⊢
   generalize e y = u at H ⊢
   cases v <;> cases u <;> simp only at H ⊢ <;> exact hm _ _ H
  case ext x i =>
   generalize e x = v at H ⊢
   cases v <;> simp only at H ⊢
   exact ⟨H.1,hm _ _ H.2⟩
 exact key h1 (fun a b ⟨ha,hb⟩=>by rw [ha,hb];exact h3)
theorem asplit_mono (o:AOp) {e:AX → AV} {h:List AB} {K K':AV → List AB → Prop} (hk:∀ r h',K r h' → K' r h') (H:asplit o e h K):asplit o e h K':=by
 cases o <;> simp only [asplit] at H ⊢
 case app sz b x y =>
  refine ⟨H.1,?_⟩
  obtain ⟨q,m,c',hs,hq,H⟩:=asrc_e H.2
  refine asrc_i hs ⟨hq,?_⟩
  generalize e x = vx at H ⊢
  split at H
  ·split at H
   ·exact ⟨H.1,H.2.1,H.2.2.1,H.2.2.2.1,hk _ _ H.2.2.2.2.1,hk _ _ H.2.2.2.2.2⟩
   ·exact H.elim
  ·split at H
   ·exact ⟨H.1,H.2.1,H.2.2.1,H.2.2.2.1,H.2.2.2.2.1,hk _ _ H.2.2.2.2.2.1,hk _ _ H.2.2.2.2.2.2⟩
   ·exact H.elim
  ·exact H.elim
/-- An operation that does not change the call's own blocks: one value, the same blocks; and, if it does not look at them, in any. -/
theorem aop_quiet (o:AOp) (hc:o.chg = false) {e:AX → AV} {h:List AB} {K:AV → List AB → Prop} (H:aop o e h K):∃ r,K r h ∧ aop o e h (fun a b=>a = r ∧ b = h) ∧ (o.rds = false → ∀ h2 (K2:AV → List AB → Prop),K2 r h2 → aop o e h2 K2):=by
 obtain ⟨r,h',h1,h2⟩:=aop_one o e h K H
 have key:h' = h ∧ (o.rds = false → ∀ h2 (K2:AV → List AB → Prop),K2 r h2 → aop o e h2 K2):=by
  clear H h2
  cases o <;> simp only [AOp.chg,Bool.true_eq_false,reduceCtorEq] at hc <;> simp only [aop] at h1 ⊢
  case mv=>obtain ⟨rfl,rfl⟩:=h1;exact ⟨rfl,fun _ h2 K2 hk=>hk⟩
  case pick c a b =>
   generalize e c = v at h1 ⊢
   cases v <;> simp only at h1 ⊢
   case bool q=>cases q <;> (obtain ⟨rfl,rfl⟩:=h1;exact ⟨rfl,fun _ h2 K2 hk=>hk⟩)
  case nilck x =>
   generalize e x = v at h1 ⊢
   cases v <;> simp only at h1 ⊢ <;> (obtain ⟨rfl,rfl⟩:=h1;exact ⟨rfl,fun _ h2 K2 hk=>hk⟩)
  case xt X =>
   obtain ⟨r2,h2',⟨rfl,rfl⟩,k2,_,k4⟩:=xop_one h1
   exact ⟨k2 hc,fun hr=>k4 hr⟩
  case build=>obtain ⟨a,b,rfl,rfl⟩:=h1;exact ⟨rfl,fun _ h2 K2 hk=>⟨a,b,hk⟩⟩
  case bsl=>obtain ⟨a,b,rfl,rfl⟩:=h1;exact ⟨rfl,fun _ h2 K2 hk=>⟨a,b,hk⟩⟩
  case ld m x =>
   refine ⟨?_,fun hr=>by cases hr⟩
   cases m <;> simp only at h1 <;> generalize e x = v at h1 <;> cases v <;> simp only at h1
   case none.ip=>exact h1.2.2.symm
   case some.ip=>exact h1.2.2.symm
   case none.ptr=>split at h1 <;> first|exact h1.2.2.symm|exact h1.elim
   case some.ptr=>split at h1 <;> first|exact h1.2.2.symm|exact h1.elim
   case none.rp=>split at h1 <;> first|exact h1.2.2.2.2.symm|exact h1.elim
   case some.rp d sz k o =>
    split at h1
    ·cases hb:(sz == 1 && o == 0) <;> simp only [hb] at h1
     ·exact h1.2.2.2.2.symm
     ·exact h1.2.2.2.symm
    ·exact h1.2.2.2.2.symm
    ·exact h1.elim
  case fa x off =>
   generalize e x = v at h1 ⊢
   cases v <;> simp only at h1 ⊢ <;> (obtain ⟨rfl,rfl⟩:=h1;exact ⟨rfl,fun _ h2 K2 hk=>hk⟩)
  case fld x off m =>
   generalize e x = v at h1 ⊢
   cases v <;> simp only at h1 ⊢
   case agg=>cases m <;> (obtain ⟨a,rfl,rfl⟩:=h1;exact ⟨rfl,fun _ h2 K2 hk=>⟨a,hk⟩⟩)
  case ia sz x i =>
   generalize e x = v at h1 ⊢
   generalize e i = j at h1 ⊢
   cases j <;> cases v <;> simp only at h1 ⊢
   ·obtain ⟨a,b,c,d,rfl,rfl⟩:=h1;exact ⟨rfl,fun _ h2 K2 hk=>⟨a,b,c,d,hk⟩⟩
   ·obtain ⟨a,b,rfl,rfl⟩:=h1;exact ⟨rfl,fun _ h2 K2 hk=>⟨a,b,hk⟩⟩
   ·obtain ⟨a,b,c,rfl,rfl⟩:=h1;exact ⟨rfl,fun _ h2 K2 hk=>⟨a,b,c,hk⟩⟩
  case slc sz x lo hi =>
   generalize e x = v at h1 ⊢
   cases v <;> simp only at h1 ⊢
   case sl =>
    obtain ⟨h0,h1⟩:=h1
    generalize lo.map e = l at h1 ⊢
    generalize hi.map e = m at h1 ⊢
    split at h1
    ·obtain ⟨rfl,rfl⟩:=h1;exact ⟨rfl,fun _ h2 K2 hk=>⟨h0,hk⟩⟩
    ·obtain ⟨a,b,rfl,rfl⟩:=h1;exact ⟨rfl,fun _ h2 K2 hk=>⟨h0,a,b,hk⟩⟩
    ·obtain ⟨a,b,rfl,rfl⟩:=h1;exact ⟨rfl,fun _ h2 K2 hk=>⟨h0,a,b,hk⟩⟩
    ·obtain ⟨a,b,c,rfl,rfl⟩:=h1;exact ⟨rfl,fun _ h2 K2 hk=>⟨h0,a,b,c,hk⟩⟩
    ·exact h1.elim
   case own =>
    generalize lo.map e = l at h1 ⊢
    generalize hi.map e = m at h1 ⊢
    split at h1
    ·obtain ⟨rfl,rfl⟩:=h1;exact ⟨rfl,fun _ h2 K2 hk=>hk⟩
    ·obtain ⟨a,b,rfl,rfl⟩:=h1;exact ⟨rfl,fun _ h2 K2 hk=>⟨a,b,hk⟩⟩
    ·obtain ⟨a,b,rfl,rfl⟩:=h1;exact ⟨rfl,fun _ h2 K2 hk=>⟨a,b,hk⟩⟩
    ·exact h1.elim
   case osl =>
    obtain ⟨h0,h1⟩:=h1
    generalize lo.map e = l at h1 ⊢
    generalize hi.map e = m at h1 ⊢
    split at h1
    ·obtain ⟨a,b,rfl,rfl⟩:=h1;exact ⟨rfl,fun _ h2 K2 hk=>⟨h0,a,b,hk⟩⟩
    ·exact h1.elim
  case eqa m neg x y =>
   generalize e x = v at h1 ⊢
   generalize e y = u at h1 ⊢
   cases v <;> cases u <;> simp only at h1 ⊢
   obtain ⟨a,b,h1⟩:=h1
   obtain ⟨q,⟨rfl,rfl⟩,k1⟩:=eqcs_one h1
   exact ⟨rfl,fun _ h2 K2 hk=>⟨a,b,k1 _ hk⟩⟩
  case bin op x y =>
   obtain ⟨r',a,b⟩:=abin_one h1
   obtain ⟨rfl,rfl⟩:=b
   refine ⟨rfl,fun _ h2 K2 hk=>?_⟩
   have:∀ {A B:AV → Prop} {x y:AV},(∀ r,A r → B r) → abin op x y A → abin op x y B:=fun {A B x y} hab hh=>by
    cases x <;> cases y <;> simp only [abin] at hh ⊢
    cases op <;> simp only [ishift,ibin] at hh ⊢ <;> first|exact ⟨hh.1,hh.2.1,hab _ hh.2.2⟩|exact ⟨hh.1,hab _ hh.2⟩|exact hab _ hh
   exact this (fun r hr=>by rw [hr];exact hk) a
  case binb neg x y =>
   generalize e x = v at h1 ⊢
   generalize e y = u at h1 ⊢
   cases v <;> cases u <;> simp only at h1 ⊢ <;> (obtain ⟨rfl,rfl⟩:=h1;exact ⟨rfl,fun _ h2 K2 hk=>hk⟩)
  case eqz tag neg x y =>
   obtain ⟨q,a,b⟩:=aeqz_one h1
   obtain ⟨rfl,rfl⟩:=b
   refine ⟨rfl,fun _ h2 K2 hk=>?_⟩
   unfold aeqz at a ⊢
   split at a <;> first|(obtain rfl:=a;exact hk)|exact a.elim
  case un op x =>
   generalize e x = v at h1 ⊢
   cases op <;> cases v <;> simp only at h1 ⊢ <;> (obtain ⟨rfl,rfl⟩:=h1;exact ⟨rfl,fun _ h2 K2 hk=>hk⟩)
  case conv k x =>
   generalize e x = v at h1 ⊢
   cases v <;> simp only at h1 ⊢ <;> (obtain ⟨rfl,rfl⟩:=h1;exact ⟨rfl,fun _ h2 K2 hk=>hk⟩)
  case mkf=>obtain ⟨rfl,rfl⟩:=h1;exact ⟨rfl,fun _ h2 K2 hk=>hk⟩
  case len x =>
   generalize e x = v at h1 ⊢
   cases v <;> simp only at h1 ⊢ <;> (obtain ⟨rfl,rfl⟩:=h1;exact ⟨rfl,fun _ h2 K2 hk=>hk⟩)
  case mx x y =>
   generalize e x = v at h1 ⊢
   generalize e y = u at h1 ⊢
   cases v <;> cases u <;> simp only at h1 ⊢ <;> (obtain ⟨rfl,rfl⟩:=h1;exact ⟨rfl,fun _ h2 K2 hk=>hk⟩)
  case mn x y =>
   generalize e x = v at h1 ⊢
   generalize e y = u at h1 ⊢
   cases v <;> cases u <;> simp only at h1 ⊢ <;> (obtain ⟨rfl,rfl⟩:=h1;exact ⟨rfl,fun _ h2 K2 hk=>hk⟩)
  case ext x i =>
   generalize e x = v at h1 ⊢
   cases v <;> simp only at h1 ⊢
   obtain ⟨a,rfl,rfl⟩:=h1;exact ⟨rfl,fun _ h2 K2 hk=>⟨a,hk⟩⟩
 obtain ⟨rfl,k2⟩:=key
 exact ⟨r,h2,h1,k2⟩
end Go.Proofs.YtodpjdmdmmnlpaaGreat

namespace Go.Proofs.YtodpjdmdmmnlpaaGreat
open Go.RowKit

structure AO where
 dst:Option Nat
 op:AOp
 guard:Option (Nat × Bool)
 deriving Inhabited
abbrev Env := Nat → AV
def Env.put (e:Env):Option Nat → AV → Env
 | some d,v=>fun t=>if t = d then v else e t
 | none,_=>e
/-- What is known of calls, and of functions that yield values. -/
structure CallP where
 call:FuncId → List AV → List AB → (AV → List AB → Prop) → Prop
 iter:Bool → FuncId → List AV → List (List AV) → Prop
instance : CoeFun CallP (fun _=>FuncId → List AV → List AB → (AV → List AB → Prop) → Prop):=⟨CallP.call⟩
def CallP.Mono (C:CallP):Prop:=∀ f xs h (K K':AV → List AB → Prop),(∀ r h',K r h' → K' r h') → C f xs h K → C f xs h K'
def astep (C:CallP) (o:AOp) (e:Env) (h:List AB) (K:AV → List AB → Prop):Prop :=
 match o with
 | .call f xs=>C f (xs.map (AX.ev e)) h K
 | .calv x xs=>match x.ev e with
  | .fn f m c=>C f (xs.map (AX.ev e) ++ (List.range m).map c) h K
  | _=>False
 | .app sz b x y=>aop (.app sz b x y) (AX.ev e) h K ∨ asplit (.app sz b x y) (AX.ev e) h K
 | .nxt x=>anext (x.ev e) h K
 | o=>aop o (AX.ev e) h K
def gstep (C:CallP) (o:AO) (e:Env) (h:List AB) (K:AV → List AB → Prop):Prop :=
 match o.guard with
 | none=>astep C o.op e h K
 | some (t,b)=>match e t with
  | .bool q=>acond (q == b) (astep C o.op e h K) (K und h)
  | .tup 0 _=>K und h
  | _=>False
def AX.tmps : AX → List Nat
 | .t i=>[i]
 | .k _=>[]
def AO.looks (o:AO):List Nat:=o.op.xs.flatMap AX.tmps ++ (match o.guard with|some (t,_)=>[t]|none=>[])

theorem ev_congr {x:AX} {e e':Env} (h:∀ t ∈ x.tmps,e t = e' t):x.ev e = x.ev e':=by
 cases x with
 | t i=>exact h i (by simp [AX.tmps])
 | k v=>rfl
theorem astep_env {C:CallP} {o:AOp} {e e':Env} {h:List AB} {K:AV → List AB → Prop} (hx:∀ x ∈ o.xs,x.ev e = x.ev e') (H:astep C o e h K):astep C o e' h K:=by
 cases o
 case call f xs =>
  simp only [astep] at H ⊢
  have hm:xs.map (AX.ev e) = xs.map (AX.ev e'):=List.map_congr_left hx
  rw [← hm];exact H
 case calv x xs =>
  simp only [astep] at H ⊢
  have hm:xs.map (AX.ev e) = xs.map (AX.ev e'):=List.map_congr_left (fun y hy=>hx y (by simp [AOp.xs,hy]))
  rw [← hx x (by simp [AOp.xs]),← hm];exact H
 case app sz b x y=>exact H.imp (aop_env _ hx) (asplit_env _ hx)
 case nxt x =>
  simp only [astep] at H ⊢
  rw [← hx x (by simp [AOp.xs])];exact H
 all_goals (simp only [astep] at H ⊢;exact aop_env _ hx H)
theorem astep_mono {C:CallP} (hC:C.Mono) {o:AOp} {e:Env} {h:List AB} {K K':AV → List AB → Prop} (hk:∀ r h',K r h' → K' r h') (H:astep C o e h K):astep C o e h K':=by
 cases o
 case call f xs=>exact hC _ _ _ _ _ hk H
 case calv x xs =>
  simp only [astep] at H ⊢
  generalize x.ev e = v at H ⊢
  cases v <;> simp only at H ⊢
  exact hC _ _ _ _ _ hk H
 case app sz b x y=>exact H.imp (aop_mono _ hk) (asplit_mono _ hk)
 case nxt x=>exact anext_mono hk H
 all_goals (simp only [astep] at H ⊢;exact aop_mono _ hk H)
theorem astep_quiet {C:CallP} {o:AOp} (hc:o.chg = false) (e:Env) (h:List AB) (K:AV → List AB → Prop):astep C o e h K = aop o (AX.ev e) h K:=by
 cases o <;> first|rfl|(simp [AOp.chg] at hc)
theorem gstep_env {C:CallP} {o:AO} {e e':Env} {h:List AB} {K:AV → List AB → Prop} (hx:∀ t ∈ o.looks,e t = e' t) (H:gstep C o e h K):gstep C o e' h K:=by
 have hx1:∀ x ∈ o.op.xs,x.ev e = x.ev e':=fun x hx'=>ev_congr fun t ht=>hx t (List.mem_append_left _ (List.mem_flatMap.2 ⟨x,hx',ht⟩))
 unfold gstep at H ⊢
 cases hg:o.guard with
 | none=>rw [hg] at H;exact astep_env hx1 H
 | some p =>
  obtain ⟨t,b⟩:=p
  rw [hg] at H
  have ht:e t = e' t:=hx t (by simp [AO.looks,hg])
  simp only at H ⊢
  rw [← ht]
  generalize e t = v at H ⊢
  split at H
  ·exact acond_i (fun hq=>(acond_e H).elim (fun h=>astep_env hx1 h.2) (fun h=>by rw [h.1] at hq;cases hq)) (fun hq=>(acond_e H).elim (fun h=>by rw [h.1] at hq;cases hq) (fun h=>h.2))
  ·exact H
  ·exact H.elim
theorem gstep_mono {C:CallP} (hC:C.Mono) {o:AO} {e:Env} {h:List AB} {K K':AV → List AB → Prop} (hk:∀ r h',K r h' → K' r h') (H:gstep C o e h K):gstep C o e h K':=by
 unfold gstep at H ⊢
 cases hg:o.guard with
 | none=>rw [hg] at H;exact astep_mono hC hk H
 | some p =>
  obtain ⟨t,b⟩:=p
  rw [hg] at H
  simp only at H ⊢
  generalize e t = v at H ⊢
  split at H
  ·exact acond_i (fun hq=>(acond_e H).elim (fun h=>astep_mono hC hk h.2) (fun h=>by rw [h.1] at hq;cases hq)) (fun hq=>(acond_e H).elim (fun h=>by rw [h.1] at hq;cases hq) (fun h=>hk _ _ h.2))
  ·exact hk _ _ H
  ·exact H.elim
theorem gstep_quiet {C:CallP} {o:AO} (hc:o.op.chg = false) {e:Env} {h:List AB} {K:AV → List AB → Prop} (H:gstep C o e h K):∃ r,K r h ∧ gstep C o e h (fun a b=>a = r ∧ b = h) ∧ (o.op.rds = false → ∀ h2 (K2:AV → List AB → Prop),K2 r h2 → gstep C o e h2 K2):=by
 unfold gstep at H ⊢
 simp only [astep_quiet hc] at H ⊢
 cases hg:o.guard with
 | none=>rw [hg] at H;exact aop_quiet _ hc H
 | some p =>
  obtain ⟨t,b⟩:=p
  rw [hg] at H
  simp only at H ⊢
  generalize e t = v at H ⊢
  split at H
  ·rename_i q
   rcases acond_e H with ⟨h1,h2⟩|⟨h1,h2⟩
   ·simp only [h1,acond]
    exact aop_quiet _ hc h2
   ·simp only [h1,acond]
    exact ⟨und,h2,by simp,fun _ h2 K2 hk=>hk⟩
  ·exact ⟨und,H,by simp,fun _ h2 K2 hk=>hk⟩
  ·exact H.elim

theorem put_ne {e:Env} {dst:Option Nat} {v:AV} {t:Nat} (h:dst ≠ some t):e.put dst v t = e t:=by
 cases dst with
 | none=>rfl
 | some d=>simp only [Env.put];rw [if_neg (fun e=>h (by rw [e]))]
theorem put_eq {e:Env} {t:Nat} {v:AV}:e.put (some t) v t = v:=by simp [Env.put]
theorem put_comm {e:Env} {x y:Option Nat} {v u:AV} (h:∀ d,x = some d → y ≠ some d):(e.put x v).put y u = (e.put y u).put x v:=by
 cases x with
 | none=>rfl
 | some d =>
  cases y with
  | none=>rfl
  | some d' =>
   have hne:d' ≠ d:=fun e=>h d rfl (by rw [e])
   funext t
   simp only [Env.put]
   by_cases h1:t = d'
   ·subst h1;simp [hne]
   ·simp [h1]

/-- A look into the blocks gives what it gave. -/
def wat (C:CallP) (o:AO) (e:Env) (h:List AB):Prop:=∀ d,o.dst = some d → gstep C o e h (fun v _=>v = e d)
section
variable (C:CallP) (ao:Nat → AO) (W:Nat → List Nat)
def arun (l:List Nat) (D:Nat → Prop) (Q:Env → List AB → Prop) (e:Env) (h:List AB):Prop :=
 match l with
 | []=>Q e h
 | i :: rest=>gstep C (ao i) e h (fun r h'=>(∀ j ∈ W i,D j → wat C (ao j) e h') ∧ arun rest (fun k=>k = i ∨ D k) Q (e.put (ao i).dst r) h')
end
section
variable {C:CallP} {ao:Nat → AO} {W:Nat → List Nat}
theorem arun_anti (hC:C.Mono):∀ (l:List Nat) {D D':Nat → Prop} {Q:Env → List AB → Prop} {e:Env} {h:List AB},(∀ k,D' k → D k) → arun C ao W l D Q e h → arun C ao W l D' Q e h
 | [],_,_,_,_,_,_,H=>H
 | _ :: rest,_,_,_,_,_,hd,H=>gstep_mono hC (fun _ _ hh=>⟨fun j hj hDj=>hh.1 j hj (hd j hDj),arun_anti hC rest (fun k hk=>hk.imp id (hd k)) hh.2⟩) H
theorem wat_env {o:AO} {e:Env} {h:List AB} {dst:Option Nat} {v:AV} (h1:∀ d,dst = some d → d ∉ o.looks) (h2:∀ d,dst = some d → o.dst ≠ some d) (H:wat C o (e.put dst v) h):wat C o e h:=fun d hd=>by
 have h3:dst ≠ some d:=fun e=>h2 d e hd
 have:=H d hd
 rw [put_ne h3] at this
 exact gstep_env (fun t ht=>put_ne (fun e=>h1 t e ht)) this

/-- What a region's static look gives: clo: what must have come before. -/
structure Still (ao:Nat → AO) (W:Nat → List Nat) (clo:Nat → Nat → Prop) (N:Nat):Prop where
 apart:∀ k j,k < N → j < N → k ≠ j → ¬ clo k j → ¬ clo j k → ∀ d,(ao j).dst = some d → d ∉ (ao k).looks ∧ (ao k).dst ≠ some d
 wat:∀ i k j,i < N → k ∈ W i → j < N → k ≠ j → ¬ clo k j → ∀ d,(ao j).dst = some d → d ∉ (ao k).looks ∧ (ao k).dst ≠ some d
 self:∀ i j,i < N → j ∈ W i → ∀ d,(ao j).dst = some d → d ∉ (ao j).looks
 wq:∀ j,j < N → (ao j).op.chg = false → W j = []
def Pair (ao:Nat → AO) (W:Nat → List Nat) (clo:Nat → Nat → Prop) (j i:Nat):Prop :=
 j ≠ i ∧ ¬ clo j i ∧ ((ao j).op.chg = true → clo i j) ∧ ((ao i).op.chg = true → (ao j).op.rds = true → ¬ clo i j → j ∈ W i ∧ (ao j).dst ≠ none)

theorem pull (hC:C.Mono) {clo:Nat → Nat → Prop} {N:Nat} (S:Still ao W clo N) {i:Nat} (hiN:i < N) (rest:List Nat) (Q:Env → List AB → Prop):∀ (pre:List Nat) (D:Nat → Prop) (e:Env) (h:List AB),
  (∀ j ∈ pre,j < N) → (∀ k,D k → k < N) → pre.Pairwise (Pair ao W clo) → (∀ j ∈ pre,Pair ao W clo j i ∧ ¬ clo i j) → (∀ k,D k → ∀ j ∈ pre,¬ clo k j ∧ k ≠ j) →
  arun C ao W (pre ++ i :: rest) D Q e h →
  gstep C (ao i) e h (fun r h'=>(∀ j ∈ W i,D j → wat C (ao j) e h') ∧ arun C ao W (pre ++ rest) (fun k=>k = i ∨ D k) Q (e.put (ao i).dst r) h')
 | [],_,_,_,_,_,_,_,_,H=>H
 | j :: pre,D,e,h,hN,hDN,hpw,hpi,hD,H=>by
  obtain ⟨⟨hne,hji,hcj,hci⟩,hij⟩:=hpi j List.mem_cons_self
  have hjN:=hN j List.mem_cons_self
  have hq:(ao j).op.chg = false:=by
   cases hh:(ao j).op.chg with
   | false=>rfl
   | true=>exact (hij (hcj hh)).elim
  have H:gstep C (ao j) e h _:=H
  obtain ⟨rj,⟨_,Hj⟩,gj,nr⟩:=gstep_quiet hq H
  rw [List.pairwise_cons] at hpw
  have IH:=pull hC S hiN rest Q pre (fun k=>k = j ∨ D k) (e.put (ao j).dst rj) h (fun k hk=>hN k (List.mem_cons_of_mem _ hk)) (fun k hk=>hk.elim (fun e=>e ▸ hjN) (hDN k)) hpw.2 (fun k hk=>hpi k (List.mem_cons_of_mem _ hk))
   (fun k hk k' hk'=>hk.elim (fun e=>by subst e;exact ⟨(hpw.1 k' hk').2.1,(hpw.1 k' hk').1⟩) (fun hDk=>hD k hDk k' (List.mem_cons_of_mem _ hk'))) Hj
  have ai:=S.apart i j hiN hjN (Ne.symm hne) hij hji
  have aj:=S.apart j i hjN hiN hne hji hij
  have IH2:=gstep_env (e':=e) (fun t ht=>put_ne (fun ed=>(ai t ed).1 ht)) IH
  have fin:∀ ri hi,(∀ k ∈ W i,(k = j ∨ D k) → wat C (ao k) (e.put (ao j).dst rj) hi) → arun C ao W (pre ++ rest) (fun k=>k = i ∨ k = j ∨ D k) Q ((e.put (ao j).dst rj).put (ao i).dst ri) hi → gstep C (ao j) e hi (fun a b=>a = rj ∧ b = hi) →
    (∀ k ∈ W i,D k → wat C (ao k) e hi) ∧ arun C ao W (j :: pre ++ rest) (fun k=>k = i ∨ D k) Q (e.put (ao i).dst ri) hi:=by
   intro ri hi hw hr hg
   refine ⟨fun k hk hDk=>?_,?_⟩
   ·obtain ⟨n1,n2⟩:=hD k hDk j List.mem_cons_self
    have ak:=S.wat i k j hiN hk hjN n2 n1
    exact wat_env (fun d hd=>(ak d hd).1) (fun d hd=>(ak d hd).2) (hw k hk (.inr hDk))
   ·show gstep C (ao j) (e.put (ao i).dst ri) hi _
    refine gstep_mono hC ?_ (gstep_env (fun t ht=>(put_ne (fun ed=>(aj t ed).1 ht)).symm) hg)
    rintro r h' ⟨rfl,rfl⟩
    refine ⟨fun k hk=>(by rw [S.wq j hjN hq] at hk;cases hk),?_⟩
    rw [← put_comm (fun d hd=>(ai d hd).2)]
    exact arun_anti hC _ (fun k hk=>by rcases hk with h|h|h;exact .inr (.inl h);exact .inl h;exact .inr (.inr h)) hr
  cases hci':(ao i).op.chg with
  | false =>
   obtain ⟨ri,⟨k1,k2⟩,gi,_⟩:=gstep_quiet hci' IH2
   refine gstep_mono hC ?_ gi
   rintro r h' ⟨rfl,rfl⟩
   exact fin _ _ k1 k2 gj
  | true =>
   refine gstep_mono hC ?_ IH2
   rintro ri hi ⟨k1,k2⟩
   refine fin _ _ k1 k2 ?_
   cases hrd:(ao j).op.rds with
   | false=>exact nr hrd hi _ ⟨rfl,rfl⟩
   | true =>
    obtain ⟨m1,m2⟩:=hci hci' hrd hij
    obtain ⟨d,hd⟩:=Option.ne_none_iff_exists'.1 m2
    have h1:=k1 j m1 (.inl rfl) d hd
    rw [hd,put_eq] at h1
    obtain ⟨r,e1,e2,_⟩:=gstep_quiet hq h1
    subst e1
    refine gstep_env (fun t ht=>?_) e2
    exact put_ne (fun ed=>S.self i j hiN m1 t (by rw [hd];exact ed) ht)
end
end Go.Proofs.YtodpjdmdmmnlpaaGreat
