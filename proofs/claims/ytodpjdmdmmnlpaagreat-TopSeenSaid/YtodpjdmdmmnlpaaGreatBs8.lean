/- All operations but calls of functions: abstract and real agree -/
import Derived.Test.YtodpjdmdmmnlpaaGreatBs3
import Derived.Test.YtodpjdmdmmnlpaaGreatBs5
import Derived.Test.YtodpjdmdmmnlpaaGreatBs7
set_option linter.unusedSimpArgs false
set_option linter.unusedVariables false
namespace Go.Proofs.YtodpjdmdmmnlpaaGreat
open Go.RowKit
variable {F:Nat → Prop}

section
variable {P:Program} {g:GM} {h:List AB} {w:World} {r:AV} {h':List AB}

theorem RunsTo.of_val {s:Sem Value} {u:Value} {w':World} {g':GM} (hs:s.run P w = .ok u w') (hr:rep (MM F g' h') w' r g' u) (t:Tr F g h w g' h' w'):RunsTo F P (do pure (.value (← s))) g h w r h' :=
 ⟨u,w',g',.inl (by simp [hs]),hr,t⟩
theorem RunsTo.of_same {s:Sem Value} {u:Value} (k:HOK F g w h) (hs:s.run P w = .ok u w) (hr:rep (MM F g h) w r g u) (he:h = h'):RunsTo F P (do pure (.value (← s))) g h w r h':=by
 subst he
 exact RunsTo.of_val hs hr (Tr.refl k)
theorem partsOf_all {t:TypeId}:∀ {ps:List (Nat × Operand)} {l:List (Nat × Nat × AX)},partsOf P t ps = some l → l.length = ps.length ∧ ∀ (j:Nat) (p:Nat × Operand),ps[j]? = some p → ∃ f s,tyFld P t p.1 = some f ∧ tySz P f.type = some s ∧ l[j]? = some (f.offset,s,cx p.2)
 | [],l,h=>by
  simp only [partsOf,Option.some.injEq] at h
  subst h
  exact ⟨rfl,fun j p hp=>by simp at hp⟩
 | (i,x) :: ps,l,h=>by
  obtain ⟨f,s,l',h1,h2,h3,rfl⟩:=partsOf_cons h
  obtain ⟨a,b⟩:=partsOf_all h3
  refine ⟨by simp [a],fun j p hp=>?_⟩
  cases j with
  | zero=>simp only [List.getElem?_cons_zero,Option.some.injEq] at hp;subst hp;exact ⟨f,s,h1,h2,rfl⟩
  | succ j=>exact b j p hp
theorem tyFld_some {s:TypeId} {f:Nat} {fd:Field} (hf:tyFld P s f = some fd):∃ fs,P.underlying s = some (.struct fs) ∧ fs[f]? = some fd:=by
 unfold tyFld at hf
 split at hf
 ·rename_i fs hfs;exact ⟨fs,hfs,hf⟩
 ·cases hf

theorem pub_ok {v:AV} {u:Value} {K:AV → List AB → Prop} (k:HOK F g w h) (hr:rep (MM F g h) w v g u) (H:apub h v K):∃ v' h1,K v' h1 ∧ Tr F g h w g h1 w ∧ rep (MM F g h1) w v' g u ∧ v'.pure:=by
 have keep:∀ v:AV,v.pure ∧ K v h → rep (MM F g h) w v g u → ∃ v' h1,K v' h1 ∧ Tr F g h w g h1 w ∧ rep (MM F g h1) w v' g u ∧ v'.pure:=fun v hh hr=>⟨v,h,hh.2,Tr.refl k,hr,hh.1⟩
 cases v
 case own d n =>
  simp only [apub] at H
  split at H
  ·rename_i N sz c hd
   obtain ⟨hn,H⟩:=H
   obtain ⟨b,cap,hg,rfl,hcap⟩:=hr
   obtain ⟨_,_,cs,t,hh,hs,hc⟩:=k.row d N sz c b cap hd hg
   have T:=Tr.kill k d
   have hM:¬ MM F g (h.set d .dead) b:=by
    rintro (hF|hO)
    ·exact (k.fr b hF).2 ⟨d,cap,⟨_,hd,trivial⟩,hg⟩
    ·exact MM_kill k ⟨_,hd,trivial⟩ hg hO
   refine ⟨_,_,H,T,⟨_,cap,rfl,by simp,by simp,fun h=>(by cases h),hcap,fun kk hk o ho=>?_⟩,trivial⟩
   obtain ⟨x,e1,e2,e3⟩:=hc kk (by omega) o ho
   refine ⟨b,0,x,rfl,lt_of_heap hh,hM,?_,e2,rep_mono (Chg.refl _ w) (fun y hy hM=>T.old y hy hM) _ (GM.le_refl _) e3⟩
   rw [Nat.zero_add];exact cell_of_heap hh e1
  ·exact H.elim
 case ptr d o =>
  simp only [apub] at H
  split at H
  ·rename_i m c hd
   obtain ⟨hp,H⟩:=H
   obtain ⟨b,cap,hg,rfl⟩:=hr
   obtain ⟨cs,t,hh,hs,hc⟩:=k.box d m c b cap hd hg
   have T:=Tr.kill k d
   have hM:¬ MM F g (h.set d .dead) b:=by
    rintro (hF|hO)
    ·exact (k.fr b hF).2 ⟨d,cap,⟨_,hd,trivial⟩,hg⟩
    ·exact MM_kill k ⟨_,hd,trivial⟩ hg hO
   refine ⟨_,_,H,T,⟨b,0,by rw [Nat.zero_add],lt_of_heap hh,hM,fun i hi=>?_⟩,trivial⟩
   obtain ⟨x,e1,e2,e3⟩:=hc i hi
   refine ⟨x,?_,e2,rep_mono (Chg.refl _ w) (fun y hy hM=>T.old y hy hM) _ (GM.le_refl _) (rep_pure _ (hp i hi) e3)⟩
   rw [Nat.zero_add];exact cell_of_heap hh e1
  ·exact H.elim
 all_goals exact keep _ H hr
theorem pubs_ok {e:AX → AV} {ρ:Operand → Value}:∀ (ps:List (Nat × Operand)) {h:List AB} {K:List (Nat × AV) → List AB → Prop},HOK F g w h → (∀ x,rep (MM F g h) w (e (cx x)) g (ρ x)) → apubs e (ps.map fun p=>(p.1,cx p.2)) h K →
  ∃ l h1,K l h1 ∧ Tr F g h w g h1 w ∧ l.length = ps.length ∧ (∀ (j:Nat) (p:Nat × Operand) (a:Nat × AV),ps[j]? = some p → l[j]? = some a → p.1 = a.1 ∧ rep (MM F g h1) w a.2 g (ρ p.2)) ∧ ∀ a ∈ l,a.2.pure
 | [],h,K,k,hv,H=>⟨[],h,H,Tr.refl k,rfl,fun j p a hp=>by simp at hp,fun a ha=>by cases ha⟩
 | (i,x) :: ps,h,K,k,hv,H=>by
  obtain ⟨v,h1,H1,T1,r1,p1⟩:=pub_ok k (hv x) H
  obtain ⟨l,h2,H2,T2,e1,e2,e3⟩:=pubs_ok ps T1.ok (fun y=>T1.hold (hv y)) H1
  refine ⟨_,_,H2,T1.trans T2,by simp [e1],fun j p a hp ha=>?_,fun a ha=>?_⟩
  ·cases j with
   | zero =>
    simp only [List.getElem?_cons_zero,Option.some.injEq] at hp ha
    subst hp;subst ha
    exact ⟨rfl,T2.hold r1⟩
   | succ j=>exact e2 j p a hp ha
  ·rcases List.mem_cons.1 ha with rfl|ha
   ·exact p1
   ·exact e3 a ha
theorem call_ok {c:Call} {ty:TypeId} {ρ:Operand → Value} {e:AX → AV} (k:HOK F g w h) (hv:∀ x,rep (MM F g h) w (e (cx x)) g (ρ x)) (H:aop (compCall P c) e h (fun a b=>a = r ∧ b = h')) :
  RunsTo F P (do let d ← resolve ρ c ty;invoke d.target d.args) g h w r h':=by
 obtain ⟨callee,args,ats⟩:=c
 cases callee with
 | invoke a b=>exact H.elim
 | value f=>cases f <;> exact H.elim
 | builtin b =>
  have hrun:(do let d ← resolve ρ ⟨.builtin b,args,ats⟩ ty;invoke d.target d.args:Sem Next).run P w = (builtin b ats ty (args.map fun | .const _=>true|_=>false) (args.map ρ)).run P w:=by
   simp only [resolve,Sem.run_bind,Sem.run_pure,Result.andThen_ok,invoke]
   rfl
  have fin:∀ {s:Sem Value} {u:Value} {w':World} {g':GM},(builtin b ats ty (args.map fun | .const _=>true|_=>false) (args.map ρ)) = (do pure (.value (← s))) → s.run P w = .ok u w' → rep (MM F g' h') w' r g' u → Tr F g h w g' h' w' → RunsTo F P (do let d ← resolve ρ ⟨.builtin b,args,ats⟩ ty;invoke d.target d.args) g h w r h':=fun hb hs hr ht =>
   ⟨_,_,_,.inl (by rw [hrun,hb];simp [hs]),hr,ht⟩
  have args2:∀ {x y:Operand},args.toList = [x,y] → args.map ρ = #[ρ x,ρ y]:=fun hl=>by
   apply Array.ext'
   simp [hl]
  cases b <;> simp only [compCall] at H
  case len =>
   split at H
   ·rename_i x el hl ht
    simp only [aop] at H
    have hx:=hv x
    obtain ⟨t,ht0,ht1⟩:∃ t,ats[0]? = some t ∧ tyEl P t = some el:=by
     cases h0:ats[0]? with
     | none=>rw [h0] at ht;cases ht
     | some t=>rw [h0] at ht;exact ⟨t,rfl,ht⟩
    obtain ⟨hu,_⟩:=tyEl_some (e:=el.1) (i:=el.2) ht1
    have ha:args.map ρ = #[ρ x]:=by
     apply Array.ext'
     simp [hl]
    have key:∀ A n cap,ρ x = .slice A n cap → (Builtin.len_ ats ty (args.map ρ)).run P w = .ok (.int .i64 n) w:=fun A n cap he=>by
     rw [ha,he]
     simp [Builtin.len_,ht0,run_underlying hu,goInt]
    generalize e (cx x) = v at H hx
    cases v <;> simp only at H
    ·obtain ⟨A,cap,he,_⟩:=hx
     obtain ⟨rfl,rfl⟩:=H
     exact fin rfl (key _ _ _ he) rfl (Tr.refl k)
    ·obtain ⟨b,cap,_,he,_⟩:=hx
     obtain ⟨rfl,rfl⟩:=H
     exact fin rfl (key _ _ _ he) rfl (Tr.refl k)
    ·obtain ⟨b,cap,p,_,he,_⟩:=hx
     obtain ⟨rfl,rfl⟩:=H
     exact fin rfl (key _ _ _ he) rfl (Tr.refl k)
   ·rename_i x el hl _ ht
    obtain ⟨kt,kT,eT⟩:=el
    obtain ⟨t,ht0,ht1⟩:∃ t,ats[0]? = some t ∧ mapT P t = some (kt,kT,eT):=by
     cases h0:ats[0]? with
     | none=>rw [h0] at ht;cases ht
     | some t=>rw [h0] at ht;exact ⟨t,rfl,ht⟩
    have ha:args.map ρ = #[ρ x]:=by
     apply Array.ext'
     simp [hl]
    obtain ⟨b1,b2,b3⟩:=val_mlen (P:=P) (ty:=ty) (m:=e (cx x)) ht1 k (hv x) H
    subst b3
    refine fin rfl ?_ b2 (Tr.refl k)
    rw [ha]
    have:∀ a:Array Value,(Builtin.len_ ats ty a).run P w = (Builtin.len_ #[t] ty a).run P w:=fun a=>by simp [Builtin.len_,ht0]
    rw [this];exact b1
   ·exact H.elim
  case clear =>
   split at H
   ·rename_i x el i hl ht
    split at H
    ·rename_i zs hz
     obtain ⟨t,ht0,ht1⟩:∃ t,ats[0]? = some t ∧ tyEl P t = some (el,i):=by
      cases h0:ats[0]? with
      | none=>rw [h0] at ht;cases ht
      | some t=>rw [h0] at ht;exact ⟨t,rfl,ht⟩
     obtain ⟨hu,hi⟩:=tyEl_some ht1
     have ha:args.map ρ = #[ρ x]:=by
      apply Array.ext'
      simp [hl]
     obtain ⟨w',b1,rfl,b3⟩:=val_clr (P:=P) (ty:=ty) k ht0 hu hi (zcells_some hz) (hv x) H
     refine fin (u:=.tuple #[]) rfl ?_ ⟨#[],rfl,rfl,fun i hi=>by omega⟩ b3
     rw [ha];exact b1
    ·exact H.elim
   ·exact H.elim
  case copy =>
   split at H
   ·rename_i x y t t' hl hat
    split at H
    ·rename_i htt
     subst htt
     split at H
     ·rename_i el i ht
      have ha:ats = #[t,t]:=by
       apply Array.ext'
       simp [hat]
      obtain ⟨u',w',b1,b2,b3⟩:=val_cpy (P:=P) (ty:=ty) k ht (hv x) (hv y) H
      refine fin (u:=u') rfl ?_ b2 b3
      rw [args2 hl,ha]
      exact b1
     ·exact H.elim
    ·exact H.elim
   ·exact H.elim
  case max =>
   split at H
   ·rename_i x y hl
    simp only [aop] at H
    have hx:=hv x
    have hy:=hv y
    generalize e (cx x) = v at H hx
    generalize e (cx y) = u at H hy
    cases v <;> cases u <;> simp only at H
    rename_i kk a k' b
    have hx':ρ x = .int kk a:=hx
    have hy':ρ y = .int k' b:=hy
    obtain ⟨rfl,rfl⟩:=H
    refine fin (u:=.int kk (max a b)) rfl ?_ rfl (Tr.refl k)
    rw [args2 hl,hx',hy',run_max_int2]
    congr 2
    split <;> omega
   ·exact H.elim
  case min =>
   split at H
   ·rename_i x y hl
    simp only [aop] at H
    have hx:=hv x
    have hy:=hv y
    generalize e (cx x) = v at H hx
    generalize e (cx y) = u at H hy
    cases v <;> cases u <;> simp only at H
    rename_i kk a k' b
    have hx':ρ x = .int kk a:=hx
    have hy':ρ y = .int k' b:=hy
    obtain ⟨rfl,rfl⟩:=H
    refine fin (u:=.int kk (min a b)) rfl ?_ rfl (Tr.refl k)
    rw [args2 hl,hx',hy',run_min_int2]
    congr 2
    split <;> omega
   ·exact H.elim
  case append =>
   split at H
   ·rename_i x y t t' hl hat
    split at H
    ·rename_i htt
     subst htt
     split at H
     ·rename_i el i ht
      split at H
      ·rename_i zs hz
       have ha:ats = #[t,t]:=by
        apply Array.ext'
        simp [hat]
       obtain ⟨u',w',g',b1,b2,b3⟩:=val_app (P:=P) (ty:=ty) k ht hz (hv x) (hv y) H
       refine fin (u:=u') rfl ?_ b2 b3
       rw [args2 hl,ha]
       exact b1
      ·exact H.elim
     ·exact H.elim
    ·exact H.elim
   ·exact H.elim
  all_goals exact H.elim
theorem aop_ok (o:Oper) {ρ:Operand → Value} {e:AX → AV} (k:HOK F g w h) (hv:∀ x,rep (MM F g h) w (e (cx x)) g (ρ x)) (hk:∀ v,e (.k v) = v) (H:aop (compOp P o.op) e h (fun a b=>a = r ∧ b = h')) :
  RunsTo F P (execOp ρ o) g h w r h':=by
 cases hop:o.op <;> simp only [hop,compOp] at H <;> simp only [execOp,hop]
 case move x=>obtain ⟨rfl,rfl⟩:=H;exact RunsTo.same k rfl (hv x)
 case assign x=>obtain ⟨rfl,rfl⟩:=H;exact RunsTo.same k rfl (hv x)
 case pick c a b =>
  simp only [aop] at H
  have hc:=hv c
  generalize e (cx c) = v at H hc
  cases v <;> simp only at H
  rename_i q
  have hc':ρ c = .bool q:=hc
  cases q
  ·obtain ⟨rfl,rfl⟩:=H
   exact RunsTo.same k (u:=ρ b) (by simp [hc',asBool]) (hv b)
  ·obtain ⟨rfl,rfl⟩:=H
   exact RunsTo.same k (u:=ρ a) (by simp [hc',asBool]) (hv a)
 case nilCheck x =>
  simp only [aop] at H
  have hx:=hv x
  generalize e (cx x) = v at H hx
  cases v <;> simp only at H
  case ptr=>obtain ⟨b,cap,hg,he⟩:=hx;obtain ⟨rfl,rfl⟩:=H;rw [he];exact RunsTo.same k rfl ⟨b,cap,hg,rfl⟩
  case ip=>have hx':=hx;obtain ⟨b,off,he,_⟩:=hx;obtain ⟨rfl,rfl⟩:=H;rw [he] at hx' ⊢;exact RunsTo.same k rfl hx'
  case rp=>have hx':=hx;obtain ⟨b,off,_,he⟩:=hx;obtain ⟨rfl,rfl⟩:=H;rw [he] at hx' ⊢;exact RunsTo.same k rfl hx'
  case fn=>have hx':=hx;obtain ⟨cs,he,_⟩:=hx;obtain ⟨rfl,rfl⟩:=H;rw [he] at hx' ⊢;exact RunsTo.same k rfl hx'
 case alloc t =>
  split at H
  ·rename_i n ha
   obtain ⟨rfl,rfl⟩:=H
   obtain ⟨u',w',g',h1,h2,h3⟩:=val_boxr (P:=P) ha k
   exact RunsTo.of_val h1 h2 h3
  split at H
  ·rename_i i hi
   split at H
   ·rename_i z hz
    obtain ⟨u',w',g',h1,h2,h3⟩:=val_box (P:=P) (t:=t) (r:=r) (h':=h') k (rep_ofV (MM F g h) w g z) (by simpa only [aop,hk,AX.ev] using H)
    refine RunsTo.of_val (u:=u') ?_ h2 h3
    rw [← h1]
    simp [Instr.alloc,Instr.box,zeroValue,typeInfo,hi,hz]
   ·exact H.elim
  ·exact H.elim
 case box t x =>
  obtain ⟨u',w',g',h1,h2,h3⟩:=val_box (P:=P) (t:=t) (r:=r) (h':=h') k (hv x) H
  exact RunsTo.of_val h1 h2 h3
 case build t ps =>
  split at H
  ·rename_i fs hu
   split at H
   ·rename_i hall
    split at H
    ·rename_i zs l hz hl
     obtain ⟨i,hi,hzc⟩:∃ i,P.info? t = some i ∧ zcells i = some zs:=by
      cases hi:P.info? t with
      | none=>rw [hi] at hz;cases hz
      | some i=>rw [hi] at hz;exact ⟨i,rfl,hz⟩
     obtain ⟨h1,h2,rfl,rfl⟩:=H
     obtain ⟨l1,l2⟩:=partsOf_all hl
     obtain ⟨u',b1,b2⟩:=val_build (P:=P) (w:=w) (g:=g) (h:=h) (ps:=ps.toList.map fun p=>(p.1,ρ p.2)) (as:=l.map fun p=>(p.1,p.2.1,e p.2.2)) hi hu hzc (fun f hf=>List.all_eq_true.1 hall f hf) (by simp [l1]) (fun j p a hp ha=>by
       rw [List.getElem?_map] at hp ha
       cases hq:ps.toList[j]? with
       | none=>rw [hq] at hp;cases hp
       | some q =>
        obtain ⟨f,s,c1,c2,c3⟩:=l2 j q hq
        rw [hq] at hp
        rw [c3] at ha
        injection hp with hp
        injection ha with ha
        subst hp;subst ha
        obtain ⟨fs',d1,d2⟩:=tyFld_some c1
        rw [hu] at d1
        injection d1 with d1
        injection d1 with d1
        subst d1
        exact ⟨⟨f,d2,rfl,c2⟩,hv q.2⟩) (fun p hp=>by obtain ⟨q,hq,rfl⟩:=List.mem_map.1 hp;exact h1 q hq) (fun p hp=>by obtain ⟨q,hq,rfl⟩:=List.mem_map.1 hp;simpa using h2 q hq)
     have e1:(ps.map fun x=>match x with|(i,x)=>(i,ρ x)) = (ps.toList.map fun p=>(p.1,ρ p.2)).toArray:=by
      apply Array.ext'
      simp
     rw [e1]
     simp only [List.length_map]
     exact RunsTo.of_same k b1 b2 rfl
    ·exact H.elim
   ·exact H.elim
  ·exact H.elim
 case buildSlice t n ps =>
  split at H
  ·rename_i el i ht
   split at H
   ·rename_i zs hz
    split at H
    ·rename_i hsz
     have e1:(ps.map fun x=>match x with|(i,x)=>(i,ρ x)) = (ps.toList.map fun p=>(p.1,ρ p.2)).toArray:=by
      apply Array.ext'
      simp
     split at H
     ·rcases H with H|H
      ·obtain ⟨l,h1,⟨g1,rfl,rfl⟩,T1,l1,l2,l3⟩:=pubs_ok ps.toList k hv H
       obtain ⟨u',w',b1,b2,b3⟩:=val_bsl (P:=P) (w:=w) (g:=g) (h:=h1) (n:=n) (ps:=ps.toList.map fun p=>(p.1,ρ p.2)) (es:=l) T1.ok ht hz hsz (by simp [l1]) (fun j p a hp ha=>by
        rw [List.getElem?_map] at hp
        cases hq:ps.toList[j]? with
        | none=>rw [hq] at hp;cases hp
        | some q =>
         rw [hq] at hp
         injection hp with hp
         subst hp
         exact l2 j q a hq ha) (fun p hp=>⟨(g1 p hp).1,l3 p hp⟩) (fun p hp=>(g1 p hp).2)
       rw [e1]
       exact RunsTo.of_val b1 b2 (T1.trans b3)
      ·obtain ⟨h1,rfl,rfl⟩:=H
       obtain ⟨u',w',g',b1,b2,b3⟩:=val_bslk (P:=P) (w:=w) (g:=g) (h:=h) (n:=n) (ps:=ps.toList.map fun p=>(p.1,ρ p.2)) (es:=ps.toList.map fun p=>(p.1,e (cx p.2))) k ht hz hsz (by simp) (fun j p a hp ha=>by
        rw [List.getElem?_map] at hp ha
        cases hq:ps.toList[j]? with
        | none=>rw [hq] at hp;cases hp
        | some q =>
         rw [hq] at hp ha
         injection hp with hp
         injection ha with ha
         subst hp;subst ha
         exact ⟨rfl,hv q.2⟩) (fun p hp=>by
        obtain ⟨q,hq,rfl⟩:=List.mem_map.1 hp
        exact (h1 (q.1,cx q.2) (List.mem_map.2 ⟨q,hq,rfl⟩)).1) (fun p hp=>by
        obtain ⟨q,hq,rfl⟩:=List.mem_map.1 hp
        exact (h1 (q.1,cx q.2) (List.mem_map.2 ⟨q,hq,rfl⟩)).2)
       rw [e1]
       simp only [List.map_map]
       exact RunsTo.of_val b1 b2 b3
     obtain ⟨h1,h2,rfl,rfl⟩:=H
     obtain ⟨u',w',b1,b2,b3⟩:=val_bsl (P:=P) (w:=w) (g:=g) (h:=h) (n:=n) (ps:=ps.toList.map fun p=>(p.1,ρ p.2)) (es:=ps.toList.map fun p=>(p.1,e (cx p.2))) k ht hz hsz (by simp) (fun j p a hp ha=>by
       rw [List.getElem?_map] at hp ha
       cases hq:ps.toList[j]? with
       | none=>rw [hq] at hp;cases hp
       | some q =>
        rw [hq] at hp ha
        injection hp with hp
        injection ha with ha
        subst hp;subst ha
        exact ⟨rfl,hv q.2⟩) (fun p hp=>by
       obtain ⟨q,hq,rfl⟩:=List.mem_map.1 hp
       exact h1 (q.1,cx q.2) (List.mem_map.2 ⟨q,hq,rfl⟩)) (fun p hp=>by
       obtain ⟨q,hq,rfl⟩:=List.mem_map.1 hp
       exact h2 (q.1,cx q.2) (List.mem_map.2 ⟨q,hq,rfl⟩))
     rw [e1]
     simp only [List.map_map] at b2 ⊢
     exact RunsTo.of_val b1 b2 b3
    ·exact H.elim
   ·exact H.elim
  ·exact H.elim
 case load t a =>
  split at H
  ·rename_i ht
   split at H
   ·rename_i m hs
    obtain ⟨u',h1,h2,h3⟩:=val_ld (P:=P) (t:=t) (m':=some m) k (.inr ⟨m,rfl,ht,hs⟩) (hv a) H
    exact RunsTo.of_same k h1 h2 h3
   ·exact H.elim
  ·rename_i ht
   obtain ⟨u',h1,h2,h3⟩:=val_ld (P:=P) (t:=t) (m':=none) k (.inl ⟨rfl,ht⟩) (hv a) H
   exact RunsTo.of_same k h1 h2 h3
  ·exact H.elim
 case store t a x =>
  split at H
  ·rename_i m hs
   obtain ⟨w',h1,rfl,h3⟩:=val_st (P:=P) (t:=t) k hs (hv a) (hv x) H
   exact ⟨undef,w',g,.inr ⟨by simp [h1],rfl⟩,⟨#[],rfl,rfl,fun i hi=>by omega⟩,h3⟩
  ·exact H.elim
 case fieldAddr s x f =>
  split at H
  ·rename_i fd hf
   split at H
   ·rename_i n hs
    obtain ⟨u',h1,h2,h3⟩:=val_fa (P:=P) hf hs (hv x) H
    exact RunsTo.of_same k h1 h2 h3
   ·exact H.elim
  ·exact H.elim
 case field s x f =>
  split at H
  ·rename_i fd hf
   split at H
   ·rename_i ht
    split at H
    ·rename_i m hs
     obtain ⟨u',h1,h2,h3⟩:=val_fld (P:=P) hf (.inr ⟨m,rfl,ht,hs⟩) (hv x) H
     exact RunsTo.of_same k h1 h2 h3
    ·exact H.elim
   ·rename_i ht
    obtain ⟨u',h1,h2,h3⟩:=val_fld (P:=P) hf (.inl ⟨rfl,ht⟩) (hv x) H
    exact RunsTo.of_same k h1 h2 h3
   ·exact H.elim
  ·exact H.elim
 case indexAddr t x i =>
  split at H
  ·rename_i el n ht
   obtain ⟨u',h1,h2,h3⟩:=val_ia (P:=P) ht (hv x) (hv i) H
   exact RunsTo.of_same k h1 h2 h3
  ·split at H
   ·rename_i n el hu
    split at H
    ·rename_i sz hs
     obtain ⟨u',h1,h2,h3⟩:=val_iaa (P:=P) hu hs (hv x) (hv i) H
     exact RunsTo.of_same k h1 h2 h3
    ·exact H.elim
   ·exact H.elim
 case index t x i =>
  split at H
  ·rename_i n el hu
   split at H
   ·rename_i sz ht hs
    obtain ⟨u',h1,h2,h3⟩:=val_idx (P:=P) hu hs (.inr ⟨rfl,ht⟩) (hv x) (hv i) H
    exact RunsTo.of_same k h1 h2 h3
   ·rename_i ht hs
    obtain ⟨u',h1,h2,h3⟩:=val_idx (P:=P) hu hs (.inl ⟨rfl,ht⟩) (hv x) (hv i) H
    exact RunsTo.of_same k h1 h2 h3
   ·exact H.elim
  ·exact H.elim
 case makeMap t rs =>
  cases rs with
  | some _=>exact H.elim
  | none =>
   simp only at H
   split at H
   ·obtain ⟨rfl,rfl⟩:=H
    rename_i kt _ _ _
    obtain ⟨u',w',g',h1,h2,h3⟩:=val_mkm (P:=P) (t:=t) k kt
    exact RunsTo.of_val h1 h2 h3
   ·exact H.elim
 case range t m =>
  split at H
  ·rename_i q hT
   obtain ⟨kt,kT,eT⟩:=q
   simp only [aop,xop] at H
   have hm:=hv m
   generalize e (cx m) = v at H hm
   split at H
   ·split at H
    ·rename_i d kt' L hd
     obtain ⟨rfl,rfl⟩:=H
     obtain ⟨b,cap,hg,he⟩:=hm
     obtain ⟨u',w',g',h1,h2,h3⟩:=val_rng (P:=P) hT k hd hg
     rw [he]
     exact RunsTo.of_val h1 h2 h3
    ·exact H.elim
   ·exact H.elim
  ·exact H.elim
 case lookup t m x ok =>
  split at H
  ·rename_i kt kT eT hT
   split at H
   ·rename_i z hz
    obtain ⟨i,hi,hz⟩:∃ i,P.info? eT = some i ∧ i.zero = some z:=by
     cases hi:P.info? eT with
     | none=>rw [hi] at hz;cases hz
     | some i=>rw [hi] at hz;exact ⟨i,rfl,hz⟩
    simp only [aop,xop,hk,AX.ev] at H
    have hm:=hv m
    generalize e (cx m) = v at H hm
    split at H
    ·split at H
     ·rename_i d kt' L hd
      obtain ⟨rfl,H⟩:=H
      obtain ⟨l,⟨rfl,rfl⟩,hl,hkey,_⟩:=akey_one H
      obtain ⟨b,cap,hg,he⟩:=hm
      have hx:=hkey _ _ _ _ (hv x)
      obtain ⟨u',h1,h2⟩:=val_lkp (P:=P) (ok:=ok) hT k hd hg hl hi hz
      rw [he,hx]
      exact RunsTo.of_same k h1 h2 rfl
     ·exact H.elim
    ·exact H.elim
   ·exact H.elim
  ·exact H.elim
 case mapEntry t m x =>
  split at H
  ·rename_i kt kT eT hT
   split at H
   ·rename_i z hz
    obtain ⟨i,hi,hz⟩:∃ i,P.info? eT = some i ∧ i.zero = some z:=by
     cases hi:P.info? eT with
     | none=>rw [hi] at hz;cases hz
     | some i=>rw [hi] at hz;exact ⟨i,rfl,hz⟩
    simp only [aop,xop] at H
    have hm:=hv m
    generalize e (cx m) = v at H hm
    split at H
    ·split at H
     ·rename_i d kt' L hd
      obtain ⟨rfl,hp,H⟩:=H
      obtain ⟨l,H,hl,hkey,_⟩:=akey_one H
      obtain ⟨b,cap,hg,he⟩:=hm
      have hx:=hkey _ _ _ _ (hv x)
      obtain ⟨v1,v2⟩:=val_ment (P:=P) hT k hd hg hl hi hz hp
      rw [he,hx]
      cases hj:aidx L l with
      | some j =>
       rw [hj] at H
       obtain ⟨rfl,rfl⟩:=H
       obtain ⟨u',w',h1,h2,h3⟩:=v1 j hj
       exact RunsTo.of_val h1 h3 h2
      | none =>
       rw [hj] at H
       obtain ⟨rfl,rfl⟩:=H
       obtain ⟨u',w',h1,h2,h3⟩:=v2 hj
       exact RunsTo.of_val h1 h3 h2
     ·exact H.elim
    ·exact H.elim
   ·exact H.elim
  ·exact H.elim
 case entryStore t m s x =>
  simp only [aop,xop] at H
  have hm:=hv m
  have hs:=hv s
  generalize e (cx m) = v at H hm
  generalize e (cx s) = u at H hs
  split at H
  ·split at H
   ·rename_i d i _ kt L hd
    obtain ⟨h0,h1,hp,rfl,rfl⟩:=H
    obtain ⟨b,cap,hg,he⟩:=hm
    have hs':ρ s = .int .i64 i:=hs
    obtain ⟨w',h2,h3⟩:=val_est (P:=P) (t:=t) k hd hg h0 h1 hp (hv x)
    rw [he,hs']
    exact ⟨undef,w',g,.inr ⟨by simp [h2],rfl⟩,⟨#[],rfl,rfl,fun i hi=>by omega⟩,h3⟩
   ·exact H.elim
  ·exact H.elim
 case mapUpdate t m kk x =>
  split at H
  ·rename_i kt kT eT hT
   simp only [aop,xop] at H
   have hm:=hv m
   generalize e (cx m) = v at H hm
   split at H
   ·split at H
    ·rename_i d kt' L hd
     obtain ⟨rfl,hp,H⟩:=H
     obtain ⟨l,⟨rfl,rfl⟩,hl,hkey,_⟩:=akey_one H
     obtain ⟨b,cap,hg,he⟩:=hm
     have hx:=hkey _ _ _ _ (hv kk)
     obtain ⟨w',h2,h3⟩:=val_ins (P:=P) hT k hd hg hl hp (hv x)
     rw [he,hx]
     exact ⟨undef,w',g,.inr ⟨by simp [h2],rfl⟩,⟨#[],rfl,rfl,fun i hi=>by omega⟩,h3⟩
    ·exact H.elim
   ·exact H.elim
  ·exact H.elim
 case insert t m kk x =>
  split at H
  ·rename_i kt kT eT hT
   simp only [aop,xop] at H
   have hm:=hv m
   generalize e (cx m) = v at H hm
   split at H
   ·split at H
    ·rename_i d kt' L hd
     obtain ⟨rfl,hp,H⟩:=H
     obtain ⟨l,⟨rfl,rfl⟩,hl,hkey,_⟩:=akey_one H
     obtain ⟨b,cap,hg,he⟩:=hm
     have hx:=hkey _ _ _ _ (hv kk)
     obtain ⟨w',h2,h3⟩:=val_ins (P:=P) hT k hd hg hl hp (hv x)
     rw [he,hx]
     exact ⟨undef,w',g,.inr ⟨by simp [h2],rfl⟩,⟨#[],rfl,rfl,fun i hi=>by omega⟩,h3⟩
    ·exact H.elim
   ·exact H.elim
  ·exact H.elim
 case slice t x lo hi mx =>
  cases mx with
  | some _=>exact H.elim
  | none =>
   simp only at H
   split at H
   ·rename_i el n ht
    have hm:∀ (a:Option Operand),(match (a.map fun x=>e (cx x)),(a.map ρ) with|none,none=>True|some a,some x=>rep (MM F g h) w a g x|_,_=>False):=fun a=>by
     cases a with
     | none=>trivial
     | some x=>exact hv x
    obtain ⟨u',h1,h2,h3⟩:=val_slc (P:=P) (lo:=lo.map fun x=>e (cx x)) (hi:=hi.map fun x=>e (cx x)) (ulo:=lo.map ρ) (uhi:=hi.map ρ) ht (hv x) (hm lo) (hm hi) (by
     cases lo <;> cases hi <;> exact H)
    exact RunsTo.of_same k h1 h2 h3
   ·exact H.elim
 case binOp op t x y ty =>
  split at H
  ·simp only [aop] at H
   have:abin op (e (cx x)) (e (cx y)) (fun a=>a = r) ∧ h = h':=by
    obtain ⟨r',a,b⟩:=abin_one H
    obtain ⟨rfl,b⟩:=b
    exact ⟨a,b⟩
   obtain ⟨u',h1,h2⟩:=val_bin (P:=P) (t:=t) (x:=x) (y:=y) (hv x) (hv y) this.1
   exact RunsTo.of_same k h1 h2 this.2
  ·rename_i ht
   have key:∀ neg:Bool,aop (.binb neg (cx x) (cx y)) e h (fun a b=>a = r ∧ b = h') → RunsTo F P (do pure (.value (← (do eqGuard (if neg then .neq else .eql) t x y (ρ x) (ρ y);binOp (if neg then .neq else .eql) t (ρ x) (ρ y):Sem Value)))) g h w r h':=fun neg H=>by
    simp only [aop] at H
    have hx:=hv x
    have hy:=hv y
    generalize e (cx x) = v at H hx
    generalize e (cx y) = u at H hy
    cases v <;> cases u <;> simp only at H
    rename_i a b
    have hx':ρ x = .bool a:=hx
    have hy':ρ y = .bool b:=hy
    obtain ⟨rfl,rfl⟩:=H
    rw [hx',hy']
    exact RunsTo.of_same k (val_binb (w:=w) ht) rfl rfl
   cases op <;> simp only at H <;> first|exact key false H|exact key true H|exact H.elim
  ·rename_i d hn1 hn2 ht
   split at H
   ·rename_i tag hd
    have key:∀ neg:Bool,aop (.eqz tag neg (cx x) (cx y)) e h (fun a b=>a = r ∧ b = h') → RunsTo F P (do pure (.value (← (do eqGuard (if neg then .neq else .eql) t x y (ρ x) (ρ y);binOp (if neg then .neq else .eql) t (ρ x) (ρ y):Sem Value)))) g h w r h':=fun neg H=>by
     obtain ⟨q,a,b,c⟩:=aeqz_one (show aeqz tag (e (cx x)) (e (cx y)) (fun b=>(.bool (if neg then !b else b)) = r ∧ h = h') from H)
     subst b
     exact RunsTo.of_same k (val_eqz (P:=P) (x:=x) (y:=y) ht hd (hv x) (hv y) a) rfl c
    cases op <;> simp only at H <;> first|exact key false H|exact key true H|exact H.elim
   ·split at H
    ·rename_i fs hnt
     split at H
     ·rename_i hf
      have key:∀ neg:Bool,aop (.eqa fs.size neg (cx x) (cx y)) e h (fun a b=>a = r ∧ b = h') → RunsTo F P (do pure (.value (← (do eqGuard (if neg then .neq else .eql) t x y (ρ x) (ρ y);binOp (if neg then .neq else .eql) t (ρ x) (ρ y))))) g h w r h':=fun neg H=>by
       simp only [aop] at H
       have hx:=hv x
       have hy:=hv y
       generalize e (cx x) = v at H hx
       generalize e (cx y) = u at H hy
       cases v <;> cases u <;> simp only at H
       obtain ⟨rfl,h2,h3⟩:=H
       subst h2
       obtain ⟨q,⟨rfl,h4⟩,k1⟩:=eqcs_one h3
       exact RunsTo.of_same k (val_eqa (P:=P) (x:=x) (y:=y) ht hf rfl hx hy (k1 (fun b=>b = q) rfl)) rfl h4
      cases op <;> simp only at H <;> first|exact key false H|exact key true H|exact H.elim
     ·exact H.elim
    ·exact H.elim
  ·exact H.elim
 case unOp op t x =>
  simp only [aop] at H
  have hx:=hv x
  generalize e (cx x) = v at H hx
  cases op <;> cases v <;> simp only at H
  ·rename_i kk n
   have hx':ρ x = .int kk n:=hx
   obtain ⟨rfl,rfl⟩:=H
   rw [hx']
   exact RunsTo.of_same k (u:=.int kk (kk.wrap (0 - n))) (by simp [Op.unary,Op.intArith]) rfl rfl
  ·rename_i b
   have hx':ρ x = .bool b:=hx
   obtain ⟨rfl,rfl⟩:=H
   rw [hx']
   exact RunsTo.of_same k (u:=.bool !b) (by simp [Op.unary]) rfl rfl
 case convert s d x =>
  split at H
  ·rename_i ds kk hs hd
   simp only [aop] at H
   have hx:=hv x
   generalize e (cx x) = v at H hx
   cases v <;> simp only at H
   rename_i k' n
   have hx':ρ x = .int k' n:=hx
   obtain ⟨rfl,rfl⟩:=H
   rw [hx']
   exact RunsTo.of_same k (u:=.int kk (kk.wrap n)) (by simp [convert,run_underlying hs,run_underlying hd,Conv.intToInt]) rfl rfl
  ·exact H.elim
 case makeFunc fn first cap =>
  cases fn with
  | func f =>
   simp only at H
   split at H
   ·rename_i hf
    obtain ⟨rfl,rfl⟩:=H
    have hfe:first = #[]:=by
     apply Array.ext'
     simpa using hf
    subst hfe
    refine RunsTo.of_same k (u:=.func (.func f) #[] (cap.map ρ)) (by simp [Instr.makeFunc]) ⟨_,rfl,by simp,fun i hi=>?_⟩ rfl
    have hi':i < cap.size:=by simpa using hi
    refine ⟨ρ cap[i],by simp [hi'],?_⟩
    rw [ofL_get (v:=e (cx cap[i])) (by simp [hi'])]
    exact hv _
   ·split at H
    ·rename_i hf
     obtain ⟨hp,rfl,rfl⟩:=H
     have hfe:cap = #[]:=by
      apply Array.ext'
      simpa using hf
     subst hfe
     refine RunsTo.of_same k (u:=.func (.func f) (first.map ρ) #[]) (by simp [Instr.makeFunc]) ⟨_,rfl,by simp,fun i hi=>?_⟩ rfl
     have hi':i < first.size:=by simpa using hi
     refine ⟨ρ first[i],by simp [hi'],?_⟩
     rw [ofL_get (v:=e (cx first[i])) (by simp [hi'])]
     exact rep_pure _ (hp _ (List.mem_map.2 ⟨first[i],by simp,rfl⟩)) (hv _)
    ·exact H.elim
  | _=>exact H.elim
 case makeSlice t l c =>
  split at H
  ·rename_i el i ht
   split at H
   ·rename_i zs hz
    split at H
    ·rename_i hsz
     simp only [aop] at H
     have hl:=hv l
     have hc:=hv c
     generalize e (cx l) = v at H hl
     generalize e (cx c) = u at H hc
     split at H
     ·rename_i n n'
      have hl':ρ l = .int .i64 n:=hl
      have hc':ρ c = .int .i64 n':=hc
      obtain ⟨h0,h1,h2,h3,h4,rfl,rfl⟩:=H
      rw [hl',hc']
      obtain ⟨u',w',g',b1,b2,b3⟩:=val_msl (P:=P) k ht hz h1 h2 h3 h4
      exact RunsTo.of_val b1 b2 b3
     ·exact H.elim
    ·exact H.elim
   ·exact H.elim
  ·exact H.elim
 case extract t i =>
  simp only [aop] at H
  have hx:=hv t
  generalize e (cx t) = v at H hx
  cases v <;> simp only at H
  obtain ⟨hi,rfl,rfl⟩:=H
  obtain ⟨cs,he,hm,hc⟩:=hx
  obtain ⟨x,hx,hr⟩:=hc i hi
  rw [he]
  exact RunsTo.of_same k (u:=x) (by simp [Instr.extract,hx]) hr rfl
 case next it s=>cases s <;> exact H.elim
 case entry it =>
  obtain ⟨u',h1,h2,h3⟩:=val_ent (P:=P) k (hv it) H
  exact RunsTo.of_same k h1 h2 h3
 case call c=>exact call_ok k hv (by simpa only [hop] using H)
 all_goals exact H.elim
end
end Go.Proofs.YtodpjdmdmmnlpaaGreat
