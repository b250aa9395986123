/- Signs: forms, entries, books and what was seen, as plain data / Glosses: messages, readings, as plain data / Signs: forms of values; the reference's forms, entries and books. / Signs, glosses: IndexFunc, ContainsFunc for any function with captured variables (printed by gen_tsi.py). / Signs: the reference's mirror forms, order of forms, canons, books. / Signs: every; the program's forms. / Signs: the reference's First, canon, entries, books. -/
import Derived.Test.YtodpjdmdmmnlpaaGreatBs16
import Derived.Test.YtodpjdmdmmnlpaaGreatProg
import Derived.KernelRfl
set_option linter.unusedSimpArgs false
set_option linter.unusedVariables false
namespace Go.Proofs.YtodpjdmdmmnlpaaGreat

/-- A form of a sign. -/
structure Form where
 r:Int
 l:Int
 c:Int
 w:Int
 f:Int
 mv:List Int
/-- An entry of a book. -/
structure Ent where
 id:Int
 sg:Int
 rg:Int
 fm:Form
 lo:Int
 hi:Int
/-- What was seen. -/
structure Seen where
 ri:Int
 le:Int
 fa:Int
 rg:Int
 lost:Int
 cl:Int
 ch:Int
 rl:Int
 rh:Int
 al:Int
 ah:Int
 mv:List Int
def fm0 : Form:=⟨0,0,0,0,0,[]⟩
def en0 : Ent:=⟨0,0,0,fm0,0,0⟩
theorem Form.ext' {a b:Form} (h1:a.w = b.w) (h2:a.c = b.c) (h3:a.r = b.r) (h4:a.l = b.l) (h5:a.f = b.f) (h6:a.mv = b.mv):a = b:=by cases a;cases b;simp_all
def cmpI (a b:Int):Int:=if a < b then -1 else if b < a then 1 else 0
def orI (a b:Int):Int:=if a = 0 then b else a
def cmpL : List Int → List Int → Int
 | [],[]=>0
 | [],_ :: _=>-1
 | _ :: _,[]=>1
 | x :: a,y :: b=>if x = y then cmpL a b else cmpI x y
theorem cmpI_zero {a b:Int}:cmpI a b = 0 ↔ a = b:=by
 unfold cmpI
 split
 ·constructor <;> intro h <;> omega
 ·split
  ·constructor <;> intro h <;> omega
  ·constructor <;> intro h <;> omega
theorem cmpL_zero : ∀ {a b:List Int},cmpL a b = 0 ↔ a = b
 | [],[]=>by simp [cmpL]
 | [],_ :: _=>by simp [cmpL]
 | _ :: _,[]=>by simp [cmpL]
 | x :: a,y :: b=>by
  simp only [cmpL]
  by_cases h:x = y
  ·rw [if_pos h,cmpL_zero,h];simp
  ·rw [if_neg h,cmpI_zero];simp [h]
theorem orI_zero {a b:Int}:orI a b = 0 ↔ a = 0 ∧ b = 0:=by
 unfold orI;split
 ·rename_i h;simp [h]
 ·rename_i h;simp [h]
def cmpF (a b:Form):Int:=orI (cmpI a.w b.w) (orI (cmpI a.c b.c) (orI (cmpI a.r b.r) (orI (cmpI a.l b.l) (orI (cmpI a.f b.f) (cmpL a.mv b.mv)))))
theorem cmpF_zero {a b:Form}:cmpF a b = 0 ↔ a = b:=by
 unfold cmpF
 simp only [orI_zero,cmpI_zero,cmpL_zero]
 constructor
 ·rintro ⟨h1,h2,h3,h4,h5,h6⟩;exact Form.ext' h1 h2 h3 h4 h5 h6
 ·rintro rfl;simp
def mirD (d:Int):Int:=(8 - d).tmod 8
def mirF (f:Form):Form:=⟨f.l,f.r,0 - f.c,f.w,f.f,f.mv.map mirD⟩
abbrev inB (n lo hi:Int):Bool:=decide (lo ≤ n ∧ n ≤ hi)
def moveOk (n:Int):Bool:=inB n 0 7
structure FormOk (f:Form):Prop where
 r:-1 ≤ f.r ∧ f.r ≤ 31
 l:-1 ≤ f.l ∧ f.l ≤ 31
 m:0 ≤ f.r ∨ 0 ≤ f.l
 c:-3 ≤ f.c ∧ f.c ≤ 3
 w:0 ≤ f.w ∧ f.w ≤ 5
 fc:0 ≤ f.f ∧ f.f ≤ 7
 n:f.mv.length ≤ 6
 mv:∀ k,k < f.mv.length → 0 ≤ f.mv.getD k 0 ∧ f.mv.getD k 0 ≤ 7
def formB (f:Form):Bool:=inB f.r (-1) 31 && inB f.l (-1) 31 && decide (0 ≤ f.r ∨ 0 ≤ f.l) && inB f.c (-3) 3 && inB f.w 0 5 && inB f.f 0 7 && decide (f.mv.length ≤ 6) && f.mv.all moveOk
theorem all_getD {α:Type} {q:α → Bool} {l:List α} (d:α) (h:l.all q = true) {i:Nat} (hi:i < l.length):q (l.getD i d) = true:=by
 simp only [List.getD,List.getElem?_eq_getElem hi,Option.getD_some]
 exact List.all_eq_true.1 h _ (List.getElem_mem hi)
theorem all_of {α:Type} {q:α → Bool} {l:List α} (d:α) (h:∀ i,i < l.length → q (l.getD i d) = true):l.all q = true:=by
 rw [List.all_eq_true]
 intro x hx
 obtain ⟨i,hi,rfl⟩:=List.getElem_of_mem hx
 have:=h i hi
 rwa [List.getD,List.getElem?_eq_getElem hi] at this
theorem form_d {f:Form} (h:formB f = true):FormOk f:=by
 unfold formB at h
 simp only [Bool.and_eq_true,decide_eq_true_eq] at h
 obtain ⟨⟨⟨⟨⟨⟨⟨a,b⟩,c⟩,d⟩,e⟩,g⟩,n⟩,m⟩:=h
 exact ⟨a,b,c,d,e,g,n,fun k hk=>by have:=all_getD 0 m hk;simpa [moveOk] using this⟩
theorem form_b {f:Form} (h:FormOk f):formB f = true:=by
 unfold formB
 simp only [Bool.and_eq_true,decide_eq_true_eq]
 exact ⟨⟨⟨⟨⟨⟨⟨h.r,h.l⟩,h.m⟩,h.c⟩,h.w⟩,h.fc⟩,h.n⟩,all_of 0 fun k hk=>by have:=h.mv k hk;simpa [moveOk] using this⟩
theorem mirD_ok {d:Int} (h:0 ≤ d ∧ d ≤ 7):(0 ≤ mirD d ∧ mirD d ≤ 7) ∧ mirD (mirD d) = d:=by
 obtain ⟨h1,h2⟩:=h
 have:d = 0 ∨ d = 1 ∨ d = 2 ∨ d = 3 ∨ d = 4 ∨ d = 5 ∨ d = 6 ∨ d = 7:=by omega
 rcases this with rfl|rfl|rfl|rfl|rfl|rfl|rfl|rfl <;> decide
theorem getD_map0 {g:Int → Int} {l:List Int} {k:Nat} (hk:k < l.length):(l.map g).getD k 0 = g (l.getD k 0):=by
 simp [List.getD,hk]
theorem mir_ok {f:Form} (h:FormOk f):FormOk (mirF f):=by
 refine ⟨h.l,h.r,h.m.symm,?_,h.w,h.fc,by simpa [mirF] using h.n,fun k hk=>?_⟩
 ·have:=h.c;show -3 ≤ 0 - f.c ∧ 0 - f.c ≤ 3;omega
 ·have hk':k < f.mv.length:=by simpa [mirF] using hk
  show 0 ≤ (f.mv.map mirD).getD k 0 ∧ _ ≤ (7:Int)
  show 0 ≤ (f.mv.map mirD).getD k 0 ∧ (f.mv.map mirD).getD k 0 ≤ 7
  rw [getD_map0 hk']
  exact (mirD_ok (h.mv k hk')).1
theorem mir_mir {f:Form} (h:FormOk f):mirF (mirF f) = f:=by
 refine Form.ext' rfl (by show 0 - (0 - f.c) = f.c;omega) rfl rfl rfl ?_
 show (f.mv.map mirD).map mirD = f.mv
 apply List.ext_getElem
 ·simp
 ·intro k h1 h2
  have:=(mirD_ok (h.mv k h2)).2
  rw [List.getD,List.getElem?_eq_getElem h2] at this
  simpa using this
def canF (f:Form):Form:=if cmpF (mirF f) f < 0 then mirF f else f
theorem can_two (f:Form):canF f = f ∨ canF f = mirF f:=by unfold canF;split <;> simp
theorem can_ok {f:Form} (h:FormOk f):FormOk (canF f):=by
 rcases can_two f with e|e <;> rw [e]
 ·exact h
 ·exact mir_ok h
def entB (x:Ent):Bool:=inB x.id 0 99 && inB x.sg 0 999 && formB x.fm && inB x.rg 1 255 && decide (0 ≤ x.lo ∧ x.lo ≤ x.hi ∧ x.hi ≤ 120)
structure EntOk (x:Ent):Prop where
 id:0 ≤ x.id ∧ x.id ≤ 99
 sg:0 ≤ x.sg ∧ x.sg ≤ 999
 fm:FormOk x.fm
 rg:1 ≤ x.rg ∧ x.rg ≤ 255
 ag:0 ≤ x.lo ∧ x.lo ≤ x.hi ∧ x.hi ≤ 120
theorem ent_d {x:Ent} (h:entB x = true):EntOk x:=by
 unfold entB at h
 simp only [Bool.and_eq_true,decide_eq_true_eq] at h
 obtain ⟨⟨⟨⟨a,b⟩,c⟩,d⟩,e⟩:=h
 exact ⟨a,b,form_d c,d,e⟩
def bookB (l:List Ent):Bool:=l.all entB && decide (l.length ≤ 40)
def alikeB (a b:Ent):Bool:=decide (a.id = b.id) && decide (a.sg = b.sg) && decide (a.rg = b.rg) && decide (a.lo = b.lo ∧ a.hi = b.hi) && decide (cmpF (canF a.fm) (canF b.fm) = 0)
def clashAt (l:List Ent) (i:Nat):Bool:=(List.range i).any fun k=>decide ((l.getD i en0).id = (l.getD k en0).id) && !alikeB (l.getD i en0) (l.getD k en0)
def clashB (l:List Ent):Bool:=(List.range l.length).any (clashAt l)
def checkK (l:List Ent):Int:=if bookB l then (if clashB l then 12 else 0) else 11
theorem alike_d {a b:Ent} (h:alikeB a b = true):a.id = b.id ∧ a.sg = b.sg ∧ a.rg = b.rg ∧ (a.lo = b.lo ∧ a.hi = b.hi) ∧ canF a.fm = canF b.fm:=by
 unfold alikeB at h
 simp only [Bool.and_eq_true,decide_eq_true_eq,cmpF_zero] at h
 obtain ⟨⟨⟨⟨a,b⟩,c⟩,d⟩,e⟩:=h
 exact ⟨a,b,c,d,e⟩
structure BookOk (l:List Ent):Prop where
 n:l.length ≤ 40
 en:∀ i,i < l.length → EntOk (l.getD i en0)
 al:∀ i k,i < l.length → k < i → (l.getD i en0).id = (l.getD k en0).id → alikeB (l.getD i en0) (l.getD k en0) = true
theorem book_d {l:List Ent} (h:checkK l = 0):BookOk l:=by
 unfold checkK at h
 by_cases hb:bookB l = true
 ·rw [if_pos hb] at h
  by_cases hc:clashB l = true
  ·rw [if_pos hc] at h;cases h
  ·have hb':=hb
   unfold bookB at hb'
   simp only [Bool.and_eq_true,decide_eq_true_eq] at hb'
   refine ⟨hb'.2,fun i hi=>ent_d (all_getD en0 hb'.1 hi),fun i k hi hk e=>?_⟩
   apply Classical.byContradiction
   intro ha
   apply hc
   refine List.any_eq_true.2 ⟨i,List.mem_range.2 hi,List.any_eq_true.2 ⟨k,List.mem_range.2 hk,?_⟩⟩
   rw [decide_eq_true e,Bool.true_and]
   simpa using ha
 ·rw [if_neg hb] at h;cases h
/-- A bit of a set. -/
def bitI (set d:Int):Bool:=set.toNat.testBit d.toNat
/-- What is left behind the first move in a set. -/
def dropTo (s:Int):List Int → Option (List Int)
 | []=>none
 | d :: r=>if bitI s d then some r else dropTo s r
def greedy : List Int → List Int → Bool
 | [],_=>true
 | s :: ss,ms=>match dropTo s ms with
  | none=>false
  | some r=>greedy ss r
theorem greedy_cons {m:Int}:∀ {ss ms:List Int},greedy ss ms = true → greedy ss (m :: ms) = true
 | [],_,_=>by simp [greedy]
 | s :: ss,ms,h=>by
  have drop_suf:∀ ms r,dropTo s ms = some r → ∃ p,ms = p ++ r:=by
   intro ms
   induction ms with
   | nil=>intro r h;cases h
   | cons d t ih =>
    intro r h
    simp only [dropTo] at h
    split at h
    ·injection h with h;subst h;exact ⟨[d],rfl⟩
    ·obtain ⟨p,e⟩:=ih r h
     exact ⟨d :: p,by rw [e];rfl⟩
  have app:∀ p r,greedy ss r = true → greedy ss (p ++ r) = true:=by
   intro p
   induction p with
   | nil=>intro r h;exact h
   | cons d t ih=>intro r h;exact greedy_cons (ih r h)
  simp only [greedy] at h ⊢
  simp only [dropTo]
  by_cases hb:bitI s m = true
  ·rw [if_pos hb]
   cases hd:dropTo s ms with
   | none=>rw [hd] at h;cases h
   | some r =>
    rw [hd] at h
    obtain ⟨p,e⟩:=drop_suf ms r hd
    rw [e]
    exact app p r h
  ·rw [if_neg hb];exact h
/-- The reference's way to fit moves. -/
def fitsR : List Int → List Int → Nat → Bool
 | [],ss,_=>ss.isEmpty
 | m :: ms,ss,lost=>(match ss with
   | s :: ss'=>bitI s m && fitsR ms ss' lost
   | []=>false) || (match lost with
   | 0=>false
   | n + 1=>fitsR ms ss n)
theorem fits_greedy : ∀ {ms ss:List Int} {lost:Nat},fitsR ms ss lost = true → (ss.length ≤ ms.length ∧ ms.length ≤ ss.length + lost) ∧ greedy ss ms = true
 | [],ss,lost,h=>by
  cases ss with
  | nil=>exact ⟨⟨Nat.le_refl _,Nat.zero_le _⟩,rfl⟩
  | cons s ss=>cases h
 | m :: ms,ss,lost,h=>by
  simp only [fitsR,Bool.or_eq_true] at h
  rcases h with h|h
  ·cases ss with
   | nil=>cases h
   | cons s ss =>
    simp only [Bool.and_eq_true] at h
    obtain ⟨⟨a,b⟩,c⟩:=fits_greedy h.2
    refine ⟨⟨by simp;omega,by simp;omega⟩,?_⟩
    simp only [greedy,dropTo]
    rw [if_pos h.1];exact c
  ·cases lost with
   | zero=>cases h
   | succ n =>
    obtain ⟨⟨a,b⟩,c⟩:=fits_greedy h
    exact ⟨⟨by simp;omega,by simp;omega⟩,greedy_cons c⟩
def movedB (ms ss:List Int) (lost:Int):Bool:=inB ((ms.length:Int) - ss.length) 0 lost && greedy ss ms
def handsB (f:Form) (s:Seen):Bool:=bitI s.ri (f.r + 1) && bitI s.le (f.l + 1) && bitI s.fa f.f && inB f.c s.cl s.ch && inB f.w s.rl s.rh
def showsP (f:Form) (s:Seen):Bool:=handsB f s && movedB f.mv s.mv s.lost
def showsR (f:Form) (s:Seen):Bool:=handsB f s && fitsR f.mv s.mv s.lost.toNat
def meetB (x:Ent) (s:Seen):Bool:=decide (x.lo ≤ s.ah) && decide (s.al ≤ x.hi)
def regB (x:Ent) (s:Seen):Bool:=decide (x.rg.toNat &&& s.rg.toNat ≠ 0)
def agP (x:Ent) (s:Seen):Bool:=regB x s && meetB x s && (showsP x.fm s || showsP (mirF x.fm) s)
def agR (x:Ent) (s:Seen):Bool:=regB x s && meetB x s && (showsR x.fm s || showsR (mirF x.fm) s)
theorem shows_RP {f:Form} {s:Seen} (h0:0 ≤ s.lost) (h:showsR f s = true):showsP f s = true:=by
 unfold showsR at h
 unfold showsP
 simp only [Bool.and_eq_true] at h ⊢
 obtain ⟨⟨a,b⟩,c⟩:=fits_greedy h.2
 refine ⟨h.1,?_⟩
 unfold movedB
 rw [c,Bool.and_true]
 exact decide_eq_true ⟨by omega,by omega⟩
theorem ag_RP {x:Ent} {s:Seen} (h0:0 ≤ s.lost) (h:agR x s = true):agP x s = true:=by
 unfold agR at h
 unfold agP
 simp only [Bool.and_eq_true,Bool.or_eq_true] at h ⊢
 exact ⟨h.1,h.2.imp (shows_RP h0) (shows_RP h0)⟩
/-- An entry with its canon. -/
def canE (x:Ent):Ent:={ x with fm:=canF x.fm }
theorem ag_can {x:Ent} (h:FormOk x.fm) (s:Seen):agP (canE x) s = agP x s:=by
 unfold agP
 show (regB x s && meetB x s && (showsP (canF x.fm) s || showsP (mirF (canF x.fm)) s)) = _
 rcases can_two x.fm with e|e <;> rw [e]
 rw [mir_mir h,Bool.or_comm (showsP (mirF x.fm) s)]
theorem ag_alike {a b:Ent} (ha:FormOk a.fm) (hb:FormOk b.fm) (h:alikeB a b = true) (s:Seen):agP a s = agP b s:=by
 obtain ⟨h1,h2,h3,⟨h4,h5⟩,h6⟩:=alike_d h
 rw [← ag_can ha s,← ag_can hb s]
 unfold agP
 show (regB a s && meetB a s && (showsP (canF a.fm) s || showsP (mirF (canF a.fm)) s)) = (regB b s && meetB b s && (showsP (canF b.fm) s || showsP (mirF (canF b.fm)) s))
 unfold regB meetB
 rw [h3,h4,h5,h6]
/-- The signs that agree, in ascending order. -/
def findT (l:List Ent) (s:Seen):List Int:=((List.range 1000).filter fun n:Nat=>l.any fun x=>decide (x.sg = (n:Int)) && agP x s).map fun n:Nat=>(n:Int)
structure SeenOk (s:Seen):Prop where
 ri:1 ≤ s.ri ∧ s.ri ≤ 8589934591
 le:1 ≤ s.le ∧ s.le ≤ 8589934591
 fa:1 ≤ s.fa ∧ s.fa ≤ 255
 rg:1 ≤ s.rg ∧ s.rg ≤ 255
 co:s.cl ≤ s.ch
 ro:s.rl ≤ s.rh
 ag:s.al ≤ s.ah
 n:s.mv.length ≤ 6
 mv:∀ k,k < s.mv.length → 1 ≤ s.mv.getD k 0 ∧ s.mv.getD k 0 ≤ 255
 lost:0 ≤ s.lost ∧ s.lost ≤ 6
def seenB (s:Seen):Bool:=s.mv.all (fun n=>inB n 1 255) && (inB s.ri 1 8589934591 && inB s.le 1 8589934591 && inB s.fa 1 255 && inB s.rg 1 255 && decide (s.cl ≤ s.ch) && decide (s.rl ≤ s.rh) && decide (s.al ≤ s.ah) && decide (s.mv.length ≤ 6) && inB s.lost 0 6)
theorem seen_d {s:Seen} (h:seenB s = true):SeenOk s:=by
 unfold seenB at h
 simp only [Bool.and_eq_true,decide_eq_true_eq] at h
 obtain ⟨m,⟨⟨⟨⟨⟨⟨⟨⟨a,b⟩,c⟩,d⟩,e⟩,f⟩,g⟩,n⟩,o⟩⟩:=h
 exact ⟨a,b,c,d,e,f,g,n,fun k hk=>by have:=all_getD 0 m hk;simpa using this,o⟩
end Go.Proofs.YtodpjdmdmmnlpaaGreat

namespace Go.Proofs.YtodpjdmdmmnlpaaGreat

/-- A gloss: author, stamp, film, from, to, signs. -/
structure Gl where
 au:Int
 st:Int
 fi:Int
 fr:Int
 to:Int
 sg:Int
 deriving DecidableEq
def gl0 : Gl:=⟨0,0,0,0,0,0⟩
structure Films where
 fr:List Int
 n:Int
def filmsB (f:Films):Bool:=f.fr.all (fun n=>inB n 1 200) && (decide (1 ≤ f.fr.length ∧ f.fr.length ≤ 4) && inB f.n 1 10)
structure FilmsOk (f:Films):Prop where
 n:1 ≤ f.n ∧ f.n ≤ 10
 l:1 ≤ f.fr.length ∧ f.fr.length ≤ 4
 fr:∀ k,k < f.fr.length → 1 ≤ f.fr.getD k 0 ∧ f.fr.getD k 0 ≤ 200
theorem films_d {f:Films} (h:filmsB f = true):FilmsOk f:=by
 unfold filmsB at h
 simp only [Bool.and_eq_true,decide_eq_true_eq] at h
 exact ⟨h.2.2,h.2.1,fun k hk=>by have:=all_getD 0 h.1 hk;simpa using this⟩
theorem films_b {f:Films} (h:FilmsOk f):filmsB f = true:=by
 unfold filmsB
 simp only [Bool.and_eq_true,decide_eq_true_eq]
 exact ⟨all_of 0 fun k hk=>by have:=h.fr k hk;simpa using this,h.l,h.n⟩
/-- A valid gloss of some films. -/
structure TakesOk (f:Films) (g:Gl):Prop where
 au:0 ≤ g.au ∧ g.au ≤ 7
 st:0 ≤ g.st ∧ g.st ≤ 9999
 fi:0 ≤ g.fi ∧ g.fi < f.fr.length
 fr:0 ≤ g.fr ∧ g.fr < g.to
 to:g.to ≤ f.fr.getD g.fi.toNat 0
 sg:0 ≤ g.sg ∧ g.sg < ((2 ^ f.n.toNat:Nat):Int)
/-- The order of the messages. -/
def keyLt (a b:Gl):Prop:=a.au < b.au ∨ (a.au = b.au ∧ a.st < b.st)
instance (a b:Gl):Decidable (keyLt a b):=inferInstanceAs (Decidable (_ ∨ _))
def cmpG (a b:Gl):Int:=orI (a.au - b.au) (a.st - b.st)
theorem cmpG_neg {a b:Gl}:cmpG a b < 0 ↔ keyLt a b:=by
 unfold cmpG orI keyLt
 split <;> omega
theorem keyLt_trans {a b c:Gl} (h1:keyLt a b) (h2:keyLt b c):keyLt a c:=by unfold keyLt at *;omega
theorem keyLt_irr {a:Gl}:¬ keyLt a a:=by unfold keyLt;omega
/-- No two messages have the same author and the same stamp. -/
def Keys (M:List Gl):Prop:=M.Pairwise fun a b=>¬ (a.au = b.au ∧ a.st = b.st)
theorem key_tot {a b:Gl} (h:¬ (a.au = b.au ∧ a.st = b.st)) (h2:¬ keyLt a b):keyLt b a:=by unfold keyLt at *;omega
def insG (g:Gl):List Gl → List Gl
 | []=>[g]
 | x :: l=>if keyLt x g then x :: insG g l else g :: x :: l
def srt : List Gl → List Gl
 | []=>[]
 | g :: l=>insG g (srt l)
theorem insG_perm (g:Gl):∀ l,(insG g l).Perm (g :: l)
 | []=>List.Perm.refl _
 | x :: l=>by
  simp only [insG]
  split
  ·exact ((insG_perm g l).cons x).trans (List.Perm.swap g x l)
  ·exact List.Perm.refl _
theorem srt_perm : ∀ l,(srt l).Perm l
 | []=>List.Perm.refl _
 | g :: l=>(insG_perm g _).trans ((srt_perm l).cons g)
theorem insG_sorted {g:Gl}:∀ {l:List Gl},l.Pairwise keyLt → (∀ x,x ∈ l → ¬ (g.au = x.au ∧ g.st = x.st)) → (insG g l).Pairwise keyLt
 | [],_,_=>by simp [insG]
 | x :: l,h,hk=>by
  simp only [insG]
  rw [List.pairwise_cons] at h
  split
  ·rename_i hx
   rw [List.pairwise_cons]
   refine ⟨fun y hy=>?_,insG_sorted h.2 fun y hy=>hk y (List.mem_cons_of_mem _ hy)⟩
   rcases List.mem_cons.1 ((insG_perm g l).mem_iff.1 hy) with rfl|hy
   ·exact hx
   ·exact h.1 y hy
  ·rename_i hx
   have hgx:keyLt g x:=key_tot (fun e=>hk x List.mem_cons_self ⟨e.1.symm,e.2.symm⟩) hx
   rw [List.pairwise_cons]
   refine ⟨fun y hy=>?_,List.pairwise_cons.2 h⟩
   rcases List.mem_cons.1 hy with rfl|hy
   ·exact hgx
   ·exact keyLt_trans hgx (h.1 y hy)
theorem srt_sorted : ∀ {l:List Gl},Keys l → (srt l).Pairwise keyLt
 | [],_=>List.Pairwise.nil
 | g :: l,h=>by
  unfold Keys at h
  rw [List.pairwise_cons] at h
  exact insG_sorted (srt_sorted h.2) fun x hx=>h.1 x ((srt_perm l).mem_iff.1 hx)
theorem sorted_unique : ∀ {l l':List Gl},l.Perm l' → l.Pairwise keyLt → l'.Pairwise keyLt → l = l'
 | [],l',h,_,_=>(List.nil_perm.1 h).symm
 | a :: l,[],h,_,_=>absurd h.length_eq (by simp)
 | a :: l,b :: l',h,h1,h2=>by
  rw [List.pairwise_cons] at h1 h2
  have e:a = b:=by
   have ha:a ∈ b :: l':=h.mem_iff.1 List.mem_cons_self
   have hb:b ∈ a :: l:=h.mem_iff.2 List.mem_cons_self
   rcases List.mem_cons.1 ha with e|ha
   ·exact e
   rcases List.mem_cons.1 hb with e|hb
   ·exact e.symm
   exact absurd (keyLt_trans (h1.1 b hb) (h2.1 a ha)) keyLt_irr
  subst e
  rw [sorted_unique ((List.perm_cons a).1 h) h1.2 h2.2]
theorem srt_eq {M l:List Gl} (hk:Keys M) (hp:l.Perm M) (hs:l.Pairwise keyLt):l = srt M:=sorted_unique (hp.trans (srt_perm M).symm) hs (srt_sorted hk)
def common (a b:Gl):Bool:=decide (a.fi = b.fi) && decide (max a.fr b.fr < min a.to b.to)
def laterB (g o:Gl):Bool:=decide (o.au = g.au) && decide (g.st < o.st) && common o g
def goneG (A:List Gl) (g:Gl):Bool:=decide (g.sg = 0) || A.any (laterB g)
def heldT (M:List Gl):List Gl:=(srt M).filter fun g=>!goneG (srt M) g
def outB (film frame:Int) (g:Gl):Bool:=decide (g.fi ≠ film) || decide (frame < g.fr) || decide (g.to ≤ frame)
def atT (L:List Gl) (film frame:Int):List Gl:=L.filter fun g=>!outB film frame g
def popK (x:Nat):Nat → Nat
 | 0=>0
 | k + 1=>popK x k + if x.testBit k then 1 else 0
/-- How many elements a set of at most ten has. -/
def popT (x:Nat):Nat:=popK x 10
def missB (set:Nat) (g:Gl):Bool:=decide (g.sg.toNat &&& set = 0)
def stepR (L:List Gl) (out:List Nat) (set:Nat):List Nat :=
 if L.any (missB set) then out else match out with
  | []=>[set]
  | o :: t=>if popT set < popT o then [set] else if popT set = popT o then o :: t ++ [set] else o :: t
def rdK (L:List Gl):Nat → List Nat
 | 0=>[]
 | k + 1=>stepR L (rdK L k) k
def rdT (n:Nat) (L:List Gl):List Nat:=rdK L (2 ^ n)
/-- What the readings of the sets below k are. -/
structure RdOk (L:List Gl) (k:Nat) (out:List Nat):Prop where
 el:∀ x,x ∈ out → x < k ∧ L.any (missB x) = false ∧ ∀ y,y < k → L.any (missB y) = false → popT x ≤ popT y
 all:∀ y,y < k → L.any (missB y) = false → out ≠ [] ∧ ((∀ x,x ∈ out → popT y ≤ popT x) → y ∈ out)
theorem rdK_ok (L:List Gl):∀ k,RdOk L k (rdK L k)
 | 0=>⟨fun x hx=>(by cases hx),fun y hy=>absurd hy (Nat.not_lt_zero y)⟩
 | k + 1=>by
  have ih:=rdK_ok L k
  simp only [rdK,stepR]
  by_cases hm:L.any (missB k) = true
  ·rw [if_pos hm]
   refine ⟨fun x hx=>?_,fun y hy h=>?_⟩
   ·obtain ⟨a,b,c⟩:=ih.el x hx
    refine ⟨by omega,b,fun y hy h=>?_⟩
    by_cases e:y = k
    ·subst e;rw [hm] at h;cases h
    ·exact c y (by omega) h
   ·by_cases e:y = k
    ·subst e;rw [hm] at h;cases h
    ·exact ih.all y (by omega) h
  ·rw [if_neg hm]
   have hm':L.any (missB k) = false:=by simpa using hm
   cases ho:rdK L k with
   | nil =>
    have none:∀ y,y < k → L.any (missB y) = false → False:=fun y hy h=>(ih.all y hy h).1 ho
    refine ⟨fun x hx=>?_,fun y hy h=>?_⟩
    ·rw [List.mem_singleton.1 hx]
     refine ⟨by omega,hm',fun y hy h=>?_⟩
     by_cases e:y = k
     ·subst e;exact Nat.le_refl _
     ·exact (none y (by omega) h).elim
    ·by_cases e:y = k
     ·subst e;exact ⟨by simp,fun _=>List.mem_singleton.2 rfl⟩
     ·exact (none y (by omega) h).elim
   | cons o t =>
    rw [ho] at ih
    obtain ⟨o1,o2,o3⟩:=ih.el o List.mem_cons_self
    have same:∀ x,x ∈ o :: t → popT x = popT o:=fun x hx=>Nat.le_antisymm ((ih.el x hx).2.2 o o1 o2) (o3 x (ih.el x hx).1 (ih.el x hx).2.1)
    dsimp only
    by_cases h1:popT k < popT o
    ·rw [if_pos h1]
     refine ⟨fun x hx=>?_,fun y hy h=>?_⟩
     ·rw [List.mem_singleton.1 hx]
      refine ⟨by omega,hm',fun y hy h=>?_⟩
      by_cases e:y = k
      ·subst e;exact Nat.le_refl _
      ·have:=o3 y (by omega) h;omega
     ·refine ⟨by simp,fun hx=>?_⟩
      by_cases e:y = k
      ·subst e;exact List.mem_singleton.2 rfl
      ·have a:=o3 y (by omega) h
       have b:=hx k (List.mem_singleton.2 rfl)
       omega
    ·rw [if_neg h1]
     by_cases h2:popT k = popT o
     ·rw [if_pos h2]
      refine ⟨fun x hx=>?_,fun y hy h=>⟨by simp,fun hx=>?_⟩⟩
      ·rcases List.mem_append.1 hx with hx1|hx
       ·obtain ⟨a,b,c⟩:=ih.el x hx1
        refine ⟨by omega,b,fun y hy h=>?_⟩
        by_cases e:y = k
        ·subst e;have:=same x hx1;omega
        ·exact c y (by omega) h
       ·rw [List.mem_singleton.1 hx]
        refine ⟨by omega,hm',fun y hy h=>?_⟩
        by_cases e:y = k
        ·subst e;exact Nat.le_refl _
        ·have:=o3 y (by omega) h;omega
      ·by_cases e:y = k
       ·subst e;exact List.mem_append.2 (.inr (List.mem_singleton.2 rfl))
       ·exact List.mem_append.2 (.inl ((ih.all y (by omega) h).2 fun x hx'=>hx x (List.mem_append.2 (.inl hx'))))
     ·rw [if_neg h2]
      refine ⟨fun x hx=>?_,fun y hy h=>?_⟩
      ·obtain ⟨a,b,c⟩:=ih.el x hx
       refine ⟨by omega,b,fun y hy h=>?_⟩
       by_cases e:y = k
       ·subst e;have:=same x hx;omega
       ·exact c y (by omega) h
      ·by_cases e:y = k
       ·subst e
        refine ⟨by simp,fun hx=>?_⟩
        have:=hx o List.mem_cons_self;omega
       ·exact ih.all y (by omega) h
structure Rd where
 fr:Int
 to:Int
 sg:Int
def rd0 : Rd:=⟨0,0,0⟩
def headT (n:Nat) (L:List Gl):Nat:=(rdT n L).getD 0 0
/-- The readings of the first frames. -/
def lastR (R:List Rd):Rd:=R.getD (R.length - 1) rd0
def stepF (R:List Rd) (k:Nat) (set:Nat):List Rd :=
 if set = 0 then R else if 0 < R.length ∧ (lastR R).to = (k:Int) ∧ (lastR R).sg = (set:Int) then R.set (R.length - 1) ⟨(lastR R).fr,(lastR R).to + 1,(lastR R).sg⟩ else R ++ [⟨(k:Int),(k:Int) + 1,(set:Int)⟩]
def readK (n:Nat) (M:List Gl) (film:Int):Nat → List Rd
 | 0=>[]
 | k + 1=>stepF (readK n M film k) k (headT n (atT (heldT M) film k))
def andT (n:Nat) (l:List Nat):Nat → Nat
 | 0=>2 ^ n - 1
 | k + 1=>andT n l k &&& l.getD k 0
def orT (l:List Nat):Nat → Nat
 | 0=>0
 | k + 1=>orT l k ||| l.getD k 0
end Go.Proofs.YtodpjdmdmmnlpaaGreat

namespace Go.Proofs.YtodpjdmdmmnlpaaGreat
open Go.RowKit

theorem mixed : Tryz.prog.follows .mixedOrders = true:=by kernel_rfl
abbrev AI (n:Int):AV:=.int .i64 n
abbrev AU (n:Nat):AV:=.int .u64 n
abbrev aInts (z e:Bool) (l:List Int):AV:=.sl z e l.length 1 (fun k _=>AI (l.getD k 0))
abbrev nilS : AV:=.sl true true 0 0 (fun _ _=>.bot)
abbrev cForm (z e:Bool) (f:Form):Nat → AV:=ofL [AI f.r,AI f.l,AI f.c,AI f.w,AI f.f,aInts z e f.mv]
abbrev aForm (z e:Bool) (f:Form):AV:=.agg 6 (cForm z e f)
abbrev cEnt (z e:Bool) (x:Ent):Nat → AV:=ofL [AI x.id,AI x.sg,AI x.rg,AI x.fm.r,AI x.fm.l,AI x.fm.c,AI x.fm.w,AI x.fm.f,aInts z e x.fm.mv,AI x.lo,AI x.hi]
abbrev aEnt (z e:Bool) (x:Ent):AV:=.agg 11 (cEnt z e x)
structure EnF where
 z:Bool
 e:Bool
 fz:Nat → Bool
 fe:Nat → Bool
abbrev aEnts (f:EnF) (l:List Ent):AV:=.sl f.z f.e l.length 11 (fun k=>cEnt (f.fz k) (f.fe k) (l.getD k en0))
abbrev cSeen (z e:Bool) (s:Seen):Nat → AV:=ofL [AI s.ri,AI s.le,AI s.fa,AI s.rg,AI s.lost,AI s.cl,AI s.ch,AI s.rl,AI s.rh,AI s.al,AI s.ah,aInts z e s.mv]
abbrev aSeen (z e:Bool) (s:Seen):AV:=.agg 12 (cSeen z e s)
theorem int_eq {k:IntKind} {a b:Int} (h:a = b):AV.int k a = AV.int k b:=by rw [h]
theorem bool_eq {a b:Bool} (h:a = b):AV.bool a = AV.bool b:=by rw [h]
theorem drop_eq {α:Type} {l:List α} {i:Nat} (d:α) (h:i < l.length):l.drop i = l.getD i d :: l.drop (i + 1):=by
 rw [List.drop_eq_getElem_cons h];simp [List.getD,List.getElem?_eq_getElem h]
theorem all_step {α:Type} {p:α → Bool} {l:List α} {i:Nat} (d:α) (h:i < l.length) (e:l.all p = (l.drop i).all p) (hp:p (l.getD i d) = true):l.all p = (l.drop (i + 1)).all p:=by
 rw [e,drop_eq d h,List.all_cons,hp,Bool.true_and]
theorem all_no {α:Type} {p:α → Bool} {l:List α} {i:Nat} (d:α) (h:i < l.length) (e:l.all p = (l.drop i).all p) (hp:p (l.getD i d) = false):l.all p = false:=by
 rw [e,drop_eq d h,List.all_cons,hp,Bool.false_and]
theorem all_end {α:Type} {p:α → Bool} {l:List α} {i:Nat} (h:l.length ≤ i) (e:l.all p = (l.drop i).all p):l.all p = true:=by
 rw [e,List.drop_eq_nil_of_le h];rfl
theorem below_step {p:Nat → Prop} {i:Nat} (h:∀ k,k < i → p k) (hi:p i):∀ k,k < i + 1 → p k:=fun k hk=>by
 rcases Nat.lt_or_ge k i with h'|h'
 ·exact h k h'
 ·obtain rfl:k = i:=by omega
  exact hi
theorem below_zero {p:Nat → Prop}:∀ k,k < 0 → p k:=fun k hk=>absurd hk (Nat.not_lt_zero k)
theorem Ln.boxP {σ:Nat → Nat → Prop} {Bp:Nat → Prop} {H:List AB} {d o m:Nat} {c c':Nat → AV} (h:Bp d) (hd:H[d]? = some (.box m c)) (hc:LnN σ Bp H m c c') (hp:((List.range m).all fun i=>(c' i).pureB) = true):Ln σ Bp H (.ptr d o) (.ip m c' o) :=
 Ln.pubp d o m c c' h hd hc.get fun i hi=>pureB_ok _ (by simp only [List.all_eq_true,List.mem_range] at hp;exact hp i hi)
theorem Ln.box1 {σ : Nat → Nat → Prop} {Bp : Nat → Prop} {H : List AB} {d o : Nat} {c c' : Nat → AV} (h : Bp d) (hd : H[d]? = some (.box 1 c)) (hc : Ln σ Bp H (c 0) (c' 0)) (hp : (c' 0).pureB = true) : Ln σ Bp H (.ptr d o) (.ip 1 c' o) :=
  Ln.pubp d o 1 c c' h hd (fun i hi => by obtain rfl : i = 0 := (by omega)
                                          exact hc) (fun i hi => by obtain rfl : i = 0 := (by omega)
                                                                    exact pureB_ok _ hp)
section
variable {σ:Nat → Nat → Prop} {Bp:Nat → Prop} {H:List AB}
theorem Ln.nilZ {n' sz:Nat} {c':Nat → Nat → AV} (h:n' = 0):Ln σ Bp H nilS (.sl (decide (n' = 0)) (decide (n' = 0)) n' sz c'):=by
 subst h;exact Ln.slz _ _ _ _ _ _ _ (fun h=>h)
theorem Ln.pubZ {d n n' N sz:Nat} {c c':Nat → Nat → AV} (h0:0 < n') (h:Bp d) (hd:H[d]? = some (.row N sz c)) (hn:n ≤ N) (e:n = n') (hc:∀ k,k < n → ∀ o,o < sz → c' k o = c k o):Ln σ Bp H (.own d n) (.sl (decide (n' = 0)) (decide (n' = 0)) n' sz c'):=by
 rw [decide_eq_false (by omega)];exact Ln.pubE h hd hn e hc
theorem Ln.pubD {d n n' N sz:Nat} {c c':Nat → Nat → AV} (h0:0 < n') (h:Bp d) (hd:H[d]? = some (.row N sz c)) (hn:n ≤ N) (e:n = n') (hc:∀ k,k < n → ∀ o,o < sz → c' k o = c k o):Ln σ Bp H (.own d n) (.sl false (decide (n' = 0)) n' sz c'):=by
 rw [decide_eq_false (by omega)];exact Ln.pubE h hd hn e hc
end
set_option maxHeartbeats 4000000
set_option maxRecDepth 100000
theorem within_ok (n lo hi:Int):ACall Tryz.prog 19 [AI n,AI lo,AI hi] [] (fun r h=>r = .bool (inB n lo hi) ∧ h = []):=by
 (refine fcall_of mixed Tryz.func19 rfl (by decide) (hs:={}) ?k (ac:=?ac) ?c (rs:=?rs) ?r ?l ?H;(case k=>kernel_rfl);(case c=>(conv=>(lhs;cbv)));(case r=>(conv=>(lhs;cbv)));(case l=>exact Nat.le_of_ble_eq_true rfl))
 (repeat' ((try conv=>whnf);first|(with_reducible first|refine wT ?_|refine wF ?_|(refine wI (fun hq=>?_) (fun hq=>?_) <;> try simp only [zA,zE,zD,zJ,zB,zI,wK,wL] at hq)|refine wA ?_|refine wB ?_|refine wC ?_|refine wD ?_|refine wE ?_)|((with_reducible refine wN ?_ ?_);focus exact needA)|(with_reducible refine wG ?_)|(with_reducible refine wP ?_)))
 all_goals ((refine ⟨⟨_,[],[],Cut.nil _,Ln.sameB _ rfl,?_,rfl⟩⟩);unfold inB;(exact avB))
theorem long_ok (f:EnF) (l:List Ent) (hlen:l.length ≤ 9223372036854775807):ACall Tryz.prog 14 [aEnts f l] [] (fun r h=>r = .bool (!(l.all (fun x=>decide (x.fm.mv.length ≤ 20))) || decide (60 < (l.length:Int))) ∧ h = []):=by
 (refine fcall_of mixed Tryz.func14 rfl (by decide) (hs:={}) ?k (ac:=?ac) ?c (rs:=?rs) ?r ?l ?H;(case k=>kernel_rfl);(case c=>(conv=>(lhs;cbv)));(case r=>(conv=>(lhs;cbv)));(case l=>exact Nat.le_of_ble_eq_true rfl))
 (repeat' ((try conv=>whnf);first|(with_reducible first|refine wT ?_|refine wF ?_|(refine wI (fun hq=>?_) (fun hq=>?_) <;> try simp only [zA,zE,zD,zJ,zB,zI,wK,wL] at hq)|refine wA ?_|refine wB ?_|refine wC ?_|refine wD ?_|refine wE ?_)|((with_reducible refine wN ?_ ?_);focus exact needA)|(with_reducible refine wG ?_)|(with_reducible refine wP ?_)))
 all_goals (try conv=>whnf)
 refine FLoop.of (ACalls.mono _) (X:=Nat) (fun i=>[(0,aEnts f l),(3,AI i)]) (fun _=>[]) (fun i=>i ≤ l.length ∧ l.all (fun x=>decide (x.fm.mv.length ≤ 20)) = (l.drop i).all (fun x=>decide (x.fm.mv.length ≤ 20))) (fun i=>l.length - i) 0 ⟨⟨Nat.zero_le _,rfl⟩,[],Cut.A,allA⟩ ?_
 rintro i ⟨hi,hL⟩
 by_cases hlt:i < l.length
 ·(repeat' ((try conv=>whnf);first|(with_reducible first|refine wT ?_|refine wF ?_|(refine wI (fun hq=>?_) (fun hq=>?_) <;> try simp only [zA,zE,zD,zJ,zB,zI,wK,wL] at hq)|refine wA ?_|refine wB ?_|refine wC ?_|refine wD ?_|refine wE ?_)|((with_reducible refine wN ?_ ?_);focus exact needA)|(with_reducible refine wG ?_)|(with_reducible refine wP ?_)))
  all_goals (try conv=>whnf)
  ·(refine ⟨⟨_,[],[],Cut.nil _,Ln.sameB _ rfl,?_,rfl⟩⟩)
   rw [all_no en0 hlt hL (decide_eq_false (by omega))];rfl
  ·(exact ⟨⟨(i + 1),⟨hlt,all_step en0 hlt hL (decide_eq_true (by omega))⟩,by show _ < _;omega,[],Cut.A,allA⟩⟩)
 ·(repeat' ((try conv=>whnf);first|(with_reducible first|refine wT ?_|refine wF ?_|(refine wI (fun hq=>?_) (fun hq=>?_) <;> try simp only [zA,zE,zD,zJ,zB,zI,wK,wL] at hq)|refine wA ?_|refine wB ?_|refine wC ?_|refine wD ?_|refine wE ?_)|((with_reducible refine wN ?_ ?_);focus exact needA)|(with_reducible refine wG ?_)|(with_reducible refine wP ?_)))
  all_goals (try conv=>whnf)
  all_goals ((refine ⟨⟨_,[],[],Cut.nil _,Ln.sameB _ rfl,?_,rfl⟩⟩);rw [all_end (by omega) hL];exact bool_eq (by simp))
theorem form_no {f:Form} (h:¬ FormOk f):formB f = false:=Bool.eq_false_iff.2 fun e=>h (form_d e)
theorem isForm_ok (z e:Bool) (f:Form) (hn:f.mv.length ≤ 1000):ACall Tryz.prog 57 [aForm z e f] [] (fun r h=>r = .bool (formB f) ∧ h = []):=by
 (refine fcall_of mixed Tryz.func57 rfl (by decide) (hs:={}) ?k (ac:=?ac) ?c (rs:=?rs) ?r ?l ?H;(case k=>kernel_rfl);(case c=>(conv=>(lhs;cbv)));(case r=>(conv=>(lhs;cbv)));(case l=>exact Nat.le_of_ble_eq_true rfl))
 (repeat' ((try conv=>whnf);first|(with_reducible first|refine wT ?_|refine wF ?_|(refine wI (fun hq=>?_) (fun hq=>?_) <;> try simp only [zA,zE,zD,zJ,zB,zI,wK,wL] at hq)|refine wA ?_|refine wB ?_|refine wC ?_|refine wD ?_|refine wE ?_)|((with_reducible refine wN ?_ ?_);focus exact needA)|(with_reducible refine wG ?_)|(with_reducible refine wP ?_)))
 all_goals (try conv=>whnf)
 refine FLoop.of (ACalls.mono _) (X:=Nat) (fun i=>[(1,.ptr 0 0),(3,AI i)]) (fun _=>[.box 6 (cForm z e f)]) (fun i=>i ≤ f.mv.length ∧ ∀ k,k < i → 0 ≤ f.mv.getD k 0 ∧ f.mv.getD k 0 ≤ 7) (fun i=>f.mv.length - i) 0 ⟨⟨Nat.zero_le _,below_zero⟩,[0],Cut.A,allA⟩ ?_
 rintro i ⟨hi,hL⟩
 by_cases hlt:i < f.mv.length
 ·(repeat' ((try conv=>whnf);first|(with_reducible first|refine wT ?_|refine wF ?_|(refine wI (fun hq=>?_) (fun hq=>?_) <;> try simp only [zA,zE,zD,zJ,zB,zI,wK,wL] at hq)|refine wA ?_|refine wB ?_|refine wC ?_|refine wD ?_|refine wE ?_)|((with_reducible refine wN ?_ ?_);focus exact needA)|(with_reducible refine wG ?_)|(refine FCall.pure ((within_ok _ _ _)) ⟨Ln.sameB _ rfl,Ln.sameB _ rfl,Ln.sameB _ rfl,True.intro⟩ rfl ?_)|(with_reducible refine wP ?_)))
  all_goals (try conv=>whnf)
  ·(refine ⟨⟨_,[],[],Cut.nil _,Ln.sameB _ rfl,?_,rfl⟩⟩)
   rw [form_no fun h=>by have:=h.mv i hlt;omega]
  ·(exact ⟨⟨(i + 1),⟨hlt,below_step hL (by omega)⟩,by show _ < _;omega,[0],Cut.A,allA⟩⟩)
 ·have hA:∀ k,k < f.mv.length → 0 ≤ f.mv.getD k 0 ∧ f.mv.getD k 0 ≤ 7:=fun k hk=>hL k (by omega)
  clear hL
  by_cases h6:f.mv.length ≤ 6
  ·(repeat' ((try conv=>whnf);first|(with_reducible first|refine wT ?_|refine wF ?_|(refine wI (fun hq=>?_) (fun hq=>?_) <;> try simp only [zA,zE,zD,zJ,zB,zI,wK,wL] at hq)|refine wA ?_|refine wB ?_|refine wC ?_|refine wD ?_|refine wE ?_)|((with_reducible refine wN ?_ ?_);focus exact needA)|(with_reducible refine wG ?_)|(refine FCall.pure ((within_ok _ _ _)) ⟨Ln.sameB _ rfl,Ln.sameB _ rfl,Ln.sameB _ rfl,True.intro⟩ rfl ?_)|(with_reducible refine wP ?_)))
   all_goals (try conv=>whnf)
   all_goals (refine ⟨⟨_,[],[],Cut.nil _,Ln.sameB _ rfl,?_,rfl⟩⟩)
   all_goals first
    | (rw [form_no fun h=>by have:=h.r;have:=h.l;have:=h.m;have:=h.c;have:=h.w;have:=h.fc;have:=h.n;omega];done)
    | (rw [form_b ⟨by omega,by omega,by omega,by omega,by omega,by omega,by omega,hA⟩];exact bool_eq (decide_eq_true (by omega)))
  ·(repeat' ((try conv=>whnf);first|(with_reducible first|refine wT ?_|refine wF ?_|(refine wI (fun hq=>?_) (fun hq=>?_) <;> try simp only [zA,zE,zD,zJ,zB,zI,wK,wL] at hq)|refine wA ?_|refine wB ?_|refine wC ?_|refine wD ?_|refine wE ?_)|((with_reducible refine wN ?_ ?_);focus exact needA)|(with_reducible refine wG ?_)|(refine FCall.pure ((within_ok _ _ _)) ⟨Ln.sameB _ rfl,Ln.sameB _ rfl,Ln.sameB _ rfl,True.intro⟩ rfl ?_)|(with_reducible refine wP ?_)))
   all_goals (try conv=>whnf)
   all_goals (refine ⟨⟨_,[],[],Cut.nil _,Ln.sameB _ rfl,?_,rfl⟩⟩)
   all_goals (rw [form_no fun h=>by have:=h.n;omega];first|done|exact bool_eq (decide_eq_false (by omega)))
end Go.Proofs.YtodpjdmdmmnlpaaGreat

namespace Go.Proofs.YtodpjdmdmmnlpaaGreat
open Go.RowKit

/-- The first index from i on, of k that are left. -/
def idxP (n:Nat) (q:Nat → Bool):Nat → Nat → Int
 | 0,_=>-1
 | k + 1,i=>if q i then i else idxP n q k (i + 1)
theorem idxP_any {n:Nat} {q:Nat → Bool}:∀ {k i:Nat},0 ≤ idxP n q k i ↔ ∃ j,i ≤ j ∧ j < i + k ∧ q j = true
 | 0,i=>by
  constructor
  ·intro h;simp only [idxP] at h;omega
  ·rintro ⟨j,h1,h2,_⟩;omega
 | k + 1,i=>by
  simp only [idxP]
  by_cases h:q i = true
  ·rw [if_pos h];exact ⟨fun _=>⟨i,Nat.le_refl _,by omega,h⟩,fun _=>by omega⟩
  ·rw [if_neg h,idxP_any]
   constructor
   ·rintro ⟨j,h1,h2,h3⟩;exact ⟨j,by omega,by omega,h3⟩
   ·rintro ⟨j,h1,h2,h3⟩
    rcases Nat.eq_or_lt_of_le h1 with e|e
    ·subst e;exact (h h3).elim
    ·exact ⟨j,e,by omega,h3⟩
theorem any_idx {α:Type} {q:α → Bool} {l:List α} (d:α):decide (0 ≤ idxP l.length (fun k=>q (l.getD k d)) l.length 0) = l.any q:=by
 rw [Bool.eq_iff_iff]
 simp only [decide_eq_true_eq,idxP_any,List.any_eq_true]
 constructor
 ·rintro ⟨j,_,hj,h⟩
  have hj:j < l.length:=by omega
  exact ⟨l[j],List.getElem_mem hj,by simpa [List.getD,List.getElem?_eq_getElem hj] using h⟩
 ·rintro ⟨x,hx,h⟩
  obtain ⟨k,hk,rfl⟩:=List.getElem_of_mem hx
  exact ⟨k,by omega,by omega,by simpa [List.getD,List.getElem?_eq_getElem hk] using h⟩
abbrev iFn (v:AV):AV:=.ip 1 (ofL [v]) 0
abbrev iInt (n:Int):AV:=.ip 1 (ofL [AI n]) 0
abbrev cGl (g:Gl):Nat → AV:=ofL [AI g.au,AI g.st,AI g.fi,AI g.fr,AI g.to,AI g.sg]
abbrev aGl (g:Gl):AV:=.agg 6 (cGl g)
abbrev aGls (z e:Bool) (l:List Gl):AV:=.sl z e l.length 6 (fun k=>cGl (l.getD k gl0))
abbrev aSp (x:Int × Int):AV:=.agg 2 (ofL [AI x.1,AI x.2])
abbrev aSps (z e:Bool) (l:List (Int × Int)):AV:=.sl z e l.length 2 (fun k=>ofL [AI (l.getD k (0,0)).1,AI (l.getD k (0,0)).2])
set_option maxHeartbeats 4000000
set_option maxRecDepth 100000
theorem idx_int (F:FuncId) (mc1:Nat) (dc1:Nat → AV) (hc1:(AV.ip mc1 dc1 0).pureB = true) (z e:Bool) (l:List Int) (q:Int → Bool) (hl:l.length ≤ 1000) (hG:∀ k,k < l.length → ACall Tryz.prog F [AI (l.getD k 0),.ip mc1 dc1 0] [] (fun r h=>r = .bool (q (l.getD k 0)) ∧ h = [])):ACall Tryz.prog 109 [aInts z e l,(.fn F 1 (ofL [.ip mc1 dc1 0]))] [] (fun r h=>r = AI (idxP l.length (fun k=>q (l.getD k 0)) l.length 0) ∧ h = []):=by
 have hfn:(AV.fn F 1 (ofL [.ip mc1 dc1 0])).pureB = true:=by
  show (List.all _ _) = true
  simp [List.range,List.range.loop,ofL,hc1]
 (refine fcall_of mixed Tryz.func109 rfl (by decide) (hs:={}) ?k (ac:=?ac) ?c (rs:=?rs) ?r ?l ?H;(case k=>kernel_rfl);(case c=>(conv=>(lhs;cbv)));(case r=>(conv=>(lhs;cbv)));(case l=>exact Nat.le_of_ble_eq_true rfl))
 (repeat' ((try conv=>whnf);first|(with_reducible first|refine wT ?_|refine wF ?_|(refine wI (fun hq=>?_) (fun hq=>?_) <;> try simp only [zA,zE,zD,zJ,zB,zI,wK,wL] at hq)|refine wA ?_|refine wB ?_|refine wC ?_|refine wD ?_|refine wE ?_)|((with_reducible refine wN ?_ ?_);focus exact needA)|(with_reducible refine wG ?_)|(with_reducible refine wP ?_)))
 all_goals (try conv=>whnf)
 refine FLoop.of (ACalls.mono _) (X:=Nat) (fun k=>[(0,aInts z e l),(1,(.fn F 1 (ofL [.ip mc1 dc1 0]))),(7,AI l.length),(8,AI k)]) (fun _=>[]) (fun k=>k ≤ l.length ∧ idxP l.length (fun k=>q (l.getD k 0)) l.length 0 = idxP l.length (fun k=>q (l.getD k 0)) (l.length - k) k) (fun k=>l.length - k) 0 ⟨⟨Nat.zero_le _,rfl⟩,[],Cut.nil _,Ln.sameB _ rfl,Ln.sameB _ hfn,Ln.A,Ln.A,True.intro⟩ ?_
 rintro k ⟨hk,hL⟩
 by_cases hlt:k < l.length
 ·obtain ⟨m,hm⟩:∃ m,l.length - k = m + 1:=⟨l.length - k - 1,by omega⟩
  rw [hm,idxP] at hL
  have hGk:=hG k hlt
  (repeat' ((try conv=>whnf);first|(with_reducible first|refine wT ?_|refine wF ?_|(refine wI (fun hq=>?_) (fun hq=>?_) <;> try simp only [zA,zE,zD,zJ,zB,zI,wK,wL] at hq)|refine wA ?_|refine wB ?_|refine wC ?_|refine wD ?_|refine wE ?_)|((with_reducible refine wN ?_ ?_);focus exact needA)|(with_reducible refine wG ?_)|(refine FCall.pure hGk ⟨Ln.sameB _ rfl,Ln.sameB _ hc1,True.intro⟩ rfl ?_)|(with_reducible refine wP ?_)))
  all_goals (try conv=>whnf)
  ·(refine ⟨⟨_,[],[],Cut.nil _,Ln.sameB _ rfl,?_,rfl⟩⟩)
   rw [hL,if_pos hq]
  ·exact ⟨⟨k + 1,⟨hlt,by rw [hL,if_neg (by rw [hq];decide),show l.length - (k + 1) = m by omega]⟩,by show _ < _;omega,[],Cut.nil _,Ln.sameB _ rfl,Ln.sameB _ hfn,Ln.A,Ln.A,True.intro⟩⟩
 ·rw [show l.length - k = 0 by omega,idxP] at hL
  (repeat' ((try conv=>whnf);first|(with_reducible first|refine wT ?_|refine wF ?_|(refine wI (fun hq=>?_) (fun hq=>?_) <;> try simp only [zA,zE,zD,zJ,zB,zI,wK,wL] at hq)|refine wA ?_|refine wB ?_|refine wC ?_|refine wD ?_|refine wE ?_)|((with_reducible refine wN ?_ ?_);focus exact needA)|(with_reducible refine wG ?_)|(with_reducible refine wP ?_)))
  all_goals (try conv=>whnf)
  (refine ⟨⟨_,[],[],Cut.nil _,Ln.sameB _ rfl,?_,rfl⟩⟩)
  rw [hL]
theorem cont_int (F:FuncId) (mc1:Nat) (dc1:Nat → AV) (hc1:(AV.ip mc1 dc1 0).pureB = true) (z e:Bool) (l:List Int) (q:Int → Bool) (hl:l.length ≤ 1000) (hG:∀ k,k < l.length → ACall Tryz.prog F [AI (l.getD k 0),.ip mc1 dc1 0] [] (fun r h=>r = .bool (q (l.getD k 0)) ∧ h = [])):ACall Tryz.prog 94 [aInts z e l,(.fn F 1 (ofL [.ip mc1 dc1 0]))] [] (fun r h=>r = .bool (l.any q) ∧ h = []):=by
 have hfn:(AV.fn F 1 (ofL [.ip mc1 dc1 0])).pureB = true:=by
  show (List.all _ _) = true
  simp [List.range,List.range.loop,ofL,hc1]
 have hI:=idx_int F mc1 dc1 hc1 z e l q hl hG
 (refine fcall_of mixed Tryz.func94 rfl (by decide) (hs:={}) ?k (ac:=?ac) ?c (rs:=?rs) ?r ?l ?H;(case k=>kernel_rfl);(case c=>(conv=>(lhs;cbv)));(case r=>(conv=>(lhs;cbv)));(case l=>exact Nat.le_of_ble_eq_true rfl))
 (repeat' ((try conv=>whnf);first|(with_reducible first|refine wT ?_|refine wF ?_|(refine wI (fun hq=>?_) (fun hq=>?_) <;> try simp only [zA,zE,zD,zJ,zB,zI,wK,wL] at hq)|refine wA ?_|refine wB ?_|refine wC ?_|refine wD ?_|refine wE ?_)|((with_reducible refine wN ?_ ?_);focus exact needA)|(with_reducible refine wG ?_)|(refine FCall.pure hI ⟨Ln.sameB _ rfl,Ln.sameB _ hfn,True.intro⟩ rfl ?_)|(with_reducible refine wP ?_)))
 all_goals (try conv=>whnf)
 all_goals (refine ⟨⟨_,[],[],Cut.nil _,Ln.sameB _ rfl,?_,rfl⟩⟩)
 all_goals rw [← any_idx 0]
theorem idx_ent (F:FuncId) (mc1:Nat) (dc1:Nat → AV) (hc1:(AV.ip mc1 dc1 0).pureB = true) (f:EnF) (l:List Ent) (q:Ent → Bool) (hl:l.length ≤ 1000) (hG:∀ k,k < l.length → ACall Tryz.prog F [aEnt (f.fz k) (f.fe k) (l.getD k en0),.ip mc1 dc1 0] [] (fun r h=>r = .bool (q (l.getD k en0)) ∧ h = [])):ACall Tryz.prog 106 [aEnts f l,(.fn F 1 (ofL [.ip mc1 dc1 0]))] [] (fun r h=>r = AI (idxP l.length (fun k=>q (l.getD k en0)) l.length 0) ∧ h = []):=by
 have hfn:(AV.fn F 1 (ofL [.ip mc1 dc1 0])).pureB = true:=by
  show (List.all _ _) = true
  simp [List.range,List.range.loop,ofL,hc1]
 (refine fcall_of mixed Tryz.func106 rfl (by decide) (hs:={}) ?k (ac:=?ac) ?c (rs:=?rs) ?r ?l ?H;(case k=>kernel_rfl);(case c=>(conv=>(lhs;cbv)));(case r=>(conv=>(lhs;cbv)));(case l=>exact Nat.le_of_ble_eq_true rfl))
 (repeat' ((try conv=>whnf);first|(with_reducible first|refine wT ?_|refine wF ?_|(refine wI (fun hq=>?_) (fun hq=>?_) <;> try simp only [zA,zE,zD,zJ,zB,zI,wK,wL] at hq)|refine wA ?_|refine wB ?_|refine wC ?_|refine wD ?_|refine wE ?_)|((with_reducible refine wN ?_ ?_);focus exact needA)|(with_reducible refine wG ?_)|(with_reducible refine wP ?_)))
 all_goals (try conv=>whnf)
 refine FLoop.of (ACalls.mono _) (X:=Nat) (fun k=>[(0,aEnts f l),(1,(.fn F 1 (ofL [.ip mc1 dc1 0]))),(7,AI l.length),(8,AI k)]) (fun _=>[]) (fun k=>k ≤ l.length ∧ idxP l.length (fun k=>q (l.getD k en0)) l.length 0 = idxP l.length (fun k=>q (l.getD k en0)) (l.length - k) k) (fun k=>l.length - k) 0 ⟨⟨Nat.zero_le _,rfl⟩,[],Cut.nil _,Ln.sameB _ rfl,Ln.sameB _ hfn,Ln.A,Ln.A,True.intro⟩ ?_
 rintro k ⟨hk,hL⟩
 by_cases hlt:k < l.length
 ·obtain ⟨m,hm⟩:∃ m,l.length - k = m + 1:=⟨l.length - k - 1,by omega⟩
  rw [hm,idxP] at hL
  have hGk:=hG k hlt
  (repeat' ((try conv=>whnf);first|(with_reducible first|refine wT ?_|refine wF ?_|(refine wI (fun hq=>?_) (fun hq=>?_) <;> try simp only [zA,zE,zD,zJ,zB,zI,wK,wL] at hq)|refine wA ?_|refine wB ?_|refine wC ?_|refine wD ?_|refine wE ?_)|((with_reducible refine wN ?_ ?_);focus exact needA)|(with_reducible refine wG ?_)|(refine FCall.pure hGk ⟨Ln.sameB _ rfl,Ln.sameB _ hc1,True.intro⟩ rfl ?_)|(with_reducible refine wP ?_)))
  all_goals (try conv=>whnf)
  ·(refine ⟨⟨_,[],[],Cut.nil _,Ln.sameB _ rfl,?_,rfl⟩⟩)
   rw [hL,if_pos hq]
  ·exact ⟨⟨k + 1,⟨hlt,by rw [hL,if_neg (by rw [hq];decide),show l.length - (k + 1) = m by omega]⟩,by show _ < _;omega,[],Cut.nil _,Ln.sameB _ rfl,Ln.sameB _ hfn,Ln.A,Ln.A,True.intro⟩⟩
 ·rw [show l.length - k = 0 by omega,idxP] at hL
  (repeat' ((try conv=>whnf);first|(with_reducible first|refine wT ?_|refine wF ?_|(refine wI (fun hq=>?_) (fun hq=>?_) <;> try simp only [zA,zE,zD,zJ,zB,zI,wK,wL] at hq)|refine wA ?_|refine wB ?_|refine wC ?_|refine wD ?_|refine wE ?_)|((with_reducible refine wN ?_ ?_);focus exact needA)|(with_reducible refine wG ?_)|(with_reducible refine wP ?_)))
  all_goals (try conv=>whnf)
  (refine ⟨⟨_,[],[],Cut.nil _,Ln.sameB _ rfl,?_,rfl⟩⟩)
  rw [hL]
theorem cont_ent (F:FuncId) (mc1:Nat) (dc1:Nat → AV) (hc1:(AV.ip mc1 dc1 0).pureB = true) (f:EnF) (l:List Ent) (q:Ent → Bool) (hl:l.length ≤ 1000) (hG:∀ k,k < l.length → ACall Tryz.prog F [aEnt (f.fz k) (f.fe k) (l.getD k en0),.ip mc1 dc1 0] [] (fun r h=>r = .bool (q (l.getD k en0)) ∧ h = [])):ACall Tryz.prog 88 [aEnts f l,(.fn F 1 (ofL [.ip mc1 dc1 0]))] [] (fun r h=>r = .bool (l.any q) ∧ h = []):=by
 have hfn:(AV.fn F 1 (ofL [.ip mc1 dc1 0])).pureB = true:=by
  show (List.all _ _) = true
  simp [List.range,List.range.loop,ofL,hc1]
 have hI:=idx_ent F mc1 dc1 hc1 f l q hl hG
 (refine fcall_of mixed Tryz.func88 rfl (by decide) (hs:={}) ?k (ac:=?ac) ?c (rs:=?rs) ?r ?l ?H;(case k=>kernel_rfl);(case c=>(conv=>(lhs;cbv)));(case r=>(conv=>(lhs;cbv)));(case l=>exact Nat.le_of_ble_eq_true rfl))
 (repeat' ((try conv=>whnf);first|(with_reducible first|refine wT ?_|refine wF ?_|(refine wI (fun hq=>?_) (fun hq=>?_) <;> try simp only [zA,zE,zD,zJ,zB,zI,wK,wL] at hq)|refine wA ?_|refine wB ?_|refine wC ?_|refine wD ?_|refine wE ?_)|((with_reducible refine wN ?_ ?_);focus exact needA)|(with_reducible refine wG ?_)|(refine FCall.pure hI ⟨Ln.sameB _ rfl,Ln.sameB _ hfn,True.intro⟩ rfl ?_)|(with_reducible refine wP ?_)))
 all_goals (try conv=>whnf)
 all_goals (refine ⟨⟨_,[],[],Cut.nil _,Ln.sameB _ rfl,?_,rfl⟩⟩)
 all_goals rw [← any_idx en0]
theorem idx_sp (F:FuncId) (mc1:Nat) (dc1:Nat → AV) (hc1:(AV.ip mc1 dc1 0).pureB = true) (z e:Bool) (l:List (Int × Int)) (q:(Int × Int) → Bool) (hl:l.length ≤ 1000) (hG:∀ k,k < l.length → ACall Tryz.prog F [aSp (l.getD k (0,0)),.ip mc1 dc1 0] [] (fun r h=>r = .bool (q (l.getD k (0,0))) ∧ h = [])):ACall Tryz.prog 108 [aSps z e l,(.fn F 1 (ofL [.ip mc1 dc1 0]))] [] (fun r h=>r = AI (idxP l.length (fun k=>q (l.getD k (0,0))) l.length 0) ∧ h = []):=by
 have hfn:(AV.fn F 1 (ofL [.ip mc1 dc1 0])).pureB = true:=by
  show (List.all _ _) = true
  simp [List.range,List.range.loop,ofL,hc1]
 (refine fcall_of mixed Tryz.func108 rfl (by decide) (hs:={}) ?k (ac:=?ac) ?c (rs:=?rs) ?r ?l ?H;(case k=>kernel_rfl);(case c=>(conv=>(lhs;cbv)));(case r=>(conv=>(lhs;cbv)));(case l=>exact Nat.le_of_ble_eq_true rfl))
 (repeat' ((try conv=>whnf);first|(with_reducible first|refine wT ?_|refine wF ?_|(refine wI (fun hq=>?_) (fun hq=>?_) <;> try simp only [zA,zE,zD,zJ,zB,zI,wK,wL] at hq)|refine wA ?_|refine wB ?_|refine wC ?_|refine wD ?_|refine wE ?_)|((with_reducible refine wN ?_ ?_);focus exact needA)|(with_reducible refine wG ?_)|(with_reducible refine wP ?_)))
 all_goals (try conv=>whnf)
 refine FLoop.of (ACalls.mono _) (X:=Nat) (fun k=>[(0,aSps z e l),(1,(.fn F 1 (ofL [.ip mc1 dc1 0]))),(7,AI l.length),(8,AI k)]) (fun _=>[]) (fun k=>k ≤ l.length ∧ idxP l.length (fun k=>q (l.getD k (0,0))) l.length 0 = idxP l.length (fun k=>q (l.getD k (0,0))) (l.length - k) k) (fun k=>l.length - k) 0 ⟨⟨Nat.zero_le _,rfl⟩,[],Cut.nil _,Ln.sameB _ rfl,Ln.sameB _ hfn,Ln.A,Ln.A,True.intro⟩ ?_
 rintro k ⟨hk,hL⟩
 by_cases hlt:k < l.length
 ·obtain ⟨m,hm⟩:∃ m,l.length - k = m + 1:=⟨l.length - k - 1,by omega⟩
  rw [hm,idxP] at hL
  have hGk:=hG k hlt
  (repeat' ((try conv=>whnf);first|(with_reducible first|refine wT ?_|refine wF ?_|(refine wI (fun hq=>?_) (fun hq=>?_) <;> try simp only [zA,zE,zD,zJ,zB,zI,wK,wL] at hq)|refine wA ?_|refine wB ?_|refine wC ?_|refine wD ?_|refine wE ?_)|((with_reducible refine wN ?_ ?_);focus exact needA)|(with_reducible refine wG ?_)|(refine FCall.pure hGk ⟨Ln.sameB _ rfl,Ln.sameB _ hc1,True.intro⟩ rfl ?_)|(with_reducible refine wP ?_)))
  all_goals (try conv=>whnf)
  ·(refine ⟨⟨_,[],[],Cut.nil _,Ln.sameB _ rfl,?_,rfl⟩⟩)
   rw [hL,if_pos hq]
  ·exact ⟨⟨k + 1,⟨hlt,by rw [hL,if_neg (by rw [hq];decide),show l.length - (k + 1) = m by omega]⟩,by show _ < _;omega,[],Cut.nil _,Ln.sameB _ rfl,Ln.sameB _ hfn,Ln.A,Ln.A,True.intro⟩⟩
 ·rw [show l.length - k = 0 by omega,idxP] at hL
  (repeat' ((try conv=>whnf);first|(with_reducible first|refine wT ?_|refine wF ?_|(refine wI (fun hq=>?_) (fun hq=>?_) <;> try simp only [zA,zE,zD,zJ,zB,zI,wK,wL] at hq)|refine wA ?_|refine wB ?_|refine wC ?_|refine wD ?_|refine wE ?_)|((with_reducible refine wN ?_ ?_);focus exact needA)|(with_reducible refine wG ?_)|(with_reducible refine wP ?_)))
  all_goals (try conv=>whnf)
  (refine ⟨⟨_,[],[],Cut.nil _,Ln.sameB _ rfl,?_,rfl⟩⟩)
  rw [hL]
theorem cont_sp (F:FuncId) (mc1:Nat) (dc1:Nat → AV) (hc1:(AV.ip mc1 dc1 0).pureB = true) (z e:Bool) (l:List (Int × Int)) (q:(Int × Int) → Bool) (hl:l.length ≤ 1000) (hG:∀ k,k < l.length → ACall Tryz.prog F [aSp (l.getD k (0,0)),.ip mc1 dc1 0] [] (fun r h=>r = .bool (q (l.getD k (0,0))) ∧ h = [])):ACall Tryz.prog 92 [aSps z e l,(.fn F 1 (ofL [.ip mc1 dc1 0]))] [] (fun r h=>r = .bool (l.any q) ∧ h = []):=by
 have hfn:(AV.fn F 1 (ofL [.ip mc1 dc1 0])).pureB = true:=by
  show (List.all _ _) = true
  simp [List.range,List.range.loop,ofL,hc1]
 have hI:=idx_sp F mc1 dc1 hc1 z e l q hl hG
 (refine fcall_of mixed Tryz.func92 rfl (by decide) (hs:={}) ?k (ac:=?ac) ?c (rs:=?rs) ?r ?l ?H;(case k=>kernel_rfl);(case c=>(conv=>(lhs;cbv)));(case r=>(conv=>(lhs;cbv)));(case l=>exact Nat.le_of_ble_eq_true rfl))
 (repeat' ((try conv=>whnf);first|(with_reducible first|refine wT ?_|refine wF ?_|(refine wI (fun hq=>?_) (fun hq=>?_) <;> try simp only [zA,zE,zD,zJ,zB,zI,wK,wL] at hq)|refine wA ?_|refine wB ?_|refine wC ?_|refine wD ?_|refine wE ?_)|((with_reducible refine wN ?_ ?_);focus exact needA)|(with_reducible refine wG ?_)|(refine FCall.pure hI ⟨Ln.sameB _ rfl,Ln.sameB _ hfn,True.intro⟩ rfl ?_)|(with_reducible refine wP ?_)))
 all_goals (try conv=>whnf)
 all_goals (refine ⟨⟨_,[],[],Cut.nil _,Ln.sameB _ rfl,?_,rfl⟩⟩)
 all_goals rw [← any_idx (0,0)]
theorem idx_gl (F:FuncId) (mc1:Nat) (dc1:Nat → AV) (hc1:(AV.ip mc1 dc1 0).pureB = true) (z e:Bool) (l:List Gl) (q:Gl → Bool) (hl:l.length ≤ 1000) (hG:∀ k,k < l.length → ACall Tryz.prog F [aGl (l.getD k gl0),.ip mc1 dc1 0] [] (fun r h=>r = .bool (q (l.getD k gl0)) ∧ h = [])):ACall Tryz.prog 83 [aGls z e l,(.fn F 1 (ofL [.ip mc1 dc1 0]))] [] (fun r h=>r = AI (idxP l.length (fun k=>q (l.getD k gl0)) l.length 0) ∧ h = []):=by
 have hfn:(AV.fn F 1 (ofL [.ip mc1 dc1 0])).pureB = true:=by
  show (List.all _ _) = true
  simp [List.range,List.range.loop,ofL,hc1]
 (refine fcall_of mixed Tryz.func83 rfl (by decide) (hs:={}) ?k (ac:=?ac) ?c (rs:=?rs) ?r ?l ?H;(case k=>kernel_rfl);(case c=>(conv=>(lhs;cbv)));(case r=>(conv=>(lhs;cbv)));(case l=>exact Nat.le_of_ble_eq_true rfl))
 (repeat' ((try conv=>whnf);first|(with_reducible first|refine wT ?_|refine wF ?_|(refine wI (fun hq=>?_) (fun hq=>?_) <;> try simp only [zA,zE,zD,zJ,zB,zI,wK,wL] at hq)|refine wA ?_|refine wB ?_|refine wC ?_|refine wD ?_|refine wE ?_)|((with_reducible refine wN ?_ ?_);focus exact needA)|(with_reducible refine wG ?_)|(with_reducible refine wP ?_)))
 all_goals (try conv=>whnf)
 refine FLoop.of (ACalls.mono _) (X:=Nat) (fun k=>[(0,aGls z e l),(1,(.fn F 1 (ofL [.ip mc1 dc1 0]))),(7,AI l.length),(8,AI k)]) (fun _=>[]) (fun k=>k ≤ l.length ∧ idxP l.length (fun k=>q (l.getD k gl0)) l.length 0 = idxP l.length (fun k=>q (l.getD k gl0)) (l.length - k) k) (fun k=>l.length - k) 0 ⟨⟨Nat.zero_le _,rfl⟩,[],Cut.nil _,Ln.sameB _ rfl,Ln.sameB _ hfn,Ln.A,Ln.A,True.intro⟩ ?_
 rintro k ⟨hk,hL⟩
 by_cases hlt:k < l.length
 ·obtain ⟨m,hm⟩:∃ m,l.length - k = m + 1:=⟨l.length - k - 1,by omega⟩
  rw [hm,idxP] at hL
  have hGk:=hG k hlt
  (repeat' ((try conv=>whnf);first|(with_reducible first|refine wT ?_|refine wF ?_|(refine wI (fun hq=>?_) (fun hq=>?_) <;> try simp only [zA,zE,zD,zJ,zB,zI,wK,wL] at hq)|refine wA ?_|refine wB ?_|refine wC ?_|refine wD ?_|refine wE ?_)|((with_reducible refine wN ?_ ?_);focus exact needA)|(with_reducible refine wG ?_)|(refine FCall.pure hGk ⟨Ln.sameB _ rfl,Ln.sameB _ hc1,True.intro⟩ rfl ?_)|(with_reducible refine wP ?_)))
  all_goals (try conv=>whnf)
  ·(refine ⟨⟨_,[],[],Cut.nil _,Ln.sameB _ rfl,?_,rfl⟩⟩)
   rw [hL,if_pos hq]
  ·exact ⟨⟨k + 1,⟨hlt,by rw [hL,if_neg (by rw [hq];decide),show l.length - (k + 1) = m by omega]⟩,by show _ < _;omega,[],Cut.nil _,Ln.sameB _ rfl,Ln.sameB _ hfn,Ln.A,Ln.A,True.intro⟩⟩
 ·rw [show l.length - k = 0 by omega,idxP] at hL
  (repeat' ((try conv=>whnf);first|(with_reducible first|refine wT ?_|refine wF ?_|(refine wI (fun hq=>?_) (fun hq=>?_) <;> try simp only [zA,zE,zD,zJ,zB,zI,wK,wL] at hq)|refine wA ?_|refine wB ?_|refine wC ?_|refine wD ?_|refine wE ?_)|((with_reducible refine wN ?_ ?_);focus exact needA)|(with_reducible refine wG ?_)|(with_reducible refine wP ?_)))
  all_goals (try conv=>whnf)
  (refine ⟨⟨_,[],[],Cut.nil _,Ln.sameB _ rfl,?_,rfl⟩⟩)
  rw [hL]
theorem cont_gl (F:FuncId) (mc1:Nat) (dc1:Nat → AV) (hc1:(AV.ip mc1 dc1 0).pureB = true) (z e:Bool) (l:List Gl) (q:Gl → Bool) (hl:l.length ≤ 1000) (hG:∀ k,k < l.length → ACall Tryz.prog F [aGl (l.getD k gl0),.ip mc1 dc1 0] [] (fun r h=>r = .bool (q (l.getD k gl0)) ∧ h = [])):ACall Tryz.prog 51 [aGls z e l,(.fn F 1 (ofL [.ip mc1 dc1 0]))] [] (fun r h=>r = .bool (l.any q) ∧ h = []):=by
 have hfn:(AV.fn F 1 (ofL [.ip mc1 dc1 0])).pureB = true:=by
  show (List.all _ _) = true
  simp [List.range,List.range.loop,ofL,hc1]
 have hI:=idx_gl F mc1 dc1 hc1 z e l q hl hG
 (refine fcall_of mixed Tryz.func51 rfl (by decide) (hs:={}) ?k (ac:=?ac) ?c (rs:=?rs) ?r ?l ?H;(case k=>kernel_rfl);(case c=>(conv=>(lhs;cbv)));(case r=>(conv=>(lhs;cbv)));(case l=>exact Nat.le_of_ble_eq_true rfl))
 (repeat' ((try conv=>whnf);first|(with_reducible first|refine wT ?_|refine wF ?_|(refine wI (fun hq=>?_) (fun hq=>?_) <;> try simp only [zA,zE,zD,zJ,zB,zI,wK,wL] at hq)|refine wA ?_|refine wB ?_|refine wC ?_|refine wD ?_|refine wE ?_)|((with_reducible refine wN ?_ ?_);focus exact needA)|(with_reducible refine wG ?_)|(refine FCall.pure hI ⟨Ln.sameB _ rfl,Ln.sameB _ hfn,True.intro⟩ rfl ?_)|(with_reducible refine wP ?_)))
 all_goals (try conv=>whnf)
 all_goals (refine ⟨⟨_,[],[],Cut.nil _,Ln.sameB _ rfl,?_,rfl⟩⟩)
 all_goals rw [← any_idx gl0]
theorem idx_gl2 (F:FuncId) (mc1:Nat) (dc1:Nat → AV) (mc2:Nat) (dc2:Nat → AV) (hc1:(AV.ip mc1 dc1 0).pureB = true) (hc2:(AV.ip mc2 dc2 0).pureB = true) (z e:Bool) (l:List Gl) (q:Gl → Bool) (hl:l.length ≤ 1000) (hG:∀ k,k < l.length → ACall Tryz.prog F [aGl (l.getD k gl0),.ip mc1 dc1 0,.ip mc2 dc2 0] [] (fun r h=>r = .bool (q (l.getD k gl0)) ∧ h = [])):ACall Tryz.prog 83 [aGls z e l,(.fn F 2 (ofL [.ip mc1 dc1 0,.ip mc2 dc2 0]))] [] (fun r h=>r = AI (idxP l.length (fun k=>q (l.getD k gl0)) l.length 0) ∧ h = []):=by
 have hfn:(AV.fn F 2 (ofL [.ip mc1 dc1 0,.ip mc2 dc2 0])).pureB = true:=by
  show (List.all _ _) = true
  simp [List.range,List.range.loop,ofL,hc1,hc2]
 (refine fcall_of mixed Tryz.func83 rfl (by decide) (hs:={}) ?k (ac:=?ac) ?c (rs:=?rs) ?r ?l ?H;(case k=>kernel_rfl);(case c=>(conv=>(lhs;cbv)));(case r=>(conv=>(lhs;cbv)));(case l=>exact Nat.le_of_ble_eq_true rfl))
 (repeat' ((try conv=>whnf);first|(with_reducible first|refine wT ?_|refine wF ?_|(refine wI (fun hq=>?_) (fun hq=>?_) <;> try simp only [zA,zE,zD,zJ,zB,zI,wK,wL] at hq)|refine wA ?_|refine wB ?_|refine wC ?_|refine wD ?_|refine wE ?_)|((with_reducible refine wN ?_ ?_);focus exact needA)|(with_reducible refine wG ?_)|(with_reducible refine wP ?_)))
 all_goals (try conv=>whnf)
 refine FLoop.of (ACalls.mono _) (X:=Nat) (fun k=>[(0,aGls z e l),(1,(.fn F 2 (ofL [.ip mc1 dc1 0,.ip mc2 dc2 0]))),(7,AI l.length),(8,AI k)]) (fun _=>[]) (fun k=>k ≤ l.length ∧ idxP l.length (fun k=>q (l.getD k gl0)) l.length 0 = idxP l.length (fun k=>q (l.getD k gl0)) (l.length - k) k) (fun k=>l.length - k) 0 ⟨⟨Nat.zero_le _,rfl⟩,[],Cut.nil _,Ln.sameB _ rfl,Ln.sameB _ hfn,Ln.A,Ln.A,True.intro⟩ ?_
 rintro k ⟨hk,hL⟩
 by_cases hlt:k < l.length
 ·obtain ⟨m,hm⟩:∃ m,l.length - k = m + 1:=⟨l.length - k - 1,by omega⟩
  rw [hm,idxP] at hL
  have hGk:=hG k hlt
  (repeat' ((try conv=>whnf);first|(with_reducible first|refine wT ?_|refine wF ?_|(refine wI (fun hq=>?_) (fun hq=>?_) <;> try simp only [zA,zE,zD,zJ,zB,zI,wK,wL] at hq)|refine wA ?_|refine wB ?_|refine wC ?_|refine wD ?_|refine wE ?_)|((with_reducible refine wN ?_ ?_);focus exact needA)|(with_reducible refine wG ?_)|(refine FCall.pure hGk ⟨Ln.sameB _ rfl,Ln.sameB _ hc1,Ln.sameB _ hc2,True.intro⟩ rfl ?_)|(with_reducible refine wP ?_)))
  all_goals (try conv=>whnf)
  ·(refine ⟨⟨_,[],[],Cut.nil _,Ln.sameB _ rfl,?_,rfl⟩⟩)
   rw [hL,if_pos hq]
  ·exact ⟨⟨k + 1,⟨hlt,by rw [hL,if_neg (by rw [hq];decide),show l.length - (k + 1) = m by omega]⟩,by show _ < _;omega,[],Cut.nil _,Ln.sameB _ rfl,Ln.sameB _ hfn,Ln.A,Ln.A,True.intro⟩⟩
 ·rw [show l.length - k = 0 by omega,idxP] at hL
  (repeat' ((try conv=>whnf);first|(with_reducible first|refine wT ?_|refine wF ?_|(refine wI (fun hq=>?_) (fun hq=>?_) <;> try simp only [zA,zE,zD,zJ,zB,zI,wK,wL] at hq)|refine wA ?_|refine wB ?_|refine wC ?_|refine wD ?_|refine wE ?_)|((with_reducible refine wN ?_ ?_);focus exact needA)|(with_reducible refine wG ?_)|(with_reducible refine wP ?_)))
  all_goals (try conv=>whnf)
  (refine ⟨⟨_,[],[],Cut.nil _,Ln.sameB _ rfl,?_,rfl⟩⟩)
  rw [hL]
end Go.Proofs.YtodpjdmdmmnlpaaGreat

namespace Go.Proofs.YtodpjdmdmmnlpaaGreat
open Go.RowKit

/-- A form in new memory, as Mirror gives it. -/
abbrev aFormN (f:Form):AV:=aForm (decide (f.mv.length = 0)) (decide (f.mv.length = 0)) f
theorem mir_len (f:Form):(mirF f).mv.length = f.mv.length:=by simp [mirF]
theorem mir_get {f:Form} {k:Nat} (h:k < f.mv.length):(mirF f).mv.getD k 0 = mirD (f.mv.getD k 0):=getD_map0 h
def sgnI (n:Int):Int:=if n < 0 then -1 else min n 1
theorem sgn_cmp (x y:Int):sgnI (x - y) = cmpI x y:=by
 unfold sgnI cmpI
 by_cases h:x < y
 ·rw [if_pos (by omega),if_pos h]
 ·rw [if_neg (by omega),if_neg h]
  by_cases h2:y < x
  ·rw [if_pos h2];omega
  ·rw [if_neg h2];omega
def fld (f:Form):Nat → Int
 | 0=>f.w
 | 1=>f.c
 | 2=>f.r
 | 3=>f.l
 | _=>f.f
def cmpK (a b:Form):Nat → Nat → Int
 | 0,_=>cmpL a.mv b.mv
 | n + 1,k=>if fld a k = fld b k then cmpK a b n (k + 1) else cmpI (fld a k) (fld b k)
theorem orI_cmp (x y z:Int):orI (cmpI x y) z = if x = y then z else cmpI x y:=by
 unfold orI
 by_cases h:x = y
 ·rw [if_pos (cmpI_zero.2 h),if_pos h]
 ·rw [if_neg (fun e=>h (cmpI_zero.1 e)),if_neg h]
theorem cmpK_eq (a b:Form):cmpF a b = cmpK a b 5 0:=by
 unfold cmpF
 simp only [orI_cmp]
 rfl
theorem cmpL_step {a b:List Int} {i:Nat} (h1:i < a.length) (h2:i < b.length):cmpL (a.drop i) (b.drop i) = if a.getD i 0 = b.getD i 0 then cmpL (a.drop (i + 1)) (b.drop (i + 1)) else cmpI (a.getD i 0) (b.getD i 0):=by
 rw [drop_eq 0 h1,drop_eq 0 h2];rfl
theorem cmpL_end {a b:List Int} {i:Nat} (h1:i ≤ a.length) (h2:i ≤ b.length) (h:¬ (i < a.length ∧ i < b.length)):cmpL (a.drop i) (b.drop i) = cmpI a.length b.length:=by
 by_cases ha:i < a.length
 ·have hb:b.length ≤ i:=by omega
  rw [List.drop_eq_nil_of_le hb,drop_eq 0 ha]
  show (1:Int) = _
  unfold cmpI;rw [if_neg (by omega),if_pos (by omega)]
 ·by_cases hb:i < b.length
  ·rw [List.drop_eq_nil_of_le (show a.length ≤ i by omega),drop_eq 0 hb]
   show (-1:Int) = _
   unfold cmpI;rw [if_pos (by omega)]
  ·rw [List.drop_eq_nil_of_le (show a.length ≤ i by omega),List.drop_eq_nil_of_le (show b.length ≤ i by omega)]
   show (0:Int) = _
   unfold cmpI;rw [if_neg (by omega),if_neg (by omega)]
set_option maxHeartbeats 8000000
set_option maxRecDepth 100000
theorem sign_ok (n:Int):ACall Tryz.prog 85 [AI n] [] (fun r h=>r = AI (sgnI n) ∧ h = []):=by
 unfold sgnI
 (refine fcall_of mixed Tryz.func85 rfl (by decide) (hs:={}) ?k (ac:=?ac) ?c (rs:=?rs) ?r ?l ?H;(case k=>kernel_rfl);(case c=>(conv=>(lhs;cbv)));(case r=>(conv=>(lhs;cbv)));(case l=>exact Nat.le_of_ble_eq_true rfl))
 by_cases h:n < 0
 ·rw [if_pos h]
  (repeat' ((try conv=>whnf);first|(with_reducible first|refine wT ?_|refine wF ?_|(refine wI (fun hq=>?_) (fun hq=>?_) <;> try simp only [zA,zE,zD,zJ,zB,zI,wK,wL] at hq)|refine wA ?_|refine wB ?_|refine wC ?_|refine wD ?_|refine wE ?_)|((with_reducible refine wN ?_ ?_);focus exact needA)|(with_reducible refine wG ?_)|(with_reducible refine wP ?_)))
  all_goals (try conv=>whnf)
  (refine ⟨⟨_,[],[],Cut.nil _,Ln.sameB _ rfl,?_,rfl⟩⟩)
  rfl
 ·rw [if_neg h]
  (repeat' ((try conv=>whnf);first|(with_reducible first|refine wT ?_|refine wF ?_|(refine wI (fun hq=>?_) (fun hq=>?_) <;> try simp only [zA,zE,zD,zJ,zB,zI,wK,wL] at hq)|refine wA ?_|refine wB ?_|refine wC ?_|refine wD ?_|refine wE ?_)|((with_reducible refine wN ?_ ?_);focus exact needA)|(with_reducible refine wG ?_)|(with_reducible refine wP ?_)))
  all_goals (try conv=>whnf)
  all_goals ((refine ⟨⟨_,[],[],Cut.nil _,Ln.sameB _ rfl,?_,rfl⟩⟩);first|rfl|exact int_eq (by omega))
theorem mirror_ok (z e:Bool) (f:Form) (hc:-1000 ≤ f.c ∧ f.c ≤ 1000) (hn:f.mv.length ≤ 1000) (hm:∀ k,k < f.mv.length → 0 ≤ f.mv.getD k 0 ∧ f.mv.getD k 0 ≤ 7):ACall Tryz.prog 21 [aForm z e f] [] (fun r h=>r = aFormN (mirF f) ∧ h = []):=by
 (refine fcall_of mixed Tryz.func21 rfl (by decide) (hs:={}) ?k (ac:=?ac) ?c (rs:=?rs) ?r ?l ?H;(case k=>kernel_rfl);(case c=>(conv=>(lhs;cbv)));(case r=>(conv=>(lhs;cbv)));(case l=>exact Nat.le_of_ble_eq_true rfl))
 (repeat' ((try conv=>whnf);first|(with_reducible first|refine wT ?_|refine wF ?_|(refine wI (fun hq=>?_) (fun hq=>?_) <;> try simp only [zA,zE,zD,zJ,zB,zI,wK,wL] at hq)|refine wA ?_|refine wB ?_|refine wC ?_|refine wD ?_|refine wE ?_)|((with_reducible refine wN ?_ ?_);focus exact needA)|(with_reducible refine wG ?_)|(with_reducible refine wP ?_)))
 all_goals (try conv=>whnf)
 refine FLoop.of (ACalls.mono _) (X:=Nat) (fun i=>[(1,.ptr 0 0),(2,.ptr 1 0),(3,.ptr 2 0),(4,AI i)]) (fun i=>match i with
  | 0=>[.box 6 (cForm z e f),.box 6 (ofL [AI 0,AI 0,AI 0,AI 0,AI 0,nilS]),.box 6 (ofL [AI f.l,AI f.r,AI (0 - f.c),AI f.w,AI f.f,nilS])]
  | k + 1=>[.box 6 (cForm z e f),.box 6 (ofL [AI 0,AI 0,AI 0,AI 0,AI 0,nilS]),.box 6 (ofL [AI f.l,AI f.r,AI (0 - f.c),AI f.w,AI f.f,.own 3 (k + 1)]),.row (k + 1) 1 (fun j _=>AI (mirD (f.mv.getD j 0)))]) (fun i=>i ≤ f.mv.length) (fun i=>f.mv.length - i) 0 ⟨Nat.zero_le _,[0,1,2],Cut.A,allA⟩ ?_
 intro i hi
 by_cases hlt:i < f.mv.length
 ·have hmi:=hm i hlt
  rcases i with _|i
  ·(repeat' ((try conv=>whnf);first|(with_reducible first|refine wT ?_|refine wF ?_|(refine wI (fun hq=>?_) (fun hq=>?_) <;> try simp only [zA,zE,zD,zJ,zB,zI,wK,wL] at hq)|refine wA ?_|refine wB ?_|refine wC ?_|refine wD ?_|refine wE ?_)|((with_reducible refine wN ?_ ?_);focus exact needA)|(with_reducible refine wG ?_)|(with_reducible refine wP ?_)))
   all_goals (try conv=>whnf)
   (exact ⟨⟨(0 + 1),hlt,by show _ < _;omega,[0,1,2,3],(by (refine wO rfl rfl rfl ?_;repeat (first|exact wX|(refine wV rfl (by first|exact LnB.rowS|exact LnB.app (fun k hk=>absurd hk (Nat.not_lt_zero k)) (fun o ho=>rfl)|exact LnB.A) ?_)|(refine CutL.gone (Nat.lt_of_lt_of_le (Nat.lt_succ_self _) (Nat.le_of_ble_eq_true rfl)) ?_)))),allA⟩⟩)
  ·(repeat' ((try conv=>whnf);first|(with_reducible first|refine wT ?_|refine wF ?_|(refine wI (fun hq=>?_) (fun hq=>?_) <;> try simp only [zA,zE,zD,zJ,zB,zI,wK,wL] at hq)|refine wA ?_|refine wB ?_|refine wC ?_|refine wD ?_|refine wE ?_)|((with_reducible refine wN ?_ ?_);focus exact needA)|(with_reducible refine wG ?_)|(with_reducible refine wP ?_)))
   all_goals (try conv=>whnf)
   (exact ⟨⟨(i + 1 + 1),hlt,by show _ < _;omega,[0,1,2,4],(by (refine wO rfl rfl rfl ?_;repeat (first|exact wX|(refine wV rfl (by first|exact LnB.rowS|exact LnB.app (fun _ _ _ _=>rfl) (fun o ho=>rfl)|exact LnB.A) ?_)|(refine CutL.gone (Nat.lt_of_lt_of_le (Nat.lt_succ_self _) (Nat.le_of_ble_eq_true rfl)) ?_)))),allA⟩⟩)
 ·obtain rfl:i = f.mv.length:=by omega
  have hl:=mir_len f
  obtain hn0|⟨n,hn1⟩:f.mv.length = 0 ∨ ∃ n,f.mv.length = n + 1:=by
   cases h:f.mv.length with
   | zero=>exact .inl rfl
   | succ n=>exact .inr ⟨n,rfl⟩
  ·rw [hn0]
   (repeat' ((try conv=>whnf);first|(with_reducible first|refine wT ?_|refine wF ?_|(refine wI (fun hq=>?_) (fun hq=>?_) <;> try simp only [zA,zE,zD,zJ,zB,zI,wK,wL] at hq)|refine wA ?_|refine wB ?_|refine wC ?_|refine wD ?_|refine wE ?_)|((with_reducible refine wN ?_ ?_);focus exact needA)|(with_reducible refine wG ?_)|(with_reducible refine wP ?_)))
   all_goals (try conv=>whnf)
   exact ⟨⟨aFormN (mirF f),[],[],Cut.nil _,Ln.aggN ⟨⟨⟨⟨⟨⟨True.intro,Ln.A⟩,Ln.A⟩,Ln.A⟩,Ln.A⟩,Ln.A⟩,Ln.nilZ (by rw [hl];exact hn0)⟩,rfl,rfl⟩⟩
  ·rw [hn1]
   (repeat' ((try conv=>whnf);first|(with_reducible first|refine wT ?_|refine wF ?_|(refine wI (fun hq=>?_) (fun hq=>?_) <;> try simp only [zA,zE,zD,zJ,zB,zI,wK,wL] at hq)|refine wA ?_|refine wB ?_|refine wC ?_|refine wD ?_|refine wE ?_)|((with_reducible refine wN ?_ ?_);focus exact needA)|(with_reducible refine wG ?_)|(with_reducible refine wP ?_)))
   all_goals (try conv=>whnf)
   exact ⟨⟨aFormN (mirF f),[],[],Cut.nil _,Ln.aggN ⟨⟨⟨⟨⟨⟨True.intro,Ln.A⟩,Ln.A⟩,Ln.A⟩,Ln.A⟩,Ln.A⟩,Ln.pubZ (by rw [hl];omega) (goneB rfl) rfl (Nat.le_refl _) (by rw [hl];exact hn1.symm) (fun k hk o ho=>int_eq (mir_get (by omega)))⟩,rfl,rfl⟩⟩
end Go.Proofs.YtodpjdmdmmnlpaaGreat

namespace Go.Proofs.YtodpjdmdmmnlpaaGreat
open Go.RowKit

theorem all_any {α:Type} (l:List α) (q:α → Bool):(!l.any fun x=>!q x) = l.all q:=by rw [List.all_eq_not_any_not]
set_option maxHeartbeats 8000000
set_option maxRecDepth 100000
theorem ev1_int (F:FuncId) (x:Int) (b:Bool) (hG:ACall Tryz.prog F [AI x] [] (fun r h=>r = .bool b ∧ h = [])):ACall Tryz.prog 95 [AI x,iFn (.fn F 0 (ofL []))] [] (fun r h=>r = .bool (!b) ∧ h = []):=by
 (refine fcall_of mixed Tryz.func95 rfl (by decide) (hs:={}) ?k (ac:=?ac) ?c (rs:=?rs) ?r ?l ?H;(case k=>kernel_rfl);(case c=>(conv=>(lhs;cbv)));(case r=>(conv=>(lhs;cbv)));(case l=>exact Nat.le_of_ble_eq_true rfl))
 (repeat' ((try conv=>whnf);first|(with_reducible first|refine wT ?_|refine wF ?_|(refine wI (fun hq=>?_) (fun hq=>?_) <;> try simp only [zA,zE,zD,zJ,zB,zI,wK,wL] at hq)|refine wA ?_|refine wB ?_|refine wC ?_|refine wD ?_|refine wE ?_)|((with_reducible refine wN ?_ ?_);focus exact needA)|(with_reducible refine wG ?_)|(refine FCall.pure (hG) ⟨Ln.sameB _ rfl,True.intro⟩ rfl ?_)|(with_reducible refine wP ?_)))
 all_goals (try conv=>whnf)
 (refine ⟨⟨_,[],[],Cut.nil _,Ln.sameB _ rfl,?_,rfl⟩⟩)
 rfl
theorem every_int (F:FuncId) (z e:Bool) (l:List Int) (q:Int → Bool) (hl:l.length ≤ 1000) (hG:∀ k,k < l.length → ACall Tryz.prog F [AI (l.getD k 0)] [] (fun r h=>r = .bool (q (l.getD k 0)) ∧ h = [])):ACall Tryz.prog 69 [aInts z e l,.fn F 0 (ofL [])] [] (fun r h=>r = .bool (l.all q) ∧ h = []):=by
 have hC:=cont_int 95 1 (ofL [.fn F 0 (ofL [])]) rfl z e l (fun x=>!q x) hl fun k hk=>ev1_int F _ _ (hG k hk)
 rw [← all_any l q]
 (refine fcall_of mixed Tryz.func69 rfl (by decide) (hs:={}) ?k (ac:=?ac) ?c (rs:=?rs) ?r ?l ?H;(case k=>kernel_rfl);(case c=>(conv=>(lhs;cbv)));(case r=>(conv=>(lhs;cbv)));(case l=>exact Nat.le_of_ble_eq_true rfl))
 (repeat' ((try conv=>whnf);first|(with_reducible first|refine wT ?_|refine wF ?_|(refine wI (fun hq=>?_) (fun hq=>?_) <;> try simp only [zA,zE,zD,zJ,zB,zI,wK,wL] at hq)|refine wA ?_|refine wB ?_|refine wC ?_|refine wD ?_|refine wE ?_)|((with_reducible refine wN ?_ ?_);focus exact needA)|(with_reducible refine wG ?_)|(refine FCall.lend [0] (hC) ⟨Ln.sameB _ rfl,Ln.fnN ⟨True.intro,Ln.box1 (by decide) rfl (Ln.sameB _ rfl) rfl⟩,True.intro⟩ rfl trivial ?_)|(with_reducible refine wP ?_)))
 all_goals (try conv=>whnf)
 (refine ⟨⟨_,[],[],Cut.nil _,Ln.sameB _ rfl,?_,rfl⟩⟩)
 rfl
theorem ev1_ent (F:FuncId) (z e:Bool) (x:Ent) (b:Bool) (hG:ACall Tryz.prog F [aEnt z e x] [] (fun r h=>r = .bool b ∧ h = [])):ACall Tryz.prog 89 [aEnt z e x,iFn (.fn F 0 (ofL []))] [] (fun r h=>r = .bool (!b) ∧ h = []):=by
 (refine fcall_of mixed Tryz.func89 rfl (by decide) (hs:={}) ?k (ac:=?ac) ?c (rs:=?rs) ?r ?l ?H;(case k=>kernel_rfl);(case c=>(conv=>(lhs;cbv)));(case r=>(conv=>(lhs;cbv)));(case l=>exact Nat.le_of_ble_eq_true rfl))
 (repeat' ((try conv=>whnf);first|(with_reducible first|refine wT ?_|refine wF ?_|(refine wI (fun hq=>?_) (fun hq=>?_) <;> try simp only [zA,zE,zD,zJ,zB,zI,wK,wL] at hq)|refine wA ?_|refine wB ?_|refine wC ?_|refine wD ?_|refine wE ?_)|((with_reducible refine wN ?_ ?_);focus exact needA)|(with_reducible refine wG ?_)|(refine FCall.pure (hG) ⟨Ln.sameB _ rfl,True.intro⟩ rfl ?_)|(with_reducible refine wP ?_)))
 all_goals (try conv=>whnf)
 (refine ⟨⟨_,[],[],Cut.nil _,Ln.sameB _ rfl,?_,rfl⟩⟩)
 rfl
theorem every_ent (F:FuncId) (f:EnF) (l:List Ent) (q:Ent → Bool) (hl:l.length ≤ 1000) (hG:∀ k,k < l.length → ACall Tryz.prog F [aEnt (f.fz k) (f.fe k) (l.getD k en0)] [] (fun r h=>r = .bool (q (l.getD k en0)) ∧ h = [])):ACall Tryz.prog 63 [aEnts f l,.fn F 0 (ofL [])] [] (fun r h=>r = .bool (l.all q) ∧ h = []):=by
 have hC:=cont_ent 89 1 (ofL [.fn F 0 (ofL [])]) rfl f l (fun x=>!q x) hl fun k hk=>ev1_ent F _ _ _ _ (hG k hk)
 rw [← all_any l q]
 (refine fcall_of mixed Tryz.func63 rfl (by decide) (hs:={}) ?k (ac:=?ac) ?c (rs:=?rs) ?r ?l ?H;(case k=>kernel_rfl);(case c=>(conv=>(lhs;cbv)));(case r=>(conv=>(lhs;cbv)));(case l=>exact Nat.le_of_ble_eq_true rfl))
 (repeat' ((try conv=>whnf);first|(with_reducible first|refine wT ?_|refine wF ?_|(refine wI (fun hq=>?_) (fun hq=>?_) <;> try simp only [zA,zE,zD,zJ,zB,zI,wK,wL] at hq)|refine wA ?_|refine wB ?_|refine wC ?_|refine wD ?_|refine wE ?_)|((with_reducible refine wN ?_ ?_);focus exact needA)|(with_reducible refine wG ?_)|(refine FCall.lend [0] (hC) ⟨Ln.sameB _ rfl,Ln.fnN ⟨True.intro,Ln.box1 (by decide) rfl (Ln.sameB _ rfl) rfl⟩,True.intro⟩ rfl trivial ?_)|(with_reducible refine wP ?_)))
 all_goals (try conv=>whnf)
 (refine ⟨⟨_,[],[],Cut.nil _,Ln.sameB _ rfl,?_,rfl⟩⟩)
 rfl
theorem pwithin_ok (n lo hi:Int):ACall Tryz.prog 61 [AI n,AI lo,AI hi] [] (fun r h=>r = .bool (inB n lo hi) ∧ h = []):=by
 (refine fcall_of mixed Tryz.func61 rfl (by decide) (hs:={}) ?k (ac:=?ac) ?c (rs:=?rs) ?r ?l ?H;(case k=>kernel_rfl);(case c=>(conv=>(lhs;cbv)));(case r=>(conv=>(lhs;cbv)));(case l=>exact Nat.le_of_ble_eq_true rfl))
 (repeat' ((try conv=>whnf);first|(with_reducible first|refine wT ?_|refine wF ?_|(refine wI (fun hq=>?_) (fun hq=>?_) <;> try simp only [zA,zE,zD,zJ,zB,zI,wK,wL] at hq)|refine wA ?_|refine wB ?_|refine wC ?_|refine wD ?_|refine wE ?_)|((with_reducible refine wN ?_ ?_);focus exact needA)|(with_reducible refine wG ?_)|(with_reducible refine wP ?_)))
 all_goals ((refine ⟨⟨_,[],[],Cut.nil _,Ln.sameB _ rfl,?_,rfl⟩⟩);unfold inB;(exact avB))
theorem move1_ok (n:Int):ACall Tryz.prog 87 [AI n] [] (fun r h=>r = .bool (moveOk n) ∧ h = []):=by
 (refine fcall_of mixed Tryz.func87 rfl (by decide) (hs:={}) ?k (ac:=?ac) ?c (rs:=?rs) ?r ?l ?H;(case k=>kernel_rfl);(case c=>(conv=>(lhs;cbv)));(case r=>(conv=>(lhs;cbv)));(case l=>exact Nat.le_of_ble_eq_true rfl))
 (repeat' ((try conv=>whnf);first|(with_reducible first|refine wT ?_|refine wF ?_|(refine wI (fun hq=>?_) (fun hq=>?_) <;> try simp only [zA,zE,zD,zJ,zB,zI,wK,wL] at hq)|refine wA ?_|refine wB ?_|refine wC ?_|refine wD ?_|refine wE ?_)|((with_reducible refine wN ?_ ?_);focus exact needA)|(with_reducible refine wG ?_)|(refine FCall.pure ((pwithin_ok _ _ _)) ⟨Ln.sameB _ rfl,Ln.sameB _ rfl,Ln.sameB _ rfl,True.intro⟩ rfl ?_)|(with_reducible refine wP ?_)))
 all_goals (try conv=>whnf)
 (refine ⟨⟨_,[],[],Cut.nil _,Ln.sameB _ rfl,?_,rfl⟩⟩)
 rfl
theorem pisForm_ok (z e:Bool) (f:Form) (hn:f.mv.length ≤ 1000):ACall Tryz.prog 62 [aForm z e f] [] (fun r h=>r = .bool (formB f) ∧ h = []):=by
 have cE:=every_int 87 z e f.mv moveOk hn fun k hk=>move1_ok _
 (refine fcall_of mixed Tryz.func62 rfl (by decide) (hs:={}) ?k (ac:=?ac) ?c (rs:=?rs) ?r ?l ?H;(case k=>kernel_rfl);(case c=>(conv=>(lhs;cbv)));(case r=>(conv=>(lhs;cbv)));(case l=>exact Nat.le_of_ble_eq_true rfl))
 by_cases hf:FormOk f
 ·have hA:f.mv.all moveOk = true:=all_of 0 fun k hk=>by have:=hf.mv k hk;simpa [moveOk] using this
  rw [hA] at cE
  rw [form_b hf]
  have:=hf.r;have:=hf.l;have:=hf.m;have:=hf.c;have:=hf.w;have:=hf.fc;have:=hf.n
  (repeat' ((try conv=>whnf);first|(with_reducible first|refine wT ?_|refine wF ?_|(refine wI (fun hq=>?_) (fun hq=>?_) <;> try simp only [zA,zE,zD,zJ,zB,zI,wK,wL] at hq)|refine wA ?_|refine wB ?_|refine wC ?_|refine wD ?_|refine wE ?_)|((with_reducible refine wN ?_ ?_);focus exact needA)|(with_reducible refine wG ?_)|(refine FCall.pure ((pwithin_ok _ _ _)) ⟨Ln.sameB _ rfl,Ln.sameB _ rfl,Ln.sameB _ rfl,True.intro⟩ rfl ?_)|(refine FCall.pure (cE) ⟨Ln.sameB _ rfl,Ln.sameB _ rfl,True.intro⟩ rfl ?_)|(with_reducible refine wP ?_)))
  all_goals (try conv=>whnf)
  all_goals first|(exfalso;omega)|((refine ⟨⟨_,[],[],Cut.nil _,Ln.sameB _ rfl,?_,rfl⟩⟩);rfl)
 ·rw [form_no hf]
  have hA:f.mv.all moveOk = true → (-1 ≤ f.r ∧ f.r ≤ 31) → (-1 ≤ f.l ∧ f.l ≤ 31) → (0 ≤ f.r ∨ 0 ≤ f.l) → (-3 ≤ f.c ∧ f.c ≤ 3) → (0 ≤ f.w ∧ f.w ≤ 5) → (0 ≤ f.f ∧ f.f ≤ 7) → f.mv.length ≤ 6 → False:=fun h1 h2 h3 h4 h5 h6 h7 h8=>hf ⟨h2,h3,h4,h5,h6,h7,h8,fun k hk=>by have:=all_getD 0 h1 hk;simpa [moveOk] using this⟩
  cases hb:f.mv.all moveOk <;> rw [hb] at cE
  ·(repeat' ((try conv=>whnf);first|(with_reducible first|refine wT ?_|refine wF ?_|(refine wI (fun hq=>?_) (fun hq=>?_) <;> try simp only [zA,zE,zD,zJ,zB,zI,wK,wL] at hq)|refine wA ?_|refine wB ?_|refine wC ?_|refine wD ?_|refine wE ?_)|((with_reducible refine wN ?_ ?_);focus exact needA)|(with_reducible refine wG ?_)|(refine FCall.pure ((pwithin_ok _ _ _)) ⟨Ln.sameB _ rfl,Ln.sameB _ rfl,Ln.sameB _ rfl,True.intro⟩ rfl ?_)|(refine FCall.pure (cE) ⟨Ln.sameB _ rfl,Ln.sameB _ rfl,True.intro⟩ rfl ?_)|(with_reducible refine wP ?_)))
   all_goals (try conv=>whnf)
   all_goals ((refine ⟨⟨_,[],[],Cut.nil _,Ln.sameB _ rfl,?_,rfl⟩⟩);rfl)
  ·(repeat' ((try conv=>whnf);first|(with_reducible first|refine wT ?_|refine wF ?_|(refine wI (fun hq=>?_) (fun hq=>?_) <;> try simp only [zA,zE,zD,zJ,zB,zI,wK,wL] at hq)|refine wA ?_|refine wB ?_|refine wC ?_|refine wD ?_|refine wE ?_)|((with_reducible refine wN ?_ ?_);focus exact needA)|(with_reducible refine wG ?_)|(refine FCall.pure ((pwithin_ok _ _ _)) ⟨Ln.sameB _ rfl,Ln.sameB _ rfl,Ln.sameB _ rfl,True.intro⟩ rfl ?_)|(refine FCall.pure (cE) ⟨Ln.sameB _ rfl,Ln.sameB _ rfl,True.intro⟩ rfl ?_)|(with_reducible refine wP ?_)))
   all_goals (try conv=>whnf)
   all_goals (refine ⟨⟨_,[],[],Cut.nil _,Ln.sameB _ rfl,?_,rfl⟩⟩)
   all_goals first|rfl|(exfalso;exact hA hb (by omega) (by omega) (by omega) (by omega) (by omega) (by omega) (by omega))
end Go.Proofs.YtodpjdmdmmnlpaaGreat

namespace Go.Proofs.YtodpjdmdmmnlpaaGreat
open Go.RowKit

def canZ (f:Form):Bool:=decide (cmpF (mirF f) f < 0) && decide (f.mv.length = 0)
abbrev aFormC (f:Form):AV:=aForm (canZ f) (decide (f.mv.length = 0)) (canF f)
theorem fld_all {a b:Form} (h:∀ k,k < 5 → fld a k = fld b k):cmpF a b = cmpL a.mv b.mv:=by
 rw [cmpK_eq]
 simp only [cmpK,h 0 (by omega),h 1 (by omega),h 2 (by omega),h 3 (by omega),h 4 (by omega),if_true]
theorem fld_at {a b:Form}:∀ (n i k:Nat),n + k = 5 → k ≤ i → i < 5 → (∀ j,k ≤ j → j < i → fld a j = fld b j) → fld a i ≠ fld b i → cmpK a b n k = cmpI (fld a i) (fld b i)
 | 0,i,k,h1,h2,h3,_,_=>by omega
 | n + 1,i,k,h1,h2,h3,h4,h5=>by
  simp only [cmpK]
  by_cases e:k = i
  ·subst e;rw [if_neg h5]
  ·rw [if_pos (h4 k (Nat.le_refl _) (by omega))]
   exact fld_at n i (k + 1) (by omega) (by omega) h3 (fun j hj hj2=>h4 j (by omega) hj2) h5
theorem fld_no {a b:Form} {i:Nat} (hi:i < 5) (h:∀ j,j < i → fld a j = fld b j) (h2:fld a i ≠ fld b i):cmpF a b = cmpI (fld a i) (fld b i):=by
 rw [cmpK_eq];exact fld_at 5 i 0 rfl (Nat.zero_le _) hi (fun j _ hj=>h j hj) h2
abbrev aFld (f:Form):AV:=.sl false true 5 1 (fun k _=>AI (fld f k))
/-- A form of moderate numbers. -/
structure Mid (f:Form):Prop where
 w:-1000 ≤ f.w ∧ f.w ≤ 1000
 c:-1000 ≤ f.c ∧ f.c ≤ 1000
 r:-1000 ≤ f.r ∧ f.r ≤ 1000
 l:-1000 ≤ f.l ∧ f.l ≤ 1000
 fc:-1000 ≤ f.f ∧ f.f ≤ 1000
 n:f.mv.length ≤ 1000
 mv:∀ k,k < f.mv.length → 0 ≤ f.mv.getD k 0 ∧ f.mv.getD k 0 ≤ 7
theorem mid_of {f:Form} (h:FormOk f):Mid f:=⟨by have:=h.w;omega,by have:=h.c;omega,by have:=h.r;omega,by have:=h.l;omega,by have:=h.fc;omega,by have:=h.n;omega,h.mv⟩
theorem Mid.fld {f:Form} (h:Mid f) (k:Nat):-1000 ≤ fld f k ∧ fld f k ≤ 1000:=by
 match k with
 | 0=>exact h.w
 | 1=>exact h.c
 | 2=>exact h.r
 | 3=>exact h.l
 | k + 4=>exact h.fc
theorem k5 {p:Nat → Prop} (h0:p 0) (h1:p 1) (h2:p 2) (h3:p 3) (h4:p 4):∀ k,k < 5 → p k:=fun k hk=>by
 rcases (show k = 0 ∨ k = 1 ∨ k = 2 ∨ k = 3 ∨ k = 4 by omega) with rfl|rfl|rfl|rfl|rfl
 ·exact h0
 ·exact h1
 ·exact h2
 ·exact h3
 ·exact h4
section
variable {σ:Nat → Nat → Prop} {Bp:Nat → Prop} {H:List AB}
theorem Ln.row5 {c c':Nat → Nat → AV} (h0:c' 0 0 = c 0 0) (h1:c' 1 0 = c 1 0) (h2:c' 2 0 = c 2 0) (h3:c' 3 0 = c 3 0) (h4:c' 4 0 = c 4 0):Ln σ Bp H (.sl false true 5 1 c) (.sl false true 5 1 c') :=
 Ln.sl _ _ _ _ _ _ _ (fun h=>h) fun k hk o ho=>by
  obtain rfl:o = 0:=by omega
  exact k5 (p:=fun k=>c' k 0 = c k 0) h0 h1 h2 h3 h4 k hk
end
set_option maxHeartbeats 8000000
set_option maxRecDepth 100000
theorem first_ok (z e z2 e2:Bool) (a b:Form) (ha:Mid a) (hb:Mid b):ACall Tryz.prog 58 [aForm z e a,aForm z2 e2 b] [] (fun r h=>r = AI (cmpF a b) ∧ h = []):=by
 have na:=ha.n
 have nb:=hb.n
 (refine fcall_of mixed Tryz.func58 rfl (by decide) (hs:={}) ?k (ac:=?ac) ?c (rs:=?rs) ?r ?l ?H;(case k=>kernel_rfl);(case c=>(conv=>(lhs;cbv)));(case r=>(conv=>(lhs;cbv)));(case l=>exact Nat.le_of_ble_eq_true rfl))
 (repeat' ((try conv=>whnf);first|(with_reducible first|refine wT ?_|refine wF ?_|(refine wI (fun hq=>?_) (fun hq=>?_) <;> try simp only [zA,zE,zD,zJ,zB,zI,wK,wL] at hq)|refine wA ?_|refine wB ?_|refine wC ?_|refine wD ?_|refine wE ?_)|((with_reducible refine wN ?_ ?_);focus exact needA)|(with_reducible refine wG ?_)|(with_reducible refine wP ?_)))
 all_goals (try conv=>whnf)
 refine FLoop.of (ACalls.mono _) (X:=Nat) (fun i=>[(2,.ptr 0 0),(3,.ptr 1 0),(5,aFld a),(6,aFld b),(7,AI i)]) (fun _=>[.box 6 (cForm z e a),.box 6 (cForm z2 e2 b)]) (fun i=>i ≤ 5 ∧ ∀ k,k < i → fld a k = fld b k) (fun i=>5 - i) 0 ⟨⟨Nat.zero_le _,below_zero⟩,[0,1],Cut.A,Ln.A,Ln.A,Ln.row5 rfl rfl rfl rfl rfl,Ln.row5 rfl rfl rfl rfl rfl,Ln.A,True.intro⟩ ?_
 rintro i ⟨hi,hL⟩
 by_cases hlt:i < 5
 ·have fa:=ha.fld i
  have fb:=hb.fld i
  have cS:=sign_ok (fld a i - fld b i)
  rw [sgn_cmp] at cS
  by_cases he:fld a i = fld b i
  ·(repeat' ((try conv=>whnf);first|(with_reducible first|refine wT ?_|refine wF ?_|(refine wI (fun hq=>?_) (fun hq=>?_) <;> try simp only [zA,zE,zD,zJ,zB,zI,wK,wL] at hq)|refine wA ?_|refine wB ?_|refine wC ?_|refine wD ?_|refine wE ?_)|((with_reducible refine wN ?_ ?_);focus exact needA)|(with_reducible refine wG ?_)|(with_reducible refine wP ?_)))
   all_goals (try conv=>whnf)
   (exact ⟨⟨(i + 1),⟨hlt,below_step hL he⟩,by show _ < _;omega,[0,1],Cut.A,allA⟩⟩)
  ·rw [← fld_no hlt hL he] at cS
   (repeat' ((try conv=>whnf);first|(with_reducible first|refine wT ?_|refine wF ?_|(refine wI (fun hq=>?_) (fun hq=>?_) <;> try simp only [zA,zE,zD,zJ,zB,zI,wK,wL] at hq)|refine wA ?_|refine wB ?_|refine wC ?_|refine wD ?_|refine wE ?_)|((with_reducible refine wN ?_ ?_);focus exact needA)|(with_reducible refine wG ?_)|(refine FCall.pure (cS) ⟨Ln.sameB _ rfl,True.intro⟩ rfl ?_)|(with_reducible refine wP ?_)))
   all_goals (try conv=>whnf)
   (refine ⟨⟨_,[],[],Cut.nil _,Ln.sameB _ rfl,?_,rfl⟩⟩)
   rfl
 ·have hF:=fld_all (a:=a) (b:=b) fun k hk=>hL k (by omega)
  rw [hF]
  (repeat' ((try conv=>whnf);first|(with_reducible first|refine wT ?_|refine wF ?_|(refine wI (fun hq=>?_) (fun hq=>?_) <;> try simp only [zA,zE,zD,zJ,zB,zI,wK,wL] at hq)|refine wA ?_|refine wB ?_|refine wC ?_|refine wD ?_|refine wE ?_)|((with_reducible refine wN ?_ ?_);focus exact needA)|(with_reducible refine wG ?_)|(with_reducible refine wP ?_)))
  all_goals (try conv=>whnf)
  refine FLoop.of (ACalls.mono _) (X:=Nat) (fun i=>[(2,.ptr 0 0),(3,.ptr 1 0),(8,AI i)]) (fun _=>[.box 6 (cForm z e a),.box 6 (cForm z2 e2 b)]) (fun i=>(i ≤ a.mv.length ∧ i ≤ b.mv.length) ∧ cmpL a.mv b.mv = cmpL (a.mv.drop i) (b.mv.drop i)) (fun i=>a.mv.length - i) 0 ⟨⟨⟨Nat.zero_le _,Nat.zero_le _⟩,rfl⟩,[0,1],Cut.A,allA⟩ ?_
  rintro j ⟨⟨hj1,hj2⟩,hC⟩
  by_cases h1:j < a.mv.length ∧ j < b.mv.length
  ·obtain ⟨h1,h2⟩:=h1
   have ma:=ha.mv j h1
   have mb:=hb.mv j h2
   rw [cmpL_step h1 h2] at hC
   have cS:=sign_ok (a.mv.getD j 0 - b.mv.getD j 0)
   rw [sgn_cmp] at cS
   by_cases he:a.mv.getD j 0 = b.mv.getD j 0
   ·rw [if_pos he] at hC
    (repeat' ((try conv=>whnf);first|(with_reducible first|refine wT ?_|refine wF ?_|(refine wI (fun hq=>?_) (fun hq=>?_) <;> try simp only [zA,zE,zD,zJ,zB,zI,wK,wL] at hq)|refine wA ?_|refine wB ?_|refine wC ?_|refine wD ?_|refine wE ?_)|((with_reducible refine wN ?_ ?_);focus exact needA)|(with_reducible refine wG ?_)|(with_reducible refine wP ?_)))
    all_goals (try conv=>whnf)
    (exact ⟨⟨(j + 1),⟨⟨h1,h2⟩,hC⟩,by show _ < _;omega,[0,1],Cut.A,allA⟩⟩)
   ·rw [if_neg he] at hC
    rw [← hC] at cS
    (repeat' ((try conv=>whnf);first|(with_reducible first|refine wT ?_|refine wF ?_|(refine wI (fun hq=>?_) (fun hq=>?_) <;> try simp only [zA,zE,zD,zJ,zB,zI,wK,wL] at hq)|refine wA ?_|refine wB ?_|refine wC ?_|refine wD ?_|refine wE ?_)|((with_reducible refine wN ?_ ?_);focus exact needA)|(with_reducible refine wG ?_)|(refine FCall.pure (cS) ⟨Ln.sameB _ rfl,True.intro⟩ rfl ?_)|(with_reducible refine wP ?_)))
    all_goals (try conv=>whnf)
    (refine ⟨⟨_,[],[],Cut.nil _,Ln.sameB _ rfl,?_,rfl⟩⟩)
    rfl
  ·rw [cmpL_end hj1 hj2 h1] at hC
   have cS:=sign_ok ((a.mv.length:Int) - b.mv.length)
   rw [sgn_cmp,← hC] at cS
   by_cases h2:j < a.mv.length
   ·(repeat' ((try conv=>whnf);first|(with_reducible first|refine wT ?_|refine wF ?_|(refine wI (fun hq=>?_) (fun hq=>?_) <;> try simp only [zA,zE,zD,zJ,zB,zI,wK,wL] at hq)|refine wA ?_|refine wB ?_|refine wC ?_|refine wD ?_|refine wE ?_)|((with_reducible refine wN ?_ ?_);focus exact needA)|(with_reducible refine wG ?_)|(refine FCall.pure (cS) ⟨Ln.sameB _ rfl,True.intro⟩ rfl ?_)|(with_reducible refine wP ?_)))
    all_goals (try conv=>whnf)
    (refine ⟨⟨_,[],[],Cut.nil _,Ln.sameB _ rfl,?_,rfl⟩⟩)
    rfl
   ·(repeat' ((try conv=>whnf);first|(with_reducible first|refine wT ?_|refine wF ?_|(refine wI (fun hq=>?_) (fun hq=>?_) <;> try simp only [zA,zE,zD,zJ,zB,zI,wK,wL] at hq)|refine wA ?_|refine wB ?_|refine wC ?_|refine wD ?_|refine wE ?_)|((with_reducible refine wN ?_ ?_);focus exact needA)|(with_reducible refine wG ?_)|(refine FCall.pure (cS) ⟨Ln.sameB _ rfl,True.intro⟩ rfl ?_)|(with_reducible refine wP ?_)))
    all_goals (try conv=>whnf)
    (refine ⟨⟨_,[],[],Cut.nil _,Ln.sameB _ rfl,?_,rfl⟩⟩)
    rfl
theorem copyForm_ok (z e:Bool) (f:Form) (hn:f.mv.length ≤ 1000):ACall Tryz.prog 86 [aForm z e f] [] (fun r h=>r = aForm false (decide (f.mv.length = 0)) f ∧ h = []):=by
 (refine fcall_of mixed Tryz.func86 rfl (by decide) (hs:={}) ?k (ac:=?ac) ?c (rs:=?rs) ?r ?l ?H;(case k=>kernel_rfl);(case c=>(conv=>(lhs;cbv)));(case r=>(conv=>(lhs;cbv)));(case l=>exact Nat.le_of_ble_eq_true rfl))
 obtain ⟨fr,fl,fc,fw,ff,mv⟩:=f
 rcases mv with _|⟨x,mv⟩
 ·(repeat' ((try conv=>whnf);first|(with_reducible first|refine wT ?_|refine wF ?_|(refine wI (fun hq=>?_) (fun hq=>?_) <;> try simp only [zA,zE,zD,zJ,zB,zI,wK,wL] at hq)|refine wA ?_|refine wB ?_|refine wC ?_|refine wD ?_|refine wE ?_)|((with_reducible refine wN ?_ ?_);focus exact needA)|(with_reducible refine wG ?_)|(with_reducible refine wP ?_)))
  all_goals (try conv=>whnf)
  exact ⟨⟨aForm false true ⟨fr,fl,fc,fw,ff,[]⟩,[],[],Cut.nil _,Ln.aggN ⟨⟨⟨⟨⟨⟨True.intro,Ln.A⟩,Ln.A⟩,Ln.A⟩,Ln.A⟩,Ln.A⟩,Ln.slz _ _ _ _ _ _ _ (fun h=>h)⟩,rfl,rfl⟩⟩
 ·change (x :: mv).length ≤ 1000 at hn
  rw [List.length_cons] at hn
  (repeat' ((try conv=>whnf);first|(with_reducible first|refine wT ?_|refine wF ?_|(refine wI (fun hq=>?_) (fun hq=>?_) <;> try simp only [zA,zE,zD,zJ,zB,zI,wK,wL] at hq)|refine wA ?_|refine wB ?_|refine wC ?_|refine wD ?_|refine wE ?_)|((with_reducible refine wN ?_ ?_);focus exact needA)|(with_reducible refine wG ?_)|(with_reducible refine wP ?_)))
  all_goals (try conv=>whnf)
  exact ⟨⟨aForm false (decide ((x :: mv).length = 0)) ⟨fr,fl,fc,fw,ff,x :: mv⟩,[],[],Cut.nil _,Ln.aggN ⟨⟨⟨⟨⟨⟨True.intro,Ln.A⟩,Ln.A⟩,Ln.A⟩,Ln.A⟩,Ln.A⟩,Ln.pubD (by simp) (goneB rfl) rfl (Nat.le_refl _) (by simp) (fun k hk o ho=>by simp only [appc];rw [if_neg (by omega),Nat.sub_zero])⟩,rfl,rfl⟩⟩
theorem canon_ok (z e:Bool) (f:Form) (h:FormOk f):ACall Tryz.prog 59 [aForm z e f] [] (fun r h=>r = aFormC f ∧ h = []):=by
 have hm:=mid_of h
 have cM:=mirror_ok z e f (by have:=h.c;omega) hm.n h.mv
 have cF:=first_ok (decide ((mirF f).mv.length = 0)) (decide ((mirF f).mv.length = 0)) z e (mirF f) f (mid_of (mir_ok h)) hm
 have cC:=copyForm_ok z e f hm.n
 (refine fcall_of mixed Tryz.func59 rfl (by decide) (hs:={}) ?k (ac:=?ac) ?c (rs:=?rs) ?r ?l ?H;(case k=>kernel_rfl);(case c=>(conv=>(lhs;cbv)));(case r=>(conv=>(lhs;cbv)));(case l=>exact Nat.le_of_ble_eq_true rfl))
 by_cases hlt:cmpF (mirF f) f < 0
 ·have e1:aFormC f = aFormN (mirF f):=by
   show aForm (canZ f) _ (canF f) = _
   unfold canF canZ
   rw [if_pos hlt,decide_eq_true hlt,Bool.true_and]
   show _ = aForm (decide ((mirF f).mv.length = 0)) (decide ((mirF f).mv.length = 0)) (mirF f)
   rw [mir_len]
  rw [e1]
  (repeat' ((try conv=>whnf);first|(with_reducible first|refine wT ?_|refine wF ?_|(refine wI (fun hq=>?_) (fun hq=>?_) <;> try simp only [zA,zE,zD,zJ,zB,zI,wK,wL] at hq)|refine wA ?_|refine wB ?_|refine wC ?_|refine wD ?_|refine wE ?_)|((with_reducible refine wN ?_ ?_);focus exact needA)|(with_reducible refine wG ?_)|(refine FCall.pure (cM) ⟨Ln.sameB _ rfl,True.intro⟩ rfl ?_)|(refine FCall.pure (cF) ⟨Ln.sameB _ rfl,Ln.sameB _ rfl,True.intro⟩ rfl ?_)|(refine FCall.pure (cC) ⟨Ln.sameB _ rfl,True.intro⟩ rfl ?_)|(with_reducible refine wP ?_)))
  all_goals (try conv=>whnf)
  all_goals first|(exfalso;omega)|((refine ⟨⟨_,[],[],Cut.nil _,Ln.sameB _ rfl,?_,rfl⟩⟩);rfl)
 ·have e1:aFormC f = aForm false (decide (f.mv.length = 0)) f:=by
   show aForm (canZ f) _ (canF f) = _
   unfold canF canZ
   rw [if_neg hlt,decide_eq_false hlt];rfl
  rw [e1]
  (repeat' ((try conv=>whnf);first|(with_reducible first|refine wT ?_|refine wF ?_|(refine wI (fun hq=>?_) (fun hq=>?_) <;> try simp only [zA,zE,zD,zJ,zB,zI,wK,wL] at hq)|refine wA ?_|refine wB ?_|refine wC ?_|refine wD ?_|refine wE ?_)|((with_reducible refine wN ?_ ?_);focus exact needA)|(with_reducible refine wG ?_)|(refine FCall.pure (cM) ⟨Ln.sameB _ rfl,True.intro⟩ rfl ?_)|(refine FCall.pure (cF) ⟨Ln.sameB _ rfl,Ln.sameB _ rfl,True.intro⟩ rfl ?_)|(refine FCall.pure (cC) ⟨Ln.sameB _ rfl,True.intro⟩ rfl ?_)|(with_reducible refine wP ?_)))
  all_goals (try conv=>whnf)
  all_goals first|(exfalso;omega)|((refine ⟨⟨_,[],[],Cut.nil _,Ln.sameB _ rfl,?_,rfl⟩⟩);rfl)
end Go.Proofs.YtodpjdmdmmnlpaaGreat
