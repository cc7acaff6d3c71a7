/- A logic of trees over the model's steps, and the contracts of the functions that the laws reach: part 3 of 29. -/
import Derived.Test.YtcfkokllinkigaaGreatDoorB2
import Derived.Laws.Small
import Derived.Laws.IdiomStrings
import Derived.KernelRfl
import Derived.Test.YtcfkokllinkigaaGreatDoorProg
set_option linter.unusedVariables false
set_option linter.unusedSimpArgs false
set_option linter.unusedSectionVars false
set_option linter.unnecessarySimpa false
namespace Go.Ac
section
def okL (Lz : List LB) (n : Nat) (L : List LB) : Bool := pinsOk Lz L && L.all (fun x => noidB (low n) x && noG x)
def parS : List Nat → List AV → SL → SL
 | p :: ps, x :: xs, S => parS ps xs ((p, x) :: S)
 | _, _, S => S
def roundQ (Q : AQ) (S0 : SL) (n : Nat) (Lz next : List LB) : AQ := fun e S' L' => match e with
 | .normal => Wk (n + 1) S' L' [] (next ++ [.pin])
 | .ret => ∃ L'', Wk (n + 1) S' L' [] (L'' ++ [.pin]) ∧ okL Lz n L'' = true ∧ Q .ret S0 L''
 | .exit id => ∃ L'', Wk (n + 1) S' L' [] (L'' ++ [.pin]) ∧ okL Lz n L'' = true ∧ Q (.exit id) S0 L''
 | _ => False
structure Cons (G : Glo) (cx1 : Cx) (D l : Nat) (Lx : List LB) (rc : Loop) (U V E : Nat → Prop) (w : World) (cc : Cx) : Prop where
 st : St G cc (Lx ++ [.pin])
 wq : cc.w = w
 ext : Ext cx1 cc
 mks : cc.mks = []
 nU : ∀ b, cc.F b ∨ rng cc b → ¬ U b
 inE : ∀ b, rng cc b ∨ cc.E b → E b
 lE : E l
 DE : E D
 lU : ¬ U l
 DU : ¬ U D
 Un : ∀ b, U b → cx1.w.heap.size ≤ b
 Vn : ∀ b, V b → cx1.F b ∨ cx1.w.heap.size ≤ b
 rcd : w.heap[l]? = some (.loop rc)
 dfr : w.heap[D]? = some (.deferred (some []))
 lo : ¬ cc.F l ∧ ¬ rng cc l ∧ ¬ cc.E l
 Do : ¬ cc.F D ∧ ¬ rng cc D ∧ ¬ cc.E D
structure ExtL (l : Nat) (c c' : Cx) : Prop where
 os : c'.w.os = c.w.os
 tape : c'.w.tape = c.w.tape
 output : c'.w.output = c.w.output
 size : c.w.heap.size ≤ c'.w.heap.size
 newF : ∀ b, c'.F b → c.F b ∨ rng c b ∨ c.w.heap.size ≤ b
 newφ : ∀ b, rng c' b → rng c b ∨ c.w.heap.size ≤ b
 newE : ∀ b, c'.E b → c.E b ∨ c.w.heap.size ≤ b
 keep : ∀ b, b ≠ l → b < c.w.heap.size → ¬ c.E b → ¬ rng c b → c'.w.heap[b]? = c.w.heap[b]?
 m : c'.m = c.m
 pin : SubX (low c.m) c c'
theorem ExtL.of {l : Nat} {c c' : Cx} (h : Ext c c') : ExtL l c c' := ⟨h.os, h.tape, h.output, h.size, h.newF, h.newφ, h.newE, fun b _ => h.keep b, h.m, h.pin⟩
theorem ExtL.trans {l : Nat} {a b c : Cx} (h : ExtL l a b) (g : ExtL l b c) : ExtL l a c := by
 have g' := g.pin
 rw [h.m] at g'
 refine ⟨g.os.trans h.os, g.tape.trans h.tape, g.output.trans h.output, Nat.le_trans h.size g.size, ?_, ?_, ?_, ?_, g.m.trans h.m, h.pin.trans g'⟩
 ·intro x hx
  rcases g.newF x hx with h1 | h1 | h1
  ·exact h.newF x h1
  ·rcases h.newφ x h1 with h2 | h2
   ·exact .inr (.inl h2)
   ·exact .inr (.inr h2)
  ·exact .inr (.inr (Nat.le_trans h.size h1))
 ·intro x hx
  rcases g.newφ x hx with h1 | h1
  ·exact h.newφ x h1
  ·exact .inr (Nat.le_trans h.size h1)
 ·intro x hx
  rcases g.newE x hx with h1 | h1
  ·exact h.newE x h1
  ·exact .inr (Nat.le_trans h.size h1)
 ·intro x hl hx hE hk
  rw [g.keep x hl (Nat.lt_of_lt_of_le hx h.size) (fun hE' => (h.newE x hE').elim hE (fun q => by omega)) (fun hk' => (h.newφ x hk').elim hk (fun q => by omega)), h.keep x hl hx hE hk]
theorem ExtL.ext {l : Nat} {a b c : Cx} (h : Ext a b) (g : ExtL l b c) (hl : a.w.heap.size ≤ l) (hmk : ∀ r ∈ c.mks, r ∈ a.mks ∨ a.w.heap.size ≤ r) : Ext a c := by
 have t := (ExtL.of (l := l) h).trans g
 exact ⟨t.os, t.tape, t.output, t.size, t.newF, t.newφ, t.newE, hmk, fun b hb => t.keep b (by omega) hb, t.m, t.pin⟩
section
variable {P : Program} {td : TDs} [T : TOK P td] {G : Glo} {N : Nat}
theorem St.other {c : Cx} {L : List LB} (st : St G c L) {w' : World} (hng : L.all noG = true) (hsz : c.w.heap.size ≤ w'.heap.size) (hk : ∀ b, c.F b ∨ rng c b → w'.heap[b]? = c.w.heap[b]?) :
  St G { c with w := w', mks := [] } L ∧ SubX allp c { c with w := w', mks := [] } := by
 have hs : SubX allp c { c with w := w', mks := [] } := ⟨fun _ h => h, fun b h => hk b (.inl h), fun _ h _ => h, fun _ _ _ => Nat.le_refl _, fun _ _ _ _ => rfl, fun _ _ _ _ => rfl, fun _ _ _ _ => rfl, fun j z arr T _ _ _ hb hh => ⟨arr, (hk z (.inr ⟨j, hb⟩)).trans hh, rfl⟩⟩
 refine ⟨⟨st.n, st.dm, fun b h => Nat.lt_of_lt_of_le (st.inF b h) hsz, fun k b h => ⟨(st.loc k b h).1, (st.loc k b h).2.1, Nat.lt_of_lt_of_le (st.loc k b h).2.2 hsz⟩, st.inj, fun k x h => ?_, qO st hs, fun b h => ⟨Nat.lt_of_lt_of_le (st.envd b h).1 hsz, (st.envd b h).2⟩, List.nodup_nil, .inl rfl, (fun r hr => by cases hr), st.pin⟩, hs⟩
 exact BR.mono_ng hs (List.all_eq_true.1 hng x (List.mem_of_getElem? h)) ⟨rfl, rfl, rfl, rfl⟩ (zM x) (fun b hb => hk b (.inr ⟨k, hb⟩)) (st.blk k x h)
theorem St.other' {c : Cx} {L : List LB} (st : St G c L) {w' : World} (hng : L.all noG = true) (hsz : c.w.heap.size ≤ w'.heap.size) (hk : ∀ b, c.F b ∨ rng c b ∨ b ∈ c.mks → w'.heap[b]? = c.w.heap[b]?) :
  St G { c with w := w' } L ∧ SubX allp c { c with w := w' } := by
 have hs : SubX allp c { c with w := w' } := ⟨fun _ h => h, fun b h => hk b (.inl h), fun _ h _ => h, fun _ _ _ => Nat.le_refl _, fun _ _ _ _ => rfl, fun _ _ _ _ => rfl, fun _ _ _ _ => rfl, fun j z arr T _ _ _ hb hh => ⟨arr, (hk z (.inr (.inl ⟨j, hb⟩))).trans hh, rfl⟩⟩
 refine ⟨⟨st.n, st.dm, fun b h => Nat.lt_of_lt_of_le (st.inF b h) hsz, fun k b h => ⟨(st.loc k b h).1, (st.loc k b h).2.1, Nat.lt_of_lt_of_le (st.loc k b h).2.2 hsz⟩, st.inj, fun k x h => ?_, qO st hs, fun b h => ⟨Nat.lt_of_lt_of_le (st.envd b h).1 hsz, (st.envd b h).2⟩, st.mkd, st.mkE, fun r hr => ?_, st.pin⟩, hs⟩
 ·exact BR.mono_ng hs (List.all_eq_true.1 hng x (List.mem_of_getElem? h)) ⟨rfl, rfl, rfl, rfl⟩ (zM x) (fun b hb => hk b (.inr (.inl ⟨k, hb⟩))) (st.blk k x h)
 ·have := st.mks r hr
  exact ⟨Nat.lt_of_lt_of_le this.1 hsz, (hk r (.inr (.inr hr))).trans this.2.1, this.2.2⟩
theorem St.adopt {c : Cx} {L : List LB} (st : St G c L) {V : Nat → Prop} (hng : L.all noG = true) (hmk : c.mks = []) (hV : ∀ b, V b → b < c.w.heap.size ∧ ¬ rng c b ∧ ¬ c.E b) :
  St G { c with F := fun b => c.F b ∨ V b } L ∧ SubX allp c { c with F := fun b => c.F b ∨ V b } := by
 have hs : SubX allp c { c with F := fun b => c.F b ∨ V b } := ⟨fun _ h => .inl h, fun _ _ => rfl, fun _ h _ => h, fun _ _ _ => Nat.le_refl _, fun _ _ _ _ => rfl, fun _ _ _ _ => rfl, fun _ _ _ _ => rfl, fun j z arr T _ _ _ hb hh => ⟨arr, hh, rfl⟩⟩
 refine ⟨⟨st.n, st.dm, fun b h => ?_, fun k b h => ⟨(st.loc k b h).1, ?_, (st.loc k b h).2.2⟩, st.inj, fun k x h => ?_, qO st hs, fun b h => ⟨(st.envd b h).1, ?_, (st.envd b h).2.2⟩, st.mkd, st.mkE, fun r hr => ?_, st.pin⟩, hs⟩
 ·rcases h with h | h
  ·exact st.inF b h
  ·exact (hV b h).1
 ·rintro (h' | h')
  ·exact (st.loc k b h).2.1 h'
  ·exact (hV b h').2.1 ⟨k, h⟩
 ·exact BR.mono_ng hs (List.all_eq_true.1 hng x (List.mem_of_getElem? h)) ⟨rfl, rfl, rfl, rfl⟩ (zM x) (fun b hb => rfl) (st.blk k x h)
 ·rintro (h' | h')
  ·exact (st.envd b h).2.1 h'
  ·exact (hV b h').2.2 h
 ·have : r ∈ c.mks := hr
  rw [hmk] at this; cases this
theorem Cons.mv {cx1 cc : Cx} {D l : Nat} {Lx : List LB} {rc : Loop} {U V E U' V' : Nat → Prop} {w w' : World} (hng : Lx.all noG = true) (h : Cons G cx1 D l Lx rc U V E w cc) (m : Mv U V w U' V' w') (hl : l < w.heap.size) (hD : D < w.heap.size) :
  Cons G cx1 D l Lx rc U' V' E w' { cc with w := w', mks := [] } := by
 have hw := h.wq
 subst hw
 have hin : ∀ b, cc.F b ∨ rng cc b → b < cc.w.heap.size := by
  rintro b (hb | ⟨k, hb⟩)
  ·exact h.st.inF b hb
  ·exact (h.st.loc k b hb).2.2
 have hk : ∀ b, cc.F b ∨ rng cc b → w'.heap[b]? = cc.w.heap[b]? := fun b hb => m.keep b (hin b hb) (h.nU b hb)
 obtain ⟨st', hs⟩ := h.st.other (by simp [hng, noG]) m.size hk
 have nU' : ∀ b, b < cc.w.heap.size → ¬ U b → ¬ U' b := fun b hb hu hu' => (m.newU b hu').elim hu (fun q => by omega)
 have he := h.ext
 refine ⟨st', rfl, ?_, rfl, fun b hb => nU' b (hin b hb) (h.nU b hb), h.inE, h.lE, h.DE, nU' l hl h.lU, nU' D hD h.DU, fun b hb => ?_, fun b hb => ?_, (m.keep l hl h.lU).trans h.rcd, (m.keep D hD h.DU).trans h.dfr, h.lo, h.Do⟩
 ·have hpin : SubX (low cx1.m) cx1 { cc with w := w', mks := [] } := he.pin.trans hs.all
  refine ⟨m.os.trans he.os, m.tape.trans he.tape, m.output.trans he.output, Nat.le_trans he.size m.size, he.newF, he.newφ, he.newE, (fun r hr => by cases hr), fun b hb hE hr => ?_, he.m, hpin⟩
  refine (m.keep b (Nat.lt_of_lt_of_le hb he.size) (fun hu => ?_)).trans (he.keep b hb hE hr)
  have := h.Un b hu; omega
 ·rcases m.newU b hb with q | q
  ·exact h.Un b q
  ·exact Nat.le_trans he.size q
 ·rcases m.newV b hb with q | q | q
  ·exact h.Vn b q
  ·exact .inr (h.Un b q)
  ·exact .inr (Nat.le_trans he.size q)
theorem parS_SR {c : Cx} : ∀ {ps : List Nat} {xs : List AV} {ys : List Value} {S : SL} {tmps : Array Value}, ps.all (Nat.blt · N) = true → tmps.size = N → xs.length = ps.length → TR c xs ys → SR c S tmps →
  SR c (parS ps xs S) ((ps.zip ys).foldl (fun tmps (t, a) => tmps.setIfInBounds t a) tmps) ∧ ((ps.zip ys).foldl (fun tmps (t, a) => tmps.setIfInBounds t a) tmps).size = N
 | [], [], ys, S, tmps, _, hs, _, _, h => by simpa [parS] using ⟨h, hs⟩
 | [], x :: xs, ys, S, tmps, _, hs, hl, _, h => by simp at hl
 | p :: ps, [], ys, S, tmps, _, hs, hl, _, h => by simp at hl
 | p :: ps, x :: xs, ys, S, tmps, hp, hs, hl, ha, h => by
  simp only [TR] at ha
  obtain ⟨y, s, rfl, hx, ha⟩ := ha
  simp only [List.all_cons, Bool.and_eq_true] at hp
  have hpl : p < N := Nat.le_of_ble_eq_true hp.1
  have hput : SR c ((p, x) :: S) (tmps.setIfInBounds p y) := by
   have := SR.put (a := { tmps := tmps, defers := [] }) (d := p) (y := y) h (by show p < tmps.size; omega) hx
   simpa [Act.put] using this
  simp only [parS, List.zip_cons_cons, List.foldl_cons]
  exact parS_SR hp.2 (by simpa using hs) (by simpa using hl) ha hput
theorem Cons.endR {cx1 cc2 c3 : Cx} {D l : Nat} {Lx : List LB} {rc rb : Loop} {U V E : Nat → Prop} {jump : Option Code} (hng : Lx.all noG = true) (hne : D ≠ l) (hl1 : cx1.w.heap.size ≤ l)
  (hext : Ext cx1 cc2) (hlt : l < cc2.w.heap.size) (hDt : D < cc2.w.heap.size) (hUs : ∀ b, U b → b < cc2.w.heap.size) (nU : ∀ b, cc2.F b ∨ rng cc2 b → ¬ U b) (inE : ∀ b, rng cc2 b ∨ cc2.E b → E b)
  (lE : E l) (DE : E D) (lU : ¬ U l) (DU : ¬ U D) (Un : ∀ b, U b → cx1.w.heap.size ≤ b) (Vn : ∀ b, V b → cx1.F b ∨ cx1.w.heap.size ≤ b) (lo : ¬ cc2.F l ∧ ¬ rng cc2 l ∧ ¬ cc2.E l) (Do : ¬ cc2.F D ∧ ¬ rng cc2 D ∧ ¬ cc2.E D) (dfr : cc2.w.heap[D]? = some (.deferred (some [])))
  (st3 : St G c3 (Lx ++ [.pin])) (he : ExtL l cc2 c3) (hrec : c3.w.heap[l]? = some (.loop rb)) (hrc : ({ rb with state := if jump.isNone then .ready else .done, pending := jump } : Loop) = rc) :
  (Instr.endRound l jump).run P c3.w = .ok (.bool jump.isNone) (c3.w.putObj l (.loop rc)) ∧ Rd E cc2.w (c3.w.putObj l (.loop rc)) ∧
   Cons G cx1 D l Lx rc U V (grow E cc2.w (c3.w.putObj l (.loop rc))) (c3.w.putObj l (.loop rc)) { c3 with w := c3.w.putObj l (.loop rc), mks := [] } := by
 subst hrc
 generalize hw' : c3.w.putObj l (.loop { rb with state := if jump.isNone then .ready else .done, pending := jump }) = w'
 have hl3 : l < c3.w.heap.size := Nat.lt_of_lt_of_le hlt he.size
 have hk : ∀ b, b ≠ l → w'.heap[b]? = c3.w.heap[b]? := fun b hb => by rw [← hw']; exact World.putObj_heap_other hb
 have hsz : w'.heap.size = c3.w.heap.size := by rw [← hw']; simp
 have nl : ¬ c3.F l ∧ ¬ rng c3 l ∧ ¬ c3.E l := ⟨fun h => by
   rcases he.newF l h with h | h | h
   ·exact lo.1 h
   ·exact lo.2.1 h
   ·omega, fun h => by
   rcases he.newφ l h with h | h
   ·exact lo.2.1 h
   ·omega, fun h => by
   rcases he.newE l h with h | h
   ·exact lo.2.2 h
   ·omega⟩
 have nD : ¬ c3.F D ∧ ¬ rng c3 D ∧ ¬ c3.E D := ⟨fun h => by
   rcases he.newF D h with h | h | h
   ·exact Do.1 h
   ·exact Do.2.1 h
   ·omega, fun h => by
   rcases he.newφ D h with h | h
   ·exact Do.2.1 h
   ·omega, fun h => by
   rcases he.newE D h with h | h
   ·exact Do.2.2 h
   ·omega⟩
 have hk' : ∀ b, c3.F b ∨ rng c3 b → w'.heap[b]? = c3.w.heap[b]? := fun b hb => hk b (fun e => by subst e; exact hb.elim nl.1 nl.2.1)
 obtain ⟨st', hs⟩ := st3.other (w' := w') (by simp [hng, noG]) (by omega) hk'
 have heL : ExtL l cc2 { c3 with w := w', mks := [] } := by
  refine ⟨?_, ?_, ?_, by show _ ≤ w'.heap.size; rw [hsz]; exact he.size, he.newF, he.newφ, he.newE, fun b hb h1 h2 h3 => (hk b hb).trans (he.keep b hb h1 h2 h3), he.m, he.pin.trans (hs.all)⟩
  ·rw [← hw']; exact he.os
  ·rw [← hw']; exact he.tape
  ·rw [← hw']; exact he.output
 refine ⟨by rw [← hw']; exact run_endRound jump hrec, ⟨heL.os, heL.tape, heL.output, heL.size, fun b hb hE => heL.keep b (fun e => hE (e ▸ lE)) hb (fun h => hE (inE b (.inr h))) (fun h => hE (inE b (.inl h)))⟩, ?_⟩
 have hr' : w'.heap[l]? = some (.loop { rb with state := if jump.isNone then .ready else .done, pending := jump }) := by rw [← hw']; exact World.putObj_heap_same hl3
 refine ⟨st', rfl, ExtL.ext hext heL hl1 (fun r hr => by cases hr), rfl, fun b hb hu => ?_, fun b hb => ?_, .inl lE, .inl DE, lU, DU, Un, Vn, hr', (hk D hne).trans ((he.keep D hne hDt Do.2.2 Do.2.1).trans dfr), nl, nD⟩
 ·rcases hb with hb | hb
  ·rcases he.newF b hb with h | h | h
   ·exact nU b (.inl h) hu
   ·exact nU b (.inr h) hu
   ·have := hUs b hu; omega
  ·rcases he.newφ b hb with h | h
   ·exact nU b (.inr h) hu
   ·have := hUs b hu; omega
 ·rcases hb with hb | hb
  ·rcases he.newφ b hb with h | h
   ·exact .inl (inE b (.inl h))
   ·obtain ⟨k, hk2⟩ := hb
    exact .inr ⟨h, by rw [hsz]; exact (st3.loc k b hk2).2.2⟩
  ·rcases he.newE b hb with h | h
   ·exact .inl (inE b (.inr h))
   ·exact .inr ⟨h, by rw [hsz]; exact (st3.envd b hb).1⟩
end
end
section
abbrev Glo.at (G : Glo) (l : Nat) : Glo := { G with ro := some l }
theorem St.at {G : Glo} {c : Cx} {L : List LB} (l : Nat) (st : St G c L) : St (G.at l) c L :=
 ⟨st.n, st.dm, st.inF, st.loc, st.inj, fun k x h => by have := st.blk k x h; cases x <;> exact this, st.glob, st.envd, st.mkd, st.mkE, st.mks, st.pin⟩
theorem St.ofAt {G : Glo} {c : Cx} {L : List LB} {l : Nat} (st : St (G.at l) c L) : St G c L :=
 ⟨st.n, st.dm, st.inF, st.loc, st.inj, fun k x h => by have := st.blk k x h; cases x <;> exact this, st.glob, st.envd, st.mkd, st.mkE, st.mks, st.pin⟩
section
variable {P : Program} {td : TDs} [T : TOK P td] {G : Glo} {N : Nat} {Q : AQ} {S : SL} {L : List LB}
theorem yB {Lz : List LB} {n : Nat} {L : List LB} (h : okL Lz n L = true) : L.all noG = true := by
 simp only [okL, Bool.and_eq_true, List.all_eq_true] at h
 exact List.all_eq_true.2 fun x hx => (h.2 x hx).2
theorem Cons.pop {cx : Cx} {a : Act} (hc : Cn G N S L cx a) (hno : G.env = .no) {cx1 cc : Cx} (hcx1 : ({ cx with m := L.length + 1, dom := fun k => cx.dom k ∨ k = L.length, mks := [] } : Cx) = cx1) {D l : Nat} {Lx : List LB} {rc : Loop} {U V E : Nat → Prop} {w : World}
  (hD : cx.w.heap.size = D) (hok : okL L L.length Lx = true) (hlen : Lx.length = L.length) (h : Cons G cx1 D l Lx rc U V E w cc) (hDt : D < w.heap.size) :
  ∃ c', Cn G N S Lx c' { a with defers := [markOf D] ++ a.defers } ∧ Ext cx c' ∧ c'.w = w := by
 have hw := h.wq
 subst hw hcx1
 have st2 := h.st
 have he := h.ext
 have st := hc.st
 let c3 : Cx := { cc with φ := fun k => if k < L.length then cc.φ k else none, dom := fun k => cc.dom k ∧ k < L.length, m := cx.m, mks := D :: cx.mks }
 have hφ : ∀ {k b}, c3.φ k = some b → k < L.length ∧ cc.φ k = some b := by
  intro k b h
  simp only [c3] at h
  split at h
  ·rename_i e; exact ⟨e, h⟩
  ·cases h
 have hs23 : SubX (low L.length) cc c3 := by
  refine ⟨fun _ h => h, fun _ _ => rfl, fun k hk hl => ⟨hk, zK hl⟩, fun _ _ _ => Nat.le_refl _, fun k _ hl _ => ?_, fun _ _ _ _ => rfl, fun _ _ _ _ => rfl, fun _ _ arr _ _ _ _ _ h => ⟨arr, h, rfl⟩⟩
  simp only [c3, if_pos (zK hl)]
 have hpn := he.pin
 have hs : SubX allp cx c3 := by
  have hl : ∀ {k}, cx.dom k → low (L.length + 1) k = true := fun hk => Zb (by have := st.n _ hk; omega)
  have hk' : ∀ {k}, cx.dom k → k < L.length := fun hk => st.n _ hk
  refine ⟨fun b h => hpn.F b h, fun b h => hpn.heap b h, fun k hk _ => ⟨hpn.n k (.inl hk) (hl hk), hk' hk⟩, fun k hk _ => hpn.ver k (.inl hk) (hl hk), fun k hk _ hv => ?_, fun k hk _ hv => hpn.sz k (.inl hk) (hl hk) hv, fun k hk _ hv => hpn.len k (.inl hk) (hl hk) hv,
   fun k b arr T hk _ hv hb hh => hpn.row k b arr T (.inl hk) (hl hk) hv hb hh⟩
  simp only [c3, if_pos (hk' hk)]
  exact hpn.φ k (.inl hk) (hl hk) hv
 have hex : Ext cx c3 := by
  refine ⟨he.os, he.tape, he.output, he.size, he.newF, fun b ⟨k, hk⟩ => he.newφ b ⟨k, (hφ hk).2⟩, he.newE, fun r hr => ?_, he.keep, rfl, hs.all⟩
  rcases List.mem_cons.1 hr with rfl | hr
  ·exact .inr (by omega)
  ·exact .inl hr
 have hget : ∀ {k x}, Lx[k]? = some x → (Lx ++ [LB.pin])[k]? = some x ∧ k < L.length := fun {k x} h => ⟨by rw [List.getElem?_append_left (zG h)]; exact h, by rw [← hlen]; exact zG h⟩
 simp only [okL, Bool.and_eq_true, List.all_eq_true] at hok
 refine ⟨c3, ⟨⟨fun k hk => by rw [hlen]; exact hk.2, fun k x hx hne => ⟨st2.dm k x (hget hx).1 hne, (hget hx).2⟩, st2.inF, fun k b h => ?_, fun k k' b h h' => st2.inj _ _ _ (hφ h).2 (hφ h').2, fun k x hx => ?_, st2.glob,
  fun b hb => ⟨(st2.envd b hb).1, (st2.envd b hb).2.1, fun k h => (st2.envd b hb).2.2 k (hφ h).2⟩, ?_, .inr hno, fun r hr => ?_, ?_⟩, ?_, hc.sz, hc.sr.mono_all hs⟩, hex, rfl⟩
 ·obtain ⟨h1, h2⟩ := hφ h
  have := st2.loc k b h2
  exact ⟨⟨this.1, h1⟩, this.2⟩
 ·obtain ⟨h1, h2⟩ := hget hx
  have := hok.2 x (List.mem_of_getElem? hx)
  exact BR.mono_ng hs23 this.2 ⟨if_pos h2, rfl, rfl, rfl⟩ this.1 (fun _ _ => rfl) (st2.blk k x h1)
 ·refine List.nodup_cons.2 ⟨fun hm => ?_, st.mkd⟩
  have := (st.mks D hm).1; omega
 ·rcases List.mem_cons.1 hr with rfl | hr
  ·exact ⟨hDt, h.dfr, h.Do.1, h.Do.2.2, fun k hk => h.Do.2.1 ⟨k, (hφ hk).2⟩⟩
  ·obtain ⟨q1, q2, q3, q4, q5⟩ := st.mks r hr
   have nr : ¬ rng cx r := fun ⟨k, hk⟩ => q5 k hk
   refine ⟨Nat.lt_of_lt_of_le q1 he.size, (he.keep r q1 q4 nr).trans q2, fun h => ?_, fun h => ?_, fun k h => ?_⟩
   ·rcases he.newF r h with h | h | h
    ·exact q3 h
    ·exact nr h
    ·have : cx.w.heap.size ≤ r := h; omega
   ·rcases he.newE r h with h | h
    ·exact q4 h
    ·have : cx.w.heap.size ≤ r := h; omega
   ·rcases he.newφ r ⟨k, (hφ h).2⟩ with h | h
    ·exact nr h
    ·have : cx.w.heap.size ≤ r := h; omega
 ·rcases st.pin with h | h
  ·exact .inl h
  ·exact .inr (QQ hok.1 _ h)
 ·simp only [c3, List.map_cons]
  rw [← hc.de]; rfl
def roundQP (φ : Prop) (Q : AQ) (S0 : SL) (n : Nat) (Lz next : List LB) : AQ := fun e S' L' => match e with
 | .normal => φ ∧ Wk (n + 1) S' L' [] (next ++ [.pin])
 | .ret => ∃ L'', Wk (n + 1) S' L' [] (L'' ++ [.pin]) ∧ okL Lz n L'' = true ∧ Q .ret S0 L''
 | .exit id => ∃ L'', Wk (n + 1) S' L' [] (L'' ++ [.pin]) ∧ okL Lz n L'' = true ∧ Q (.exit id) S0 L''
 | _ => False
theorem Yc (φ : Nat → Prop) {g : Operand} {ps : Array Tmp} {asv bd : Code} {f : FuncId} {caps : List AV} {xss : List (List AV)} (Λ : Nat → List LB) (hg : val G S g = some (.fn f [] caps)) (hF : caps.all isF = true) (hro : G.ro = none) (hno : G.env = .no) (hI : IterC P G.g f caps xss)
    (hφ0 : φ 0) (h0 : L = Λ 0) (hlen : ∀ i, (Λ i).length = L.length) (hok : ∀ i, okL L L.length (Λ i) = true) (hps : ps.toList.all (Nat.blt · N) = true) (hpl : ∀ (i : Nat) (xs : List AV), xss[i]? = some xs → xs.length = ps.size)
    (round : ∀ (i : Nat) (xs : List AV) (l : Nat), xss[i]? = some xs → φ i → awp P (G.at l) N asv (fun e S1 L1 => e = .normal ∧ L1.all noG = true ∧ awp P (G.at l) N bd (roundQP (φ (i + 1)) Q S L.length L (Λ (i + 1))) S1 L1) (parS ps.toList xs S) (Λ i ++ [.pin]))
    (hend : φ xss.length → Q .normal S (Λ xss.length)) : awp P G N (.rangeFunc g ps asv bd) Q S L := by
  intro cx a hc
  obtain ⟨stp, hsp⟩ := hc.st.push
  generalize hcx1 : ({ cx with m := L.length + 1, dom := fun k => cx.dom k ∨ k = L.length, mks := [] } : Cx) = cx1 at stp hsp
  have e_w : cx1.w = cx.w := by rw [← hcx1]
  have e_F : cx1.F = cx.F := by rw [← hcx1]
  have e_m : cx1.m = L.length + 1 := by rw [← hcx1]
  have e_mks : cx1.mks = [] := by rw [← hcx1]
  have hng : ∀ i, (Λ i).all noG = true := fun i => yB (hok i)
  -- the value
  have hv := zn hc hg
  simp only [R] at hv
  obtain ⟨xs0, ys0, hv, hx0, hy0⟩ := hv
  simp only [TR] at hx0
  have hx0' : xs0 = #[] := by apply Array.ext'; simpa using hx0
  subst hx0'
  have hcaps := QF hF hy0
  generalize hD : cx.w.heap.size = D
  obtain ⟨hcall, hIt⟩ := hI
  obtain ⟨fn0, hf1, hf2, hf3⟩ := hcall
  refine wpIn_rangeFunc fun fn hfn => ?_
  generalize hrcd : ({ state := .ready, pending := none, fn, tmps := a.tmps, params := ps, assign := asv, body := bd, defers := D } : Loop) = rcd
  have hr1 : rcd.state = .ready := by rw [← hrcd]
  generalize hw1 : (cx.w.alloc (.deferred (some []))).alloc (.loop rcd) = w1
  have hsz1 : w1.heap.size = D + 2 := by rw [← hw1, World.size_alloc, World.size_alloc, hD]
  have hos1 : w1.os = cx.w.os ∧ w1.tape = cx.w.tape ∧ w1.output = cx.w.output := by rw [← hw1]; exact ⟨rfl, rfl, rfl⟩
  have hheap1 : ∀ b, b < D → w1.heap[b]? = cx.w.heap[b]? := by
    intro b hb
    rw [← hw1, heap_alloc_old _ _ (by rw [World.size_alloc]; omega), heap_alloc_old _ _ (by omega)]
  have hD1 : w1.heap[D]? = some (.deferred (some [])) := by
    rw [← hw1, heap_alloc_old _ _ (by rw [World.size_alloc]; omega), ← hD]
    exact World.alloc_heap_new _ _
  have hl1 : w1.heap[D + 1]? = some (.loop rcd) := by
    have := World.alloc_heap_new (cx.w.alloc (.deferred (some []))) (.loop rcd)
    rw [World.size_alloc, hD, hw1] at this
    exact this
  refine ⟨D + 1, [markOf D], w1, { target := .fn (.func f) ys0, args := #[.func (.yield (D + 1)) #[] #[]] }, w1, f, #[.func (.yield (D + 1)) #[] #[]] ++ ys0, w1, ?_, ?_, fun _ _ => trivial, ?_, fun h => by simp at h, ?_⟩
  · have := run_enterLoop_outer (P := P) (w := cx.w) fn a.tmps ps asv bd
    rw [hD, hrcd, hw1] at this
    show (Instr.enterLoop fn a.tmps ps asv bd G.ro).run P cx.w = _
    rw [hro, this]
  · have hv' : a.eval g = .func (.func f) #[] ys0 := hv
    show (Deferred.ofValue (a.eval g) _).run P w1 = _
    rw [hv']
    simp only [Deferred.ofValue, Sem.run_pure]
    simp [Act.eval]
  · have h2' : ¬ fn0.body = none := by intro e; rw [e] at hf2; cases hf2
    have h3' : ¬ fn0.name = "runtime.NumGoroutine" := by simpa using hf3
    simp [invoke, callFunc, hf1, h2', h3']
  -- the surroundings of the function
  let code : Exit → Option Code := fun e => match e with
    | .ret => some .ret
    | .exit id => some (.exit id)
    | _ => none
  let env : Env :=
    { J := fun i U V E w => D + 1 < w.heap.size ∧ φ i ∧ ∃ cc, Cons G cx1 D (D + 1) (Λ i) rcd U V E w cc
      X := fun U V E w => D + 1 < w.heap.size ∧ ∃ cc e Lx, Cons G cx1 D (D + 1) Lx { rcd with state := .done, pending := code e } U V E w cc ∧ (code e).isSome = true ∧ okL L L.length Lx = true ∧ Lx.length = L.length ∧ Q e S Lx
      sJ := fun {n U V E w U' V' w'} m ⟨hlt, hφ, cc, h⟩ => ⟨Nat.lt_of_lt_of_le hlt m.size, hφ, _, h.mv (hng n) m hlt (by omega)⟩
      sX := fun {U V E w U' V' w'} m ⟨hlt, cc, e, Lx, h, h1, h2, h3, h4⟩ => ⟨Nat.lt_of_lt_of_le hlt m.size, _, e, Lx, h.mv (yB h2) m hlt (by omega), h1, h2, h3, h4⟩ }
  have hy : ∀ (n : Nat) (xs : List AV), xss[n]? = some xs → YieldOk P env (.func (.yield (D + 1)) #[] #[]) n xs := by
    intro n xs hxs U V E w ys hUV hVU hEd ⟨hlt, hφn, cc, hC⟩ hTF
    have hwq := hC.wq
    subst hwq
    have hlen1 : ys.size = ps.size := by
      have key : ∀ {cs : List AV} {zs : List Value}, TF V cc.w cs zs → zs.length = cs.length := by
        intro cs
        induction cs with
        | nil => intro zs h; simp only [TF] at h; subst h; rfl
        | cons x r ih => intro zs h; simp only [TF] at h; obtain ⟨y, s, rfl, _, h⟩ := h; simp [ih h]
      have := key hTF
      rw [hpl n xs hxs] at this
      simpa using this
    obtain ⟨st2, hs2⟩ := hC.st.adopt (V := V) (by simp [hng n, noG]) hC.mks (fun b hb => ⟨hUV b (.inr hb), fun h => (hEd b (hC.inE b (.inl h))).2.2 hb, fun h => (hEd b (hC.inE b (.inr h))).2.2 hb⟩)
    generalize hcc2 : ({ cc with F := fun b => cc.F b ∨ V b } : Cx) = cc2 at st2 hs2
    have f_w : cc2.w = cc.w := by rw [← hcc2]
    have f_F : cc2.F = fun b => cc.F b ∨ V b := by rw [← hcc2]
    have f_r : ∀ b, rng cc2 b ↔ rng cc b := by rw [← hcc2]; exact fun b => Iff.rfl
    have f_E : cc2.E = cc.E := by rw [← hcc2]
    have f_m : cc2.m = cc.m := by rw [← hcc2]
    have f_mks : cc2.mks = [] := by rw [← hcc2]; exact hC.mks
    have hex2 : Ext cx1 cc2 := by
      have he := hC.ext
      refine ⟨by rw [f_w]; exact he.os, by rw [f_w]; exact he.tape, by rw [f_w]; exact he.output, by rw [f_w]; exact he.size, fun b hb => ?_, fun b hb => he.newφ b ((f_r b).1 hb), fun b hb => he.newE b (f_E ▸ hb), fun r hr => (by rw [f_mks] at hr; cases hr), fun b h1 h2 h3 => by rw [f_w]; exact he.keep b h1 h2 h3, by rw [f_m]; exact he.m, he.pin.trans hs2.all⟩
      rw [f_F] at hb
      rcases hb with hb | hb
      · exact he.newF b hb
      · exact (hC.Vn b hb).imp id .inr
    have lo2 : ¬ cc2.F (D + 1) ∧ ¬ rng cc2 (D + 1) ∧ ¬ cc2.E (D + 1) := by
      refine ⟨fun h => ?_, fun h => hC.lo.2.1 ((f_r _).1 h), fun h => hC.lo.2.2 (f_E ▸ h)⟩
      rw [f_F] at h
      exact h.elim hC.lo.1 (fun h => (hEd _ hC.lE).2.2 h)
    have Do2 : ¬ cc2.F D ∧ ¬ rng cc2 D ∧ ¬ cc2.E D := by
      refine ⟨fun h => ?_, fun h => hC.Do.2.1 ((f_r _).1 h), fun h => hC.Do.2.2 (f_E ▸ h)⟩
      rw [f_F] at h
      exact h.elim hC.Do.1 (fun h => (hEd _ hC.DE).2.2 h)
    refine ⟨D + 1, rcd.fn, (rcd.params.zip ys).foldl (fun tmps (t, a) => tmps.setIfInBounds t a) rcd.tmps, rcd.assign, rcd.body, rfl, run_yield hC.rcd (by rw [hlen1, ← hrcd]), ?_⟩
    -- the round
    have hsr : SR cc2 S a.tmps := by
      intro t z hz
      have h1 := R.mono hsp _ _ (Zh z) (hc.sr t z hz)
      have hn : noid (low cx1.m) z = true := by
        rw [e_m]
        exact wR (fun k hk => by have := stp.n k hk; simpa using this) z _ h1
      exact R.mono hs2 _ _ (Zh z) (R.mono hC.ext.pin _ _ hn h1)
    have hty : TR cc2 xs ys.toList := TR.of_TF _ _ _ (TF.mono (F := V) (w := cc.w) (F' := cc2.F) (w' := cc2.w) (fun b hb => by rw [f_F]; exact .inr hb) (fun b _ => by rw [f_w]) _ _ hTF)
    obtain ⟨hsr', hsz'⟩ := parS_SR (N := N) (ps := ps.toList) hps hc.sz (by rw [hpl n xs hxs]; simp) hty hsr
    have hfold : (rcd.params.zip ys).foldl (fun tmps (t, a) => tmps.setIfInBounds t a) rcd.tmps = (ps.toList.zip ys.toList).foldl (fun tmps (t, a) => tmps.setIfInBounds t a) a.tmps := by
      rw [← hrcd]
      rw [← Array.foldl_toList, Array.toList_zip]
    rw [hfold]
    have hwalk := round n xs (D + 1) hxs hφn cc2 { tmps := (ps.toList.zip ys.toList).foldl (fun tmps (t, a) => tmps.setIfInBounds t a) a.tmps, defers := [] } ⟨st2.at (D + 1), by rw [f_mks]; rfl, hsz', hsr'⟩
    have e_as : rcd.assign = asv := by rw [← hrcd]
    have e_bd : rcd.body = bd := by rw [← hrcd]
    rw [e_as, e_bd, ← f_w]
    refine roundIn_of_wpIn (F := Fence.wide) trivial (Code.wpIn_mono ?_ hwalk)
    rintro e a1 w1' ⟨S1, L1, c1, ⟨rfl, hngL, hbody⟩, hc1, hex1, rfl⟩
    have hlt2 : D + 1 < cc2.w.heap.size := by rw [f_w]; exact hlt
    have hrec1 : c1.w.heap[D + 1]? = some (.loop rcd) := (hex1.keep _ hlt2 lo2.2.2 lo2.2.1).trans (by rw [f_w]; exact hC.rcd)
    refine ⟨c1.w.putObj (D + 1) (.loop { rcd with state := .busy }), run_beginRound hrec1 hr1, ?_⟩
    have hl1' : D + 1 < c1.w.heap.size := Nat.lt_of_lt_of_le hlt2 hex1.size
    have n1 : ¬ c1.F (D + 1) ∧ ¬ rng c1 (D + 1) ∧ ¬ c1.E (D + 1) := ⟨fun h => by
        rcases hex1.newF _ h with h | h | h
        · exact lo2.1 h
        · exact lo2.2.1 h
        · omega, fun h => by
        rcases hex1.newφ _ h with h | h
        · exact lo2.2.1 h
        · omega, fun h => by
        rcases hex1.newE _ h with h | h
        · exact lo2.2.2 h
        · omega⟩
    have hko : ∀ b, b ≠ D + 1 → (c1.w.putObj (D + 1) (.loop { rcd with state := .busy })).heap[b]? = c1.w.heap[b]? := fun b hb => World.putObj_heap_other hb
    have st1 := hc1.st.ofAt
    obtain ⟨st1', hs1'⟩ := st1.other' (w' := c1.w.putObj (D + 1) (.loop { rcd with state := .busy })) hngL (by simp) (fun b hb => hko b (fun e => by
      subst e
      rcases hb with h | h | h
      · exact n1.1 h
      · exact n1.2.1 h
      · have := (st1.mks _ h).2.1
        rw [hrec1] at this; injection this with this; cases this))
    have hb := hbody { c1 with w := c1.w.putObj (D + 1) (.loop { rcd with state := .busy }) } a1 ⟨st1'.at (D + 1), hc1.de, hc1.sz, hc1.sr.mono_all hs1'⟩
    refine Code.wpIn_mono ?_ hb
    have hex1' : ExtL (D + 1) cc2 { c1 with w := c1.w.putObj (D + 1) (.loop { rcd with state := .busy }) } := by
      have h := ExtL.of (l := D + 1) hex1
      exact ⟨h.os, h.tape, h.output, by simpa using h.size, h.newF, h.newφ, h.newE, fun b hb h1 h2 h3 => (hko b hb).trans (h.keep b hb h1 h2 h3), h.m, h.pin.trans hs1'.all⟩
    -- the end of the round
    have fin : ∀ (Lx : List LB) (S2 : SL) (L2 : List LB) (c2 : Cx) (a2 : Act) (jump : Option Code), Lx.all noG = true → Wk (L.length + 1) S2 L2 [] (Lx ++ [.pin]) → Cn (G.at (D + 1)) N S2 L2 c2 a2 → Ext { c1 with w := c1.w.putObj (D + 1) (.loop { rcd with state := .busy }) } c2 →
        ∃ w', (Instr.endRound (D + 1) jump).run P c2.w = .ok (.bool jump.isNone) w' ∧ Rd E cc2.w w' ∧ D + 1 < w'.heap.size ∧ ∃ c4, Cons G cx1 D (D + 1) Lx { rcd with state := if jump.isNone then .ready else .done, pending := jump } U V (grow E cc2.w w') w' c4 := by
      intro Lx S2 L2 c2 a2 jump hngx hwk hc2 hex2'
      obtain ⟨c3, hc3, hex3, hw3⟩ := hc2.wk hwk
      have hrec0 : (c1.w.putObj (D + 1) (.loop { rcd with state := .busy })).heap[D + 1]? = some (.loop { rcd with state := .busy }) := World.putObj_heap_same hl1'
      have hrec2 : c2.w.heap[D + 1]? = some (.loop { rcd with state := .busy }) := (hex2'.keep _ (by simpa using hl1') n1.2.2 n1.2.1).trans hrec0
      have hex23 : ExtL (D + 1) cc2 c3 := (hex1'.trans (ExtL.of hex2')).trans (ExtL.of hex3)
      have hrec3 : c3.w.heap[D + 1]? = some (.loop { rcd with state := .busy }) := by rw [hw3]; exact hrec2
      have nU2 : ∀ b, cc2.F b ∨ rng cc2 b → ¬ U b := by
        intro b hb hu
        rcases hb with hb | hb
        · rw [f_F] at hb
          rcases hb with hb | hb
          · exact hC.nU b (.inl hb) hu
          · exact hVU b hb hu
        · exact hC.nU b (.inr ((f_r b).1 hb)) hu
      have inE2 : ∀ b, rng cc2 b ∨ cc2.E b → E b := by
        intro b hb
        rcases hb with hb | hb
        · exact hC.inE b (.inl ((f_r b).1 hb))
        · exact hC.inE b (.inr (f_E ▸ hb))
      obtain ⟨q1, q2, q3⟩ := Cons.endR (P := P) (G := G) (cx1 := cx1) (cc2 := cc2) (c3 := c3) (D := D) (l := D + 1) (Lx := Lx) (U := U) (V := V) (E := E) (jump := jump) (rb := { rcd with state := .busy }) (rc := { rcd with state := if jump.isNone then .ready else .done, pending := jump })
        hngx (by omega) (by rw [e_w]; omega) hex2 hlt2 (by omega) (fun b hb => by rw [f_w]; exact hUV b (.inl hb)) nU2 inE2 hC.lE hC.DE hC.lU hC.DU hC.Un hC.Vn lo2 Do2 (by rw [f_w]; exact hC.dfr) hc3.st.ofAt hex23 hrec3 rfl
      have hsz3 : (c3.w.putObj (D + 1) (.loop { rcd with state := if jump.isNone then .ready else .done, pending := jump })).heap.size = c3.w.heap.size := by simp
      refine ⟨_, by rw [← hw3]; exact q1, q2, by rw [hsz3]; exact Nat.lt_of_lt_of_le hlt2 hex23.size, _, q3⟩
    rintro e a2 w2' ⟨S2, L2, c2, hq, hc2, hex2', rfl⟩
    cases e with
    | normal =>
      obtain ⟨w', q1, q2, q3, c4, q4⟩ := fin (Λ (n + 1)) S2 L2 c2 a2 none (hng _) hq.2 hc2 hex2'
      refine ⟨.bool true, w', q1, true, rfl, q2, ?_⟩
      have e1 : ({ rcd with state := if (none : Option Code).isNone then .ready else .done, pending := none } : Loop) = rcd := by rw [← hrcd]; rfl
      rw [e1] at q4
      exact ⟨q3, hq.1, c4, q4⟩
    | ret =>
      obtain ⟨L'', h1, h2, h3⟩ := hq
      obtain ⟨w', q1, q2, q3, c4, q4⟩ := fin L'' S2 L2 c2 a2 (some .ret) (yB h2) h1 hc2 hex2'
      refine ⟨.bool false, w', q1, false, rfl, q2, ?_⟩
      refine ⟨q3, c4, .ret, L'', q4, rfl, h2, ?_, h3⟩
      have h9 := h1.eq
      have h8 := Nat.le_of_ble_eq_true h1.le
      have := congrArg List.length h9
      rw [jR, List.length_take] at this
      simp at this; omega
    | exit id =>
      obtain ⟨L'', h1, h2, h3⟩ := hq
      obtain ⟨w', q1, q2, q3, c4, q4⟩ := fin L'' S2 L2 c2 a2 (some (.exit id)) (yB h2) h1 hc2 hex2'
      refine ⟨.bool false, w', q1, false, rfl, q2, ?_⟩
      refine ⟨q3, c4, .exit id, L'', q4, rfl, h2, ?_, h3⟩
      have h9 := h1.eq
      have h8 := Nat.le_of_ble_eq_true h1.le
      have := congrArg List.length h9
      rw [jR, List.length_take] at this
      simp at this; omega
    | goto t => exact hq.elim
    | panic ch => exact hq.elim
    | outgrown => exact hq.elim
  -- the call
  let ci : Cx := { F := cx.F, φ := fun _ => none, ver := fun _ => 0, sz := fun _ => 0, len := fun _ => 0, dom := fun k => k = 0, m := 0, E := fun b => b < D + 2 ∧ ¬ cx.F b, mks := [], w := w1 }
  have hFD : ∀ b, cx.F b → b < D := fun b hb => by have := hc.st.inF b hb; omega
  have hstart : Cons G cx1 D (D + 1) (Λ 0) rcd (rng ci) ci.F ci.E w1 { cx1 with w := w1, mks := [] } := by
    have h9 : ∀ b, cx1.F b ∨ rng cx1 b → b < D := by
      rintro b (hb | ⟨k, hb⟩)
      · have := stp.inF b hb; rw [e_w] at this; omega
      · have := (stp.loc k b hb).2.2; rw [e_w] at this; omega
    have h8 : ∀ b, cx1.E b → b < D := fun b hb => by have := (stp.envd b hb).1; rw [e_w] at this; omega
    obtain ⟨st', hs'⟩ := stp.other (w' := w1) (by rw [h0]; simp [hng 0, noG]) (by rw [e_w]; omega) (fun b hb => by rw [e_w]; exact hheap1 b (h9 b hb))
    rw [h0] at st'
    refine ⟨st', rfl, ?_, rfl, fun b hb ⟨k, hk⟩ => by simp [ci] at hk, fun b hb => ?_, ?_, ?_, fun ⟨k, hk⟩ => by simp [ci] at hk, fun ⟨k, hk⟩ => by simp [ci] at hk, fun b ⟨k, hk⟩ => by simp [ci] at hk, fun b hb => .inl (by rw [e_F]; exact hb), hl1, hD1, ?_, ?_⟩
    · refine ⟨by rw [e_w]; exact hos1.1, by rw [e_w]; exact hos1.2.1, by rw [e_w]; exact hos1.2.2, by rw [e_w]; show _ ≤ w1.heap.size; omega, fun b hb => .inl hb, fun b hb => .inl hb, fun b hb => .inl hb, (fun r hr => by cases hr), fun b h1 h2 h3 => ?_, rfl, hs'.all⟩
      rw [e_w] at h1 ⊢
      exact hheap1 b (by omega)
    · show b < D + 2 ∧ ¬ cx.F b
      rcases hb with ⟨k, hb⟩ | hb
      · exact ⟨by have := h9 b (.inr ⟨k, hb⟩); omega, by rw [← e_F]; exact (stp.loc k b hb).2.1⟩
      · exact ⟨by have := h8 b hb; omega, by rw [← e_F]; exact (stp.envd b hb).2.1⟩
    · exact ⟨by omega, fun h => by have := hFD _ h; omega⟩
    · exact ⟨by omega, fun h => by have := hFD _ h; omega⟩
    · exact ⟨fun h => by have := h9 _ (.inl h); omega, fun h => by have := h9 _ (.inr h); omega, fun h => by have := h8 _ h; omega⟩
    · exact ⟨fun h => by have := h9 _ (.inl h); omega, fun h => by have := h9 _ (.inr h); omega, fun h => by have := h8 _ h; omega⟩
  have sti : St ⟨G.g, env, none⟩ ci [.ghost 0] := by
    refine ⟨fun k hk => by cases hk; exact Nat.one_pos, fun k x hx _ => by have := zG hx; simp at this; exact this, fun b hb => by have := hFD b hb; show b < w1.heap.size; omega, fun k b h => by simp [ci] at h, fun k k' b h => by simp [ci] at h, fun k x hx => ?_,
      fun q hq => ⟨(hc.st.glob q hq).1, MF.mono (fun _ h => h) (fun b hb => hheap1 b (hFD b hb)) _ _ _ (hheap1 _ (hFD _ (hc.st.glob q hq).1)) (hc.st.glob q hq).2.1, (hc.st.glob q hq).2.2.keep (hheap1 _ (hFD _ (hc.st.glob q hq).1))⟩, fun b hb => ⟨by have := hb.1; show b < w1.heap.size; omega, hb.2, fun k h => by simp [ci] at h⟩, List.nodup_nil, .inl rfl, (fun r hr => by cases hr), .inl rfl⟩
    match k, hx with
    | 0, hx =>
      simp at hx; subst hx
      simp only [BR]
      exact ⟨rfl, by show D + 1 < w1.heap.size; omega, hφ0, _, hstart⟩
    | k + 1, hx => simp at hx
  have hcallIn := hIt env (.func (.yield (D + 1)) #[] #[]) hy ci (#[.func (.yield (D + 1)) #[] #[]] ++ ys0) sti rfl (by
    simp only [Array.toList_append, List.cons_append, List.nil_append]
    simp only [TF, RF]
    exact ⟨_, _, rfl, rfl, TF.mono (fun _ h => h) (fun b hb => hheap1 b (hFD b hb)) _ _ hcaps⟩)
  rw [hro]
  refine CallsIn.mono hcallIn ?_
  rintro e w' ⟨y, ci', L', rfl, sti', hL', hexi, rfl⟩
  -- the end
  have endL : ∀ (Lx : List LB) (rc : Loop) (U V E : Nat → Prop) (cc : Cx), rc.state ≠ .busy → Lx.length = L.length → okL L L.length Lx = true → D + 1 < ci'.w.heap.size → Cons G cx1 D (D + 1) Lx rc U V E ci'.w cc →
      ∃ w4, (Instr.endLoop (D + 1)).run P ci'.w = .ok rc.pending w4 ∧ ∃ c', Cn G N S Lx c' { a with defers := [markOf D] ++ a.defers } ∧ Ext cx c' ∧ c'.w = w4 := by
    intro Lx rc U V E cc hst hlx hokx hlt hC
    have hwq := hC.wq
    refine ⟨_, run_endLoop hC.rcd hst, ?_⟩
    have hk : ∀ b, b ≠ D + 1 → (ci'.w.putObj (D + 1) (.loop { rc with state := .exhausted })).heap[b]? = ci'.w.heap[b]? := fun b hb => World.putObj_heap_other hb
    obtain ⟨st4, hs4⟩ := hC.st.other (w' := ci'.w.putObj (D + 1) (.loop { rc with state := .exhausted })) (by simp [yB hokx, noG]) (by rw [hwq]; simp) (fun b hb => by rw [hwq]; exact hk b (fun e => by subst e; exact hb.elim hC.lo.1 hC.lo.2.1))
    have he := hC.ext
    have hC4 : Cons G cx1 D (D + 1) Lx { rc with state := .exhausted } U V E (ci'.w.putObj (D + 1) (.loop { rc with state := .exhausted })) { cc with w := ci'.w.putObj (D + 1) (.loop { rc with state := .exhausted }), mks := [] } := by
      refine ⟨st4, rfl, ?_, rfl, hC.nU, hC.inE, hC.lE, hC.DE, hC.lU, hC.DU, hC.Un, hC.Vn, World.putObj_heap_same hlt, (hk D (by omega)).trans hC.dfr, hC.lo, hC.Do⟩
      have hpin : SubX (low cx1.m) cx1 { cc with w := ci'.w.putObj (D + 1) (.loop { rc with state := .exhausted }), mks := [] } := he.pin.trans hs4.all
      have h1 := he.os; have h2 := he.tape; have h3 := he.output; have h4 := he.size
      rw [hwq] at h1 h2 h3 h4
      refine ⟨h1, h2, h3, by simpa using h4, he.newF, he.newφ, he.newE, (fun r hr => by cases hr), fun b hb hE hr => ?_, he.m, hpin⟩
      have := he.keep b hb hE hr
      rw [hwq] at this
      exact (hk b (by rw [e_w] at hb; omega)).trans this
    exact Cons.pop hc hno hcx1 hD hokx hlx hC4 (by simp; omega)
  have hG : ∀ {k x}, L'[k]? = some x → BR ⟨G.g, env, none⟩ ci' k x := fun h => sti'.blk _ _ h
  rcases hL' with hL' | hL'
  · have hb := hG hL'
    simp only [BR] at hb
    obtain ⟨_, hlt, hφe, cc, hC⟩ := hb
    obtain ⟨w4, q1, c', q2, q3, q4⟩ := endL (Λ xss.length) rcd _ _ _ cc (by rw [hr1]; simp) (hlen _) (hok _) hlt hC
    have hp : rcd.pending = none := by rw [← hrcd]
    rw [hp] at q1
    exact ⟨none, w4, q1, S, Λ xss.length, c', hend hφe, q2, q3, q4⟩
  · have hb := hG hL'
    simp only [BR] at hb
    obtain ⟨_, hlt, cc, e, Lx, hC, h1, h2, h3, h4⟩ := hb
    obtain ⟨w4, q1, c', q2, q3, q4⟩ := endL Lx _ _ _ _ cc (by simp) h3 h2 hlt hC
    cases e with
    | ret =>
      refine ⟨some .ret, w4, q1, wpIn_ret ?_⟩
      exact ⟨S, Lx, c', h4, q2, q3, q4⟩
    | exit id =>
      refine ⟨some (.exit id), w4, q1, wpIn_exit ?_⟩
      exact ⟨S, Lx, c', h4, q2, q3, q4⟩
    | normal => cases h1
    | goto t => cases h1
    | panic ch => cases h1
    | outgrown => cases h1
theorem wQ {g : Operand} {ps : Array Tmp} {asv bd : Code} {f : FuncId} {caps : List AV} {xss : List (List AV)} (Λ : Nat → List LB) (hg : val G S g = some (.fn f [] caps)) (hF : caps.all isF = true) (hro : G.ro = none) (hno : G.env = .no) (hI : IterC P G.g f caps xss)
  (h0 : L = Λ 0) (hlen : ∀ i, (Λ i).length = L.length) (hok : ∀ i, okL L L.length (Λ i) = true) (hps : ps.toList.all (Nat.blt · N) = true) (hpl : ∀ (i : Nat) (xs : List AV), xss[i]? = some xs → xs.length = ps.size)
  (round : ∀ (i : Nat) (xs : List AV) (l : Nat), xss[i]? = some xs → awp P (G.at l) N asv (fun e S1 L1 => e = .normal ∧ L1.all noG = true ∧ awp P (G.at l) N bd (roundQ Q S L.length L (Λ (i + 1))) S1 L1) (parS ps.toList xs S) (Λ i ++ [.pin]))
  (hend : Q .normal S (Λ xss.length)) : awp P G N (.rangeFunc g ps asv bd) Q S L := by
 refine Yc (fun _ => True) Λ hg hF hro hno hI trivial h0 hlen hok hps hpl (fun i xs l hx _ => ?_) (fun _ => hend)
 refine Qb (fun e S1 L1 q => ⟨q.1, q.2.1, Qb (fun e S2 L2 r => ?_) q.2.2⟩) (round i xs l hx)
 cases e with
 | normal => exact ⟨trivial, r⟩
 | ret => exact r
 | exit id => exact r
 | goto t => exact r
 | panic c => exact r
 | outgrown => exact r
end
end
section
def memN (t : Nat) : List Nat → Bool
 | [] => false
 | d :: r => bif Nat.beq d t then true else memN t r
theorem WC {t : Nat} : ∀ {l : List Nat}, t ∈ l → memN t l = true
 | [], h => by cases h
 | d :: r, h => by
  simp only [memN]
  rcases List.mem_cons.1 h with rfl | h
  ·simp
  ·rw [WC h]; cases Nat.beq d t <;> rfl
inductive Strip (ds : List Nat) : SL → SL → Prop
 | nil : Strip ds [] []
 | keep {t : Nat} {x : AV} {S S' : SL} : memN t ds = false → Strip ds S S' → Strip ds ((t, x) :: S) ((t, x) :: S')
 | drop {t : Nat} {x : AV} {S S' : SL} : memN t ds = true → Strip ds S S' → Strip ds ((t, x) :: S) S'
theorem Strip.get {ds : List Nat} {S S' : SL} (h : Strip ds S S') : ∀ t x, Ac.get S' t = some x → Ac.get S t = some x ∧ memN t ds = false := by
 induction h with
 | nil => intro t x h; simp [Ac.get] at h
 | @keep t0 x0 S S' h0 _ ih =>
  intro t x h
  rw [ZT] at h ⊢
  by_cases e : t0 = t
  ·subst e; rw [if_pos rfl] at h ⊢; exact ⟨h, h0⟩
  ·rw [if_neg e] at h ⊢; exact ih t x h
 | @drop t0 x0 S S' h0 _ ih =>
  intro t x h
  obtain ⟨h1, h2⟩ := ih t x h
  refine ⟨?_, h2⟩
  rw [ZT, if_neg (fun e => by subst e; rw [h0] at h2; cases h2)]
  exact h1
def dsts (l : List Oper) : List Nat := l.filterMap (·.dst)
theorem Jm {ds : List Nat} {S S' : SL} (h : Strip ds S S') : ∀ t x, (t, x) ∈ S' → memN t ds = false := by
 induction h with
 | nil => intro t x h; cases h
 | @keep t0 x0 S S' h0 _ ih =>
  intro t x h
  rcases List.mem_cons.1 h with h | h
  ·injection h with h1 h2; subst h1; exact h0
  ·exact ih t x h
 | drop _ _ ih => exact ih
section
variable {P : Program} {td : TDs} [T : TOK P td] {G : Glo} {N : Nat} {Q : AQ} {S Sb D : SL} {L : List LB} {ops : Array Oper} {rest : List Oper} {l : List Oper}
 {op : Op} {ty : TypeId} {pos : String} {af : Array Edge} {d : Nat} {x : AV} {dst : Option Tmp}
theorem awp_drawA {id : Nat} {ds : List Nat} (hm : P.follows .mixedOrders = true) (hk : drawOk N 0 [] l = true) (hds : dsts l = ds) (hS : Strip ds S Sb)
  (h : awpD P G N (fun S' L' => Q .normal S' L') Sb L.length l [] ⟨L, [], [], false⟩) : awp P G N (.region id l.toArray true) Q S L := by
 subst hds
 refine awp_draw0 hm hk (fun t x hx => (hS.get t x hx).1) ?_ h
 refine List.all_eq_true.2 fun p hp => ?_
 have hc := Jm hS p.1 p.2 hp
 simp only [Bool.not_eq_true', List.any_eq_false]
 intro o ho
 cases hd : o.dst with
 | none => simp
 | some e =>
  simp only
  intro hb
  have hb := Nat.eq_of_beq_eq_true hb
  have hm : e ∈ dsts l := List.mem_filterMap.2 ⟨o, ho, hd⟩
  rw [hb] at hm
  rw [WC hm] at hc; cases hc
theorem awpD_done {C : SL → List LB → Prop} {nb : Nat} {W : DW} {S2 : SL} {L2 : List LB} (hS : D ++ Sb = S2) (hL : W.L = L2) (h : C S2 L2) : awpD P G N C Sb nb [] D W := .nil (by rw [hS, hL]; exact h)
def notIn (d : Nat) (M : List Nat) : Bool := !(memN d M)
theorem awpL_boxM (M : List Nat) {t : TypeId} {u : Operand} (hm : notIn d M = true) (h : val G S u = some x) (hf : fit x = true) (hF : (cellsOf x).all isF = true) {x' : AV} (hx : AV.fp (cellsOf x) = x') (hd : Nat.blt d N = true)
  (k : awpL P G N ops rest Q ((d, x') :: S) L) : awpL P G N ops (⟨some d, .box t u, ty, pos, af, none⟩ :: rest) Q S L := by
 subst hx
 exact zk (ev_boxf h hf hF) hd k
theorem awpL_stM (M : List Nat) {t p : Nat} {d : TD} {e : Operand} {k : Nat} {bs : List AV} {L' : List LB} (hm : notIn p M = true) (h : get S p = some (.lp k 0)) (hk : L[k]? = some (.box bs)) (he : val G S e = some x) (hfx : fit x = true) (hF : (cellsOf x).all isF = true) (ht : lk td t = some d)
  (hn : (cellsOf x).length = d.size) (hq : bs.length = d.size) {x' : AV} (hx : AV.fp (cellsOf x) = x') (hL : L.set k .dead = L') (kk : awpL P G N ops rest Q ((p, x') :: S) L') : awpL P G N ops (⟨none, .store t (.tmp p) e, ty, pos, af, none⟩ :: rest) Q S L := by
 subst hx
 exact awpL_stf h hk he hfx hF ht hn hq hL kk
theorem Zp {f : FuncId} {fs cs : Array Operand} {xs ys : List AV} (h1 : vals G S fs.toList = some xs) (h2 : vals G S cs.toList = some ys) : Ev P G N (.makeFunc (.func f) fs cs) ty S L (.fn f xs ys) := by
 intro o ho _ cx a hc
 refine ⟨.func (.func f) (fs.map a.eval) (cs.map a.eval), by simp [execOp, ho, Instr.makeFunc], ?_⟩
 simp only [R]
 exact ⟨_, _, rfl, by simpa using ZV hc h1, by simpa using ZV hc h2⟩
theorem zQ {u : Operand} {k q : Nat} {bs : List AV} (h : val G S u = some (.lp k q)) (hk : L[k]? = some (.box bs)) : Ev P G N (.nilCheck u) ty S L (.lp k q) := by
 intro o ho _ cx a hc
 have e1 := zn hc h
 have e2 := e1
 simp only [R] at e1
 obtain ⟨_, _, e1⟩ := e1
 obtain ⟨b, _, e1⟩ := e1 (hc.st.blk _ _ hk).1
 refine ⟨.pointer (some ⟨b, q, none⟩), by simp [execOp, ho, e1], ?_⟩
 rw [← e1]; exact e2
theorem jz {u e : Operand} {p q : Int} {ats : Array TypeId} (h1 : val G S u = some (.v (.int .i64 p))) (h2 : val G S e = some (.v (.int .i64 q))) :
  Ev P G N (.call { callee := .builtin .max, args := #[u, e], argTypes := ats }) ty S L (.v (.int .i64 (max p q))) := by
 intro o ho _ cx a hc
 have e1 := zn hc h1
 have e2 := zn hc h2
 simp only [R] at e1 e2
 refine ⟨.int .i64 (if q > p then q else p), ?_, ?_⟩
 ·simp only [execOp, ho, resolve, invoke, builtin, Sem.run_bind, Sem.run_pure, Result.andThen_ok, List.map_toArray, List.map_cons, List.map_nil, e1, e2, run_max_int2]
 ·simp only [R]
  congr 1
  split <;> omega
theorem jy {u e : Operand} {p q : Int} {ats : Array TypeId} (h1 : val G S u = some (.v (.int .i64 p))) (h2 : val G S e = some (.v (.int .i64 q))) :
  Ev P G N (.call { callee := .builtin .min, args := #[u, e], argTypes := ats }) ty S L (.v (.int .i64 (min p q))) := by
 intro o ho _ cx a hc
 have e1 := zn hc h1
 have e2 := zn hc h2
 simp only [R] at e1 e2
 refine ⟨.int .i64 (if q < p then q else p), ?_, ?_⟩
 ·simp only [execOp, ho, resolve, invoke, builtin, Sem.run_bind, Sem.run_pure, Result.andThen_ok, List.map_toArray, List.map_cons, List.map_nil, e1, e2, run_min_int2]
 ·simp only [R]
  congr 1
  split <;> omega
theorem zE {t n e : Nat} {d ed : TD} {u q : Operand} {cs : List AV} {ik : IntKind} {i : Int} (h : val G S u = some (.agg cs)) (hi : val G S q = some (.v (.int ik i))) (ht : lk td t = some d) (hs : d.k = .arr n e) (he : lk td e = some ed) (hsz : Nat.beq ed.size 1 = true) (hr : ed.k.row = false)
  (hb : 0 ≤ i ∧ i < n ∧ cs[i.toNat]? = some x) : Ev P G N (.index t u q) ty S L x := by
 intro o ho _ cx a hc
 have e1 := zn hc h
 have e2 := zn hc hi
 simp only [R, RF] at e1 e2
 obtain ⟨xs, e1, hl⟩ := e1
 have hsz := Nat.eq_of_beq_eq_true hsz
 obtain ⟨i2, ud, z, h1, h2, h3, h4, h5, h6, h7⟩ := zA (P := P) he
 have hnr : ud.isRow = false := by rw [wo, h4]; exact hr
 have key : ∀ {cs : List AV} {ys : List Value} {j : Nat} {x : AV}, LF cx.F cx.w cs ys → cs[j]? = some x → ∃ y, ys[j]? = some y ∧ RF cx.F cx.w x y := by
  intro cs
  induction cs with
  | nil => intro ys j x _ h; simp at h
  | cons c r ih =>
   intro ys j x h hj
   simp only [LF] at h
   obtain ⟨y, s, rfl, hx, _, h⟩ := h
   cases j with
   | zero => simp at hj; subst hj; exact ⟨y, rfl, hx⟩
   | succ j => obtain ⟨y', q1, q2⟩ := ih h (by simpa using hj); exact ⟨y', by simpa using q1, q2⟩
 obtain ⟨y, hy, hx⟩ := key hl hb.2.2
 simp only [Array.getElem?_toList] at hy
 refine ⟨y, ?_, R.of_RF _ _ _ hx⟩
 have hs2 := jH (P := P) ht hs
 have hag := wn (P := P) he cx.w
 rw [hr] at hag
 simp [execOp, ho, e1, e2, Instr.index, asIntOf, run_underlying hs2, Result.andThen, hb.1, hb.2.1, run_sizeOf' (P := P) he, hsz, part, hag, hy]
theorem ev_range_str {t k : Nat} {d : TD} {u : Operand} {s : ByteArray} {L' : List LB} (h : val G S u = some (.v (.string s))) (ht : lk td t = some d) (hs : d.k = .str) (hk : L.length = k) (hL : L ++ [.obj (.stringIter s 0)] = L') : Ev2 P G N (.range t u) ty S L (.lp k 0) L' := by
 subst hk hL
 intro o ho _ cx a hc
 have e1 := zn hc h
 simp only [R] at e1
 have A := Alloc.alloc cx.w (.stringIter s 0)
 have hb : BR G (cx.new L.length (cx.w.alloc (.stringIter s 0)) 0 0) L.length (.obj (.stringIter s 0)) := by
  simp only [BR]
  exact ⟨by simp [Cx.new], cx.w.heap.size, by simp [Cx.new], A.new⟩
 refine ⟨.pointer (some ⟨cx.w.heap.size, 0, none⟩), cx.new L.length (cx.w.alloc (.stringIter s 0)) 0 0, ?_, ?_, hc.st.new A 0 0 hb⟩
 ·have q1 := Qs (P := P) ht hs
  simp [execOp, ho, e1, Instr.range, run_underlying q1, Result.andThen, run_newObj, Cx.new]
 ·simp only [R]; exact ⟨by simp [Cx.new], rfl, fun _ => ⟨cx.w.heap.size, by simp [Cx.new], rfl⟩⟩
theorem iter_R {cx : Cx} {a : Act} (hc : Cn G N S L cx a) {u : Operand} {k : Nat} {ob : Obj} (h : val G S u = some (.lp k 0)) (hk : L[k]? = some (.obj ob)) : ∃ b, a.eval u = .pointer (some ⟨b, 0, none⟩) ∧ cx.φ k = some b ∧ cx.ver k = 0 ∧ cx.w.heap[b]? = some ob := by
 have e1 := zn hc h
 have hb := hc.st.blk _ _ hk
 simp only [R] at e1
 simp only [BR] at hb
 obtain ⟨h0, b', h2, h3⟩ := hb
 obtain ⟨hd, _, hx⟩ := e1
 obtain ⟨b, h1, e1⟩ := hx h0
 rw [h1] at h2; injection h2 with h2; subst h2
 exact ⟨b, e1, h1, h0, h3⟩
theorem ev_next_t {k p : Nat} {u : Operand} {s : ByteArray} {c wd : Nat} {L' : List LB} (h : val G S u = some (.lp k 0)) (hk : L[k]? = some (.obj (.stringIter s p))) (hpl : p < s.size) (hdec : Utf8.decode s p = (c, wd)) (hL : L.set k (.obj (.stringIter s (p + wd))) = L') :
  Ev2 P G N (.next u true) ty S L (.tup [.v (.bool true), .v (.int .i64 p), .v (.int .i32 (c : Nat))]) L' := by
 subst hL
 intro o ho _ cx a hc
 obtain ⟨b, e1, h1, h2, h3⟩ := iter_R hc h hk
 have hlt : b < cx.w.heap.size := (hc.st.loc k b h1).2.2
 have hst := hc.st.wr (k := k) (b := b) (w' := { cx.w with heap := cx.w.heap.setIfInBounds b (.stringIter s (p + wd)) }) h1 rfl rfl rfl (by simp) (fun b' h => by simp [Ne.symm h]) (fun arr T h => by rw [h3] at h; cases h) (by rw [hk]; simp) (x := .obj (.stringIter s (p + wd)))
  (fun hs => by simp only [BR]; exact ⟨h2, b, h1, by simp [hlt]⟩)
 refine ⟨.tuple #[.bool true, .int .i64 p, .int .i32 c], _, ?_, ?_, hst⟩
 ·have hg : (getObj b).run P cx.w = .ok (.stringIter s p) cx.w := by simp [getObj, Sem.run, h3]
  have hs2 : (setObj b (.stringIter s (p + wd))).run P cx.w = .ok () { cx.w with heap := cx.w.heap.setIfInBounds b (.stringIter s (p + wd)) } := by simp [setObj, Sem.run, h3]
  simp [execOp, ho, e1, Instr.next, hg, Result.andThen, hpl, hdec, hs2, goInt]
 ·simp only [R]
  refine ⟨_, rfl, ?_⟩
  simp only [TR, R]
  exact ⟨_, _, rfl, rfl, _, _, rfl, rfl, _, _, rfl, rfl, rfl⟩
theorem ev_next_f {k p : Nat} {u : Operand} {s : ByteArray} (h : val G S u = some (.lp k 0)) (hk : L[k]? = some (.obj (.stringIter s p))) (hp : s.size ≤ p) : Ev P G N (.next u true) ty S L (.tup [.v (.bool false)]) := by
 intro o ho _ cx a hc
 obtain ⟨b, e1, h1, h2, h3⟩ := iter_R hc h hk
 refine ⟨.tuple #[.bool false], ?_, ?_⟩
 ·have hg : (getObj b).run P cx.w = .ok (.stringIter s p) cx.w := by simp [getObj, Sem.run, h3]
  have : ¬ p < s.size := by omega
  simp [execOp, ho, e1, Instr.next, hg, Result.andThen, this]
 ·simp only [R]
  refine ⟨_, rfl, ?_⟩
  simp only [TR, R]
  exact ⟨_, _, rfl, rfl, rfl⟩
end
end
section
inductive Msk (aft : List Edge) : Nat → List LB → TL → List LB → Prop
 | nil : Msk aft 0 [] [] []
 | base {n : Nat} {x : LB} {L M : List LB} {T : TL} : Msk aft n L T M → Msk aft (n + 1) (x :: L) T (x :: M)
 | vis {x : LB} {L M : List LB} {τ : Nat} {ds : List Nat} {T : TL} : hasE aft τ = true → Msk aft 0 L T M → Msk aft 0 (x :: L) ((τ, ds) :: T) (x :: M)
 | hid {x : LB} {L M : List LB} {τ : Nat} {ds : List Nat} {T : TL} : hasE aft τ = false → Msk aft 0 L T M → Msk aft 0 (x :: L) ((τ, ds) :: T) (.dead :: M)
theorem Msk.eq {aft : List Edge} {n : Nat} {L M : List LB} {T : TL} (h : Msk aft n L T M) : mskL aft n L T = M := by
 induction h with
 | nil => rfl
 | base _ ih => simp only [mskL, List.take_succ_cons, List.drop_succ_cons, List.cons_append] at ih ⊢; rw [ih]
 | vis h _ ih =>
  simp only [mskL, List.take_zero, List.drop_zero, List.nil_append, mskP] at ih ⊢
  rw [ih, h]; rfl
 | hid h _ ih =>
  simp only [mskL, List.take_zero, List.drop_zero, List.nil_append, mskP] at ih ⊢
  rw [ih, h]; rfl
inductive AStep (P : Program) (G : Glo) (N : Nat) (Sb : SL) (nb i : Nat) (op : Op) (ty : TypeId) (af : Array Edge) (D : SL) (W : DW) : AV → DW → Prop
 | any {x : AV} (h : ∀ M, PEv P G N op ty (pvS af D Sb) M x M) (hx : noid (low W.L.length) x = true) : AStep P G N Sb nb i op ty af D W x W
 | pure {x : AV} {M : List LB} {T' : TL} (hq : W.sq = false) (hM : Msk af.toList nb W.L W.T M) (h : PEv P G N op ty (pvS af D Sb) M x M) (hx : noid (okid M nb) x = true) (hT : addT af.toList i W.T = T') : AStep P G N Sb nb i op ty af D W x ⟨W.L, T', i :: W.Z, false⟩
section
variable {P : Program} {td : TDs} [T : TOK P td] {G : Glo} {N : Nat} {Q : AQ} {S Sb D D' : SL} {L : List LB} {ops : Array Oper} {rest : List Oper}
 {op : Op} {ty : TypeId} {pos : String} {af : Array Edge} {d i : Nat} {x : AV} {dst : Option Tmp} {u v w : Operand} {t f : Nat} {xt yt : TypeId} {C : SL → List LB → Prop} {nb : Nat} {W W' : DW}
theorem zh (h : ∀ M, Ev P G N op ty (pvS af D Sb) M x) (hx : noid (low W.L.length) x = true) (hnd : nd op = true) : AStep P G N Sb nb i op ty af D W x W := .any (fun M => pev_ev (h M) hnd) hx
theorem qF (h : ∀ M, Ev2 P G N op ty (pvS af D Sb) M x M) (hx : noid (low W.L.length) x = true) (hnd : nd op = true) : AStep P G N Sb nb i op ty af D W x W := .any (fun M => WA (h M) hnd) hx
theorem Qn {f : FuncId} {us : Array Operand} {ats : Array TypeId} {args : List AV} (hargs : vals G (pvS af D Sb) us.toList = some args) (hF : args.all isF = true) (h : PCalls P G.g f args x) (hx : noid (low W.L.length) x = true) :
  AStep P G N Sb nb i (.call { callee := .value (.func f), args := us, argTypes := ats }) ty af D W x W := .any (fun M => pev_call hargs hF h) hx
theorem zm {M : List LB} {T' : TL} (hq : W.sq = false) (hM : Msk af.toList nb W.L W.T M) (h : Ev P G N op ty (pvS af D Sb) M x) (hx : noid (okid M nb) x = true) (hnd : nd op = true) (hT : addT af.toList i W.T = T') :
  AStep P G N Sb nb i op ty af D W x ⟨W.L, T', i :: W.Z, false⟩ := .pure hq hM (pev_ev h hnd) hx hT
theorem as_callS {f : FuncId} {us : Array Operand} {ats : Array TypeId} {args args' : List AV} {M : List LB} {T' : TL} (hq : W.sq = false) (hM : Msk af.toList nb W.L W.T M) (hargs : vals G (pvS af D Sb) us.toList = some args) (hex : exL M args = args') (h : PCalls P G.g f args' x) (hs : scal x = true) (hx : noid (okid M nb) x = true) (hT : addT af.toList i W.T = T') :
  AStep P G N Sb nb i (.call { callee := .value (.func f), args := us, argTypes := ats }) ty af D W x ⟨W.L, T', i :: W.Z, false⟩ := .pure hq hM (pev_callS hargs hex h hs) hx hT
theorem zc (h : AStep P G N Sb nb D.length op ty af D W x W') (hD : D ++ [(d, x)] = D') (k : awpD P G N C Sb nb rest D' W') : awpD P G N C Sb nb (⟨some d, op, ty, pos, af, none⟩ :: rest) D W := by
 subst hD
 cases h with
 | any h hx => exact .step (r := (d, x, .any)) (.any rfl (fun M => h M) hx) k
 | pure hq hM h hx hT => subst hT; exact .step (r := (d, x, .op none)) (.pure rfl hq hM.eq h hx) k
theorem zd {j t : Nat} {want b : Bool} (hE : hasE af.toList j = true) (hDj : D[j]? = some (t, .v (.bool b))) (hb : b = want) (h : AStep P G N Sb nb D.length op ty af D W x W') (hD : D ++ [(d, x)] = D') (k : awpD P G N C Sb nb rest D' W') :
  awpD P G N C Sb nb (⟨some d, op, ty, pos, af, some (j, want)⟩ :: rest) D W := by
 subst hD hb
 cases h with
 | any h hx => exact .step (r := (d, x, .any)) (.any rfl (fun M => ⟨hE, t, _, hDj, .inl ⟨rfl, h M⟩⟩) hx) k
 | pure hq hM h hx hT => subst hT; exact .step (r := (d, x, .op none)) (.pure rfl hq hM.eq ⟨hE, t, _, hDj, .inl ⟨rfl, h⟩⟩ hx) k
theorem awpD_pT {j t : Nat} {b : Bool} (hE : hasE af.toList j = true) (hDj : D[j]? = some (t, .v (.bool b))) (hb : b = false) (hD : D ++ [(d, .v undef)] = D')
  (k : awpD P G N C Sb nb rest D' W) : awpD P G N C Sb nb (⟨some d, op, ty, pos, af, some (j, true)⟩ :: rest) D W := by
 subst hD; exact awpD_passT hE hDj hb k
theorem awpD_pF {j t : Nat} {b : Bool} (hE : hasE af.toList j = true) (hDj : D[j]? = some (t, .v (.bool b))) (hb : b = true) (hD : D ++ [(d, .v undef)] = D')
  (k : awpD P G N C Sb nb rest D' W) : awpD P G N C Sb nb (⟨some d, op, ty, pos, af, some (j, false)⟩ :: rest) D W := by
 subst hD; exact awpD_passF hE hDj hb k
theorem awpD_pU {j t : Nat} {want : Bool} (hE : hasE af.toList j = true) (hDj : D[j]? = some (t, .v undef)) (hD : D ++ [(d, .v undef)] = D')
  (k : awpD P G N C Sb nb rest D' W) : awpD P G N C Sb nb (⟨some d, op, ty, pos, af, some (j, want)⟩ :: rest) D W := by
 subst hD; exact awpD_passU hE hDj k
theorem awpD_nw {M M' : List LB} {B : LB} (hq : W.sq = false) (hM : Msk af.toList nb W.L W.T M) (h : Ev2 P G N op ty (pvS af D Sb) M x M') (hB : M ++ [B] = M') (hx : noid (okid M' nb) x = true) (hp : plainB nb B = true) (hnd : nd op = true) {T' : TL} (hT : addT af.toList D.length W.T ++ [(D.length, [D.length])] = T')
  {L' : List LB} (hL : W.L ++ [B] = L') (hD : D ++ [(d, x)] = D') (k : awpD P G N C Sb nb rest D' ⟨L', T', D.length :: W.Z, false⟩) : awpD P G N C Sb nb (⟨some d, op, ty, pos, af, none⟩ :: rest) D W := by
 subst hD; exact awpD_new hq hM.eq h hB hx hp hnd hT hL k
theorem awpD_up {M M' : List LB} {kk : Nat} {B : LB} {τ : Nat} {ds : List Nat} (hq : W.sq = false) (hM : Msk af.toList nb W.L W.T M) (hk : Nat.ble nb kk = true) (hτ : W.T[kk - nb]? = some (τ, ds)) (hb : hasE af.toList τ = true) (hds : ds.all (hasE af.toList) = true)
  (h : Ev2 P G N op ty (pvS af D Sb) M x M') (hB : M.set kk B = M') (hx : noid (okid M' nb) x = true) (hp : plainB nb B = true) (hnd : nd op = true) {T' : TL} (hT : (addT af.toList D.length W.T).set (kk - nb) (D.length, [D.length]) = T')
  {L' : List LB} (hL : W.L.set kk B = L') (hD : D ++ [(d, x)] = D') (k : awpD P G N C Sb nb rest D' ⟨L', T', D.length :: W.Z, false⟩) : awpD P G N C Sb nb (⟨some d, op, ty, pos, af, none⟩ :: rest) D W := by
 subst hD; exact awpD_upd hq hM.eq hk hτ hb hds h hB hx hp hnd hT hL k
theorem awpD_sV {L0 L' : List LB} (hZ : W.Z.all (hasE af.toList) = true) (hW : W.L = L0) (h : Ev2 P G N op ty (pvS af D Sb) L0 x L') (hnd : nd op = true) (hD : D ++ [(d, x)] = D')
  (k : awpD P G N C Sb nb rest D' ⟨L', W.T, D.length :: W.Z, true⟩) : awpD P G N C Sb nb (⟨some d, op, ty, pos, af, none⟩ :: rest) D W := by
 subst hD hW; exact awpD_seqV hZ h hnd k
theorem Q6 {L0 L' : List LB} (hZ : W.Z.all (hasE af.toList) = true) (hW : W.L = L0) (h : EvS P G N op ty (pvS af D Sb) L0 L') (hnd : nd op = true) (hD : D ++ [(N, .any)] = D')
  (k : awpD P G N C Sb nb rest D' ⟨L', W.T, D.length :: W.Z, true⟩) : awpD P G N C Sb nb (⟨none, op, ty, pos, af, none⟩ :: rest) D W := by
 subst hD hW; exact awpD_seqS hZ h hnd k
theorem isD_st (k : awpD P G N C Sb nb (⟨dst, .store t u v, ty, pos, af, none⟩ :: rest) D W) : awpD P G N C Sb nb (⟨dst, .store t u v, ty, pos, af, none⟩ :: rest) D W := k
theorem isD_al (k : awpD P G N C Sb nb (⟨dst, .alloc t, ty, pos, af, none⟩ :: rest) D W) : awpD P G N C Sb nb (⟨dst, .alloc t, ty, pos, af, none⟩ :: rest) D W := k
theorem isD_nl (k : awpD P G N C Sb nb [] D W) : awpD P G N C Sb nb [] D W := k
variable {gd : Option (Nat × Bool)}
theorem jV (k : awpD P G N C Sb nb (⟨dst, .move u, ty, pos, af, gd⟩ :: rest) D W) : awpD P G N C Sb nb (⟨dst, .move u, ty, pos, af, gd⟩ :: rest) D W := k
theorem Qj (k : awpD P G N C Sb nb (⟨dst, .assign u, ty, pos, af, gd⟩ :: rest) D W) : awpD P G N C Sb nb (⟨dst, .assign u, ty, pos, af, gd⟩ :: rest) D W := k
theorem JT {b : BinOp} (k : awpD P G N C Sb nb (⟨dst, .binOp b xt u v yt, ty, pos, af, gd⟩ :: rest) D W) : awpD P G N C Sb nb (⟨dst, .binOp b xt u v yt, ty, pos, af, gd⟩ :: rest) D W := k
theorem WJ (k : awpD P G N C Sb nb (⟨dst, .fieldAddr t u f, ty, pos, af, gd⟩ :: rest) D W) : awpD P G N C Sb nb (⟨dst, .fieldAddr t u f, ty, pos, af, gd⟩ :: rest) D W := k
theorem jW (k : awpD P G N C Sb nb (⟨dst, .load t u, ty, pos, af, gd⟩ :: rest) D W) : awpD P G N C Sb nb (⟨dst, .load t u, ty, pos, af, gd⟩ :: rest) D W := k
theorem jU (k : awpD P G N C Sb nb (⟨dst, .pick u v w, ty, pos, af, gd⟩ :: rest) D W) : awpD P G N C Sb nb (⟨dst, .pick u v w, ty, pos, af, gd⟩ :: rest) D W := k
theorem jX {c : Call} (k : awpD P G N C Sb nb (⟨dst, .call c, ty, pos, af, gd⟩ :: rest) D W) : awpD P G N C Sb nb (⟨dst, .call c, ty, pos, af, gd⟩ :: rest) D W := k
theorem isD_go {j t : Nat} {want b : Bool} (hE : hasE af.toList j = true) (hDj : D[j]? = some (t, .v (.bool b))) (hb : b = want) (k : awpD P G N C Sb nb (⟨dst, op, ty, pos, af, some (j, want)⟩ :: rest) D W) : awpD P G N C Sb nb (⟨dst, op, ty, pos, af, some (j, want)⟩ :: rest) D W := k
theorem JS (k : awpL P G N ops (⟨dst, .alloc t, ty, pos, af, none⟩ :: rest) Q S L) : awpL P G N ops (⟨dst, .alloc t, ty, pos, af, none⟩ :: rest) Q S L := k
theorem is_box (k : awpL P G N ops (⟨dst, .box t u, ty, pos, af, none⟩ :: rest) Q S L) : awpL P G N ops (⟨dst, .box t u, ty, pos, af, none⟩ :: rest) Q S L := k
end
end
end Go.Ac
section
namespace Go.Ac
section
variable {P : Program} {G : Glo} {N : Nat} {Q : AQ} {S : SL} {L : List LB} {ops : Array Oper} {rest : List Oper} {ty : TypeId} {pos : String} {af : Array Edge} {d : Nat}
theorem OCalls.toP {g : List (Nat × List AV)} {f : FuncId} {args : List AV} {E sz : Nat} {es : List (List AV)} (h : OCalls P g f args E sz es) : PCalls P g f args (.fs sz es.length es) := by
 refine ⟨h.1, fun F w vs st ha => (h.2 F w vs st ha).mono ?_⟩
 rintro e w' ⟨y, c', rfl, hr, st', he, rfl, hφ⟩
 refine ⟨y, allF c', rfl, ?_, st'.freeze, he.toBare⟩
 have := ex_R st' (.os 0 0) y hr
 simpa [ex] using this
theorem St.afterO {c : Cx} (st : St G c L) {c' : Cx} {E sz : Nat} {es : List (List AV)} {y : Value} (hr : R c' (.os 0 0) y) (st' : St (Glo.of G.g) c' [.own 0 E sz es]) (ex : Ext (Cx.bare c.F c.w) c') (hφ : ∀ k, k ≠ 0 → c'.φ k = none) :
    ∃ c2, Stp G c c2 (L ++ [.own 0 E sz es]) ∧ R c2 (.os L.length 0) y ∧ c2.w = c'.w := by
  have hk : ∀ b, b < c.w.heap.size → c'.w.heap[b]? = c.w.heap[b]? := fun b hb => ex.keep b hb (fun h => h) (fun ⟨k, h⟩ => by simp [Cx.bare] at h)
  have hnew : ∀ b, c'.φ 0 = some b → c.w.heap.size ≤ b := by
    intro b hb
    rcases ex.newφ b ⟨0, hb⟩ with ⟨k, h⟩ | h
    · simp [Cx.bare] at h
    · exact h
  have hV : ∀ b, c'.F b → c.F b ∨ c.w.heap.size ≤ b := fun b hF => by
    rcases ex.newF b hF with h2 | ⟨k', h2⟩ | h2
    · exact .inl h2
    · simp [Cx.bare] at h2
    · exact .inr h2
  have hn : ∀ k, c.dom k → k ≠ L.length := fun k hk e => by have := st.n k hk; omega
  let c2 : Cx := { c with F := c'.F, φ := fun k => if k = L.length then c'.φ 0 else c.φ k, ver := fun k => if k = L.length then c'.ver 0 else c.ver k, sz := fun k => if k = L.length then c'.sz 0 else c.sz k,
                          len := fun k => if k = L.length then c'.len 0 else c.len k, dom := fun k => c.dom k ∨ k = L.length, w := c'.w }
  have hs : SubX allp c c2 := by
    refine ⟨ex.F, fun b h => hk b (st.inF b h), fun _ h _ => .inl h, fun k hd _ => ?_, fun k hd _ _ => if_neg (hn k hd), fun k hd _ _ => if_neg (hn k hd), fun k hd _ _ => if_neg (hn k hd), fun k b arr T _ _ _ hb hh => ⟨arr, (hk b (st.loc k b hb).2.2).trans hh, rfl⟩⟩
    show c.ver k ≤ (if k = L.length then c'.ver 0 else c.ver k)
    rw [if_neg (hn k hd)]; exact Nat.le_refl _
  have hφ2 : ∀ {k b}, c2.φ k = some b → (k = L.length ∧ c'.φ 0 = some b) ∨ (k ≠ L.length ∧ c.φ k = some b) := by
    intro k b h
    by_cases e : k = L.length
    · exact .inl ⟨e, by simpa only [c2, if_pos e] using h⟩
    · exact .inr ⟨e, by simpa only [c2, if_neg e] using h⟩
  have hm : Calm c c2 := by
    refine ⟨ex.os, ex.tape, ex.output, ex.size, fun b hb _ => hk b hb, fun b ⟨k, h⟩ => ?_, fun b hF => (hV b hF).imp id .inr⟩
    rcases hφ2 h with ⟨_, h⟩ | ⟨_, h⟩
    · exact .inr (hnew b h)
    · exact .inl ⟨k, h⟩
  have hs' : SubX allp c' c2 ∨ True := .inr trivial
  have hcs : ∀ k, k ≠ L.length → c2.φ k = c.φ k ∧ c2.ver k = c.ver k ∧ c2.sz k = c.sz k ∧ c2.len k = c.len k := fun k e => ⟨if_neg e, if_neg e, if_neg e, if_neg e⟩
  have e0 : c2.φ L.length = c'.φ 0 ∧ c2.ver L.length = c'.ver 0 ∧ c2.sz L.length = c'.sz 0 ∧ c2.len L.length = c'.len 0 := ⟨if_pos rfl, if_pos rfl, if_pos rfl, if_pos rfl⟩
  refine ⟨c2, Stp.mk' hm hs rfl rfl rfl (st.calm hm hs (fun k hk => by simp; rcases hk with hk | hk; have := st.n k hk; omega; omega) (Wz st) rfl rfl rfl st'.inF (fun k b h => ?_) (fun k k' b h h' => ?_) (fun k x hx => ?_) (.inr yd)) (fun k hk => hk.imp id (fun e => ⟨.own 0 E sz es, by subst e; simp, by simp⟩)), ?_, rfl⟩
  · rcases hφ2 h with ⟨e, h⟩ | ⟨e, h⟩
    · have := st'.loc 0 b h; exact ⟨.inr e, this.2⟩
    · have h1 := st.loc k b h
      refine ⟨.inl h1.1, fun hF => ?_, Nat.lt_of_lt_of_le h1.2.2 ex.size⟩
      rcases hV b hF with h2 | h2
      · exact h1.2.1 h2
      · exact absurd h1.2.2 (Nat.not_lt.2 h2)
  · rcases hφ2 h with ⟨e, h⟩ | ⟨e, h⟩ <;> rcases hφ2 h' with ⟨e', h'⟩ | ⟨e', h'⟩
    · rw [e, e']
    · have := hnew b h; have := (st.loc _ b h').2.2; omega
    · have := hnew b h'; have := (st.loc _ b h).2.2; omega
    · exact st.inj _ _ _ h h'
  · rcases ZE hx with ⟨hx, hlt⟩ | ⟨rfl, rfl⟩
    · have hne : k ≠ L.length := by omega
      obtain ⟨q1, q2, q3, q4⟩ := hcs k hne
      exact BR.mono hs hm rfl ⟨q1, q2, q3, q4⟩ (zM x) (fun b hb => hk b (st.loc k b hb).2.2) (st.blk k x hx)
    · have hb := st'.blk 0 _ (show ([LB.own 0 E sz es] : List LB)[0]? = some _ from rfl)
      simp only [BR] at hb ⊢
      obtain ⟨q1, q2, q3, q4⟩ := e0
      rw [q1, q2, q3, q4]
      exact hb
  · simp only [R, OS] at hr ⊢
    obtain ⟨q1, q2, q3, q4⟩ := e0
    rw [q1, q2, q3, q4]
    exact ⟨.inr rfl, hr.2⟩
theorem Qc {f : FuncId} {us : Array Operand} {ats : Array TypeId} {args : List AV} {E sz k : Nat} {es : List (List AV)} {L' : List LB} (hargs : vals G S us.toList = some args) (hF : args.all isF = true) (h : OCalls P G.g f args E sz es) (hd : Nat.blt d N = true) (hk : L.length = k) (hL : L ++ [.own 0 E sz es] = L')
  (kk : awpL P G N ops rest Q ((d, .os k 0) :: S) L') : awpL P G N ops (⟨some d, .call { callee := .value (.func f), args := us, argTypes := ats }, ty, pos, af, none⟩ :: rest) Q S L := by
 subst hk hL
 intro cx a hc
 have ha := QF hF (ZV hc hargs)
 refine wpListIn_plain rfl fun K hK => zy rfl ?_
 rw [qa h.1 (o := ⟨some d, .call { callee := .value (.func f), args := us, argTypes := ats }, ty, pos, af, none⟩) rfl a cx.w, Oper.uponIn_enter]
 refine ⟨fun h => by simp at h, CallsIn.mono (h.2 cx.F cx.w (us.map a.eval) hc.st.bare (by simpa using ha)) ?_⟩
 rintro e w' ⟨y, c', rfl, hr, st', ex, rfl, hφ⟩
 obtain ⟨c2, hst, hR, hw⟩ := hc.st.afterO hr st' ex hφ
 rw [← hw]
 exact hK _ _ (zq (fun e a w q => q.trans hst.ext) _ _ _ (kk c2 _ ((hst.cn hc).put hd hR)))
end
end Go.Ac
namespace Go.Ac
theorem ocalls' {P : Program} {N : Nat} {g : List (Nat × List AV)} {td : TDs} [T : TOK P td] {f : FuncId} {fn : Func} {c : Code} {args : List AV} {E sz : Nat} {es : List (List AV)} (hf : P.funcs[f]? = some fn) (hn : fn.ntmps = N) (hb : fn.body = some c) (hN : Nat.ble args.length N = true) (hname : (fn.name == "runtime.NumGoroutine") = false)
  (h : awp P (Glo.of g) N c (retQ td fn.results.toList fun r' L' => ∃ k v, r' = .os k v ∧ L'[k]? = some (.own v E sz es)) (argS 0 args) []) : OCalls P g f args E sz es :=
 ocalls hf hb hn (Nat.le_of_ble_eq_true hN) hname h
end Go.Ac
namespace Go.Ac
section
variable {P : Program} {G : Glo} {N : Nat} {S : SL} {L : List LB} {ty : TypeId}
theorem JY {xt yt : TypeId} {u e : Operand} {p q : Int} (h1 : val G S u = some (.v (.int .i64 p))) (h2 : val G S e = some (.v (.int .i64 q)))
  (hr : 0 < q ∧ -9223372036854775808 ≤ p ∧ p ≤ 9223372036854775807) : Ev P G N (.binOp .quo xt u e yt) ty S L (.v (.int .i64 (p.tdiv q))) := by
 intro o ho _ cx a hc
 have e1 := zn hc h1
 have e2 := zn hc h2
 simp only [R] at e1 e2
 refine ⟨.int .i64 (p.tdiv q), ?_, by simp only [R]⟩
 simp only [execOp, ho, e1, e2]
 have hq : q ≠ 0 := by omega
 have hb : -9223372036854775808 ≤ p.tdiv q ∧ p.tdiv q ≤ 9223372036854775807 := by
  rcases Int.le_total 0 p with h | h
  ·have h3 := Int.ediv_le_self q h
   have h4 : 0 ≤ p / q := Int.ediv_nonneg h (by omega)
   rw [Int.tdiv_eq_ediv_of_nonneg h]; omega
  ·have h5 : p.tdiv q = -((-p) / q) := by
    rw [← Int.tdiv_eq_ediv_of_nonneg (by omega), Int.neg_tdiv, Int.neg_neg]
   have h3 := Int.ediv_le_self q (show 0 ≤ -p by omega)
   have h4 : 0 ≤ (-p) / q := Int.ediv_nonneg (by omega) (by omega)
   rw [h5]; omega
 simp [eqGuard, binOp, Op.intDiv, hq]
 rw [Z9 hb.1 hb.2]
theorem JX {xt yt : TypeId} {u e : Operand} {p q : Int} (h1 : val G S u = some (.v (.int .i64 p))) (h2 : val G S e = some (.v (.int .i64 q)))
  (hr : 0 < q) : Ev P G N (.binOp .rem xt u e yt) ty S L (.v (.int .i64 (p.tmod q))) := by
 intro o ho _ cx a hc
 have e1 := zn hc h1
 have e2 := zn hc h2
 simp only [R] at e1 e2
 refine ⟨.int .i64 (p.tmod q), ?_, by simp only [R]⟩
 simp only [execOp, ho, e1, e2]
 have hq : q ≠ 0 := by omega
 simp [eqGuard, binOp, Op.intDiv, hq]
end
end Go.Ac
namespace Go.Ac
inductive LeA : List AV → List AV → Prop
 | nil : LeA [] []
 | cons {a b : AV} {asv bs : List AV} : Le a b → LeA asv bs → LeA (a :: asv) (b :: bs)
theorem LeA.TF {asv bs : List AV} (h : LeA asv bs) {F : Nat → Prop} {w : World} : ∀ {ys : List Value}, TF F w asv ys → TF F w bs ys := by
 induction h with
 | nil => intro ys h; exact h
 | cons h1 _ ih =>
  intro ys h
  simp only [Ac.TF] at h ⊢
  obtain ⟨y, s, e, hx, h⟩ := h
  exact ⟨y, s, e, h1 F w y hx, ih h⟩
theorem PCalls.args {P : Program} {g : List (Nat × List AV)} {f : FuncId} {asv bs : List AV} {r : AV} (h : PCalls P g f bs r) (hl : LeA asv bs) : PCalls P g f asv r :=
 ⟨h.1, fun F w vs st ha => h.2 F w vs st (hl.TF ha)⟩
theorem OCalls.args {P : Program} {g : List (Nat × List AV)} {f : FuncId} {asv bs : List AV} {E sz : Nat} {es : List (List AV)} (h : OCalls P g f bs E sz es) (hl : LeA asv bs) : OCalls P g f asv E sz es :=
 ⟨h.1, fun F w vs st ha => h.2 F w vs st (hl.TF ha)⟩
abbrev nilS : AV := .v (.slice none 0 0)
end Go.Ac
namespace Go.Ac
section
variable {P : Program} {td : TDs} [T : TOK P td] {G : Glo} {N : Nat} {S : SL} {L : List LB} {ty : TypeId}
theorem qE {t yt : Nat} {u q : Operand} {cs ds : List AV} {xs ys : List Value} {f : List Value → List Value → Option Bool} {b : Bool} (hE : EqT P t f) (hg : P.eqGuardType P.depth t = false)
  (hu : val G S u = some (.agg cs)) (hq : val G S q = some (.agg ds)) (hx : scalL cs = some xs) (hy : scalL ds = some ys) (hf : f xs ys = some b) : Ev P G N (.binOp .eql t u q yt) ty S L (.v (.bool b)) :=
 ZB (neg := false) hE hg hu hq hx hy hf
theorem Zc {t yt : Nat} {u q : Operand} {cs ds : List AV} {xs ys : List Value} {f : List Value → List Value → Option Bool} {b : Bool} (hE : EqT P t f) (hg : P.eqGuardType P.depth t = false)
  (hu : val G S u = some (.agg cs)) (hq : val G S q = some (.agg ds)) (hx : scalL cs = some xs) (hy : scalL ds = some ys) (hf : f xs ys = some b) : Ev P G N (.binOp .neq t u q yt) ty S L (.v (.bool !b)) :=
 ZB (neg := true) hE hg hu hq hx hy hf
end
end Go.Ac
namespace Go.Ac
theorem LeA.LF {asv bs : List AV} (h : LeA asv bs) {F : Nat → Prop} {w : World} : ∀ {ys : List Value}, LF F w asv ys → LF F w bs ys := by
 induction h with
 | nil => intro ys h; exact h
 | cons h1 _ ih =>
  intro ys h
  simp only [Ac.LF] at h ⊢
  obtain ⟨y, s, e, hx, h2, h⟩ := h
  exact ⟨y, s, e, h1 F w y hx, h2, ih h⟩
theorem Le.agg {asv bs : List AV} (h : LeA asv bs) : Le (.agg asv) (.agg bs) := fun F w y hy => by
 simp only [RF] at hy ⊢
 obtain ⟨xs, e, hy⟩ := hy
 exact ⟨xs, e, h.LF hy⟩
theorem Le.tup {asv bs : List AV} (h : LeA asv bs) : Le (.tup asv) (.tup bs) := fun F w y hy => by
 simp only [RF] at hy ⊢
 obtain ⟨xs, e, hy⟩ := hy
 exact ⟨xs, e, h.TF hy⟩
theorem Le.rfl' (a : AV) : Le a a := fun _ _ _ h => h
end Go.Ac
namespace Go.Ac
theorem retI {td : TDs} {S : SL} {L : List LB} {rs : List ResultVar} {r : AV} {Q : AV → List LB → Prop} (h : resV td S L rs = some r) (hq : Q r L) : retQ td rs Q .ret S L := ⟨r, h, hq⟩
theorem retIn {td : TDs} {S : SL} {L : List LB} {rs : List ResultVar} {r : AV} {Q : AV → List LB → Prop} (h : resV td S L rs = some r) (hq : Q r L) : retQ td rs Q .normal S L := ⟨r, h, hq⟩
end Go.Ac
end
section
namespace Go.Ac
section
variable {P : Program} {G : Glo} {N : Nat} {Q : AQ} {S : SL} {L : List LB}
theorem qk {c : Code} (k i E sz : Nat) {n : Nat} {cs : List AV} {L' : List LB} (hk : L[k]? = some (.box cs)) (hi : cs[i]? = some (.v (.slice none 0 0))) (hn : L.length = n) (hL : L.set k (.box (cs.set i (.os n 0))) ++ [.own 0 E sz []] = L')
  (h2 : awp P G N c Q S L') : awp P G N c Q S L := by
 subst hn hL
 intro cx a hc
 have hst := hc.st.nul sz (x := .own 0 E sz []) (by simp [BR, Cx.nul])
 have hkl := zG hk
 have st2 : St G (cx.nul L.length sz) (L.set k (.box (cs.set i (.os L.length 0))) ++ [.own 0 E sz []]) := by
  have st := hst.st
  have hk2 : (L ++ [LB.own 0 E sz []])[k]? = some (.box cs) := by rw [List.getElem?_append_left hkl]; exact hk
  have hset : L.set k (LB.box (cs.set i (.os L.length 0))) ++ [LB.own 0 E sz []] = (L ++ [LB.own 0 E sz []]).set k (LB.box (cs.set i (.os L.length 0))) := (List.set_append_left _ _ hkl).symm
  rw [hset]
  refine ⟨fun j hj => by rw [List.length_set]; exact st.n j hj, fun j y h hy => ?_, st.inF, st.loc, st.inj, fun j y h => ?_, st.glob, st.envd, st.mkd, st.mkE, st.mks, st.pin.imp (fun h => h) (fun h => JH (by rw [hk2]; simp) h)⟩
  ·rcases qG h with ⟨_, h⟩ | ⟨rfl, _, _⟩
   ·exact st.dm j y h hy
   ·exact st.dm j _ hk2 (by simp)
  ·rcases qG h with ⟨_, h⟩ | ⟨rfl, rfl, _⟩
   ·exact st.blk j y h
   ·have hb := st.blk j _ hk2
    simp only [BR] at hb ⊢
    obtain ⟨h0, b, arr, T, h1, h2, h3, h4⟩ := hb
    refine ⟨h0, b, arr, T, h1, h2, by rw [List.length_set]; exact h3, MR.mk fun j2 z hz => ?_⟩
    rw [List.getElem?_set] at hz
    split at hz
    ·rename_i e
     subst e
     split at hz
     ·injection hz with hz; subst hz
      obtain ⟨u, q1, q2, q3⟩ := h4.get hi
      refine ⟨u, q1, ?_, q3⟩
      simp only [R] at q2
      simp only [R, OS, Cx.nul, if_true]
      exact ⟨.inr trivial, Nat.le_refl _, q3, fun _ => .inl ⟨trivial, q2, trivial⟩⟩
     ·cases hz
    ·exact h4.get hz
 have := h2 (cx.nul L.length sz) a ⟨st2, hc.de, hc.sz, hc.sr.mono_all hst.sub⟩
 exact Code.wpIn_mono (fun e a w q => q.trans hst.ext) this
end
end Go.Ac
namespace Go.Ac
section
variable {P : Program} {G : Glo} {N : Nat} {S : SL} {L : List LB} {op : Op} {ty : TypeId} {x y : AV}
theorem qX {xt yt : TypeId} {u e : Operand} {p q r : Int} (h1 : val G S u = some (.v (.int .i64 p))) (h2 : val G S e = some (.v (.int .i64 q))) (hr : 0 < q ∧ -9223372036854775808 ≤ p ∧ p ≤ 9223372036854775807) (hq : p.tdiv q = r) :
  Ev P G N (.binOp .quo xt u e yt) ty S L (.v (.int .i64 r)) := hq ▸ JY h1 h2 hr
theorem Zz {xt yt : TypeId} {u e : Operand} {p q r : Int} (h1 : val G S u = some (.v (.int .i64 p))) (h2 : val G S e = some (.v (.int .i64 q))) (hr : 0 < q) (hq : p.tmod q = r) :
  Ev P G N (.binOp .rem xt u e yt) ty S L (.v (.int .i64 r)) := hq ▸ JX h1 h2 hr
theorem JZ {xt yt : TypeId} {u e : Operand} {p q r : Int} (h1 : val G S u = some (.v (.int .i64 p))) (h2 : val G S e = some (.v (.int .i64 q))) (hr : -9223372036854775808 ≤ p + q ∧ p + q ≤ 9223372036854775807) (hq : p + q = r) :
  Ev P G N (.binOp .add xt u e yt) ty S L (.v (.int .i64 r)) := hq ▸ QU h1 h2 hr
theorem Qk {xt yt : TypeId} {u e : Operand} {p q r : Int} (h1 : val G S u = some (.v (.int .i64 p))) (h2 : val G S e = some (.v (.int .i64 q))) (hr : -9223372036854775808 ≤ p - q ∧ p - q ≤ 9223372036854775807) (hq : p - q = r) :
  Ev P G N (.binOp .sub xt u e yt) ty S L (.v (.int .i64 r)) := hq ▸ QT h1 h2 hr
end
end Go.Ac
namespace Go.Ac
theorem roundN {Q : AQ} {S0 S : SL} {n : Nat} {Lz next L : List LB} (h : Wk (n + 1) S L [] (next ++ [.pin])) : roundQ Q S0 n Lz next .normal S L := h
end Go.Ac
namespace Go.Ac
theorem roundNP {φ : Prop} {Q : AQ} {S0 S : SL} {n : Nat} {Lz next L : List LB} (hφ : φ) (h : Wk (n + 1) S L [] (next ++ [.pin])) : roundQP φ Q S0 n Lz next .normal S L := ⟨hφ, h⟩
theorem roundRP {φ : Prop} {Q : AQ} {S0 S : SL} {n : Nat} {Lz next L : List LB} (L' : List LB) (h : Wk (n + 1) S L [] (L' ++ [.pin])) (hok : okL Lz n L' = true) (hq : Q .ret S0 L') : roundQP φ Q S0 n Lz next .ret S L := ⟨L', h, hok, hq⟩
end Go.Ac
end
section
namespace Go.Ac
section
variable {P : Program} {td : TDs} [T : TOK P td] {G : Glo} {N : Nat} {Q : AQ} {S : SL} {L : List LB} {ty : TypeId} {x : AV}
def bytesL (l : List UInt8) : List (List AV) := l.map fun b => [.v (.int .u8 b.toNat)]
theorem bytesL_len (l : List UInt8) : (bytesL l).length = l.length := List.length_map ..
theorem bytesL_get {l : List UInt8} {j : Nat} (hj : j < l.length) : (bytesL l)[j]? = some [.v (.int .u8 l[j].toNat)] := by
 simp [bytesL, hj]
theorem bts_cells {F : Nat → Prop} {w : World} {l : List UInt8} {b off : Nat} (h : EF F w 1 (bytesL l) b off) : ∀ j (hj : j < l.length), w.cell? ((⟨b, off, none⟩ : Addr).add j) = some (.int .u8 (l[j].toNat : Int)) := by
 intro j hj
 have hplain : (⟨b, off, none⟩ : Addr).add j = ⟨b, off + j, none⟩ := by unfold Addr.add; split <;> simp_all
 obtain ⟨_, hm⟩ := h.get (bytesL_get hj)
 obtain ⟨u, h1, h2, _⟩ := hm.get (i := 0) (x := .v (.int .u8 l[j].toNat)) rfl
 simp only [RF] at h2
 subst h2
 rw [hplain]
 simpa using h1
theorem run_bts {F : Nat → Prop} {w : World} {t1 t2 e : Nat} {d1 d2 ed : TD} {l : List UInt8} {n : Nat} {a : Option Addr} {cap : Nat} (h1 : lk td t1 = some d1) (k1 : d1.k = .slice e) (h2 : lk td t2 = some d2) (k2 : d2.k = .str) (he : lk td e = some ed) (ke : ed.k = .int .u8)
  (hn : n = l.length) (ha : n ≠ 0 → ∃ b off, a = some ⟨b, off, none⟩ ∧ EF F w 1 (bytesL l) b off) : (convert t1 t2 (.slice a n cap)).run P w = .ok (.string ⟨l.toArray⟩) w := by
 have q1 := zH (P := P) h1 k1
 have q2 := Qs (P := P) h2 k2
 have q3 := yQ (P := P) he ke
 subst hn
 cases a with
 | none =>
  have : l = [] := by
   cases l with
   | nil => rfl
   | cons b r => obtain ⟨_, _, e, _⟩ := ha (by simp); cases e
  subst this
  rw [run_convert_bytes_string w t1 t2 e none _ cap q1 q3 q2]
  simp [Conv.bytesToString]
  rfl
 | some a =>
  refine Go.run_convert_bytes_back w t1 t2 e a cap l q1 q3 q2 fun j hj => ?_
  obtain ⟨b, off, e1, h⟩ := ha (by omega)
  cases e1
  exact bts_cells h j hj
theorem yX {t1 t2 e n : Nat} {d1 d2 ed : TD} {u : Operand} {l : List UInt8} {es : List (List AV)} {s : ByteArray} (h : val G S u = some (.fs 1 n es)) (h1 : lk td t1 = some d1) (k1 : d1.k = .slice e) (h2 : lk td t2 = some d2) (k2 : d2.k = .str) (he : lk td e = some ed) (ke : ed.k = .int .u8)
  (hes : es = bytesL l) (hs : (⟨l.toArray⟩ : ByteArray) = s) : Ev P G N (.convert t1 t2 u) ty S L (.v (.string s)) := by
 subst hes hs
 intro o ho _ cx a hc
 have e1 := zn hc h
 simp only [R, RF] at e1
 obtain ⟨hl, ad, cap, ea, hcap, hm⟩ := e1
 refine ⟨.string ⟨l.toArray⟩, ?_, by simp only [R]⟩
 simp only [execOp, ho, ea, Sem.run_bind]
 rw [run_bts (F := cx.F) h1 k1 h2 k2 he ke (by rw [← hl, bytesL_len]) (fun hn => by obtain ⟨b, off, e2, _, h⟩ := hm hn; exact ⟨b, off, e2, h⟩)]
 simp
end
end Go.Ac
namespace Go.Ac
section
variable {P : Program} {G : Glo} {N : Nat} {Q : AQ} {S : SL} {L : List LB}
theorem wa {c y : Code} (n : Nat) (S1 : SL) (L1 : List LB) (h : awp P G N c (thenQ (fun S L => Wk n S L S1 L1) Q) S L) (k : awp P G N y Q S1 L1) : awp P G N c (thenQ (fun S L => awp P G N y Q S L) Q) S L := by
 refine Qb (fun e S' L' q => ?_) h
 cases e with
 | normal => exact JA q k
 | ret => exact q
 | _ => exact q
end
end Go.Ac
namespace Go.Ac
section
variable {P : Program} {G : Glo} {N : Nat} {Q : AQ} {S : SL} {L : List LB}
theorem awp_cutB {c y : Code} {id : Nat} (n : Nat) (S1 : SL) (L1 : List LB) (h : awp P G N c (blockQ id (thenQ (fun S L => Wk n S L S1 L1) Q)) S L) (k : awp P G N y Q S1 L1) : awp P G N c (blockQ id (thenQ (fun S L => awp P G N y Q S L) Q)) S L := by
 refine Qb (fun e S' L' q => ?_) h
 cases e with
 | normal => exact JA q k
 | exit id' =>
  simp only [blockQ] at q ⊢
  split
  ·rename_i e; rw [if_pos e] at q; exact JA q k
  ·rename_i e; rw [if_neg e] at q; exact q
 | _ => exact q
end
end Go.Ac
namespace Go.Ac
section
variable {P : Program} {G : Glo} {N : Nat} {Q : AQ} {S : SL} {L : List LB}
theorem awp_cutBP {c y : Code} {id : Nat} (n : Nat) (φ : Prop) (S1 : SL) (L1 : List LB) (h : awp P G N c (blockQ id (thenQ (fun S L => φ ∧ Wk n S L S1 L1) Q)) S L) (k : φ → awp P G N y Q S1 L1) : awp P G N c (blockQ id (thenQ (fun S L => awp P G N y Q S L) Q)) S L := by
 refine Qb (fun e S' L' q => ?_) h
 cases e with
 | normal => exact JA q.2 (k q.1)
 | exit id' =>
  simp only [blockQ] at q ⊢
  split
  ·rename_i e; rw [if_pos e] at q; exact JA q.2 (k q.1)
  ·rename_i e; rw [if_neg e] at q; exact q
 | _ => exact q
end
end Go.Ac
namespace Go.Ac
section
variable {P : Program} {G : Glo} {N : Nat} {Sb D : SL} {rest : List Oper} {op : Op} {ty : TypeId} {pos : String} {af : Array Edge} {dst : Option Tmp} {C : SL → List LB → Prop} {nb : Nat} {W : DW}
theorem isD_kn {j t : Nat} {want b c : Bool} (hDj : D[j]? = some (t, .v (.bool b))) (hb : b = c) (k : awpD P G N C Sb nb (⟨dst, op, ty, pos, af, some (j, want)⟩ :: rest) D W) : awpD P G N C Sb nb (⟨dst, op, ty, pos, af, some (j, want)⟩ :: rest) D W := k
end
end Go.Ac
end
namespace Go.Ac
section
section
variable {F : Fence} {n : Nat} {P : Program} {Q Q' : Exit → Act → World → Prop} (hq : ∀ e a w, e ≠ .normal → Q e a w → Q' e a w)
include hq
theorem uponIn_monoN {o : Oper} {a : Act} {K K' : Act → World → Prop} (hk : ∀ a w, K a w → K' a w) (r : Result Next) (h : o.uponIn F n P a K Q r) : o.uponIn F n P a K' Q' r := by
 cases r with
 | ok x w' =>
  cases x <;> simp only [Oper.uponIn] at h ⊢ <;>
   first
    | exact hk _ _ h
    | exact ⟨h.1, CallsIn.mono h.2 (fun e w'' he => by cases e <;> first | exact hk _ _ he | exact hq _ _ _ (by simp) he | exact (let ⟨a, w, h⟩ := he; ⟨a, w, hq _ _ _ (by simp) h⟩))⟩
    | exact ⟨h.1, RowsIn.mono h.2 (fun _ _ he => hk _ _ he)⟩
    | exact ⟨h.1, RoundIn.mono h.2 (fun e w'' he => by cases e <;> first | exact hk _ _ he | exact hq _ _ _ (by simp) he | exact (let ⟨a, w, h⟩ := he; ⟨a, w, hq _ _ _ (by simp) h⟩))⟩
 | halt x w' => cases x <;> simp only [Oper.uponIn] at h ⊢ <;> exact hq _ _ _ (by simp) h
theorem WV {o : Oper} {a : Act} {w : World} {K K' : Act → World → Prop} (hk : ∀ a w, K a w → K' a w) (h : o.wpIn F n P a w K Q) : o.wpIn F n P a w K' Q' := ⟨h.1, uponIn_monoN hq hk _ h.2⟩
end
def tailOk : Nat → List Oper → Bool
 | _, [] => true
 | i, o :: r => (List.range i).all (hasE o.after.toList) && (o.after.toList.all fun e => !(Region.binds .any e) || Nat.blt e.on i) && tailOk (i + 1) r
theorem QK : ∀ {l : List Oper} {i k : Nat} {o : Oper}, tailOk i l = true → l[k]? = some o → (∀ m, m < i + k → hasE o.after.toList m = true) ∧ ∀ e ∈ o.after.toList, Region.binds .any e = true → e.on < i + k
 | [], _, k, o, _, h => by simp at h
 | o0 :: r, i, k, o, ht, h => by
  simp only [tailOk, Bool.and_eq_true] at ht
  obtain ⟨⟨h1, h2⟩, h3⟩ := ht
  cases k with
  | zero =>
   simp at h; subst h
   refine ⟨fun m hm => List.all_eq_true.1 h1 m (by simpa using hm), fun e he hb => ?_⟩
   have := List.all_eq_true.1 h2 e he
   simp only [hb, Bool.not_true, Bool.false_or] at this
   simpa using zK this
  | succ k =>
   have := QK h3 (by simpa using h)
   rw [show i + 1 + k = i + (k + 1) by omega] at this
   exact this
def gdOk (n : Nat) (l : List Oper) : Bool := l.all fun o => match o.guard with
 | some (j, _) => Nat.blt j n
 | none => true
section
variable {F : Fence} {n : Nat} {P : Program} {Q : Exit → Act → World → Prop} {l1 l2 : List Oper}
theorem zR {A : Array Bool} {i : Nat} (h : i < A.size) : A.getD i true = A.getD i false := by
 simp [Array.getD_eq_getD_getElem?, h]
theorem tail_run (ht : tailOk l1.length l2 = true) : ∀ (d k : Nat), d + k = l2.length → ∀ (listed : Array Bool) (a : Act) (w : World), listed.size = (l1 ++ l2).length →
  (∀ i, i < l1.length + k → listed.getD i false = true) → (∀ i, l1.length + k ≤ i → i < (l1 ++ l2).length → listed.getD i false = false) →
  wpListIn F n P (l1 ++ l2).toArray Q (l2.drop k) a w → ∀ fuel, d ≤ fuel → wpAnyIn F n P .any (l1 ++ l2).toArray Q fuel listed a w := by
 intro d
 induction d with
 | zero =>
  intro k hk listed a w hsz h1 h2 h fuel _
  rw [List.drop_of_length_le (by omega)] at h
  have hr : Region.ready .any (l1 ++ l2).toArray listed = [] := by
   cases hq : Region.ready .any (l1 ++ l2).toArray listed with
   | nil => rfl
   | cons i r =>
    have hi : i ∈ Region.ready .any (l1 ++ l2).toArray listed := by rw [hq]; exact List.mem_cons_self ..
    rw [mem_ready] at hi
    obtain ⟨h0, o, ho, _⟩ := hi
    have hil : i < (l1 ++ l2).length := by have := (Array.getElem?_eq_some_iff.1 ho).1; simpa using this
    rw [zR (by omega), h1 i (by simp at hil; omega)] at h0
    cases h0
  cases fuel with
  | zero => exact ⟨hr, h⟩
  | succ f => exact ⟨fun _ => h, fun i hi => by rw [hr] at hi; cases hi⟩
 | succ d ih =>
  intro k hk listed a w hsz h1 h2 h fuel hf
  obtain ⟨f, rfl⟩ : ∃ f, fuel = f + 1 := ⟨fuel - 1, by omega⟩
  obtain ⟨o, ho⟩ : ∃ o, l2[k]? = some o := ⟨_, List.getElem?_eq_getElem (by omega)⟩
  have hgo : (l1 ++ l2).toArray[l1.length + k]? = some o := by rw [List.getElem?_toArray, List.getElem?_append_right (Nat.le_add_right _ _), Nat.add_sub_cancel_left]; exact ho
  have hlt : l1.length + k < (l1 ++ l2).length := by simp; omega
  obtain ⟨t1, t2⟩ := QK ht ho
  have hme : l1.length + k ∈ Region.ready .any (l1 ++ l2).toArray listed := by
   rw [mem_ready]
   exact ⟨by rw [zR (by omega)]; exact h2 _ (Nat.le_refl _) hlt, o, hgo, fun e he hb => h1 _ (t2 e (by simpa using he) hb)⟩
  refine ⟨fun hr => (by rw [hr] at hme; cases hme), fun i hi => ?_⟩
  have hii : i = l1.length + k := by
   rw [mem_ready] at hi
   obtain ⟨h0, o', ho', haft⟩ := hi
   have hil : i < (l1 ++ l2).length := by have := (Array.getElem?_eq_some_iff.1 ho').1; simpa using this
   rw [zR (by omega)] at h0
   rcases Nat.lt_trichotomy i (l1.length + k) with g | g | g
   ·rw [h1 i g] at h0; cases h0
   ·exact g
   ·obtain ⟨j, rfl⟩ : ∃ j, i = l1.length + j := ⟨i - l1.length, by omega⟩
    have ho2 : l2[j]? = some o' := by rw [List.getElem?_toArray, List.getElem?_append_right (Nat.le_add_right _ _), Nat.add_sub_cancel_left] at ho'; exact ho'
    obtain ⟨e, he, hb, hon⟩ := zX ((QK ht ho2).1 (l1.length + k) g)
    have := haft e (by simpa using he) hb
    rw [hon, h2 _ (Nat.le_refl _) hlt] at this
    cases this
  subst hii
  unfold wpOpIn
  simp only [hgo]
  have hd : l2.drop k = o :: l2.drop (k + 1) := by
   obtain ⟨hl, rfl⟩ := List.getElem?_eq_some_iff.1 ho
   exact List.drop_eq_getElem_cons hl
  rw [hd] at h
  have next : ∀ a w, wpListIn F n P (l1 ++ l2).toArray Q (l2.drop (k + 1)) a w → wpAnyIn F n P .any (l1 ++ l2).toArray Q f (listed.setIfInBounds (l1.length + k) true) a w := by
   intro a w h
   refine ih (k + 1) (by omega) _ a w (by simpa using hsz) (fun i hi => ?_) (fun i hi hil => ?_) h f (by omega)
   ·by_cases e : l1.length + k = i
    ·subst e; simp [Array.getD_eq_getD_getElem?, hsz, hlt]; omega
    ·rw [getD_set_ne false e]; exact h1 i (by omega)
   ·rw [getD_set_ne false (by omega)]; exact h2 i (by omega) hil
  simp only [wpListIn] at h
  split at h
  ·rename_i hw
   rw [if_pos hw]
   exact Oper.wpIn_mono next h
  ·rename_i hw
   rw [if_neg hw]
   exact ⟨h.1, next _ _ h.2⟩
theorem body_run {N : Nat} (ht : tailOk l1.length l2 = true) (hg : gdOk l1.length l1 = true) (hk : drawOk N 0 [] l1 = true) {Qt : Exit → Act → World → Prop} (hq : ∀ e a w, e ≠ .normal → Qt e a w → Q e a w)
  (hn : ∀ a w, Qt .normal a w → wpListIn F n P (l1 ++ l2).toArray Q l2 a w) : ∀ (fuel1 : Nat) (listed1 listed : Array Bool) (a : Act) (w : World), listed1.size = l1.length → listed.size = (l1 ++ l2).length →
   (∀ i, i < l1.length → listed.getD i false = listed1.getD i false) → (∀ i, l1.length ≤ i → i < (l1 ++ l2).length → listed.getD i false = false) →
   wpAnyIn F n P .any l1.toArray Qt fuel1 listed1 a w → ∀ fuel, fuel1 + l2.length ≤ fuel → wpAnyIn F n P .any (l1 ++ l2).toArray Q fuel listed a w := by
 have back : ∀ (i : Nat) (o : Oper), l1[i]? = some o → ∀ e ∈ o.after.toList, Region.binds .any e = true → e.on < i := fun i o ho e he hb => by
  have := (Zu hk i o ho).2 e (by simpa using he) hb
  omega
 intro fuel1
 induction fuel1 with
 | zero =>
  intro listed1 listed a w hs1 hs heq hfa h fuel hf
  have all : ∀ i, i < l1.length → listed1.getD i false = true := by
   intro i
   induction i using Nat.strongRecOn with
   | _ i ih =>
    intro hi
    cases hl : listed1.getD i false with
    | true => rfl
    | false =>
     have : i ∈ Region.ready .any l1.toArray listed1 := by
      rw [mem_ready]
      refine ⟨by rw [zR (by omega)]; exact hl, l1[i], by simp [hi], fun e he hb => ?_⟩
      have := back i _ (List.getElem?_eq_getElem hi) e (by simpa using he) hb
      exact ih e.on this (by omega)
     rw [h.1] at this; cases this
  exact tail_run ht l2.length 0 (by omega) listed a w hs (fun i hi => by rw [heq i (by omega)]; exact all i (by omega)) (fun i hi hil => hfa i (by omega) hil) (hn a w h.2) fuel (by omega)
 | succ f1 ih =>
  intro listed1 listed a w hs1 hs heq hfa h fuel hf
  by_cases hr : Region.ready .any l1.toArray listed1 = []
  ·have all : ∀ i, i < l1.length → listed1.getD i false = true := by
    intro i
    induction i using Nat.strongRecOn with
    | _ i ih =>
     intro hi
     cases hl : listed1.getD i false with
     | true => rfl
     | false =>
      have : i ∈ Region.ready .any l1.toArray listed1 := by
       rw [mem_ready]
       refine ⟨by rw [zR (by omega)]; exact hl, l1[i], by simp [hi], fun e he hb => ?_⟩
       have := back i _ (List.getElem?_eq_getElem hi) e (by simpa using he) hb
       exact ih e.on this (by omega)
      rw [hr] at this; cases this
   exact tail_run ht l2.length 0 (by omega) listed a w hs (fun i hi => by rw [heq i (by omega)]; exact all i (by omega)) (fun i hi hil => hfa i (by omega) hil) (hn a w (h.1 hr)) fuel (by omega)
  ·obtain ⟨f, rfl⟩ : ∃ f, fuel = f + 1 := ⟨fuel - 1, by omega⟩
   obtain ⟨i0, hi0⟩ := List.exists_mem_of_ne_nil _ hr
   have hi0' := hi0
   rw [mem_ready] at hi0'
   obtain ⟨z0, o0, zo, za⟩ := hi0'
   have hl0 : i0 < l1.length := by have := (Array.getElem?_eq_some_iff.1 zo).1; simpa using this
   rw [zR (by omega)] at z0
   have up : ∀ i, i ∈ Region.ready .any (l1 ++ l2).toArray listed ↔ i ∈ Region.ready .any l1.toArray listed1 := by
    intro i
    rw [mem_ready, mem_ready]
    constructor
    ·rintro ⟨h0, o, ho, haft⟩
     have hil : i < (l1 ++ l2).length := by have := (Array.getElem?_eq_some_iff.1 ho).1; simpa using this
     rw [zR (by omega)] at h0
     rcases Nat.lt_or_ge i l1.length with g | g
     ·have ho1 : l1[i]? = some o := by rw [List.getElem?_toArray, List.getElem?_append_left g] at ho; exact ho
      refine ⟨by rw [zR (by omega), ← heq i g]; exact h0, o, by simpa using ho1, fun e he hb => ?_⟩
      have := back i o ho1 e (by simpa using he) hb
      rw [← heq _ (by omega)]; exact haft e he hb
     ·exfalso
      obtain ⟨j, rfl⟩ : ∃ j, i = l1.length + j := ⟨i - l1.length, by omega⟩
      have ho2 : l2[j]? = some o := by rw [List.getElem?_toArray, List.getElem?_append_right (Nat.le_add_right _ _), Nat.add_sub_cancel_left] at ho; exact ho
      obtain ⟨e, he, hb, hon⟩ := zX ((QK ht ho2).1 i0 (by omega))
      have := haft e (by simpa using he) hb
      rw [hon, heq i0 hl0, z0] at this
      cases this
    ·rintro ⟨h0, o, ho, haft⟩
     have g : i < l1.length := by have := (Array.getElem?_eq_some_iff.1 ho).1; simpa using this
     have ho1 : l1[i]? = some o := by simpa using ho
     rw [zR (by omega)] at h0
     refine ⟨by rw [zR (by simp at hs; omega), heq i g]; exact h0, o, by rw [List.getElem?_toArray, List.getElem?_append_left g]; exact ho1, fun e he hb => ?_⟩
     have := back i o ho1 e (by simpa using he) hb
     rw [heq _ (by omega)]; exact haft e he hb
   refine ⟨fun hr2 => ?_, fun i hi => ?_⟩
   ·have := (up i0).2 hi0
    rw [hr2] at this; cases this
   ·have hi1 := (up i).1 hi
    have hw := h.2 i hi1
    rw [mem_ready] at hi1
    obtain ⟨h0, o, ho, haft⟩ := hi1
    have g : i < l1.length := by have := (Array.getElem?_eq_some_iff.1 ho).1; simpa using this
    have ho1 : l1[i]? = some o := by simpa using ho
    have hoc : (l1 ++ l2).toArray[i]? = some o := by rw [List.getElem?_toArray, List.getElem?_append_left g]; exact ho1
    unfold wpOpIn at hw ⊢
    simp only [ho, hoc] at hw ⊢
    have hwant : Region.wanted o (yielded (l1 ++ l2).toArray a.tmps) = Region.wanted o (yielded l1.toArray a.tmps) := by
     unfold Region.wanted
     have hgo := List.all_eq_true.1 hg o (List.mem_of_getElem? ho1)
     split
     ·rfl
     ·rename_i j want he
      rw [he] at hgo
      have hj := zK hgo
      have : yielded (l1 ++ l2).toArray a.tmps j = yielded l1.toArray a.tmps j := by
       unfold yielded
       rw [List.getElem?_toArray, List.getElem?_toArray, List.getElem?_append_left hj]
      rw [this]
    rw [hwant]
    have next : ∀ a w, wpAnyIn F n P .any l1.toArray Qt f1 (listed1.setIfInBounds i true) a w → wpAnyIn F n P .any (l1 ++ l2).toArray Q f (listed.setIfInBounds i true) a w := by
     intro a w h
     refine ih _ _ a w (by simpa using hs1) (by simpa using hs) (fun j hj => ?_) (fun j hj hjl => ?_) h f (by omega)
     ·by_cases e : i = j
      ·subst e
       have : i < listed.size := by simp at hs; omega
       simp [Array.getD_eq_getD_getElem?, hs1, g, this]
      ·rw [getD_set_ne false e, getD_set_ne false e]; exact heq j hj
     ·rw [getD_set_ne false (by omega)]; exact hfa j hj hjl
    split at hw
    ·rename_i hq2
     rw [if_pos hq2]
     exact WV hq next hw
    ·rename_i hq2
     rw [if_neg hq2]
     exact ⟨hw.1, next _ _ hw.2⟩
end
section
variable {P : Program} {td : TDs} [T : TOK P td] {G : Glo} {N : Nat} {Q : AQ} {S Sb : SL} {L : List LB} {l l1 l2 : List Oper}
theorem zC (n : Nat) {id : Nat} {ds : List Nat} (h1 : l.take n = l1) (h2 : l.drop n = l2) (hm : P.follows .mixedOrders = true) (hk : drawOk N 0 [] l1 = true) (ht : tailOk l1.length l2 = true) (hg : gdOk l1.length l1 = true) (hds : dsts l1 = ds) (hS : Strip ds S Sb)
  (h : awpD P G N (fun S' L' => awpL P G N l.toArray l2 Q S' L') Sb L.length l1 [] ⟨L, [], [], false⟩) : awp P G N (.region id l.toArray true) Q S L := by
 have hl : l = l1 ++ l2 := by rw [← h1, ← h2, List.take_append_drop]
 subst hl
 clear h1 h2
 have hb : (Sb.all fun p => !(l1.any fun o => match o.dst with | some d => Nat.beq d p.1 | none => false)) = true := by
  rw [List.all_eq_true]
  rintro ⟨t, x⟩ hp
  have hm := Jm hS t x hp
  rw [Bool.not_eq_true', List.any_eq_false]
  intro o ho
  cases hd : o.dst with
  | none => simp
  | some d =>
   have hdm : d ∈ ds := by rw [← hds]; exact List.mem_filterMap.2 ⟨o, ho, hd⟩
   simp only [Bool.not_eq_true]
   cases he : Nat.beq d t with
   | false => rfl
   | true =>
    have := Nat.eq_of_beq_eq_true he
    subst this
    rw [WC hdm] at hm; cases hm
 intro cx a hc
 refine wpIn_region_any hm ?_
 have hA := y5 (Q := thenQ (fun S' L' => awpL P G N (l1 ++ l2).toArray l2 Q S' L') Q) hk (fun t x hx => (hS.get t x hx).1) hb h cx a hc
 refine body_run ht hg hk (Qt := conc G N (thenQ (fun S' L' => awpL P G N (l1 ++ l2).toArray l2 Q S' L') Q) cx) (fun e a w hne q => ?_) (fun a w q => ?_) _ _ _ _ _ (by simp) (by simp) (fun i hi => ?_) (fun i hi hil => ?_) hA _ (by simp)
 ·obtain ⟨S', L', c', q1, q2, q3, q4⟩ := q
  refine ⟨S', L', c', ?_, q2, q3, q4⟩
  cases e with
  | normal => exact absurd rfl hne
  | _ => exact q1
 ·obtain ⟨S', L', c', q1, q2, q3, q4⟩ := q
  subst q4
  exact zq (fun e a w r => r.trans q3) _ _ _ (q1 c' a q2)
 ·have hi2 : i < l1.length + l2.length := by omega
  simp [Array.getD_eq_getD_getElem?, hi, hi2]
 ·simp at hil
  simp [Array.getD_eq_getD_getElem?, hil]
end
end
section
inductive Mut : List Nat → Prop
 | of (M : List Nat) : Mut M
section
variable {P : Program} {td : TDs} [T : TOK P td] {G : Glo} {N : Nat} {Q : AQ} {S : SL} {L : List LB} {ops : Array Oper} {rest : List Oper} {ty : TypeId} {pos : String} {af : Array Edge} {d : Nat} {x : AV}
theorem Q5 {M : List Nat} (m : Mut M) {t : TypeId} {u : Operand} (hm : notIn d M = true) (h : val G S u = some x) (hf : fit x = true) (hF : (cellsOf x).all isF = true) {x' : AV} (hx : AV.fp (cellsOf x) = x') (hd : Nat.blt d N = true)
  (k : awpL P G N ops rest Q ((d, x') :: S) L) : awpL P G N ops (⟨some d, .box t u, ty, pos, af, none⟩ :: rest) Q S L := awpL_boxM M hm h hf hF hx hd k
theorem Jc {M : List Nat} (m : Mut M) {t p : Nat} {d : TD} {e : Operand} {k : Nat} {bs : List AV} {L' : List LB} (hm : notIn p M = true) (h : get S p = some (.lp k 0)) (hk : L[k]? = some (.box bs)) (he : val G S e = some x) (hfx : fit x = true) (hF : (cellsOf x).all isF = true) (ht : lk td t = some d)
  (hn : (cellsOf x).length = d.size) (hq : bs.length = d.size) {x' : AV} (hx : AV.fp (cellsOf x) = x') (hL : L.set k .dead = L') (kk : awpL P G N ops rest Q ((p, x') :: S) L') : awpL P G N ops (⟨none, .store t (.tmp p) e, ty, pos, af, none⟩ :: rest) Q S L := awpL_stM M hm h hk he hfx hF ht hn hq hx hL kk
end
structure Left (B : Prop) : Prop where
 out : B
theorem run (M : List Nat) {A B : Prop} (k : B) (h : Mut M → Left B → A := by
  intro m k
  repeat' (first
   | ((with_reducible refine zg ?_); (first | ((with_reducible refine WG ?_); (first | refine zb (Ql rfl) rfl ?_ | fail)) | ((with_reducible refine is_bin ?_); (first | refine zb (QU rfl rfl (by omega)) rfl ?_ | refine zb (QT rfl rfl (by omega)) rfl ?_ | refine zb (qZ rfl rfl rfl) rfl ?_ | refine zb (ev_eq_bool rfl rfl rfl rfl) rfl ?_ | fail)) | ((with_reducible refine is_fa ?_); (first | refine zb (qA rfl rfl rfl rfl rfl rfl) rfl ?_ | refine zb (qz rfl rfl rfl rfl rfl rfl rfl) rfl ?_ | refine zb (qB rfl rfl rfl rfl rfl rfl rfl) rfl ?_ | fail)) | ((with_reducible refine WH ?_); (first | refine zb (Zs rfl rfl rfl rfl) rfl ?_ | refine zb (Zq rfl rfl rfl rfl rfl) rfl ?_ | refine zb (Zr rfl rfl rfl rfl) rfl ?_ | refine zb (Z4 rfl rfl rfl rfl rfl rfl rfl) rfl ?_ | refine zb (ZP rfl rfl rfl rfl rfl rfl) rfl ?_ | refine zb (Z3 rfl rfl rfl rfl rfl) rfl ?_ | refine zb (Z7 rfl rfl rfl rfl (by with_reducible assumption) rfl) rfl ?_ | fail)) | ((with_reducible refine WF ?_); (first | refine zb (Z0 rfl qa0 rfl) rfl ?_ | refine zb (Z1 rfl qa0 rfl) rfl ?_ | fail)) | ((with_reducible refine jT ?_); (first | refine zb (Z8 rfl) rfl ?_ | fail)) | ((with_reducible refine WI ?_); (first | refine qn rfl rfl (by assumption) rfl ?_ | refine zb (jA rfl rfl rfl rfl rfl) rfl ?_ | refine zb (jz rfl rfl) rfl ?_ | refine zb (jy rfl rfl) rfl ?_ | refine zb (Z5 rfl rfl rfl rfl rfl) rfl ?_ | refine zk (ev_append_zf rfl rfl rfl rfl rfl rfl rfl rfl rfl rfl rfl rfl rfl (by simp only [List.length_map, List.length_cons, List.length_nil]; omega) rfl) rfl ?_ | fail)) | ((with_reducible refine JQ ?_); (first | refine Jc m rfl rfl rfl rfl rfl rfl rfl rfl rfl (by (try simp only [cellsOf, List.map_cons, List.map_nil]); (try rfl)) qc0 ?_ | refine Zk (qf rfl rfl rfl rfl rfl rfl rfl qc0) ?_ | fail)) | ((with_reducible refine JS ?_); (first | refine zk (QB rfl rfl qf0 qc0) rfl ?_ | fail)) | ((with_reducible refine is_box ?_); (first | refine Q5 m rfl rfl rfl rfl (by (try simp only [cellsOf, List.map_cons, List.map_nil]); (try rfl)) rfl ?_ | refine zk (yY rfl rfl qf0 qc0) rfl ?_ | fail)) | refine zb (qy rfl rfl rfl rfl rfl rfl (by with_reducible assumption)) rfl ?_ | refine zb (jv rfl) rfl ?_ | refine zb (ZL rfl rfl) rfl ?_ | refine zb (Zi rfl rfl rfl rfl (by with_reducible assumption)) rfl ?_ | refine zb (qC rfl rfl rfl rfl rfl rfl rfl) rfl ?_ | refine zb (zw rfl rfl rfl rfl rfl rfl rfl (by with_reducible assumption) rfl rfl) rfl ?_ | refine zb (Zp rfl rfl) rfl ?_ | refine zb (ev_nilCheck_fp rfl) rfl ?_ | refine zb (zE rfl rfl rfl rfl rfl rfl rfl (by with_reducible assumption)) rfl ?_ | refine zb (qx rfl rfl rfl rfl rfl rfl rfl (by with_reducible assumption)) rfl ?_ | refine zb (zU rfl rfl rfl rfl rfl rfl) rfl ?_ | refine zb (zQ rfl rfl) rfl ?_ | refine zk (Zt rfl rfl rfl rfl rfl rfl rfl) rfl ?_ | refine zk (zV rfl rfl rfl rfl rfl rfl rfl rfl rfl rfl rfl rfl (by (try simp only [List.map_cons, List.map_nil, cellsOf]); (try rfl))) rfl ?_))
   | ((with_reducible refine zr ?_); (first | refine wb rfl rfl rfl qa0 ?_ | refine Q2 rfl rfl rfl rfl qa0 ?_ | refine Q3 rfl rfl rfl rfl qa0 ?_ | refine Q1 rfl rfl rfl rfl ?_ | fail))
   | ((with_reducible refine is_nil ?_); refine wc ?_)
   | ((with_reducible refine WE ?_); (first | refine Wx ?_ | refine JE ?_ | refine Wy ?_ | fail))
   | ((with_reducible refine JR ?_); (first | refine J4 ?_ | refine jF ?_ | refine J5 ?_ | refine J3 rfl ?_ | fail))
   | ((with_reducible refine zJ ?_); (first | refine awp_drawA (by kernel_rfl) rfl rfl (by repeat' (first | exact Strip.nil | apply Strip.keep rfl | apply Strip.drop rfl)) ?_ | fail))
   | ((with_reducible refine zu ?_); (first | ((with_reducible refine isD_st ?_); refine Q6 rfl qc0 (qf rfl rfl rfl rfl rfl rfl rfl qc0) rfl qb0 ?_) | ((with_reducible refine isD_al ?_); refine awpD_nw rfl qd0 (QB rfl rfl qf0 qc0) rfl rfl rfl rfl rfl qc0 qb0 ?_) | ((with_reducible refine jV ?_); (first | refine zc (zh (fun _ => Ql rfl) rfl rfl) qb0 ?_ | fail)) | ((with_reducible refine JT ?_); (first | refine zc (zh (fun _ => QU rfl rfl (by omega)) rfl rfl) qb0 ?_ | refine zc (zh (fun _ => QT rfl rfl (by omega)) rfl rfl) qb0 ?_ | refine zc (zh (fun _ => qZ rfl rfl rfl) rfl rfl) qb0 ?_ | refine zc (zh (fun _ => ev_eq_bool rfl rfl rfl rfl) rfl rfl) qb0 ?_ | fail)) | ((with_reducible refine WJ ?_); (first | refine zc (zh (fun _ => qA rfl rfl rfl rfl rfl rfl) rfl rfl) qb0 ?_ | refine zc (zm rfl qd0 (qz rfl rfl rfl rfl rfl rfl rfl) rfl rfl rfl) qb0 ?_ | refine zc (zm rfl qd0 (qB rfl rfl rfl rfl rfl rfl rfl) rfl rfl rfl) qb0 ?_ | fail)) | ((with_reducible refine jW ?_); (first | refine zc (zh (fun _ => Zs rfl rfl rfl rfl) rfl rfl) qb0 ?_ | refine zc (zh (fun _ => Zq rfl rfl rfl rfl rfl) rfl rfl) qb0 ?_ | refine zc (zh (fun _ => Zr rfl rfl rfl rfl) rfl rfl) qb0 ?_ | refine zc (zm rfl qd0 (Z4 rfl rfl rfl rfl rfl rfl rfl) rfl rfl rfl) qb0 ?_ | refine zc (zm rfl qd0 (ZP rfl rfl rfl rfl rfl rfl) rfl rfl rfl) qb0 ?_ | refine zc (zm rfl qd0 (Z3 rfl rfl rfl rfl rfl) rfl rfl rfl) qb0 ?_ | refine zc (zm rfl qd0 (Z7 rfl rfl rfl rfl (by with_reducible assumption) rfl) rfl rfl rfl) qb0 ?_ | fail)) | ((with_reducible refine jU ?_); (first | refine zc (zh (fun _ => Z0 rfl qa0 rfl) rfl rfl) qb0 ?_ | refine zc (zh (fun _ => Z1 rfl qa0 rfl) rfl rfl) qb0 ?_ | fail)) | ((with_reducible refine Qj ?_); (first | refine zc (zh (fun _ => Z8 rfl) rfl rfl) qb0 ?_ | fail)) | ((with_reducible refine jX ?_); (first | refine zc (Qn rfl rfl (by assumption) rfl) qb0 ?_ | refine zc (zh (fun _ => jA rfl rfl rfl rfl rfl) rfl rfl) qb0 ?_ | refine zc (zh (fun _ => jz rfl rfl) rfl rfl) qb0 ?_ | refine zc (zh (fun _ => jy rfl rfl) rfl rfl) qb0 ?_ | refine zc (zm rfl qd0 (Z5 rfl rfl rfl rfl rfl) rfl rfl rfl) qb0 ?_ | refine zc (qF (fun _ => ev_append_zf rfl rfl rfl rfl rfl rfl rfl rfl rfl rfl rfl rfl rfl (by simp only [List.length_map, List.length_cons, List.length_nil]; omega) rfl) rfl rfl) qb0 ?_ | fail)) | refine zc (zh (fun _ => qy rfl rfl rfl rfl rfl rfl (by with_reducible assumption)) rfl rfl) qb0 ?_ | refine zc (zh (fun _ => jv rfl) rfl rfl) qb0 ?_ | refine zc (zh (fun _ => ZL rfl rfl) rfl rfl) qb0 ?_ | refine zc (zh (fun _ => Zi rfl rfl rfl rfl (by with_reducible assumption)) rfl rfl) qb0 ?_ | refine zc (zh (fun _ => qC rfl rfl rfl rfl rfl rfl rfl) rfl rfl) qb0 ?_ | refine zc (zh (fun _ => zw rfl rfl rfl rfl rfl rfl rfl (by with_reducible assumption) rfl rfl) rfl rfl) qb0 ?_ | refine zc (zh (fun _ => Zp rfl rfl) rfl rfl) qb0 ?_ | refine zc (zh (fun _ => ev_nilCheck_fp rfl) rfl rfl) qb0 ?_ | refine zc (zh (fun _ => zE rfl rfl rfl rfl rfl rfl rfl (by with_reducible assumption)) rfl rfl) qb0 ?_ | refine zc (zm rfl qd0 (qx rfl rfl rfl rfl rfl rfl rfl (by with_reducible assumption)) rfl rfl rfl) qb0 ?_ | refine zc (zm rfl qd0 (zU rfl rfl rfl rfl rfl rfl) rfl rfl rfl) qb0 ?_ | refine zc (zm rfl qd0 (zQ rfl rfl) rfl rfl rfl) qb0 ?_ | refine zc (qF (fun _ => Zt rfl rfl rfl rfl rfl rfl rfl) rfl rfl) qb0 ?_ | refine zc (qF (fun _ => zV rfl rfl rfl rfl rfl rfl rfl rfl rfl rfl rfl rfl (by (try simp only [List.map_cons, List.map_nil, cellsOf]); (try rfl))) rfl rfl) qb0 ?_ | fail))
   | ((with_reducible refine zp ?_); (first | refine awpD_pT rfl rfl qa0 qb0 ?_ | refine awpD_pF rfl rfl qa0 qb0 ?_ | refine awpD_pU rfl rfl qb0 ?_ | (refine isD_go rfl rfl qa0 ?_; (first | ((with_reducible refine jV ?_); (first | refine zd rfl rfl qa0 (zh (fun _ => Ql rfl) rfl rfl) qb0 ?_ | fail)) | ((with_reducible refine JT ?_); (first | refine zd rfl rfl qa0 (zh (fun _ => QU rfl rfl (by omega)) rfl rfl) qb0 ?_ | refine zd rfl rfl qa0 (zh (fun _ => QT rfl rfl (by omega)) rfl rfl) qb0 ?_ | refine zd rfl rfl qa0 (zh (fun _ => qZ rfl rfl rfl) rfl rfl) qb0 ?_ | refine zd rfl rfl qa0 (zh (fun _ => ev_eq_bool rfl rfl rfl rfl) rfl rfl) qb0 ?_ | fail)) | ((with_reducible refine WJ ?_); (first | refine zd rfl rfl qa0 (zh (fun _ => qA rfl rfl rfl rfl rfl rfl) rfl rfl) qb0 ?_ | refine zd rfl rfl qa0 (zm rfl qd0 (qz rfl rfl rfl rfl rfl rfl rfl) rfl rfl rfl) qb0 ?_ | refine zd rfl rfl qa0 (zm rfl qd0 (qB rfl rfl rfl rfl rfl rfl rfl) rfl rfl rfl) qb0 ?_ | fail)) | ((with_reducible refine jW ?_); (first | refine zd rfl rfl qa0 (zh (fun _ => Zs rfl rfl rfl rfl) rfl rfl) qb0 ?_ | refine zd rfl rfl qa0 (zh (fun _ => Zq rfl rfl rfl rfl rfl) rfl rfl) qb0 ?_ | refine zd rfl rfl qa0 (zh (fun _ => Zr rfl rfl rfl rfl) rfl rfl) qb0 ?_ | refine zd rfl rfl qa0 (zm rfl qd0 (Z4 rfl rfl rfl rfl rfl rfl rfl) rfl rfl rfl) qb0 ?_ | refine zd rfl rfl qa0 (zm rfl qd0 (ZP rfl rfl rfl rfl rfl rfl) rfl rfl rfl) qb0 ?_ | refine zd rfl rfl qa0 (zm rfl qd0 (Z3 rfl rfl rfl rfl rfl) rfl rfl rfl) qb0 ?_ | refine zd rfl rfl qa0 (zm rfl qd0 (Z7 rfl rfl rfl rfl (by with_reducible assumption) rfl) rfl rfl rfl) qb0 ?_ | fail)) | ((with_reducible refine jU ?_); (first | refine zd rfl rfl qa0 (zh (fun _ => Z0 rfl qa0 rfl) rfl rfl) qb0 ?_ | refine zd rfl rfl qa0 (zh (fun _ => Z1 rfl qa0 rfl) rfl rfl) qb0 ?_ | fail)) | ((with_reducible refine Qj ?_); (first | refine zd rfl rfl qa0 (zh (fun _ => Z8 rfl) rfl rfl) qb0 ?_ | fail)) | ((with_reducible refine jX ?_); (first | refine zd rfl rfl qa0 (Qn rfl rfl (by assumption) rfl) qb0 ?_ | refine zd rfl rfl qa0 (zh (fun _ => jA rfl rfl rfl rfl rfl) rfl rfl) qb0 ?_ | refine zd rfl rfl qa0 (zh (fun _ => jz rfl rfl) rfl rfl) qb0 ?_ | refine zd rfl rfl qa0 (zh (fun _ => jy rfl rfl) rfl rfl) qb0 ?_ | refine zd rfl rfl qa0 (zm rfl qd0 (Z5 rfl rfl rfl rfl rfl) rfl rfl rfl) qb0 ?_ | refine zd rfl rfl qa0 (qF (fun _ => ev_append_zf rfl rfl rfl rfl rfl rfl rfl rfl rfl rfl rfl rfl rfl (by simp only [List.length_map, List.length_cons, List.length_nil]; omega) rfl) rfl rfl) qb0 ?_ | fail)) | refine zd rfl rfl qa0 (zh (fun _ => qy rfl rfl rfl rfl rfl rfl (by with_reducible assumption)) rfl rfl) qb0 ?_ | refine zd rfl rfl qa0 (zh (fun _ => jv rfl) rfl rfl) qb0 ?_ | refine zd rfl rfl qa0 (zh (fun _ => ZL rfl rfl) rfl rfl) qb0 ?_ | refine zd rfl rfl qa0 (zh (fun _ => Zi rfl rfl rfl rfl (by with_reducible assumption)) rfl rfl) qb0 ?_ | refine zd rfl rfl qa0 (zh (fun _ => qC rfl rfl rfl rfl rfl rfl rfl) rfl rfl) qb0 ?_ | refine zd rfl rfl qa0 (zh (fun _ => zw rfl rfl rfl rfl rfl rfl rfl (by with_reducible assumption) rfl rfl) rfl rfl) qb0 ?_ | refine zd rfl rfl qa0 (zh (fun _ => Zp rfl rfl) rfl rfl) qb0 ?_ | refine zd rfl rfl qa0 (zh (fun _ => ev_nilCheck_fp rfl) rfl rfl) qb0 ?_ | refine zd rfl rfl qa0 (zh (fun _ => zE rfl rfl rfl rfl rfl rfl rfl (by with_reducible assumption)) rfl rfl) qb0 ?_ | refine zd rfl rfl qa0 (zm rfl qd0 (qx rfl rfl rfl rfl rfl rfl rfl (by with_reducible assumption)) rfl rfl rfl) qb0 ?_ | refine zd rfl rfl qa0 (zm rfl qd0 (zU rfl rfl rfl rfl rfl rfl) rfl rfl rfl) qb0 ?_ | refine zd rfl rfl qa0 (zm rfl qd0 (zQ rfl rfl) rfl rfl rfl) qb0 ?_ | refine zd rfl rfl qa0 (qF (fun _ => Zt rfl rfl rfl rfl rfl rfl rfl) rfl rfl) qb0 ?_ | refine zd rfl rfl qa0 (qF (fun _ => zV rfl rfl rfl rfl rfl rfl rfl rfl rfl rfl rfl rfl (by (try simp only [List.map_cons, List.map_nil, cellsOf]); (try rfl))) rfl rfl) qb0 ?_ | fail)) | fail))
   | ((with_reducible refine isD_nl ?_); refine awpD_done qb0 qc0 ?_)
   | ((with_reducible refine zl ?_); (first | refine WP ?_ | refine J7 ?_ | refine J6 ?_ | refine J9 ?_ | refine awp_label ?_ | refine Ja ?_ | refine QX ?_ | refine QZ rfl qa0 ?_ | refine Q0 rfl qa0 ?_ | fail))
   | fail)
  exact k.out) : A := h (.of M) ⟨k⟩
theorem st (M : List Nat) {A B : Prop} (k : B) (h : Mut M → Left B → A := by
  intro m k
  (first
   | ((with_reducible refine zg ?_); (first | ((with_reducible refine WG ?_); (first | refine zb (Ql rfl) rfl ?_ | fail)) | ((with_reducible refine is_bin ?_); (first | refine zb (QU rfl rfl (by omega)) rfl ?_ | refine zb (QT rfl rfl (by omega)) rfl ?_ | refine zb (qZ rfl rfl rfl) rfl ?_ | refine zb (ev_eq_bool rfl rfl rfl rfl) rfl ?_ | fail)) | ((with_reducible refine is_fa ?_); (first | refine zb (qA rfl rfl rfl rfl rfl rfl) rfl ?_ | refine zb (qz rfl rfl rfl rfl rfl rfl rfl) rfl ?_ | refine zb (qB rfl rfl rfl rfl rfl rfl rfl) rfl ?_ | fail)) | ((with_reducible refine WH ?_); (first | refine zb (Zs rfl rfl rfl rfl) rfl ?_ | refine zb (Zq rfl rfl rfl rfl rfl) rfl ?_ | refine zb (Zr rfl rfl rfl rfl) rfl ?_ | refine zb (Z4 rfl rfl rfl rfl rfl rfl rfl) rfl ?_ | refine zb (ZP rfl rfl rfl rfl rfl rfl) rfl ?_ | refine zb (Z3 rfl rfl rfl rfl rfl) rfl ?_ | refine zb (Z7 rfl rfl rfl rfl (by with_reducible assumption) rfl) rfl ?_ | fail)) | ((with_reducible refine WF ?_); (first | refine zb (Z0 rfl qa0 rfl) rfl ?_ | refine zb (Z1 rfl qa0 rfl) rfl ?_ | fail)) | ((with_reducible refine jT ?_); (first | refine zb (Z8 rfl) rfl ?_ | fail)) | ((with_reducible refine WI ?_); (first | refine qn rfl rfl (by assumption) rfl ?_ | refine zb (jA rfl rfl rfl rfl rfl) rfl ?_ | refine zb (jz rfl rfl) rfl ?_ | refine zb (jy rfl rfl) rfl ?_ | refine zb (Z5 rfl rfl rfl rfl rfl) rfl ?_ | refine zk (ev_append_zf rfl rfl rfl rfl rfl rfl rfl rfl rfl rfl rfl rfl rfl (by simp only [List.length_map, List.length_cons, List.length_nil]; omega) rfl) rfl ?_ | fail)) | ((with_reducible refine JQ ?_); (first | refine Jc m rfl rfl rfl rfl rfl rfl rfl rfl rfl (by (try simp only [cellsOf, List.map_cons, List.map_nil]); (try rfl)) qc0 ?_ | refine Zk (qf rfl rfl rfl rfl rfl rfl rfl qc0) ?_ | fail)) | ((with_reducible refine JS ?_); (first | refine zk (QB rfl rfl qf0 qc0) rfl ?_ | fail)) | ((with_reducible refine is_box ?_); (first | refine Q5 m rfl rfl rfl rfl (by (try simp only [cellsOf, List.map_cons, List.map_nil]); (try rfl)) rfl ?_ | refine zk (yY rfl rfl qf0 qc0) rfl ?_ | fail)) | refine zb (qy rfl rfl rfl rfl rfl rfl (by with_reducible assumption)) rfl ?_ | refine zb (jv rfl) rfl ?_ | refine zb (ZL rfl rfl) rfl ?_ | refine zb (Zi rfl rfl rfl rfl (by with_reducible assumption)) rfl ?_ | refine zb (qC rfl rfl rfl rfl rfl rfl rfl) rfl ?_ | refine zb (zw rfl rfl rfl rfl rfl rfl rfl (by with_reducible assumption) rfl rfl) rfl ?_ | refine zb (Zp rfl rfl) rfl ?_ | refine zb (ev_nilCheck_fp rfl) rfl ?_ | refine zb (zE rfl rfl rfl rfl rfl rfl rfl (by with_reducible assumption)) rfl ?_ | refine zb (qx rfl rfl rfl rfl rfl rfl rfl (by with_reducible assumption)) rfl ?_ | refine zb (zU rfl rfl rfl rfl rfl rfl) rfl ?_ | refine zb (zQ rfl rfl) rfl ?_ | refine zk (Zt rfl rfl rfl rfl rfl rfl rfl) rfl ?_ | refine zk (zV rfl rfl rfl rfl rfl rfl rfl rfl rfl rfl rfl rfl (by (try simp only [List.map_cons, List.map_nil, cellsOf]); (try rfl))) rfl ?_))
   | ((with_reducible refine zr ?_); (first | refine wb rfl rfl rfl qa0 ?_ | refine Q2 rfl rfl rfl rfl qa0 ?_ | refine Q3 rfl rfl rfl rfl qa0 ?_ | refine Q1 rfl rfl rfl rfl ?_ | fail))
   | ((with_reducible refine is_nil ?_); refine wc ?_)
   | ((with_reducible refine WE ?_); (first | refine Wx ?_ | refine JE ?_ | refine Wy ?_ | fail))
   | ((with_reducible refine JR ?_); (first | refine J4 ?_ | refine jF ?_ | refine J5 ?_ | refine J3 rfl ?_ | fail))
   | ((with_reducible refine zJ ?_); (first | refine awp_drawA (by kernel_rfl) rfl rfl (by repeat' (first | exact Strip.nil | apply Strip.keep rfl | apply Strip.drop rfl)) ?_ | fail))
   | ((with_reducible refine zu ?_); (first | ((with_reducible refine isD_st ?_); refine Q6 rfl qc0 (qf rfl rfl rfl rfl rfl rfl rfl qc0) rfl qb0 ?_) | ((with_reducible refine isD_al ?_); refine awpD_nw rfl qd0 (QB rfl rfl qf0 qc0) rfl rfl rfl rfl rfl qc0 qb0 ?_) | ((with_reducible refine jV ?_); (first | refine zc (zh (fun _ => Ql rfl) rfl rfl) qb0 ?_ | fail)) | ((with_reducible refine JT ?_); (first | refine zc (zh (fun _ => QU rfl rfl (by omega)) rfl rfl) qb0 ?_ | refine zc (zh (fun _ => QT rfl rfl (by omega)) rfl rfl) qb0 ?_ | refine zc (zh (fun _ => qZ rfl rfl rfl) rfl rfl) qb0 ?_ | refine zc (zh (fun _ => ev_eq_bool rfl rfl rfl rfl) rfl rfl) qb0 ?_ | fail)) | ((with_reducible refine WJ ?_); (first | refine zc (zh (fun _ => qA rfl rfl rfl rfl rfl rfl) rfl rfl) qb0 ?_ | refine zc (zm rfl qd0 (qz rfl rfl rfl rfl rfl rfl rfl) rfl rfl rfl) qb0 ?_ | refine zc (zm rfl qd0 (qB rfl rfl rfl rfl rfl rfl rfl) rfl rfl rfl) qb0 ?_ | fail)) | ((with_reducible refine jW ?_); (first | refine zc (zh (fun _ => Zs rfl rfl rfl rfl) rfl rfl) qb0 ?_ | refine zc (zh (fun _ => Zq rfl rfl rfl rfl rfl) rfl rfl) qb0 ?_ | refine zc (zh (fun _ => Zr rfl rfl rfl rfl) rfl rfl) qb0 ?_ | refine zc (zm rfl qd0 (Z4 rfl rfl rfl rfl rfl rfl rfl) rfl rfl rfl) qb0 ?_ | refine zc (zm rfl qd0 (ZP rfl rfl rfl rfl rfl rfl) rfl rfl rfl) qb0 ?_ | refine zc (zm rfl qd0 (Z3 rfl rfl rfl rfl rfl) rfl rfl rfl) qb0 ?_ | refine zc (zm rfl qd0 (Z7 rfl rfl rfl rfl (by with_reducible assumption) rfl) rfl rfl rfl) qb0 ?_ | fail)) | ((with_reducible refine jU ?_); (first | refine zc (zh (fun _ => Z0 rfl qa0 rfl) rfl rfl) qb0 ?_ | refine zc (zh (fun _ => Z1 rfl qa0 rfl) rfl rfl) qb0 ?_ | fail)) | ((with_reducible refine Qj ?_); (first | refine zc (zh (fun _ => Z8 rfl) rfl rfl) qb0 ?_ | fail)) | ((with_reducible refine jX ?_); (first | refine zc (Qn rfl rfl (by assumption) rfl) qb0 ?_ | refine zc (zh (fun _ => jA rfl rfl rfl rfl rfl) rfl rfl) qb0 ?_ | refine zc (zh (fun _ => jz rfl rfl) rfl rfl) qb0 ?_ | refine zc (zh (fun _ => jy rfl rfl) rfl rfl) qb0 ?_ | refine zc (zm rfl qd0 (Z5 rfl rfl rfl rfl rfl) rfl rfl rfl) qb0 ?_ | refine zc (qF (fun _ => ev_append_zf rfl rfl rfl rfl rfl rfl rfl rfl rfl rfl rfl rfl rfl (by simp only [List.length_map, List.length_cons, List.length_nil]; omega) rfl) rfl rfl) qb0 ?_ | fail)) | refine zc (zh (fun _ => qy rfl rfl rfl rfl rfl rfl (by with_reducible assumption)) rfl rfl) qb0 ?_ | refine zc (zh (fun _ => jv rfl) rfl rfl) qb0 ?_ | refine zc (zh (fun _ => ZL rfl rfl) rfl rfl) qb0 ?_ | refine zc (zh (fun _ => Zi rfl rfl rfl rfl (by with_reducible assumption)) rfl rfl) qb0 ?_ | refine zc (zh (fun _ => qC rfl rfl rfl rfl rfl rfl rfl) rfl rfl) qb0 ?_ | refine zc (zh (fun _ => zw rfl rfl rfl rfl rfl rfl rfl (by with_reducible assumption) rfl rfl) rfl rfl) qb0 ?_ | refine zc (zh (fun _ => Zp rfl rfl) rfl rfl) qb0 ?_ | refine zc (zh (fun _ => ev_nilCheck_fp rfl) rfl rfl) qb0 ?_ | refine zc (zh (fun _ => zE rfl rfl rfl rfl rfl rfl rfl (by with_reducible assumption)) rfl rfl) qb0 ?_ | refine zc (zm rfl qd0 (qx rfl rfl rfl rfl rfl rfl rfl (by with_reducible assumption)) rfl rfl rfl) qb0 ?_ | refine zc (zm rfl qd0 (zU rfl rfl rfl rfl rfl rfl) rfl rfl rfl) qb0 ?_ | refine zc (zm rfl qd0 (zQ rfl rfl) rfl rfl rfl) qb0 ?_ | refine zc (qF (fun _ => Zt rfl rfl rfl rfl rfl rfl rfl) rfl rfl) qb0 ?_ | refine zc (qF (fun _ => zV rfl rfl rfl rfl rfl rfl rfl rfl rfl rfl rfl rfl (by (try simp only [List.map_cons, List.map_nil, cellsOf]); (try rfl))) rfl rfl) qb0 ?_ | fail))
   | ((with_reducible refine zp ?_); (first | refine awpD_pT rfl rfl qa0 qb0 ?_ | refine awpD_pF rfl rfl qa0 qb0 ?_ | refine awpD_pU rfl rfl qb0 ?_ | (refine isD_go rfl rfl qa0 ?_; (first | ((with_reducible refine jV ?_); (first | refine zd rfl rfl qa0 (zh (fun _ => Ql rfl) rfl rfl) qb0 ?_ | fail)) | ((with_reducible refine JT ?_); (first | refine zd rfl rfl qa0 (zh (fun _ => QU rfl rfl (by omega)) rfl rfl) qb0 ?_ | refine zd rfl rfl qa0 (zh (fun _ => QT rfl rfl (by omega)) rfl rfl) qb0 ?_ | refine zd rfl rfl qa0 (zh (fun _ => qZ rfl rfl rfl) rfl rfl) qb0 ?_ | refine zd rfl rfl qa0 (zh (fun _ => ev_eq_bool rfl rfl rfl rfl) rfl rfl) qb0 ?_ | fail)) | ((with_reducible refine WJ ?_); (first | refine zd rfl rfl qa0 (zh (fun _ => qA rfl rfl rfl rfl rfl rfl) rfl rfl) qb0 ?_ | refine zd rfl rfl qa0 (zm rfl qd0 (qz rfl rfl rfl rfl rfl rfl rfl) rfl rfl rfl) qb0 ?_ | refine zd rfl rfl qa0 (zm rfl qd0 (qB rfl rfl rfl rfl rfl rfl rfl) rfl rfl rfl) qb0 ?_ | fail)) | ((with_reducible refine jW ?_); (first | refine zd rfl rfl qa0 (zh (fun _ => Zs rfl rfl rfl rfl) rfl rfl) qb0 ?_ | refine zd rfl rfl qa0 (zh (fun _ => Zq rfl rfl rfl rfl rfl) rfl rfl) qb0 ?_ | refine zd rfl rfl qa0 (zh (fun _ => Zr rfl rfl rfl rfl) rfl rfl) qb0 ?_ | refine zd rfl rfl qa0 (zm rfl qd0 (Z4 rfl rfl rfl rfl rfl rfl rfl) rfl rfl rfl) qb0 ?_ | refine zd rfl rfl qa0 (zm rfl qd0 (ZP rfl rfl rfl rfl rfl rfl) rfl rfl rfl) qb0 ?_ | refine zd rfl rfl qa0 (zm rfl qd0 (Z3 rfl rfl rfl rfl rfl) rfl rfl rfl) qb0 ?_ | refine zd rfl rfl qa0 (zm rfl qd0 (Z7 rfl rfl rfl rfl (by with_reducible assumption) rfl) rfl rfl rfl) qb0 ?_ | fail)) | ((with_reducible refine jU ?_); (first | refine zd rfl rfl qa0 (zh (fun _ => Z0 rfl qa0 rfl) rfl rfl) qb0 ?_ | refine zd rfl rfl qa0 (zh (fun _ => Z1 rfl qa0 rfl) rfl rfl) qb0 ?_ | fail)) | ((with_reducible refine Qj ?_); (first | refine zd rfl rfl qa0 (zh (fun _ => Z8 rfl) rfl rfl) qb0 ?_ | fail)) | ((with_reducible refine jX ?_); (first | refine zd rfl rfl qa0 (Qn rfl rfl (by assumption) rfl) qb0 ?_ | refine zd rfl rfl qa0 (zh (fun _ => jA rfl rfl rfl rfl rfl) rfl rfl) qb0 ?_ | refine zd rfl rfl qa0 (zh (fun _ => jz rfl rfl) rfl rfl) qb0 ?_ | refine zd rfl rfl qa0 (zh (fun _ => jy rfl rfl) rfl rfl) qb0 ?_ | refine zd rfl rfl qa0 (zm rfl qd0 (Z5 rfl rfl rfl rfl rfl) rfl rfl rfl) qb0 ?_ | refine zd rfl rfl qa0 (qF (fun _ => ev_append_zf rfl rfl rfl rfl rfl rfl rfl rfl rfl rfl rfl rfl rfl (by simp only [List.length_map, List.length_cons, List.length_nil]; omega) rfl) rfl rfl) qb0 ?_ | fail)) | refine zd rfl rfl qa0 (zh (fun _ => qy rfl rfl rfl rfl rfl rfl (by with_reducible assumption)) rfl rfl) qb0 ?_ | refine zd rfl rfl qa0 (zh (fun _ => jv rfl) rfl rfl) qb0 ?_ | refine zd rfl rfl qa0 (zh (fun _ => ZL rfl rfl) rfl rfl) qb0 ?_ | refine zd rfl rfl qa0 (zh (fun _ => Zi rfl rfl rfl rfl (by with_reducible assumption)) rfl rfl) qb0 ?_ | refine zd rfl rfl qa0 (zh (fun _ => qC rfl rfl rfl rfl rfl rfl rfl) rfl rfl) qb0 ?_ | refine zd rfl rfl qa0 (zh (fun _ => zw rfl rfl rfl rfl rfl rfl rfl (by with_reducible assumption) rfl rfl) rfl rfl) qb0 ?_ | refine zd rfl rfl qa0 (zh (fun _ => Zp rfl rfl) rfl rfl) qb0 ?_ | refine zd rfl rfl qa0 (zh (fun _ => ev_nilCheck_fp rfl) rfl rfl) qb0 ?_ | refine zd rfl rfl qa0 (zh (fun _ => zE rfl rfl rfl rfl rfl rfl rfl (by with_reducible assumption)) rfl rfl) qb0 ?_ | refine zd rfl rfl qa0 (zm rfl qd0 (qx rfl rfl rfl rfl rfl rfl rfl (by with_reducible assumption)) rfl rfl rfl) qb0 ?_ | refine zd rfl rfl qa0 (zm rfl qd0 (zU rfl rfl rfl rfl rfl rfl) rfl rfl rfl) qb0 ?_ | refine zd rfl rfl qa0 (zm rfl qd0 (zQ rfl rfl) rfl rfl rfl) qb0 ?_ | refine zd rfl rfl qa0 (qF (fun _ => Zt rfl rfl rfl rfl rfl rfl rfl) rfl rfl) qb0 ?_ | refine zd rfl rfl qa0 (qF (fun _ => zV rfl rfl rfl rfl rfl rfl rfl rfl rfl rfl rfl rfl (by (try simp only [List.map_cons, List.map_nil, cellsOf]); (try rfl))) rfl rfl) qb0 ?_ | fail)) | fail))
   | ((with_reducible refine isD_nl ?_); refine awpD_done qb0 qc0 ?_)
   | ((with_reducible refine zl ?_); (first | refine WP ?_ | refine J7 ?_ | refine J6 ?_ | refine J9 ?_ | refine awp_label ?_ | refine Ja ?_ | refine QX ?_ | refine QZ rfl qa0 ?_ | refine Q0 rfl qa0 ?_ | fail))
   | fail)
  exact k.out) : A := h (.of M) ⟨k⟩
theorem runn (M : List Nat) {A B : Prop} (k : B) (h : Mut M → Left B → A := by
  intro m k
  repeat' (first
   | ((with_reducible refine zg ?_); (first | ((with_reducible refine WG ?_); (first | refine zb (Ql rfl) rfl ?_ | fail)) | ((with_reducible refine is_bin ?_); (first | refine zb (QU rfl rfl (by omega)) rfl ?_ | refine zb (QT rfl rfl (by omega)) rfl ?_ | refine zb (qZ rfl rfl rfl) rfl ?_ | refine zb (ev_eq_bool rfl rfl rfl rfl) rfl ?_ | fail)) | ((with_reducible refine is_fa ?_); (first | refine zb (qA rfl rfl rfl rfl rfl rfl) rfl ?_ | refine zb (qz rfl rfl rfl rfl rfl rfl rfl) rfl ?_ | refine zb (qB rfl rfl rfl rfl rfl rfl rfl) rfl ?_ | fail)) | ((with_reducible refine WH ?_); (first | refine zb (Zs rfl rfl rfl rfl) rfl ?_ | refine zb (Zq rfl rfl rfl rfl rfl) rfl ?_ | refine zb (Zr rfl rfl rfl rfl) rfl ?_ | refine zb (Z4 rfl rfl rfl rfl rfl rfl rfl) rfl ?_ | refine zb (ZP rfl rfl rfl rfl rfl rfl) rfl ?_ | refine zb (Z3 rfl rfl rfl rfl rfl) rfl ?_ | refine zb (Z7 rfl rfl rfl rfl (by with_reducible assumption) rfl) rfl ?_ | fail)) | ((with_reducible refine WF ?_); (first | refine zb (Z0 rfl qa0 rfl) rfl ?_ | refine zb (Z1 rfl qa0 rfl) rfl ?_ | fail)) | ((with_reducible refine jT ?_); (first | refine zb (Z8 rfl) rfl ?_ | fail)) | ((with_reducible refine WI ?_); (first | refine qn rfl rfl (by assumption) rfl ?_ | refine zb (jA rfl rfl rfl rfl rfl) rfl ?_ | refine zb (jz rfl rfl) rfl ?_ | refine zb (jy rfl rfl) rfl ?_ | refine zb (Z5 rfl rfl rfl rfl rfl) rfl ?_ | refine zk (ev_append_zf rfl rfl rfl rfl rfl rfl rfl rfl rfl rfl rfl rfl rfl (by simp only [List.length_map, List.length_cons, List.length_nil]; omega) rfl) rfl ?_ | fail)) | ((with_reducible refine JQ ?_); (first | refine Jc m rfl rfl rfl rfl rfl rfl rfl rfl rfl (by (try simp only [cellsOf, List.map_cons, List.map_nil]); (try rfl)) qc0 ?_ | refine Zk (qf rfl rfl rfl rfl rfl rfl rfl qc0) ?_ | fail)) | ((with_reducible refine JS ?_); (first | refine zk (QB rfl rfl qf0 qc0) rfl ?_ | fail)) | ((with_reducible refine is_box ?_); (first | refine Q5 m rfl rfl rfl rfl (by (try simp only [cellsOf, List.map_cons, List.map_nil]); (try rfl)) rfl ?_ | refine zk (yY rfl rfl qf0 qc0) rfl ?_ | fail)) | refine zb (qy rfl rfl rfl rfl rfl rfl (by with_reducible assumption)) rfl ?_ | refine zb (jv rfl) rfl ?_ | refine zb (ZL rfl rfl) rfl ?_ | refine zb (Zi rfl rfl rfl rfl (by with_reducible assumption)) rfl ?_ | refine zb (qC rfl rfl rfl rfl rfl rfl rfl) rfl ?_ | refine zb (zw rfl rfl rfl rfl rfl rfl rfl (by with_reducible assumption) rfl rfl) rfl ?_ | refine zb (Zp rfl rfl) rfl ?_ | refine zb (ev_nilCheck_fp rfl) rfl ?_ | refine zb (zE rfl rfl rfl rfl rfl rfl rfl (by with_reducible assumption)) rfl ?_ | refine zb (qx rfl rfl rfl rfl rfl rfl rfl (by with_reducible assumption)) rfl ?_ | refine zb (zU rfl rfl rfl rfl rfl rfl) rfl ?_ | refine zb (zQ rfl rfl) rfl ?_ | refine zk (Zt rfl rfl rfl rfl rfl rfl rfl) rfl ?_ | refine zk (zV rfl rfl rfl rfl rfl rfl rfl rfl rfl rfl rfl rfl (by (try simp only [List.map_cons, List.map_nil, cellsOf]); (try rfl))) rfl ?_))
   | ((with_reducible refine zr ?_); (first | refine wb rfl rfl rfl qa0 ?_ | refine Q2 rfl rfl rfl rfl qa0 ?_ | refine Q3 rfl rfl rfl rfl qa0 ?_ | refine Q1 rfl rfl rfl rfl ?_ | fail))
   | ((with_reducible refine is_nil ?_); refine wc ?_)
   | ((with_reducible refine WE ?_); (first | refine Wx ?_ | refine JE ?_ | refine Wy ?_ | fail))
   | ((with_reducible refine JR ?_); (first | refine J4 ?_ | refine jF ?_ | refine J5 ?_ | refine J3 rfl ?_ | fail))
   | ((with_reducible refine zl ?_); (first | refine WP ?_ | refine J7 ?_ | refine J6 ?_ | refine J9 ?_ | refine awp_label ?_ | refine Ja ?_ | refine QX ?_ | refine QZ rfl qa0 ?_ | refine Q0 rfl qa0 ?_ | fail))
   | fail)
  exact k.out) : A := h (.of M) ⟨k⟩
theorem stn (M : List Nat) {A B : Prop} (k : B) (h : Mut M → Left B → A := by
  intro m k
  (first
   | ((with_reducible refine zg ?_); (first | ((with_reducible refine WG ?_); (first | refine zb (Ql rfl) rfl ?_ | fail)) | ((with_reducible refine is_bin ?_); (first | refine zb (QU rfl rfl (by omega)) rfl ?_ | refine zb (QT rfl rfl (by omega)) rfl ?_ | refine zb (qZ rfl rfl rfl) rfl ?_ | refine zb (ev_eq_bool rfl rfl rfl rfl) rfl ?_ | fail)) | ((with_reducible refine is_fa ?_); (first | refine zb (qA rfl rfl rfl rfl rfl rfl) rfl ?_ | refine zb (qz rfl rfl rfl rfl rfl rfl rfl) rfl ?_ | refine zb (qB rfl rfl rfl rfl rfl rfl rfl) rfl ?_ | fail)) | ((with_reducible refine WH ?_); (first | refine zb (Zs rfl rfl rfl rfl) rfl ?_ | refine zb (Zq rfl rfl rfl rfl rfl) rfl ?_ | refine zb (Zr rfl rfl rfl rfl) rfl ?_ | refine zb (Z4 rfl rfl rfl rfl rfl rfl rfl) rfl ?_ | refine zb (ZP rfl rfl rfl rfl rfl rfl) rfl ?_ | refine zb (Z3 rfl rfl rfl rfl rfl) rfl ?_ | refine zb (Z7 rfl rfl rfl rfl (by with_reducible assumption) rfl) rfl ?_ | fail)) | ((with_reducible refine WF ?_); (first | refine zb (Z0 rfl qa0 rfl) rfl ?_ | refine zb (Z1 rfl qa0 rfl) rfl ?_ | fail)) | ((with_reducible refine jT ?_); (first | refine zb (Z8 rfl) rfl ?_ | fail)) | ((with_reducible refine WI ?_); (first | refine qn rfl rfl (by assumption) rfl ?_ | refine zb (jA rfl rfl rfl rfl rfl) rfl ?_ | refine zb (jz rfl rfl) rfl ?_ | refine zb (jy rfl rfl) rfl ?_ | refine zb (Z5 rfl rfl rfl rfl rfl) rfl ?_ | refine zk (ev_append_zf rfl rfl rfl rfl rfl rfl rfl rfl rfl rfl rfl rfl rfl (by simp only [List.length_map, List.length_cons, List.length_nil]; omega) rfl) rfl ?_ | fail)) | ((with_reducible refine JQ ?_); (first | refine Jc m rfl rfl rfl rfl rfl rfl rfl rfl rfl (by (try simp only [cellsOf, List.map_cons, List.map_nil]); (try rfl)) qc0 ?_ | refine Zk (qf rfl rfl rfl rfl rfl rfl rfl qc0) ?_ | fail)) | ((with_reducible refine JS ?_); (first | refine zk (QB rfl rfl qf0 qc0) rfl ?_ | fail)) | ((with_reducible refine is_box ?_); (first | refine Q5 m rfl rfl rfl rfl (by (try simp only [cellsOf, List.map_cons, List.map_nil]); (try rfl)) rfl ?_ | refine zk (yY rfl rfl qf0 qc0) rfl ?_ | fail)) | refine zb (qy rfl rfl rfl rfl rfl rfl (by with_reducible assumption)) rfl ?_ | refine zb (jv rfl) rfl ?_ | refine zb (ZL rfl rfl) rfl ?_ | refine zb (Zi rfl rfl rfl rfl (by with_reducible assumption)) rfl ?_ | refine zb (qC rfl rfl rfl rfl rfl rfl rfl) rfl ?_ | refine zb (zw rfl rfl rfl rfl rfl rfl rfl (by with_reducible assumption) rfl rfl) rfl ?_ | refine zb (Zp rfl rfl) rfl ?_ | refine zb (ev_nilCheck_fp rfl) rfl ?_ | refine zb (zE rfl rfl rfl rfl rfl rfl rfl (by with_reducible assumption)) rfl ?_ | refine zb (qx rfl rfl rfl rfl rfl rfl rfl (by with_reducible assumption)) rfl ?_ | refine zb (zU rfl rfl rfl rfl rfl rfl) rfl ?_ | refine zb (zQ rfl rfl) rfl ?_ | refine zk (Zt rfl rfl rfl rfl rfl rfl rfl) rfl ?_ | refine zk (zV rfl rfl rfl rfl rfl rfl rfl rfl rfl rfl rfl rfl (by (try simp only [List.map_cons, List.map_nil, cellsOf]); (try rfl))) rfl ?_))
   | ((with_reducible refine zr ?_); (first | refine wb rfl rfl rfl qa0 ?_ | refine Q2 rfl rfl rfl rfl qa0 ?_ | refine Q3 rfl rfl rfl rfl qa0 ?_ | refine Q1 rfl rfl rfl rfl ?_ | fail))
   | ((with_reducible refine is_nil ?_); refine wc ?_)
   | ((with_reducible refine WE ?_); (first | refine Wx ?_ | refine JE ?_ | refine Wy ?_ | fail))
   | ((with_reducible refine JR ?_); (first | refine J4 ?_ | refine jF ?_ | refine J5 ?_ | refine J3 rfl ?_ | fail))
   | ((with_reducible refine zl ?_); (first | refine WP ?_ | refine J7 ?_ | refine J6 ?_ | refine J9 ?_ | refine awp_label ?_ | refine Ja ?_ | refine QX ?_ | refine QZ rfl qa0 ?_ | refine Q0 rfl qa0 ?_ | fail))
   | fail)
  exact k.out) : A := h (.of M) ⟨k⟩
end
end Go.Ac
namespace Go.Proofs.YtcfkokllinkigaaGreatDoor
section
structure Stamp where
 count : Int
 dev : Int
 deriving Inhabited, DecidableEq
structure Span where
 fro : Int
 til : Int
 deriving Inhabited, DecidableEq
structure Note where
 id : Int
 tier : Int
 parent : Int
 span : Span
 rank : Int
 text : ByteArray
 deriving Inhabited, DecidableEq
structure Op where
 at_ : Stamp
 kind : Int
 rec_ : Int
 note : Note
 set : Int
 n : Int
 text : ByteArray
 over : List Stamp
 deriving Inhabited, DecidableEq
structure Replica where
 dev : Int
 seen : List Int
 ops : List Op
 deriving Inhabited, DecidableEq
def right (s : Stamp) : Bool := decide (1 ≤ s.count) && decide (s.count ≤ 1048576) && decide (1 ≤ s.dev) && decide (s.dev ≤ 15)
def less (a b : Stamp) : Bool := decide (a.count < b.count) || (decide (a.count = b.count) && decide (a.dev < b.dev))
def idOf (s : Stamp) : Int := if right s then 16 * s.count + s.dev else 0
def stampOf (id : Int) : Stamp := ⟨id.tdiv 16, id.tmod 16⟩
def num (v : List Int) (i : Nat) : Int := max ((v[i]?).getD 0) 0
def covers (v : List Int) (s : Stamp) : Bool := right s && decide (s.count ≤ num v (s.dev - 1).toNat)
def join (a b : List Int) : List Int := (List.range 15).map fun i => max (num a i) (num b i)
def see (v : List Int) (s : Stamp) : List Int := if right s then (join v []).set (s.dev - 1).toNat (max (num v (s.dev - 1).toNat) s.count) else join v []
def cmp (a b : Int) : Int := if a < b then -1 else if b < a then 1 else 0
theorem join_len (a b : List Int) : (join a b).length = 15 := by simp [join]
theorem see_len (v : List Int) (s : Stamp) : (see v s).length = 15 := by unfold see; split <;> simp [join]
end
section
def has (l : List Op) (o : Op) : Bool := l.any fun p => decide (p = o)
def clash (l : List Op) (o : Op) : Bool := l.any fun p => decide (p.at_ = o.at_) && !decide (p = o)
theorem qe {l : List Op} {o : Op} : has l o = true ↔ o ∈ l := by
 simp [has]
theorem wE {l : List Op} {o : Op} : has l o = false ↔ o ∉ l := by
 rw [← qe]; simp
theorem clash_iff {l : List Op} {o : Op} : clash l o = true ↔ ∃ p ∈ l, p.at_ = o.at_ ∧ p ≠ o := by
 simp [clash]
theorem qW (a : Stamp) : less a a = false := by simp [less]
theorem QR {a b c : Stamp} (h : less a b = true) (g : less b c = true) : less a c = true := by
 simp [less] at *; omega
theorem zW {a b : Stamp} (h : less a b = true) : less b a = false := by
 simp [less] at *; omega
theorem less_tri (a b : Stamp) : less a b = true ∨ a = b ∨ less b a = true := by
 rcases a with ⟨a1, a2⟩
 rcases b with ⟨b1, b2⟩
 simp [less]; omega
theorem qq {a b : Stamp} (h : less a b = true) : a ≠ b := by
 rintro rfl; rw [qW] at h; cases h
theorem ZO {a b : Stamp} : less b a = false ↔ less a b = true ∨ a = b := by
 constructor
 ·intro h
  rcases less_tri a b with g | g | g
  ·exact .inl g
  ·exact .inr g
  ·rw [h] at g; cases g
 ·rintro (h | rfl)
  ·exact zW h
  ·exact qW a
theorem WD {a b c : Stamp} (h : less b a = false) (g : less b c = true) : less a c = true := by
 rcases ZO.1 h with h | rfl
 ·exact QR h g
 ·exact g
theorem less_le {a b c : Stamp} (h : less a b = true) (g : less c b = false) : less a c = true := by
 rcases ZO.1 g with g | rfl
 ·exact QR h g
 ·exact h
def Inc (l : List Op) : Prop := l.Pairwise fun a b => less a.at_ b.at_ = true
def Weak (l : List Op) : Prop := l.Pairwise fun a b => less b.at_ a.at_ = false
theorem Inc.uniq : ∀ {l : List Op}, Inc l → ∀ {a b : Op}, a ∈ l → b ∈ l → a.at_ = b.at_ → a = b
 | [], _, a, _, ha, _, _ => by cases ha
 | x :: r, h, a, b, ha, hb, e => by
  obtain ⟨h1, h2⟩ := List.pairwise_cons.1 h
  rcases List.mem_cons.1 ha with ea | ga
  ·rcases List.mem_cons.1 hb with eb | gb
   ·rw [ea, eb]
   ·exact absurd (ea ▸ e) (qq (h1 _ gb))
  ·rcases List.mem_cons.1 hb with eb | gb
   ·exact absurd (eb ▸ e).symm (qq (h1 _ ga))
   ·exact Inc.uniq h2 ga gb e
theorem Inc.ext : ∀ {l m : List Op}, Inc l → Inc m → (∀ o, o ∈ l ↔ o ∈ m) → l = m
 | [], [], _, _, _ => rfl
 | [], y :: s, _, _, h => by have := (h y).2 (List.mem_cons_self ..); cases this
 | x :: r, [], _, _, h => by have := (h x).1 (List.mem_cons_self ..); cases this
 | x :: r, y :: s, hl, hm, h => by
  obtain ⟨l1, l2⟩ := List.pairwise_cons.1 hl
  obtain ⟨m1, m2⟩ := List.pairwise_cons.1 hm
  have hxy : x = y := by
   rcases List.mem_cons.1 ((h x).1 (List.mem_cons_self ..)) with e | hx
   ·exact e
   ·rcases List.mem_cons.1 ((h y).2 (List.mem_cons_self ..)) with e | hy
    ·exact e.symm
    ·have := zW (l1 _ hy); rw [m1 _ hx] at this; cases this
  subst hxy
  have : r = s := by
   refine Inc.ext l2 m2 fun o => ⟨fun ho => ?_, fun ho => ?_⟩
   ·rcases List.mem_cons.1 ((h o).1 (List.mem_cons_of_mem _ ho)) with e | g
    ·subst e; exact absurd rfl (qq (l1 _ ho))
    ·exact g
   ·rcases List.mem_cons.1 ((h o).2 (List.mem_cons_of_mem _ ho)) with e | g
    ·subst e; exact absurd rfl (qq (m1 _ ho))
    ·exact g
  rw [this]
def U (p : Op → Prop) : Option (List Op) → Prop
 | none => ∃ a b, p a ∧ p b ∧ a.at_ = b.at_ ∧ a ≠ b
 | some m => Inc m ∧ ∀ o, o ∈ m ↔ p o
theorem U.uniq {p : Op → Prop} : ∀ {x y : Option (List Op)}, U p x → U p y → x = y
 | none, none, _, _ => rfl
 | some m, none, ⟨hi, hm⟩, ⟨a, b, ha, hb, e, hne⟩ => absurd (hi.uniq ((hm a).2 ha) ((hm b).2 hb) e) hne
 | none, some m, ⟨a, b, ha, hb, e, hne⟩, ⟨hi, hm⟩ => absurd (hi.uniq ((hm a).2 ha) ((hm b).2 hb) e) hne
 | some l, some m, ⟨h1, h2⟩, ⟨g1, g2⟩ => by rw [Inc.ext h1 g1 fun o => (h2 o).trans (g2 o).symm]
theorem U.congr {p q : Op → Prop} (h : ∀ o, p o ↔ q o) {x : Option (List Op)} (hx : U p x) : U q x := by
 have : p = q := funext fun o => propext (h o)
 rwa [← this]
theorem U.self {m : List Op} (h : Inc m) : U (· ∈ m) (some m) := ⟨h, fun _ => Iff.rfl⟩
def putIx (l : List Op) (o : Op) : Nat → Nat
 | 0 => 0
 | k + 1 => match l[k]? with
  | some x => if less o.at_ x.at_ then putIx l o k else k + 1
  | none => k + 1
def put (l : List Op) (o : Op) : List Op := l.take (putIx l o l.length) ++ [o] ++ l.drop (putIx l o l.length)
theorem yr (l : List Op) (o : Op) : ∀ k, putIx l o k ≤ k
 | 0 => Nat.le_refl _
 | k + 1 => by
  rw [putIx]
  split
  ·split
   ·exact Nat.le_succ_of_le (yr l o k)
   ·exact Nat.le_refl _
  ·exact Nat.le_refl _
theorem putIx_hi (l : List Op) (o : Op) : ∀ k, k ≤ l.length → ∀ j x, putIx l o k ≤ j → j < k → l[j]? = some x → less o.at_ x.at_ = true
 | 0, _, j, x, _, h, _ => by omega
 | k + 1, hk, j, x, h1, h2, hx => by
  rw [putIx] at h1
  split at h1
  ·rename_i y hy
   split at h1
   ·rename_i hl
    rcases Nat.lt_or_ge j k with h | h
    ·exact putIx_hi l o k (by omega) j x h1 h hx
    ·have : j = k := by omega
     subst this
     rw [hy] at hx; cases hx; exact hl
   ·omega
  ·rename_i hn
   rw [List.getElem?_eq_none_iff] at hn; omega
theorem putIx_lo (l : List Op) (o : Op) : ∀ k j x, putIx l o k = j + 1 → l[j]? = some x → less o.at_ x.at_ = false
 | 0, j, x, h, _ => by simp [putIx] at h
 | k + 1, j, x, h, hx => by
  rw [putIx] at h
  split at h
  ·rename_i y hy
   split at h
   ·exact putIx_lo l o k j x h hx
   ·rename_i hl
    have : k = j := by omega
    subst this
    rw [hy] at hx; cases hx; simpa using hl
  ·rename_i hn
   have : k = j := by omega
   subst this
   rw [hn] at hx; cases hx
theorem mem_put (l : List Op) (o p : Op) : p ∈ put l o ↔ p ∈ l ∨ p = o := by
 unfold put
 generalize putIx l o l.length = k
 constructor
 ·intro h
  rcases List.mem_append.1 h with h | h
  ·rcases List.mem_append.1 h with h | h
   ·exact .inl (List.mem_of_mem_take h)
   ·exact .inr (by simpa using h)
  ·exact .inl (List.mem_of_mem_drop h)
 ·rintro (h | rfl)
  ·rw [← List.take_append_drop k l] at h
   rcases List.mem_append.1 h with h | h
   ·exact List.mem_append_left _ (List.mem_append_left _ h)
   ·exact List.mem_append_right _ h
  ·simp
theorem put_length (l : List Op) (o : Op) : (put l o).length = l.length + 1 := by
 unfold put
 have := yr l o l.length
 simp; omega
theorem Inc.put {l : List Op} (h : Inc l) {o : Op} (hn : ∀ p ∈ l, p.at_ ≠ o.at_) : Inc (put l o) := by
 have hle := yr l o l.length
 have hhi := putIx_hi l o l.length (Nat.le_refl _)
 have hlo := putIx_lo l o l.length
 unfold Go.Proofs.YtcfkokllinkigaaGreatDoor.put
 generalize putIx l o l.length = k at hle hhi hlo
 have hT : ∀ p ∈ l.take k, less p.at_ o.at_ = true := by
  intro p hp
  have hpl := List.mem_of_mem_take hp
  obtain ⟨j, hj⟩ := List.getElem?_of_mem hp
  rw [List.getElem?_take] at hj
  split at hj
  ·rename_i hjk
   cases k with
   | zero => omega
   | succ k =>
    obtain ⟨x, hx⟩ : ∃ x, l[k]? = some x := ⟨_, List.getElem?_eq_getElem (by omega)⟩
    have h1 := hlo k x rfl hx
    have h2 : less x.at_ o.at_ = true := by
     rcases ZO.1 h1 with g | g
     ·exact g
     ·exact absurd g (hn x (List.mem_of_getElem? hx))
    rcases Nat.lt_or_ge j k with hlt | hge
    ·exact QR ((List.pairwise_iff_getElem.1 h) j k (by omega) (by omega) hlt |> fun q => by
      rw [List.getElem?_eq_getElem (by omega)] at hj hx
      cases hj; cases hx; exact q) h2
    ·have : j = k := by omega
     subst this
     rw [hx] at hj; cases hj; exact h2
  ·cases hj
 have hD : ∀ p ∈ l.drop k, less o.at_ p.at_ = true := by
  intro p hp
  obtain ⟨j, hj⟩ := List.getElem?_of_mem hp
  rw [List.getElem?_drop] at hj
  have hlt : k + j < l.length := (List.getElem?_eq_some_iff.1 hj).1
  exact hhi (k + j) p (by omega) hlt hj
 have h' : Inc (l.take k ++ l.drop k) := by rw [List.take_append_drop]; exact h
 obtain ⟨a1, a2, a3⟩ := List.pairwise_append.1 h'
 refine List.pairwise_append.2 ⟨List.pairwise_append.2 ⟨a1, List.pairwise_singleton _ _, fun a ha b hb => ?_⟩, a2, fun a ha b hb => ?_⟩
 ·simp only [List.mem_singleton] at hb; subst hb; exact hT a ha
 ·rcases List.mem_append.1 ha with ha | ha
  ·exact a3 a ha b hb
  ·simp only [List.mem_singleton] at ha; subst ha; exact hD b hb
def unite : List Op → List Op → Option (List Op)
 | out, [] => some out
 | out, o :: r => if clash out o then none else if has out o then unite out r else unite (put out o) r
theorem QJ : ∀ (l out : List Op), Inc out → U (fun o => o ∈ out ∨ o ∈ l) (unite out l)
 | [], out, h => by
  rw [unite]; exact ⟨h, fun o => by simp⟩
 | o :: r, out, h => by
  rw [unite]
  split
  ·rename_i hc
   obtain ⟨p, hp, e, hne⟩ := clash_iff.1 hc
   exact ⟨p, o, .inl hp, .inr (List.mem_cons_self ..), e, hne⟩
  ·rename_i hc
   split
   ·rename_i hh
    have ho := qe.1 hh
    refine (QJ r out h).congr fun q => ⟨?_, ?_⟩
    ·rintro (g | g)
     ·exact .inl g
     ·exact .inr (List.mem_cons_of_mem _ g)
    ·rintro (g | g)
     ·exact .inl g
     ·rcases List.mem_cons.1 g with rfl | g
      ·exact .inl ho
      ·exact .inr g
   ·rename_i hh
    have ho := wE.1 (by simpa using hh)
    have hi : Inc (put out o) := h.put fun p hp e => hc (clash_iff.2 ⟨p, hp, e, fun q => ho (q ▸ hp)⟩)
    refine (QJ r _ hi).congr fun q => ⟨?_, ?_⟩
    ·rintro (g | g)
     ·rcases (mem_put out o q).1 g with g | rfl
      ·exact .inl g
      ·exact .inr (List.mem_cons_self ..)
     ·exact .inr (List.mem_cons_of_mem _ g)
    ·rintro (g | g)
     ·exact .inl ((mem_put out o q).2 (.inl g))
     ·rcases List.mem_cons.1 g with rfl | g
      ·exact .inl ((mem_put out q q).2 (.inr rfl))
      ·exact .inr g
theorem Qq : ∀ (l out m : List Op), unite out l = some m → m.length ≤ out.length + l.length
 | [], out, m, h => by rw [unite] at h; cases h; simp
 | o :: r, out, m, h => by
  rw [unite] at h
  split at h
  ·cases h
  ·split at h
   ·have := Qq r out m h; simp; omega
   ·have := Qq r _ m h; rw [put_length] at this; simp; omega
def gather : List Op → List Op → Option (List Op)
 | out, [] => some out
 | out, o :: r => match out.getLast? with
  | some p => if p.at_ = o.at_ then (if p = o then gather out r else none) else gather (out ++ [o]) r
  | none => gather (out ++ [o]) r
theorem Inc.snoc {l : List Op} (h : Inc l) {o : Op} (hn : ∀ p ∈ l, less p.at_ o.at_ = true) : Inc (l ++ [o]) :=
 List.pairwise_append.2 ⟨h, List.pairwise_singleton _ _, fun a ha b hb => by simp only [List.mem_singleton] at hb; subst hb; exact hn a ha⟩
theorem Inc.last_le {l : List Op} (h : Inc l) {p : Op} (hp : l.getLast? = some p) : ∀ q ∈ l, less p.at_ q.at_ = false := by
 intro q hq
 have hne : l ≠ [] := by rintro rfl; cases hp
 have hs : l = l.dropLast ++ [p] := by
  have h1 := List.dropLast_concat_getLast hne
  rw [List.getLast?_eq_some_getLast hne] at hp
  cases hp; exact h1.symm
 rw [hs] at hq h
 obtain ⟨_, _, h3⟩ := List.pairwise_append.1 h
 rcases List.mem_append.1 hq with hq | hq
 ·exact zW (h3 q hq p (List.mem_singleton_self _))
 ·simp only [List.mem_singleton] at hq; subst hq; exact qW _
theorem yU : ∀ (t out : List Op), Inc out → Weak t → (∀ p ∈ out, ∀ q ∈ t, less q.at_ p.at_ = false) → U (fun o => o ∈ out ∨ o ∈ t) (gather out t)
 | [], out, h, _, _ => by
  rw [gather]; exact ⟨h, fun o => by simp⟩
 | o :: r, out, h, hw, hlt => by
  obtain ⟨w1, w2⟩ := List.pairwise_cons.1 hw
  have app : (∀ p ∈ out, less p.at_ o.at_ = true) → U (fun q => q ∈ out ∨ q ∈ o :: r) (gather (out ++ [o]) r) := by
   intro ha
   refine (yU r (out ++ [o]) (h.snoc ha) w2 fun p hp q hq => ?_).congr fun q => ?_
   ·rcases List.mem_append.1 hp with hp | hp
    ·exact hlt p hp q (List.mem_cons_of_mem _ hq)
    ·simp only [List.mem_singleton] at hp; subst hp; exact w1 q hq
   ·simp only [List.mem_append, List.mem_cons, List.not_mem_nil, or_false, or_assoc]
  rw [gather]
  split
  ·rename_i p hp
   have hpm : p ∈ out := List.mem_of_getLast? hp
   split
   ·rename_i he
    split
    ·rename_i hpo
     subst hpo
     refine (yU r out h w2 fun a ha q hq => hlt a ha q (List.mem_cons_of_mem _ hq)).congr fun q => ⟨?_, ?_⟩
     ·rintro (g | g)
      ·exact .inl g
      ·exact .inr (List.mem_cons_of_mem _ g)
     ·rintro (g | g)
      ·exact .inl g
      ·rcases List.mem_cons.1 g with rfl | g
       ·exact .inl hpm
       ·exact .inr g
    ·rename_i hpo
     exact ⟨p, o, .inl hpm, .inr (List.mem_cons_self ..), he, hpo⟩
   ·rename_i he
    refine app fun q hq => ?_
    have h1 : less p.at_ o.at_ = true := by
     rcases ZO.1 (hlt p hpm o (List.mem_cons_self ..)) with g | g
     ·exact g
     ·exact absurd g he
    exact WD (h.last_le hp q hq) h1
  ·rename_i hp
   have hnil : out = [] := by simpa using hp
   subst hnil
   exact app fun q hq => by cases hq
def both : List Op → List Op → List Op
  | [], b => b
  | x :: r, [] => x :: r
  | x :: r, y :: s => if less y.at_ x.at_ then y :: both (x :: r) s else x :: both r (y :: s)
termination_by a b => a.length + b.length
theorem jD (b : List Op) : both [] b = b := by rw [both]
theorem both_nil' (a : List Op) : both a [] = a := by cases a <;> rw [both]
theorem j8 {x y : Op} {r s : List Op} (h : less y.at_ x.at_ = false) : both (x :: r) (y :: s) = x :: both r (y :: s) := by rw [both, h]; simp
theorem QW {x y : Op} {r s : List Op} (h : less y.at_ x.at_ = true) : both (x :: r) (y :: s) = y :: both (x :: r) s := by rw [both, h]; simp
theorem jE : ∀ (a b : List Op), (both a b).length = a.length + b.length
  | [], b => by simp [jD]
  | x :: r, [] => by simp [both_nil']
  | x :: r, y :: s => by
    cases h : less y.at_ x.at_ with
    | true => rw [QW h]; have := jE (x :: r) s; simp at this ⊢; omega
    | false => rw [j8 h]; have := jE r (y :: s); simp at this ⊢; omega
termination_by a b => a.length + b.length
theorem Qa {o : Op} : ∀ (a b : List Op), o ∈ both a b ↔ o ∈ a ∨ o ∈ b
  | [], b => by rw [jD]; simp
  | x :: r, [] => by rw [both_nil']; simp
  | x :: r, y :: s => by
    cases hc : less y.at_ x.at_ with
    | true =>
      rw [QW hc, List.mem_cons, Qa (x :: r) s]
      simp only [List.mem_cons]
      constructor
      · rintro (h | (h | h) | h) <;> simp [h]
      · rintro ((h | h) | h | h) <;> simp [h]
    | false =>
      rw [j8 hc, List.mem_cons, Qa r (y :: s)]
      simp only [List.mem_cons]
      constructor
      · rintro (h | h | h | h) <;> simp [h]
      · rintro ((h | h) | h | h) <;> simp [h]
termination_by a b => a.length + b.length
theorem j7 : ∀ (a b : List Op), Weak a → Weak b → Weak (both a b)
  | [], b, _, h => by rw [jD]; exact h
  | x :: r, [], h, _ => by rw [both_nil']; exact h
  | x :: r, y :: s, ha, hb => by
    obtain ⟨a1, a2⟩ := List.pairwise_cons.1 ha
    obtain ⟨b1, b2⟩ := List.pairwise_cons.1 hb
    cases hc : less y.at_ x.at_ with
    | true =>
      rw [QW hc]
      refine List.pairwise_cons.2 ⟨fun q hq => ?_, j7 (x :: r) s ha b2⟩
      rcases (Qa _ _).1 hq with h | h
      · rcases List.mem_cons.1 h with rfl | h
        · exact zW hc
        · exact zW (less_le hc (a1 q h))
      · exact b1 q h
    | false =>
      rw [j8 hc]
      refine List.pairwise_cons.2 ⟨fun q hq => ?_, j7 r (y :: s) a2 hb⟩
      rcases (Qa _ _).1 hq with h | h
      · exact a1 q h
      · rcases List.mem_cons.1 h with rfl | h
        · exact hc
        · rcases ZO.1 hc with g | g
          · exact zW (less_le g (b1 q h))
          · rw [g]; exact b1 q h
termination_by a b => a.length + b.length
def sorted (l : List Op) : List Op := if l.length < 2 then l else both (sorted (l.take (l.length / 2))) (sorted (l.drop (l.length / 2)))
termination_by l.length
decreasing_by
  · simp only [List.length_take]; omega
  · simp only [List.length_drop]; omega
theorem Jp : ∀ (n : Nat) (l : List Op), l.length ≤ n → (sorted l).length = l.length ∧ Weak (sorted l) ∧ ∀ o, o ∈ sorted l ↔ o ∈ l := by
 intro n
 induction n with
 | zero =>
  intro l h
  rw [sorted, if_pos (by omega)]
  have : l = [] := by cases l <;> simp_all
  subst this
  exact ⟨rfl, List.Pairwise.nil, fun _ => Iff.rfl⟩
 | succ n ih =>
  intro l h
  rw [sorted]
  split
  ·rename_i hl
   refine ⟨rfl, ?_, fun _ => Iff.rfl⟩
   cases l with
   | nil => exact List.Pairwise.nil
   | cons x r =>
    cases r with
    | nil => exact List.pairwise_singleton _ _
    | cons y s => simp at hl; omega
  ·have i1 := ih (l.take (l.length / 2)) (by rw [List.length_take]; omega)
   have i2 := ih (l.drop (l.length / 2)) (by rw [List.length_drop]; omega)
   refine ⟨?_, j7 _ _ i1.2.1 i2.2.1, fun o => ?_⟩
   ·rw [jE, i1.1, i2.1, List.length_take, List.length_drop]; omega
   ·rw [Qa, i1.2.2, i2.2.2, ← List.mem_append, List.take_append_drop]
theorem Jo (l : List Op) : (sorted l).length = l.length := (Jp _ l (Nat.le_refl _)).1
theorem sorted_weak (l : List Op) : Weak (sorted l) := (Jp _ l (Nat.le_refl _)).2.1
theorem Jn (l : List Op) (o : Op) : o ∈ sorted l ↔ o ∈ l := (Jp _ l (Nat.le_refl _)).2.2 o
theorem Inc.weak {l : List Op} (h : Inc l) : Weak l := h.imp fun g => zW g
theorem gather_unite {r : List Op} (h : Inc r) (l : List Op) : gather [] (both r (sorted l)) = unite r l := by
 refine (yU _ [] List.Pairwise.nil (j7 _ _ h.weak (sorted_weak l)) fun p hp => by cases hp).uniq ((QJ l r h).congr fun o => ?_)
 rw [Qa, Jn]; simp
end
section
open Go.Ac
def td : TDs := [(2, ⟨.int .i64, 1, 8, [.int .i64 0]⟩),
 (3, ⟨.int .i64, 1, 8, [.int .i64 0]⟩),
 (4, ⟨.bool, 1, 1, [.bool false]⟩),
 (5, ⟨.int .u8, 1, 1, [.int .u8 0]⟩),
 (9, ⟨.str, 1, 16, [.string .empty]⟩),
 (12, ⟨.int .u64, 1, 8, [.int .u64 0]⟩),
 (20, ⟨.iface, 1, 16, [.nilIface]⟩),
 (21, ⟨.int .i32, 1, 4, [.int .i32 0]⟩),
 (22, ⟨.slice 3, 1, 24, [.slice none 0 0]⟩),
 (23, ⟨.struct [(3, 0), (9, 1), (3, 2), (3, 3), (22, 4)], 5, 64, [.int .i64 0, .string .empty, .int .i64 0, .int .i64 0, .slice none 0 0]⟩),
 (24, ⟨.struct [(3, 0), (9, 1), (3, 2), (3, 3), (22, 4)], 5, 64, [.int .i64 0, .string .empty, .int .i64 0, .int .i64 0, .slice none 0 0]⟩),
 (25, ⟨.slice 71, 1, 24, [.slice none 0 0]⟩),
 (26, ⟨.slice 80, 1, 24, [.slice none 0 0]⟩),
 (27, ⟨.struct [(3, 0), (22, 1), (26, 2)], 3, 56, [.int .i64 0, .slice none 0 0, .slice none 0 0]⟩),
 (28, ⟨.struct [(3, 0), (22, 1), (26, 2)], 3, 56, [.int .i64 0, .slice none 0 0, .slice none 0 0]⟩),
 (29, ⟨.arr 3 28, 9, 168, [.int .i64 0, .slice none 0 0, .slice none 0 0, .int .i64 0, .slice none 0 0, .slice none 0 0, .int .i64 0, .slice none 0 0, .slice none 0 0]⟩),
 (30, ⟨.int .u16, 1, 2, [.int .u16 0]⟩),
 (31, ⟨.arr 3 30, 3, 6, [.int .u16 0, .int .u16 0, .int .u16 0]⟩),
 (32, ⟨.int .i64, 1, 8, [.int .i64 0]⟩),
 (43, ⟨.slice 56, 1, 24, [.slice none 0 0]⟩),
 (44, ⟨.struct [(24, 0), (25, 5), (43, 6)], 7, 112, [.int .i64 0, .string .empty, .int .i64 0, .int .i64 0, .slice none 0 0, .slice none 0 0, .slice none 0 0]⟩),
 (45, ⟨.struct [(24, 0), (25, 5), (43, 6)], 7, 112, [.int .i64 0, .string .empty, .int .i64 0, .int .i64 0, .slice none 0 0, .slice none 0 0, .slice none 0 0]⟩),
 (46, ⟨.slice 58, 1, 24, [.slice none 0 0]⟩),
 (49, ⟨.slice 94, 1, 24, [.slice none 0 0]⟩),
 (53, ⟨.struct [(3, 0), (3, 1)], 2, 16, [.int .i64 0, .int .i64 0]⟩),
 (54, ⟨.struct [(3, 0), (3, 1)], 2, 16, [.int .i64 0, .int .i64 0]⟩),
 (55, ⟨.struct [(3, 0), (3, 1), (3, 2), (54, 3), (3, 5), (9, 6)], 7, 64, [.int .i64 0, .int .i64 0, .int .i64 0, .int .i64 0, .int .i64 0, .int .i64 0, .string .empty]⟩),
 (56, ⟨.struct [(3, 0), (3, 1), (3, 2), (54, 3), (3, 5), (9, 6)], 7, 64, [.int .i64 0, .int .i64 0, .int .i64 0, .int .i64 0, .int .i64 0, .int .i64 0, .string .empty]⟩),
 (57, ⟨.struct [(56, 0), (32, 7)], 8, 72, [.int .i64 0, .int .i64 0, .int .i64 0, .int .i64 0, .int .i64 0, .int .i64 0, .string .empty, .int .i64 0]⟩),
 (58, ⟨.struct [(56, 0), (32, 7)], 8, 72, [.int .i64 0, .int .i64 0, .int .i64 0, .int .i64 0, .int .i64 0, .int .i64 0, .string .empty, .int .i64 0]⟩),
 (64, ⟨.slice 5, 1, 24, [.slice none 0 0]⟩),
 (70, ⟨.struct [(9, 0), (3, 1), (3, 2), (3, 3)], 4, 40, [.string .empty, .int .i64 0, .int .i64 0, .int .i64 0]⟩),
 (71, ⟨.struct [(9, 0), (3, 1), (3, 2), (3, 3)], 4, 40, [.string .empty, .int .i64 0, .int .i64 0, .int .i64 0]⟩),
 (76, ⟨.struct [(3, 0), (3, 1)], 2, 16, [.int .i64 0, .int .i64 0]⟩),
 (77, ⟨.struct [(3, 0), (3, 1)], 2, 16, [.int .i64 0, .int .i64 0]⟩),
 (78, ⟨.slice 77, 1, 24, [.slice none 0 0]⟩),
 (79, ⟨.struct [(77, 0), (3, 2), (3, 3), (56, 4), (3, 11), (3, 12), (9, 13), (78, 14)], 15, 152, [.int .i64 0, .int .i64 0, .int .i64 0, .int .i64 0, .int .i64 0, .int .i64 0, .int .i64 0, .int .i64 0, .int .i64 0, .int .i64 0, .string .empty, .int .i64 0, .int .i64 0, .string .empty, .slice none 0 0]⟩),
 (80, ⟨.struct [(77, 0), (3, 2), (3, 3), (56, 4), (3, 11), (3, 12), (9, 13), (78, 14)], 15, 152, [.int .i64 0, .int .i64 0, .int .i64 0, .int .i64 0, .int .i64 0, .int .i64 0, .int .i64 0, .int .i64 0, .int .i64 0, .int .i64 0, .string .empty, .int .i64 0, .int .i64 0, .string .empty, .slice none 0 0]⟩),
 (88, ⟨.ptr 91, 1, 8, [.pointer none]⟩),
 (89, ⟨.map 3 56, 1, 8, [.map none]⟩),
 (90, ⟨.struct [(24, 0), (25, 5), (43, 6), (89, 7)], 8, 120, [.int .i64 0, .string .empty, .int .i64 0, .int .i64 0, .slice none 0 0, .slice none 0 0, .slice none 0 0, .map none]⟩),
 (91, ⟨.struct [(24, 0), (25, 5), (43, 6), (89, 7)], 8, 120, [.int .i64 0, .string .empty, .int .i64 0, .int .i64 0, .slice none 0 0, .slice none 0 0, .slice none 0 0, .map none]⟩),
 (92, ⟨.slice 130, 1, 24, [.slice none 0 0]⟩),
 (93, ⟨.struct [(3, 0), (56, 1), (92, 8), (92, 9), (92, 10)], 11, 144, [.int .i64 0, .int .i64 0, .int .i64 0, .int .i64 0, .int .i64 0, .int .i64 0, .int .i64 0, .string .empty, .slice none 0 0, .slice none 0 0, .slice none 0 0]⟩),
 (94, ⟨.struct [(3, 0), (56, 1), (92, 8), (92, 9), (92, 10)], 11, 144, [.int .i64 0, .int .i64 0, .int .i64 0, .int .i64 0, .int .i64 0, .int .i64 0, .int .i64 0, .string .empty, .slice none 0 0, .slice none 0 0, .slice none 0 0]⟩),
 (123, ⟨.map 3 3, 1, 8, [.map none]⟩),
 (124, ⟨.map 174 4, 1, 8, [.map none]⟩),
 (125, ⟨.struct [(123, 0), (124, 1), (77, 2)], 4, 32, [.map none, .map none, .int .i64 0, .int .i64 0]⟩),
 (126, ⟨.struct [(123, 0), (124, 1), (77, 2)], 4, 32, [.map none, .map none, .int .i64 0, .int .i64 0]⟩),
 (128, ⟨.map 77 80, 1, 8, [.map none]⟩),
 (129, ⟨.struct [(77, 0), (3, 2), (9, 3)], 4, 40, [.int .i64 0, .int .i64 0, .int .i64 0, .string .empty]⟩),
 (130, ⟨.struct [(77, 0), (3, 2), (9, 3)], 4, 40, [.int .i64 0, .int .i64 0, .int .i64 0, .string .empty]⟩),
 (133, ⟨.struct [], 0, 0, []⟩),
 (134, ⟨.struct [], 0, 0, []⟩),
 (135, ⟨.struct [], 0, 0, []⟩),
 (136, ⟨.struct [], 0, 0, []⟩),
 (137, ⟨.struct [], 0, 0, []⟩),
 (138, ⟨.struct [], 0, 0, []⟩),
 (139, ⟨.struct [], 0, 0, []⟩),
 (140, ⟨.struct [], 0, 0, []⟩),
 (141, ⟨.slice 143, 1, 24, [.slice none 0 0]⟩),
 (142, ⟨.iface, 1, 16, [.nilIface]⟩),
 (143, ⟨.iface, 1, 16, [.nilIface]⟩),
 (147, ⟨.map 77 4, 1, 8, [.map none]⟩),
 (149, ⟨.slice 92, 1, 24, [.slice none 0 0]⟩),
 (155, ⟨.slice 54, 1, 24, [.slice none 0 0]⟩),
 (170, ⟨.ptr 126, 1, 8, [.pointer none]⟩),
 (172, ⟨.arr 3 3, 3, 24, [.int .i64 0, .int .i64 0, .int .i64 0]⟩),
 (173, ⟨.struct [(77, 0), (3, 2), (3, 3)], 4, 32, [.int .i64 0, .int .i64 0, .int .i64 0, .int .i64 0]⟩),
 (174, ⟨.struct [(77, 0), (3, 2), (3, 3)], 4, 32, [.int .i64 0, .int .i64 0, .int .i64 0, .int .i64 0]⟩),
 (175, ⟨.map 77 130, 1, 8, [.map none]⟩),
 (186, ⟨.arr 4 5, 4, 4, [.int .u8 0, .int .u8 0, .int .u8 0, .int .u8 0]⟩),
 (199, ⟨.int .u64, 1, 8, [.int .u64 0]⟩),
 (211, ⟨.ptr 213, 1, 8, [.pointer none]⟩),
 (212, ⟨.struct [(64, 0), (3, 1), (32, 2)], 3, 40, [.slice none 0 0, .int .i64 0, .int .i64 0]⟩),
 (213, ⟨.struct [(64, 0), (3, 1), (32, 2)], 3, 40, [.slice none 0 0, .int .i64 0, .int .i64 0]⟩),
 (215, ⟨.ptr 3, 1, 8, [.pointer none]⟩),
 (216, ⟨.slice 215, 1, 24, [.slice none 0 0]⟩),
 (219, ⟨.slice 32, 1, 24, [.slice none 0 0]⟩),
 (221, ⟨.int .i64, 1, 8, [.int .i64 0]⟩),
 (228, ⟨.int .u32, 1, 4, [.int .u32 0]⟩),
 (230, ⟨.int .u64, 1, 8, [.int .u64 0]⟩),
 (234, ⟨.int .u64, 1, 8, [.int .u64 0]⟩),
 (242, ⟨.ptr 234, 1, 8, [.pointer none]⟩),
 (246, ⟨.struct [(5, 0), (5, 1)], 2, 2, [.int .u8 0, .int .u8 0]⟩),
 (247, ⟨.struct [(5, 0), (5, 1)], 2, 2, [.int .u8 0, .int .u8 0]⟩),
 (248, ⟨.arr 16 247, 32, 32, [.int .u8 0, .int .u8 0, .int .u8 0, .int .u8 0, .int .u8 0, .int .u8 0, .int .u8 0, .int .u8 0, .int .u8 0, .int .u8 0, .int .u8 0, .int .u8 0, .int .u8 0, .int .u8 0, .int .u8 0, .int .u8 0, .int .u8 0, .int .u8 0, .int .u8 0, .int .u8 0, .int .u8 0, .int .u8 0, .int .u8 0, .int .u8 0, .int .u8 0, .int .u8 0, .int .u8 0, .int .u8 0, .int .u8 0, .int .u8 0, .int .u8 0, .int .u8 0]⟩),
 (258, ⟨.ptr 5, 1, 8, [.pointer none]⟩)]
theorem td_eq : tdsOf Tryz.prog [2, 3, 4, 5, 9, 12, 20, 21, 22, 23, 24, 25, 26, 27, 28, 29, 30, 31, 32, 43, 44, 45, 46, 49, 53, 54, 55, 56, 57, 58, 64, 70, 71, 76, 77, 78, 79, 80, 88, 89, 90, 91, 92, 93, 94, 123, 124, 125, 126, 128, 129, 130, 133, 134, 135, 136, 137, 138, 139, 140, 141, 142, 143, 147, 149, 155, 170, 172, 173, 174, 175, 186, 199, 211, 212, 213, 215, 216, 219, 221, 228, 230, 234, 242, 246, 247, 248, 258] = td := by kernel_rfl
instance tok : TOK Tryz.prog td := TOK.mk' [2, 3, 4, 5, 9, 12, 20, 21, 22, 23, 24, 25, 26, 27, 28, 29, 30, 31, 32, 43, 44, 45, 46, 49, 53, 54, 55, 56, 57, 58, 64, 70, 71, 76, 77, 78, 79, 80, 88, 89, 90, 91, 92, 93, 94, 123, 124, 125, 126, 128, 129, 130, 133, 134, 135, 136, 137, 138, 139, 140, 141, 142, 143, 147, 149, 155, 170, 172, 173, 174, 175, 186, 199, 211, 212, 213, 215, 216, 219, 221, 228, 230, 234, 242, 246, 247, 248, 258] td_eq
def stampC (s : Stamp) : List AV := [.v (.int .i64 s.count), .v (.int .i64 s.dev)]
def noteC (n : Note) : List AV := [.v (.int .i64 n.id), .v (.int .i64 n.tier), .v (.int .i64 n.parent), .v (.int .i64 n.span.fro), .v (.int .i64 n.span.til), .v (.int .i64 n.rank), .v (.string n.text)]
abbrev encStamps (l : List Stamp) : AV := .fs 2 l.length (l.map stampC)
def opC (o : Op) : List AV := [.v (.int .i64 o.at_.count), .v (.int .i64 o.at_.dev), .v (.int .i64 o.kind), .v (.int .i64 o.rec_),
 .v (.int .i64 o.note.id), .v (.int .i64 o.note.tier), .v (.int .i64 o.note.parent), .v (.int .i64 o.note.span.fro), .v (.int .i64 o.note.span.til), .v (.int .i64 o.note.rank), .v (.string o.note.text),
 .v (.int .i64 o.set), .v (.int .i64 o.n), .v (.string o.text), encStamps o.over]
def intC (n : Int) : List AV := [.v (.int .i64 n)]
abbrev encIs (l : List Int) : AV := .fs 1 l.length (l.map intC)
abbrev encOps (l : List Op) : AV := .fs 15 l.length (l.map opC)
def repC (r : Replica) : List AV := [.v (.int .i64 r.dev), encIs r.seen, encOps r.ops]
theorem Ze {l : List Stamp} {k : Nat} {t : Stamp} (h : l[k]? = some t) : 0 ≤ (k : Int) ∧ (l.map stampC)[(k : Int).toNat]? = some (stampC t) := ⟨by omega, by simp [h]⟩
theorem Za {l : List Op} {k : Nat} {t : Op} (h : l[k]? = some t) : 0 ≤ (k : Int) ∧ (l.map opC)[(k : Int).toNat]? = some (opC t) := ⟨by omega, by simp [h]⟩
theorem qI {l : List Int} {k : Nat} {t : Int} (h : l[k]? = some t) : 0 ≤ (k : Int) ∧ (l.map intC)[(k : Int).toNat]? = some (intC t) := ⟨by omega, by simp [h]⟩
end
end Go.Proofs.YtcfkokllinkigaaGreatDoor
