/- Conversions and comparisons of structs, in the abstract logic. -/
import Derived.Test.YtghbllbjjfjenaaAbMore
namespace Go.Ab
set_option linter.unusedSectionVars false
set_option linter.unusedVariables false
set_option linter.unusedSimpArgs false

def bytesA (s : ByteArray) : List (List AV) := s.data.toList.map fun b => [.v (.int .u8 b.toNat)]
theorem bytesA_length (s : ByteArray) : (bytesA s).length = s.size := by unfold bytesA; rw [List.length_map, Array.length_toList]; rfl

theorem run_stb {P : Program} (w : World) (e : TypeId) (s : ByteArray) : ∃ (w' : World) (arr : Array Value) (cap : Nat) (fr : Nat × Nat), (Conv.stringToBytes e s).run P w = .ok (.slice (some ⟨w.heap.size, 0, none⟩) s.size cap) w' ∧ Alloc w w' (.cells arr e fr) ∧ s.size ≤ cap ∧
    ∀ (j : Nat) (v : Value), (s.data.toList.map fun b => Value.int .u8 b.toNat)[j]? = some v → arr[j]? = some v := by
  let cap := (Question.appendCap s.size 0 e).cut (w.tape w.drawn (.appendCap s.size 0 e))
  let arr : Array Value := (s.data.map fun b => Value.int .u8 b.toNat) ++ Array.replicate (cap - s.size) (.int .u8 0)
  have hge : s.size ≤ cap := by simp [cap, Question.cut]
  refine ⟨(w.drew.alloc (.cells arr e)).freeze ⟨w.heap.size, arr.size, none⟩ 1, arr, cap, (arr.size, arr.size + 1), ?_, ?_, hge, ?_⟩
  · have hsh : (w.drew.alloc (.cells arr e)).shape? w.heap.size = some (e, arr.size) := by
      have := (Alloc.drew w (.cells arr e)).new
      simp only [World.shape?, this]
    simp only [Conv.stringToBytes, Sem.run_bind, run_choose, Question.forced, Bool.false_eq_true, if_false, Result.andThen_ok, newRow, run_newObj, Sem.run_pure, World.drew_eq, World.alloc_eq, markStringish, run_shape]
    show ((match (w.drew.alloc (.cells arr e)).shape? w.heap.size with | some (_, n) => freeze { block := w.heap.size, off := n } 1 | _ => pure ()).run P (w.drew.alloc (.cells arr e))).andThen _ = _
    rw [hsh]
    simp only [run_freeze, Result.andThen_ok, cap]
    rfl
  · have A := Alloc.drew w (.cells arr e)
    refine ⟨rfl, rfl, rfl, ?_, ?_, ?_⟩
    · simp [World.freeze, A.size]
    · simp only [World.freeze, Nat.one_ne_zero, if_false, Array.getElem?_modify, if_true]
      rw [A.new]; simp
    · intro b hb
      simp only [World.freeze, Nat.one_ne_zero, if_false, Array.getElem?_modify]
      rw [if_neg (by omega)]
      exact A.old b hb
  · intro j v hj
    have hlt : j < s.data.size := by
      rcases Nat.lt_or_ge j s.data.size with h | h
      · exact h
      · rw [List.getElem?_eq_none (by simpa using h)] at hj; cases hj
    simp only [arr]
    rw [Array.getElem?_append_left (by simpa using hlt)]
    simpa using hj

section
variable {P : Program} {td : TDs} [T : TOK P td] {G : List (Nat × List AV)} {N : Nat} {Q : AQ} {S S' : SL} {L : List LB}
  {op : Op} {ty : TypeId} {x : AV}

theorem int_desc {t : Nat} {k : IntKind} {d : TD} (ht : lk td t = some d) (hs : d.k = .int k) : P.underlying t = some (.int k) := by
  obtain ⟨i, u, z, h1, h2, h3, h4, h5, h6, h7⟩ := tok_parts (P := P) ht
  rw [hs] at h4
  cases u <;> simp only [tk, reduceCtorEq, TK.int.injEq] at h4
  simpa [h4] using h2

/-- []byte(s) -/
theorem ev_stb {t1 t2 e : Nat} {d1 d2 ed : TD} {u : Operand} {s : ByteArray} (h : val G S u = some (.v (.string s))) (h1 : lk td t1 = some d1) (k1 : d1.k = .str) (h2 : lk td t2 = some d2) (k2 : d2.k = .slice e) (he : lk td e = some ed) (ke : ed.k = .int .u8) :
    Ev2 P G N (.convert t1 t2 u) ty S L (.fs 1 s.size (bytesA s)) S L := by
  intro o ho _ cx a hc
  have e1 := val_R hc h
  simp only [R] at e1
  obtain ⟨w', arr, cap, fr, hr, A, hcap, hget⟩ := run_stb (P := P) cx.w e s
  have hs' := SubX.newF hc.st A
  obtain ⟨st', ex⟩ := hc.st.newF A
  refine ⟨.slice (some ⟨cx.w.heap.size, 0, none⟩) s.size cap, cx.newF w', ?_, ?_, st', ex, hc.sr.mono_all hs'⟩
  · have q1 := str_desc (P := P) h1 k1
    have q2 := slice_desc (P := P) h2 k2
    have q3 := int_desc (P := P) he ke
    simp only [execOp, ho, e1, convert, Sem.run_bind, run_underlying q1, run_underlying q2, run_underlying q3, Result.andThen_ok, hr, Sem.run_pure]; rfl
  · simp only [R, RF]
    refine ⟨bytesA_length s, _, cap, rfl, hcap, fun _ => ⟨cx.w.heap.size, 0, rfl, .inr rfl, ?_⟩⟩
    have hEL : EL (cx.newF w').F w' 1 (bytesA s) (s.data.toList.map fun b => Value.int .u8 b.toNat) := by
      simp only [bytesA]
      induction s.data.toList with
      | nil => simp [EL]
      | cons b r ih =>
        simp only [List.map_cons, EL]
        exact ⟨[_], _, rfl, rfl, by simp only [LF]; exact ⟨_, [], rfl, by simp only [RF], rfl, rfl⟩, ih⟩
    exact EF.of hEL (rangeAt_row A.new fun j v hj => by rw [Nat.zero_add]; exact hget j v hj)

/-- A named type's value under another name. -/
theorem ev_conv_int {t1 t2 : Nat} {d1 d2 : TD} {u : Operand} {n : Int} {k k2 : IntKind} {m : Int} (h : val G S u = some (.v (.int k n))) (h1 : lk td t1 = some d1) (h2 : lk td t2 = some d2) (k2' : d2.k = .int k2) (hm : k2.wrap n = m) :
    Ev P G N (.convert t1 t2 u) ty S L (.v (.int k2 m)) := by
  subst hm
  intro o ho _ cx a hc
  have e1 := val_R hc h
  simp only [R] at e1
  obtain ⟨i, ud, z, g1, g2, g3, g4, g5, g6, g7⟩ := tok_parts (P := P) h1
  have q2 := int_desc (P := P) h2 k2'
  refine ⟨.int k2 (k2.wrap n), ?_, by simp only [R]⟩
  simp only [execOp, ho, e1, convert, Sem.run_bind, run_underlying g2, run_underlying q2, Result.andThen_ok]
  cases ud <;> simp [Conv.intToInt]

/-- What '==' says of two structs of type t, both without parts of their own. -/
def EqT (P : Program) (t : TypeId) (f : List Value → List Value → Option Bool) : Prop :=
  ∀ (xs ys : List Value) (b : Bool) (w : World), f xs ys = some b → (Op.equalIn 10000 t (.agg xs.toArray) (.agg ys.toArray)).run P w = .ok b w

def scalL : List AV → Option (List Value)
  | [] => some []
  | .v x :: r => match scalL r with
    | some xs => some (x :: xs)
    | none => none
  | _ :: _ => none
theorem scalL_LF {F : Nat → Prop} {w : World} : ∀ {cs : List AV} {xs ys : List Value}, scalL cs = some xs → LF F w cs ys → ys = xs
  | [], xs, ys, h, g => by simp only [scalL, Option.some.injEq] at h; subst h; simpa only [LF] using g
  | .v x :: r, xs, ys, h, g => by
    simp only [scalL] at h
    split at h
    · rename_i xs' hx
      injection h with h; subst h
      simp only [LF, RF] at g
      obtain ⟨y, s, rfl, rfl, _, g⟩ := g
      rw [scalL_LF hx g]
    · cases h
  | .any :: r, _, _, h, _ => by simp [scalL] at h
  | .fs _ _ _ :: r, _, _, h, _ => by simp [scalL] at h
  | .fz :: r, _, _, h, _ => by simp [scalL] at h
  | .fp _ :: r, _, _, h, _ => by simp [scalL] at h
  | .lp _ _ :: r, _, _, h, _ => by simp [scalL] at h
  | .ep _ _ _ :: r, _, _, h, _ => by simp [scalL] at h
  | .os _ :: r, _, _, h, _ => by simp [scalL] at h
  | .mp _ :: r, _, _, h, _ => by simp [scalL] at h
  | .agg _ :: r, _, _, h, _ => by simp [scalL] at h
  | .lag _ :: r, _, _, h, _ => by simp [scalL] at h
  | .tup _ :: r, _, _, h, _ => by simp [scalL] at h
  | .fn _ _ _ :: r, _, _, h, _ => by simp [scalL] at h
  | .ifc _ _ :: r, _, _, h, _ => by simp [scalL] at h

theorem ev_eq_agg {t yt : Nat} {u q : Operand} {cs ds : List AV} {xs ys : List Value} {f : List Value → List Value → Option Bool} {b : Bool} {neg : Bool} (hE : EqT P t f) (hg : P.eqGuardType P.depth t = false)
    (hu : val G S u = some (.agg cs)) (hq : val G S q = some (.agg ds)) (hx : scalL cs = some xs) (hy : scalL ds = some ys) (hf : f xs ys = some b) :
    Ev P G N (.binOp (bif neg then .neq else .eql) t u q yt) ty S L (.v (.bool (bif neg then !b else b))) := by
  intro o ho _ cx a hc
  have e1 := val_R hc hu
  have e2 := val_R hc hq
  simp only [R, RF] at e1 e2
  obtain ⟨xa, e1, l1⟩ := e1
  obtain ⟨ya, e2, l2⟩ := e2
  have g1 := scalL_LF hx l1
  have g2 := scalL_LF hy l2
  have hr := hE xs ys b cx.w hf
  have hxa : xa = xs.toArray := by apply Array.ext'; simpa using g1
  have hya : ya = ys.toArray := by apply Array.ext'; simpa using g2
  subst hxa hya
  refine ⟨.bool (bif neg then !b else b), ?_, by simp only [R]⟩
  cases neg
  · simp only [cond_false] at ho ⊢
    simp only [execOp, ho, e1, e2, Sem.run_bind, run_eqGuard_agg (P := P) cx.w .eql t u q _ _ hg, Result.andThen_ok, run_eql_struct, hr, Sem.run_pure]
  · simp only [cond_true] at ho ⊢
    simp only [execOp, ho, e1, e2, Sem.run_bind, run_eqGuard_agg (P := P) cx.w .neq t u q _ _ hg, Result.andThen_ok, run_neq_struct, hr, Sem.run_pure]
end
end Go.Ab
