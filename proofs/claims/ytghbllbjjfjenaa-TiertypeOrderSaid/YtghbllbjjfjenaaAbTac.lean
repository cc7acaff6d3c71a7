/- Rules in the shapes that a walk by alternatives wants. -/
import Derived.Test.YtghbllbjjfjenaaAbConv
namespace Go.Ab
set_option linter.unusedSectionVars false
set_option linter.unusedVariables false
set_option linter.unusedSimpArgs false

abbrev vi (n : Int) : AV := .v (.int .i64 n)
abbrev vb (b : Bool) : AV := .v (.bool b)
abbrev vs (s : ByteArray) : AV := .v (.string s)

section
variable {P : Program} {G : List (Nat × List AV)} {N : Nat} {Q : AQ} {S Sb D : SL} {L : List LB} {ops : Array Oper} {rest : List Oper}
  {op : Op} {ty : TypeId} {pos : String} {af : Array Edge} {d : Nat} {x : AV}

theorem awpL_passT {j t : Nat} {b : Bool} (hj : (ops.toList[j]?).bind (·.dst) = some t) (hg : get S t = some (.v (.bool b))) (ht : Nat.blt t N = true) (hd : Nat.blt d N = true) (hb : b = false)
    (k : awpL P G N ops rest Q ((d, .v undef) :: S) L) : awpL P G N ops (⟨some d, op, ty, pos, af, some (j, true)⟩ :: rest) Q S L :=
  awpL_pass hj hg ht hd (by rw [hb]; rfl) k
theorem awpL_passF {j t : Nat} {b : Bool} (hj : (ops.toList[j]?).bind (·.dst) = some t) (hg : get S t = some (.v (.bool b))) (ht : Nat.blt t N = true) (hd : Nat.blt d N = true) (hb : b = true)
    (k : awpL P G N ops rest Q ((d, .v undef) :: S) L) : awpL P G N ops (⟨some d, op, ty, pos, af, some (j, false)⟩ :: rest) Q S L :=
  awpL_pass hj hg ht hd (by rw [hb]; rfl) k
theorem awpL_split {j t : Nat} {want b : Bool} {dst : Option Tmp} (hj : (ops.toList[j]?).bind (·.dst) = some t) (hg : get S t = some (.v (.bool b)))
    (h1 : b = true → awpL P G N ops (⟨dst, op, ty, pos, af, some (j, want)⟩ :: rest) Q S L) (h2 : b = false → awpL P G N ops (⟨dst, op, ty, pos, af, some (j, want)⟩ :: rest) Q S L) :
    awpL P G N ops (⟨dst, op, ty, pos, af, some (j, want)⟩ :: rest) Q S L := by
  cases hb : b
  · exact h2 hb
  · exact h1 hb

theorem awpD_nil (h : Q .normal (D ++ Sb) L) : awpD P G N Q Sb L [] D := h
theorem awpD_ev (h : Ev P G N op ty (pvS af D Sb) L x) (k : awpD P G N Q Sb L rest (D ++ [(d, x)])) : awpD P G N Q Sb L (⟨some d, op, ty, pos, af, none⟩ :: rest) D :=
  ⟨d, x, rfl, pev_ev h, k⟩
theorem awpD_call {f : FuncId} {us : Array Operand} {ats : Array TypeId} {args : List AV} (hargs : vals G (pvS af D Sb) us.toList = some args) (hF : args.all isF = true) (h : PCalls P G f args x)
    (k : awpD P G N Q Sb L rest (D ++ [(d, x)])) : awpD P G N Q Sb L (⟨some d, .call { callee := .value (.func f), args := us, argTypes := ats }, ty, pos, af, none⟩ :: rest) D :=
  ⟨d, x, rfl, pev_call hargs hF h, k⟩
theorem awpD_callS {f : FuncId} {us : Array Operand} {ats : Array TypeId} {args args' : List AV} (hargs : vals G (pvS af D Sb) us.toList = some args) (hex : exL L args = args') (h : PCalls P G f args' x) (hs : scal x = true)
    (k : awpD P G N Q Sb L rest (D ++ [(d, x)])) : awpD P G N Q Sb L (⟨some d, .call { callee := .value (.func f), args := us, argTypes := ats }, ty, pos, af, none⟩ :: rest) D :=
  ⟨d, x, rfl, pev_callS hargs hex h hs, k⟩
theorem awpD_run {j t : Nat} {want b : Bool} {dst : Option Tmp} (hE : hasE af.toList j = true) (hD : D[j]? = some (t, .v (.bool b))) (hb : b = want)
    (k : awpD P G N Q Sb L (⟨dst, op, ty, pos, af, none⟩ :: rest) D) : awpD P G N Q Sb L (⟨dst, op, ty, pos, af, some (j, want)⟩ :: rest) D := by
  subst hb
  obtain ⟨d, x, h1, h2, h3⟩ := k
  exact ⟨d, x, h1, ⟨hE, t, _, hD, .inl ⟨rfl, h2⟩⟩, h3⟩
theorem awpD_passT {j t : Nat} {b : Bool} (hE : hasE af.toList j = true) (hD : D[j]? = some (t, .v (.bool b))) (hb : b = false)
    (k : awpD P G N Q Sb L rest (D ++ [(d, .v undef)])) : awpD P G N Q Sb L (⟨some d, op, ty, pos, af, some (j, true)⟩ :: rest) D :=
  ⟨d, _, rfl, ⟨hE, t, _, hD, .inr (.inl ⟨by rw [hb]; rfl, rfl⟩)⟩, k⟩
theorem awpD_passF {j t : Nat} {b : Bool} (hE : hasE af.toList j = true) (hD : D[j]? = some (t, .v (.bool b))) (hb : b = true)
    (k : awpD P G N Q Sb L rest (D ++ [(d, .v undef)])) : awpD P G N Q Sb L (⟨some d, op, ty, pos, af, some (j, false)⟩ :: rest) D :=
  ⟨d, _, rfl, ⟨hE, t, _, hD, .inr (.inl ⟨by rw [hb]; rfl, rfl⟩)⟩, k⟩
theorem awpD_passU {j t : Nat} {want : Bool} (hE : hasE af.toList j = true) (hD : D[j]? = some (t, .v undef))
    (k : awpD P G N Q Sb L rest (D ++ [(d, .v undef)])) : awpD P G N Q Sb L (⟨some d, op, ty, pos, af, some (j, want)⟩ :: rest) D :=
  ⟨d, _, rfl, ⟨hE, t, _, hD, .inr (.inr ⟨rfl, rfl⟩)⟩, k⟩
theorem awpD_split {j t : Nat} {want b : Bool} {dst : Option Tmp} (hD : D[j]? = some (t, .v (.bool b)))
    (h1 : b = true → awpD P G N Q Sb L (⟨dst, op, ty, pos, af, some (j, want)⟩ :: rest) D) (h2 : b = false → awpD P G N Q Sb L (⟨dst, op, ty, pos, af, some (j, want)⟩ :: rest) D) :
    awpD P G N Q Sb L (⟨dst, op, ty, pos, af, some (j, want)⟩ :: rest) D := by
  cases hb : b
  · exact h2 hb
  · exact h1 hb

theorem pcalls' {td : TDs} [T : TOK P td] {f : FuncId} {fn : Func} {c : Code} {args : List AV} {r : AV} (hf : P.funcs[f]? = some fn) (hn : fn.ntmps = N) (hb : fn.body = some c) (hN : Nat.ble args.length N = true) (hname : (fn.name == "runtime.NumGoroutine") = false)
    (h : awp P G N c (retQ td fn.results.toList fun r' L' => Le (ex L' r') r) (argS 0 args) []) : PCalls P G f args r :=
  pcalls hf hb hn (Nat.le_of_ble_eq_true hN) hname h

/-- No other local block leans on block k. -/
def hidOk (k : Nat) : Nat → List LB → Bool
  | _, [] => true
  | i, y :: r => (Nat.beq i k || noidB (but k) y) && hidOk k (i + 1) r
theorem hidOk_spec {k : Nat} : ∀ {L : List LB} {i : Nat}, hidOk k i L = true → ∀ j y, L[j]? = some y → i + j ≠ k → noidB (but k) y = true
  | [], _, _, j, y, h, _ => by simp at h
  | z :: r, i, hk, j, y, h, hj => by
    simp only [hidOk, Bool.and_eq_true, Bool.or_eq_true] at hk
    cases j with
    | zero =>
      simp at h; subst h
      rcases hk.1 with h1 | h1
      · exact absurd (Nat.eq_of_beq_eq_true h1) (by simpa using hj)
      · exact h1
    | succ j => exact hidOk_spec hk.2 j y (by simpa using h) (by omega)

theorem ev_app {td : TDs} [T : TOK P td] {S' : SL} {t e k sz : Nat} {d ed : TD} {u q : Operand} {es new es' : List (List AV)} {ats : Array TypeId} {L' : List LB} (h : val G S u = some (.os k)) (hk : L[k]? = some (.own e sz es)) (hq : val G S q = some x) (hsrc : src L x = some new) (hssz : srcSz L sz x = true)
    (hat : ats = #[t, t]) (ht : lk td t = some d) (hs : d.k = .slice e) (he : lk td e = some ed) (hsz : ed.size = sz) (hzl : ed.zero.length = sz) (hpos : Nat.blt 0 sz = true) (hby : Nat.ble ed.bytes 1000 = true)
    (hb : es.length + new.length ≤ 1000000) (hK : Keep (but k) S S') (hid : hidOk k 0 L = true) (hes : es ++ new = es') (hL : L.set k (.own e sz es') = L') :
    Ev2 P G N (.call { callee := .builtin .append, args := #[u, q], argTypes := ats }) ty S L (.os k) S' L' := by
  subst hes hL
  refine ev_append h hk hq hsrc hssz hat ht hs he hsz hzl hpos ⟨?_, ?_⟩ hK (fun j y hj hne => hidOk_spec hid j y hj (by simpa using hne))
  · have := Nat.le_of_ble_eq_true hby
    calc (es.length + new.length) * ed.bytes ≤ 1000000 * 1000 := Nat.mul_le_mul hb this
      _ ≤ 140737488355328 := by omega
  · simp only [maxLen]; omega
end
end Go.Ab
