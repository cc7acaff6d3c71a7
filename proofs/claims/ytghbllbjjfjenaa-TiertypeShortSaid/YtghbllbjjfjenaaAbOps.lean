/- Operations that only compute or read, in the abstract logic. -/
import Derived.Test.YtghbllbjjfjenaaAbCore
namespace Go.Ab
set_option linter.unusedSectionVars false
set_option linter.unusedVariables false
set_option linter.unusedSimpArgs false

inductive TK where
  | int (k : IntKind)
  | bool
  | str
  | slice (e : TypeId)
  | ptr (e : TypeId)
  | struct (fs : List (TypeId × Nat))
  | arr (n : Nat) (e : TypeId)
  | map (k e : TypeId)
  | iface
  | other
structure TD where
  k : TK
  size : Nat
  bytes : Nat
  zero : List Value
abbrev TDs := List (Nat × TD)
def lk : TDs → Nat → Option TD
  | [], _ => none
  | (d, x) :: S, t => bif Nat.beq d t then some x else lk S t

def tk : TypeDesc → TK
  | .int k => .int k
  | .bool => .bool
  | .string => .str
  | .slice e => .slice e
  | .pointer e => .ptr e
  | .struct fs => .struct (fs.toList.map fun f => (f.type, f.offset))
  | .array n e => .arr n e
  | .map k e => .map k e
  | .interface _ => .iface
  | _ => .other
def TK.row : TK → Bool
  | .struct _ | .arr _ _ => true
  | _ => false

def tdOf (P : Program) (t : Nat) : Option TD :=
  match P.info? t, P.underlying t with
  | some i, some u => match i.zero with
    | some z => some ⟨tk u, i.size, i.bytes, z.cells.toList⟩
    | none => none
  | _, _ => none
def tdsOf (P : Program) (ts : List Nat) : TDs := ts.filterMap fun t => (tdOf P t).map (t, ·)

/-- The types of a program, as a list. -/
class TOK (P : Program) (td : outParam TDs) : Prop where
  ok : ∀ t d, lk td t = some d → tdOf P t = some d

theorem lk_tdsOf (P : Program) (ts : List Nat) : ∀ t d, lk (tdsOf P ts) t = some d → tdOf P t = some d := by
  induction ts with
  | nil => intro t d h; simp [tdsOf, lk] at h
  | cons a r ih =>
    intro t d h
    simp only [tdsOf, List.filterMap_cons] at h
    cases ha : tdOf P a with
    | none => rw [ha] at h; exact ih t d h
    | some x =>
      rw [ha] at h
      simp only [Option.map_some, lk] at h
      cases hb : Nat.beq a t with
      | false => rw [hb] at h; exact ih t d h
      | true =>
        rw [hb] at h
        simp only [cond_true, Option.some.injEq] at h
        have := Nat.eq_of_beq_eq_true hb
        subst this h; exact ha
theorem TOK.mk' {P : Program} {td : TDs} (ts : List Nat) (h : tdsOf P ts = td) : TOK P td := ⟨fun t d => by rw [← h]; exact lk_tdsOf P ts t d⟩

theorem tdOf_parts {P : Program} {t : Nat} {d : TD} (h : tdOf P t = some d) :
    ∃ i u z, P.info? t = some i ∧ P.underlying t = some u ∧ i.zero = some z ∧ tk u = d.k ∧ i.size = d.size ∧ i.bytes = d.bytes ∧ z.cells.toList = d.zero := by
  unfold tdOf at h
  split at h
  · rename_i i u hi hu
    cases hz : i.zero with
    | none => simp [hz] at h
    | some z =>
      simp only [hz, Option.some.injEq] at h
      subst h
      exact ⟨i, u, z, hi, hu, hz, rfl, rfl, rfl, rfl⟩
  · cases h

def getG : List (Nat × List AV) → Nat → Option AV
  | [], _ => none
  | (d, x) :: S, t => bif Nat.beq d t then some (.fp x) else getG S t

def val (G : List (Nat × List AV)) (S : SL) : Operand → Option AV
  | .tmp t => get S t
  | .const c => some (.v c)
  | .global g => getG G g
  | .func f => some (.fn f [] [])

theorem getG_mem {G : List (Nat × List AV)} {g : Nat} {x : AV} (h : getG G g = some x) : ∃ cs, (g, cs) ∈ G ∧ x = .fp cs := by
  induction G with
  | nil => simp [getG] at h
  | cons p r ih =>
    obtain ⟨d, cs⟩ := p
    simp only [getG] at h
    cases hb : Nat.beq d g with
    | false => rw [hb] at h; obtain ⟨cs', h1, h2⟩ := ih h; exact ⟨cs', List.mem_cons_of_mem _ h1, h2⟩
    | true =>
      rw [hb] at h
      simp only [cond_true, Option.some.injEq] at h
      have := Nat.eq_of_beq_eq_true hb
      subst this h; exact ⟨cs, List.mem_cons_self .., rfl⟩

theorem val_R {G : List (Nat × List AV)} {N : Nat} {S : SL} {L : List LB} {cx : Cx} {a : Act} (hc : Cn G N S L cx a) {o : Operand} {x : AV} (h : val G S o = some x) :
    R cx x (a.eval o) := by
  cases o with
  | tmp t => exact hc.sr t x h
  | const c => simp only [val, Option.some.injEq] at h; subst h; simp only [R, Act.eval]
  | global g =>
    simp only [val] at h
    obtain ⟨cs, hm, rfl⟩ := getG_mem h
    obtain ⟨h1, h2⟩ := hc.st.glob _ hm
    simp only [R, RF, Act.eval]
    exact ⟨g, 0, rfl, h1, h2⟩
  | func f =>
    simp only [val, Option.some.injEq] at h; subst h
    simp only [R, Act.eval, TR]
    exact ⟨#[], #[], rfl, rfl, rfl⟩

/-- An operation that leaves the world alone and yields x. -/
def Ev (P : Program) (G : List (Nat × List AV)) (N : Nat) (op : Op) (ty : TypeId) (S : SL) (L : List LB) (x : AV) : Prop :=
  ∀ o : Oper, o.op = op → o.type = ty → ∀ (cx : Cx) (a : Act), Cn G N S L cx a → ∃ y, (execOp a.eval o).run P cx.w = .ok (.value y) cx.w ∧ R cx x y

section
variable {P : Program} {G : List (Nat × List AV)} {N : Nat} {Q : AQ} {S : SL} {L : List LB} {ops : Array Oper} {rest : List Oper}
  {op : Op} {ty : TypeId} {pos : String} {af : Array Edge} {d : Nat} {x : AV}

theorem awpL_ev (h : Ev P G N op ty S L x) (hd : Nat.blt d N = true) (k : awpL P G N ops rest Q ((d, x) :: S) L) :
    awpL P G N ops (⟨some d, op, ty, pos, af, none⟩ :: rest) Q S L := by
  intro cx a hc
  obtain ⟨y, hr, hx⟩ := h ⟨some d, op, ty, pos, af, none⟩ rfl rfl cx a hc
  refine wpList_plain rfl fun K hK => ?_
  simp only [Oper.wp, hr, Oper.upon_value]
  refine hK _ _ (k cx _ ⟨hc.st, hc.de, by simpa [Act.put] using hc.sz, ?_⟩)
  exact SR.put hc.sr (by rw [hc.sz]; exact Nat.le_of_ble_eq_true hd) hx

/-- A guarded operation that is wanted. -/
theorem awpL_run {dst : Option Tmp} {j t : Nat} {want b : Bool} (hj : (ops.toList[j]?).bind (·.dst) = some t) (hg : get S t = some (.v (.bool b))) (ht : Nat.blt t N = true) (hb : b = want)
    (k : awpL P G N ops (⟨dst, op, ty, pos, af, none⟩ :: rest) Q S L) : awpL P G N ops (⟨dst, op, ty, pos, af, some (j, want)⟩ :: rest) Q S L := by
  subst hb
  intro cx a hc
  have hv := hc.sr t _ hg
  simp only [R] at hv
  have htt : t < a.tmps.size := by rw [hc.sz]; exact Nat.le_of_ble_eq_true ht
  have hv' : a.tmps[t]? = some (.bool b) := by
    rw [Array.getD_eq_getD_getElem?, Array.getElem?_eq_getElem htt] at hv
    rw [Array.getElem?_eq_getElem htt]
    simpa using hv
  have hw : Region.wanted ⟨dst, op, ty, pos, af, some (j, b)⟩ (yielded ops a.tmps) = true := by
    simp only [Region.wanted, yielded]
    rw [show (ops[j]?).bind (·.dst) = some t by simpa using hj]
    simp [hv']
  have := k cx a hc
  simp only [wpList, Region.wanted, if_true] at this
  simp only [wpList, hw, if_true]
  exact this

theorem awpL_pass {j t : Nat} {want b : Bool} (hj : (ops.toList[j]?).bind (·.dst) = some t) (hg : get S t = some (.v (.bool b))) (ht : Nat.blt t N = true) (hd : Nat.blt d N = true) (hb : b = !want)
    (k : awpL P G N ops rest Q ((d, .v undef) :: S) L) : awpL P G N ops (⟨some d, op, ty, pos, af, some (j, want)⟩ :: rest) Q S L := by
  subst hb
  intro cx a hc
  have hv := hc.sr t _ hg
  simp only [R] at hv
  have htt : t < a.tmps.size := by rw [hc.sz]; exact Nat.le_of_ble_eq_true ht
  have hv' : a.tmps[t]? = some (.bool !want) := by
    rw [Array.getD_eq_getD_getElem?, Array.getElem?_eq_getElem htt] at hv
    rw [Array.getElem?_eq_getElem htt]
    simpa using hv
  have hw : Region.wanted ⟨some d, op, ty, pos, af, some (j, want)⟩ (yielded ops a.tmps) = false := by
    simp only [Region.wanted, yielded]
    rw [show (ops[j]?).bind (·.dst) = some t by simpa using hj]
    cases want <;> simp [hv']
  simp only [wpList, hw]
  refine k cx _ ⟨hc.st, hc.de, by simpa [Act.put] using hc.sz, ?_⟩
  exact SR.put hc.sr (by rw [hc.sz]; exact Nat.le_of_ble_eq_true hd) (by simp only [R])

theorem awpL_passU {j t : Nat} {want : Bool} (hj : (ops.toList[j]?).bind (·.dst) = some t) (hg : get S t = some (.v undef)) (ht : Nat.blt t N = true) (hd : Nat.blt d N = true)
    (k : awpL P G N ops rest Q ((d, .v undef) :: S) L) : awpL P G N ops (⟨some d, op, ty, pos, af, some (j, want)⟩ :: rest) Q S L := by
  intro cx a hc
  have hv := hc.sr t _ hg
  simp only [R] at hv
  have htt : t < a.tmps.size := by rw [hc.sz]; exact Nat.le_of_ble_eq_true ht
  have hv' : a.tmps[t]? = some undef := by
    rw [Array.getD_eq_getD_getElem?, Array.getElem?_eq_getElem htt] at hv
    rw [Array.getElem?_eq_getElem htt]
    simpa using hv
  have hw : Region.wanted ⟨some d, op, ty, pos, af, some (j, want)⟩ (yielded ops a.tmps) = false := by
    simp only [Region.wanted, yielded]
    rw [show (ops[j]?).bind (·.dst) = some t by simpa using hj]
    simp [hv', undef]
  simp only [wpList, hw]
  refine k cx _ ⟨hc.st, hc.de, by simpa [Act.put] using hc.sz, ?_⟩
  exact SR.put hc.sr (by rw [hc.sz]; exact Nat.le_of_ble_eq_true hd) (by simp only [R])

theorem ev_move {o : Operand} (h : val G S o = some x) : Ev P G N (.move o) ty S L x := by
  intro q hq _ cx a hc
  exact ⟨a.eval o, by simp only [execOp, hq, Sem.run_pure], val_R hc h⟩
theorem ev_assign {o : Operand} (h : val G S o = some x) : Ev P G N (.assign o) ty S L x := by
  intro q hq _ cx a hc
  exact ⟨a.eval o, by simp only [execOp, hq, Sem.run_pure], val_R hc h⟩

theorem ev_pick_t {c u e : Operand} {b : Bool} (hc' : val G S c = some (.v (.bool b))) (hb : b = true) (h : val G S u = some x) : Ev P G N (.pick c u e) ty S L x := by
  intro q hq _ cx a hc
  subst hb
  have hv := val_R hc hc'
  simp only [R] at hv
  exact ⟨a.eval u, by simp [execOp, hq, hv, asBool], val_R hc h⟩
theorem ev_pick_f {c u e : Operand} {b : Bool} (hc' : val G S c = some (.v (.bool b))) (hb : b = false) (h : val G S e = some x) : Ev P G N (.pick c u e) ty S L x := by
  intro q hq _ cx a hc
  subst hb
  have hv := val_R hc hc'
  simp only [R] at hv
  exact ⟨a.eval e, by simp [execOp, hq, hv, asBool], val_R hc h⟩

/-- Of two scalars. -/
def binv : BinOp → Value → Value → Option Value
  | .add, .int .i64 a, .int .i64 b => some (.int .i64 (IntKind.i64.wrap (a + b)))
  | .sub, .int .i64 a, .int .i64 b => some (.int .i64 (IntKind.i64.wrap (a - b)))
  | .mul, .int .i64 a, .int .i64 b => some (.int .i64 (IntKind.i64.wrap (a * b)))
  | .eql, .int .i64 a, .int .i64 b => some (.bool (decide (a = b)))
  | .neq, .int .i64 a, .int .i64 b => some (.bool (!decide (a = b)))
  | .lss, .int .i64 a, .int .i64 b => some (.bool (decide (a < b)))
  | .leq, .int .i64 a, .int .i64 b => some (.bool (decide (a ≤ b)))
  | .gtr, .int .i64 a, .int .i64 b => some (.bool (decide (b < a)))
  | .geq, .int .i64 a, .int .i64 b => some (.bool (decide (b ≤ a)))
  | .eql, .int .u8 a, .int .u8 b => some (.bool (decide (a = b)))
  | .neq, .int .u8 a, .int .u8 b => some (.bool (!decide (a = b)))
  | .lss, .int .u8 a, .int .u8 b => some (.bool (decide (a < b)))
  | .leq, .int .u8 a, .int .u8 b => some (.bool (decide (a ≤ b)))
  | .gtr, .int .u8 a, .int .u8 b => some (.bool (decide (b < a)))
  | .geq, .int .u8 a, .int .u8 b => some (.bool (decide (b ≤ a)))
  | .eql, .string a, .string b => some (.bool (decide (a = b)))
  | .neq, .string a, .string b => some (.bool (!decide (a = b)))
  | _, _, _ => none

theorem beq_bytes (a b : ByteArray) : (a.toList == b.toList) = decide (a = b) := by
  rw [← beq_toListBytes]
  cases a with | mk x => cases b with | mk y =>
  show (x == y) = _
  by_cases h : x = y
  · subst h; simp
  · have h2 : ¬ (ByteArray.mk x = ByteArray.mk y) := fun e => h (by injection e)
    simp [h, h2]

theorem ev_bin {bo : BinOp} {xt yt : TypeId} {u e : Operand} {p q r : Value} (h1 : val G S u = some (.v p)) (h2 : val G S e = some (.v q)) (hr : binv bo p q = some r) :
    Ev P G N (.binOp bo xt u e yt) ty S L (.v r) := by
  intro o ho _ cx a hc
  have e1 := val_R hc h1
  have e2 := val_R hc h2
  simp only [R] at e1 e2
  refine ⟨r, ?_, by simp only [R]⟩
  simp only [execOp, ho, e1, e2]
  unfold binv at hr
  split at hr <;> simp only [Option.some.injEq, reduceCtorEq] at hr <;> subst hr <;>
    simp [eqGuard, binOp, Op.intArith, Op.intCmp, Op.stringOp, beq_bytes] <;> (first | rfl | skip)

theorem wrap_in {n : Int} (h1 : -9223372036854775808 ≤ n) (h2 : n ≤ 9223372036854775807) : IntKind.i64.wrap n = n := by
  rw [IntKind.wrap_i64]; omega

theorem ev_add {xt yt : TypeId} {u e : Operand} {p q : Int} (h1 : val G S u = some (.v (.int .i64 p))) (h2 : val G S e = some (.v (.int .i64 q)))
    (hr : -9223372036854775808 ≤ p + q ∧ p + q ≤ 9223372036854775807) : Ev P G N (.binOp .add xt u e yt) ty S L (.v (.int .i64 (p + q))) := by
  have := ev_bin (P := P) (N := N) (L := L) (ty := ty) (xt := xt) (yt := yt) (bo := .add) h1 h2 rfl
  rwa [wrap_in hr.1 hr.2] at this
theorem ev_sub {xt yt : TypeId} {u e : Operand} {p q : Int} (h1 : val G S u = some (.v (.int .i64 p))) (h2 : val G S e = some (.v (.int .i64 q)))
    (hr : -9223372036854775808 ≤ p - q ∧ p - q ≤ 9223372036854775807) : Ev P G N (.binOp .sub xt u e yt) ty S L (.v (.int .i64 (p - q))) := by
  have := ev_bin (P := P) (N := N) (L := L) (ty := ty) (xt := xt) (yt := yt) (bo := .sub) h1 h2 rfl
  rwa [wrap_in hr.1 hr.2] at this
theorem ev_mul {xt yt : TypeId} {u e : Operand} {p q : Int} (h1 : val G S u = some (.v (.int .i64 p))) (h2 : val G S e = some (.v (.int .i64 q)))
    (hr : -9223372036854775808 ≤ p * q ∧ p * q ≤ 9223372036854775807) : Ev P G N (.binOp .mul xt u e yt) ty S L (.v (.int .i64 (p * q))) := by
  have := ev_bin (P := P) (N := N) (L := L) (ty := ty) (xt := xt) (yt := yt) (bo := .mul) h1 h2 rfl
  rwa [wrap_in hr.1 hr.2] at this

theorem ev_quo {xt yt : TypeId} {u e : Operand} {p q : Int} (h1 : val G S u = some (.v (.int .i64 p))) (h2 : val G S e = some (.v (.int .i64 q)))
    (hr : 0 ≤ p ∧ 0 < q ∧ p ≤ 9223372036854775807) : Ev P G N (.binOp .quo xt u e yt) ty S L (.v (.int .i64 (p / q))) := by
  intro o ho _ cx a hc
  have e1 := val_R hc h1
  have e2 := val_R hc h2
  simp only [R] at e1 e2
  refine ⟨.int .i64 (p / q), ?_, by simp only [R]⟩
  simp only [execOp, ho, e1, e2]
  have hq : q ≠ 0 := by omega
  have h0 : 0 ≤ p / q := Int.ediv_nonneg hr.1 (by omega)
  have h3 : p / q ≤ p := Int.ediv_le_self _ hr.1
  simp [eqGuard, binOp, Op.intDiv, hq]
  rw [Int.tdiv_eq_ediv_of_nonneg hr.1, wrap_in (by omega) (by omega)]
theorem ev_rem {xt yt : TypeId} {u e : Operand} {p q : Int} (h1 : val G S u = some (.v (.int .i64 p))) (h2 : val G S e = some (.v (.int .i64 q)))
    (hr : 0 ≤ p ∧ 0 < q) : Ev P G N (.binOp .rem xt u e yt) ty S L (.v (.int .i64 (p % q))) := by
  intro o ho _ cx a hc
  have e1 := val_R hc h1
  have e2 := val_R hc h2
  simp only [R] at e1 e2
  refine ⟨.int .i64 (p % q), ?_, by simp only [R]⟩
  simp only [execOp, ho, e1, e2]
  have hq : q ≠ 0 := by omega
  simp [eqGuard, binOp, Op.intDiv, hq]
  rw [Int.tmod_eq_emod_of_nonneg hr.1]

theorem ev_cat {xt yt : TypeId} {u e : Operand} {p q : ByteArray} (h1 : val G S u = some (.v (.string p))) (h2 : val G S e = some (.v (.string q)))
    (hr : p.size + q.size ≤ 9223372036854775807) : Ev P G N (.binOp .add xt u e yt) ty S L (.v (.string (p ++ q))) := by
  intro o ho _ cx a hc
  have e1 := val_R hc h1
  have e2 := val_R hc h2
  simp only [R] at e1 e2
  refine ⟨.string (p ++ q), ?_, by simp only [R]⟩
  simp only [execOp, ho, e1, e2]
  have : ¬ (((p.size + q.size : Nat) : Int) > IntKind.i64.max) := by rw [IntKind.max_i64]; omega
  simp only [eqGuard_at_string, binOp, Op.stringOp, Sem.run_bind, Sem.run_pure, Result.andThen_ok, if_neg this]

theorem ev_not {xt : TypeId} {u : Operand} {b : Bool} (h1 : val G S u = some (.v (.bool b))) : Ev P G N (.unOp .not xt u) ty S L (.v (.bool !b)) := by
  intro o ho _ cx a hc
  have e1 := val_R hc h1
  simp only [R] at e1
  refine ⟨.bool !b, ?_, by simp only [R]⟩
  simp only [execOp, ho, e1]
  simp [Op.unary]
theorem ev_neg {xt : TypeId} {u : Operand} {n : Int} (h1 : val G S u = some (.v (.int .i64 n))) (hr : -9223372036854775807 ≤ n ∧ n ≤ 9223372036854775807) : Ev P G N (.unOp .neg xt u) ty S L (.v (.int .i64 (-n))) := by
  intro o ho _ cx a hc
  have e1 := val_R hc h1
  simp only [R] at e1
  refine ⟨.int .i64 (-n), ?_, by simp only [R]⟩
  simp only [execOp, ho, e1]
  simp [Op.unary, Op.intArith]
  exact wrap_in (by omega) (by omega)

theorem TR.get {c : Cx} : ∀ {cs : List AV} {ys : List Value} {i : Nat} {x : AV}, TR c cs ys → cs[i]? = some x → ∃ y, ys[i]? = some y ∧ R c x y
  | [], _, i, x, _, h => by simp at h
  | x0 :: r, ys, i, x, h, hi => by
    simp only [TR] at h
    obtain ⟨y, s, rfl, hx, hr⟩ := h
    cases i with
    | zero => simp at hi; subst hi; exact ⟨y, rfl, hx⟩
    | succ i => obtain ⟨y', h1, h2⟩ := TR.get hr (by simpa using hi); exact ⟨y', by simpa using h1, h2⟩

theorem ev_extract {u : Operand} {i : Nat} {xs : List AV} (h1 : val G S u = some (.tup xs)) (hi : xs[i]? = some x) : Ev P G N (.extract u i) ty S L x := by
  intro o ho _ cx a hc
  have e1 := val_R hc h1
  simp only [R] at e1
  obtain ⟨ys, e1, ht⟩ := e1
  obtain ⟨y, hy, hx⟩ := ht.get hi
  refine ⟨y, ?_, hx⟩
  simp only [Array.getElem?_toList] at hy
  simp only [execOp, ho, e1, Instr.extract]
  simp [hy]

/-! ### Memory that never changes -/
theorem MF.get {F : Nat → Prop} {w : World} : ∀ {cs : List AV} {b off i : Nat} {x : AV}, MF F w cs b off → cs[i]? = some x →
    ∃ u, w.cell? ⟨b, off + i, none⟩ = some u ∧ RF F w x u ∧ u.oneCell' = true
  | [], _, _, i, x, _, h => by simp at h
  | x0 :: r, b, off, i, x, h, hi => by
    simp only [MF] at h
    cases i with
    | zero => simp at hi; subst hi; exact h.1
    | succ i => have := MF.get h.2 (i := i) (by simpa using hi); rwa [show off + 1 + i = off + (i + 1) by omega] at this
theorem MF.drop {F : Nat → Prop} {w : World} : ∀ {cs : List AV} {b off : Nat} (k : Nat), MF F w cs b off → MF F w (cs.drop k) b (off + k)
  | cs, _, _, 0, h => by simpa using h
  | [], _, _, k + 1, _ => by simp only [List.drop_nil, MF]
  | x :: r, b, off, k + 1, h => by
    simp only [MF] at h
    have := MF.drop k h.2
    simp only [List.drop_succ_cons]
    rwa [show off + 1 + k = off + (k + 1) by omega] at this
theorem MF.take {F : Nat → Prop} {w : World} : ∀ {cs : List AV} {b off : Nat} (k : Nat), MF F w cs b off → MF F w (cs.take k) b off
  | _, _, _, 0, _ => by simp only [List.take_zero, MF]
  | [], _, _, k + 1, _ => by simp only [List.take_nil, MF]
  | x :: r, b, off, k + 1, h => by
    simp only [MF] at h
    simp only [List.take_succ_cons, MF]
    exact ⟨h.1, MF.take k h.2⟩
/-- The cells, as values. -/
theorem MF.vals {F : Nat → Prop} {w : World} : ∀ {cs : List AV} {b off : Nat}, MF F w cs b off → ∃ xs : List Value, xs.length = cs.length ∧ LF F w cs xs ∧ w.rangeAt b off xs ∧ ∀ u ∈ xs, u.oneCell' = true
  | [], _, _, _ => ⟨[], rfl, by simp only [LF], fun j v h => by simp at h, fun u h => by simp at h⟩
  | x :: r, b, off, h => by
    simp only [MF] at h
    obtain ⟨⟨u, hc, hx, h1⟩, h⟩ := h
    obtain ⟨xs, hl, hL, hr, ho⟩ := MF.vals h
    refine ⟨u :: xs, by simp [hl], ?_, ?_, ?_⟩
    · simp only [LF]; exact ⟨u, xs, rfl, hx, h1, hL⟩
    · intro j v hj
      cases j with
      | zero => simp at hj; subst hj; exact hc
      | succ j => have := hr j v (by simpa using hj); rwa [show off + 1 + j = off + (j + 1) by omega] at this
    · intro v hv
      rcases List.mem_cons.1 hv with e | hv
      · subst e; exact h1
      · exact ho v hv
theorem EF.get {F : Nat → Prop} {w : World} {sz : Nat} : ∀ {es : List (List AV)} {b off i : Nat} {e : List AV}, EF F w sz es b off → es[i]? = some e →
    e.length = sz ∧ MF F w e b (off + i * sz)
  | [], _, _, i, x, _, h => by simp at h
  | x0 :: r, b, off, i, x, h, hi => by
    simp only [EF] at h
    cases i with
    | zero => simp at hi; subst hi; simpa using ⟨h.1, h.2.1⟩
    | succ i => have := EF.get h.2.2 (i := i) (by simpa using hi); rwa [show off + sz + i * sz = off + (i + 1) * sz by rw [Nat.add_mul]; omega] at this
theorem EF.drop {F : Nat → Prop} {w : World} {sz : Nat} : ∀ {es : List (List AV)} {b off : Nat} (k : Nat), EF F w sz es b off → EF F w sz (es.drop k) b (off + k * sz)
  | es, _, _, 0, h => by simpa using h
  | [], _, _, k + 1, _ => by simp only [List.drop_nil, EF]
  | x :: r, b, off, k + 1, h => by
    simp only [EF] at h
    have := EF.drop k h.2.2
    simp only [List.drop_succ_cons]
    rwa [show off + sz + k * sz = off + (k + 1) * sz by rw [Nat.add_mul]; omega] at this
theorem EF.take {F : Nat → Prop} {w : World} {sz : Nat} : ∀ {es : List (List AV)} {b off : Nat} (k : Nat), EF F w sz es b off → EF F w sz (es.take k) b off
  | _, _, _, 0, _ => by simp only [List.take_zero, EF]
  | [], _, _, k + 1, _ => by simp only [List.take_nil, EF]
  | x :: r, b, off, k + 1, h => by
    simp only [EF] at h
    simp only [List.take_succ_cons, EF]
    exact ⟨h.1, h.2.1, EF.take k h.2.2⟩
end

section
variable {P : Program} {td : TDs} [T : TOK P td] {G : List (Nat × List AV)} {N : Nat} {Q : AQ} {S : SL} {L : List LB}
  {op : Op} {ty : TypeId} {x : AV}

theorem tok_parts {t : Nat} {d : TD} (h : lk td t = some d) :
    ∃ i u z, P.info? t = some i ∧ P.underlying t = some u ∧ i.zero = some z ∧ tk u = d.k ∧ i.size = d.size ∧ i.bytes = d.bytes ∧ z.cells.toList = d.zero :=
  tdOf_parts (T.ok t d h)

theorem row_of_tk {u : TypeDesc} : u.isRow = (tk u).row := by cases u <;> rfl

theorem run_isAgg {t : Nat} {d : TD} (h : lk td t = some d) (w : World) : (isAgg t).run P w = .ok d.k.row w := by
  obtain ⟨i, u, z, h1, h2, h3, h4, h5, h6, h7⟩ := tok_parts (P := P) h
  unfold isAgg
  rw [Sem.run_bind, run_underlying h2 w]
  rw [← h4]
  cases u <;> rfl
theorem run_sizeOf' {t : Nat} {d : TD} (h : lk td t = some d) (w : World) : (sizeOf t).run P w = .ok d.size w := by
  obtain ⟨i, u, z, h1, h2, h3, h4, h5, h6, h7⟩ := tok_parts (P := P) h
  simp [sizeOf, typeInfo, h1, h5]

theorem LF.one {F : Nat → Prop} {w : World} : ∀ {cs : List AV} {ys : List Value}, LF F w cs ys → ∀ u ∈ ys, u.oneCell' = true
  | [], ys, h => by simp only [LF] at h; subst h; simp
  | x :: r, ys, h => by
    simp only [LF] at h
    obtain ⟨y, s, rfl, _, h1, h⟩ := h
    intro u hu
    rcases List.mem_cons.1 hu with e | hu
    · subst e; exact h1
    · exact LF.one h u hu
theorem LF.length {F : Nat → Prop} {w : World} : ∀ {cs : List AV} {ys : List Value}, LF F w cs ys → ys.length = cs.length
  | [], ys, h => by simp only [LF] at h; subst h; rfl
  | x :: r, ys, h => by
    simp only [LF] at h
    obtain ⟨y, s, rfl, _, h1, h⟩ := h
    simp [LF.length h]

theorem load_agg {t : Nat} {d : TD} (ht : lk td t = some d) (hr : d.k.row = true) {F : Nat → Prop} {w : World} {cs : List AV} {b off : Nat} (hm : MF F w cs b off) (hn : cs.length = d.size) :
    ∃ xs : List Value, (loadVar t ⟨b, off, none⟩).run P w = .ok (.agg xs.toArray) w ∧ LF F w cs xs := by
  obtain ⟨i, u, z, h1, h2, h3, h4, h5, h6, h7⟩ := tok_parts (P := P) ht
  obtain ⟨xs, hl, hL, hra, _⟩ := hm.vals
  exact ⟨xs, run_loadVar_mid w b off t xs u hra h2 (by rw [row_of_tk, h4, hr]) (by simp [h1, h5, hl, hn]), hL⟩
theorem load_one {t : Nat} {d : TD} (ht : lk td t = some d) (hr : d.k.row = false) {w : World} {a : Addr} {u : Value} (hc : w.cell? a = some u) :
    (loadVar t a).run P w = .ok u w := by
  simp [loadVar, run_isAgg ht, hr, hc]

theorem ev_load_agg {t : Nat} {d : TD} {u : Operand} {cs : List AV} (h : val G S u = some (.fp cs)) (ht : lk td t = some d) (hr : d.k.row = true) (hn : cs.length = d.size) :
    Ev P G N (.load t u) ty S L (.agg cs) := by
  intro o ho _ cx a hc
  have e1 := val_R hc h
  simp only [R, RF] at e1
  obtain ⟨b, off, e1, hb, hm⟩ := e1
  obtain ⟨xs, h1, h2⟩ := load_agg (P := P) ht hr hm hn
  exact ⟨.agg xs.toArray, by simp [execOp, ho, e1, Instr.loadAt, Instr.sureAddr, h1], by simp only [R, RF]; exact ⟨_, rfl, h2⟩⟩
theorem ev_load_sub {t : Nat} {d : TD} {u : Operand} {cs es : List AV} (h : val G S u = some (.fp cs)) (ht : lk td t = some d) (hr : d.k.row = true) (he : cs.take d.size = es) (hn : es.length = d.size) :
    Ev P G N (.load t u) ty S L (.agg es) := by
  intro o ho _ cx a hc
  have e1 := val_R hc h
  simp only [R, RF] at e1
  obtain ⟨b, off, e1, hb, hm⟩ := e1
  subst he
  obtain ⟨xs, h1, h2⟩ := load_agg (P := P) ht hr (hm.take d.size) hn
  exact ⟨.agg xs.toArray, by simp [execOp, ho, e1, Instr.loadAt, Instr.sureAddr, h1], by simp only [R, RF]; exact ⟨_, rfl, h2⟩⟩
theorem ev_load_one {t : Nat} {d : TD} {u : Operand} {cs r : List AV} {c : AV} (h : val G S u = some (.fp cs)) (ht : lk td t = some d) (hr : d.k.row = false) (hcs : cs = c :: r) :
    Ev P G N (.load t u) ty S L c := by
  intro o ho _ cx a hc
  have e1 := val_R hc h
  simp only [R, RF] at e1
  obtain ⟨b, off, e1, hb, hm⟩ := e1
  subst hcs
  simp only [MF] at hm
  obtain ⟨⟨y, hy, hx, _⟩, _⟩ := hm
  exact ⟨y, by simp [execOp, ho, e1, Instr.loadAt, Instr.sureAddr, load_one (P := P) ht hr hy], R.of_RF _ _ _ hx⟩

theorem run_fieldAt' {s : Nat} {d fd : TD} {fs : List (TypeId × Nat)} {f ft off : Nat} (ht : lk td s = some d) (hs : d.k = .struct fs) (hf : fs[f]? = some (ft, off)) (hft : lk td ft = some fd) (hz : Nat.beq fd.size 0 = false)
    (w : World) (b o : Nat) : (Instr.fieldAt s (.pointer (some ⟨b, o, none⟩)) f).run P w = .ok (.pointer (some ⟨b, o + off, none⟩)) w := by
  obtain ⟨i, u, z, h1, h2, h3, h4, h5, h6, h7⟩ := tok_parts (P := P) ht
  rw [hs] at h4
  cases u <;> simp only [tk, reduceCtorEq, TK.struct.injEq] at h4
  rename_i fields
  subst h4
  simp only [List.getElem?_map, Array.getElem?_toList] at hf
  cases hq : fields[f]? with
  | none => simp [hq] at hf
  | some fl =>
    simp only [hq, Option.map_some, Option.some.injEq, Prod.mk.injEq] at hf
    obtain ⟨rfl, rfl⟩ := hf
    have hz' : ¬ fd.size = 0 := by intro e; rw [e] at hz; cases hz
    simp [Instr.fieldAt, run_underlying h2, hq, Instr.sureAddr, fieldPlace, run_sizeOf' (P := P) hft, hz', Addr.add_mid]

theorem ev_fa_fp {s : Nat} {d fd : TD} {fs : List (TypeId × Nat)} {f ft off : Nat} {u : Operand} {cs : List AV} (h : val G S u = some (.fp cs)) (ht : lk td s = some d) (hs : d.k = .struct fs) (hf : fs[f]? = some (ft, off))
    (hft : lk td ft = some fd) (hz : Nat.beq fd.size 0 = false) : Ev P G N (.fieldAddr s u f) ty S L (.fp (cs.drop off)) := by
  intro o ho _ cx a hc
  have e1 := val_R hc h
  simp only [R, RF] at e1
  obtain ⟨b, of, e1, hb, hm⟩ := e1
  exact ⟨.pointer (some ⟨b, of + off, none⟩), by simp [execOp, ho, e1, run_fieldAt' (P := P) ht hs hf hft hz], by simp only [R, RF]; exact ⟨b, of + off, rfl, hb, hm.drop off⟩⟩
theorem ev_fa_lp {s : Nat} {d fd : TD} {fs : List (TypeId × Nat)} {f ft off : Nat} {u : Operand} {k q : Nat} (h : val G S u = some (.lp k q)) (ht : lk td s = some d) (hs : d.k = .struct fs) (hf : fs[f]? = some (ft, off))
    (hft : lk td ft = some fd) (hz : Nat.beq fd.size 0 = false) : Ev P G N (.fieldAddr s u f) ty S L (.lp k (q + off)) := by
  intro o ho _ cx a hc
  have e1 := val_R hc h
  simp only [R] at e1
  obtain ⟨hk, b, hb, e1⟩ := e1
  exact ⟨.pointer (some ⟨b, q + off, none⟩), by simp [execOp, ho, e1, run_fieldAt' (P := P) ht hs hf hft hz], by simp only [R]; exact ⟨hk, b, hb, rfl⟩⟩
theorem ev_fa_ep {s : Nat} {d fd : TD} {fs : List (TypeId × Nat)} {f ft off : Nat} {u : Operand} {k i q : Nat} (h : val G S u = some (.ep k i q)) (ht : lk td s = some d) (hs : d.k = .struct fs) (hf : fs[f]? = some (ft, off))
    (hft : lk td ft = some fd) (hz : Nat.beq fd.size 0 = false) : Ev P G N (.fieldAddr s u f) ty S L (.ep k i (q + off)) := by
  intro o ho _ cx a hc
  have e1 := val_R hc h
  simp only [R] at e1
  obtain ⟨hk, b, hb, e1⟩ := e1
  exact ⟨.pointer (some ⟨b, i * cx.sz k + q + off, none⟩), by simp [execOp, ho, e1, run_fieldAt' (P := P) ht hs hf hft hz], by simp only [R]; exact ⟨hk, b, hb, by rw [Nat.add_assoc]⟩⟩

theorem slice_desc {t e : Nat} {d : TD} (ht : lk td t = some d) (hs : d.k = .slice e) : P.underlying t = some (.slice e) := by
  obtain ⟨i, u, z, h1, h2, h3, h4, h5, h6, h7⟩ := tok_parts (P := P) ht
  rw [hs] at h4
  cases u <;> simp only [tk, reduceCtorEq, TK.slice.injEq, TK.arr.injEq] at h4
  simpa [h4] using h2
theorem str_desc {t : Nat} {d : TD} (ht : lk td t = some d) (hs : d.k = .str) : P.underlying t = some .string := by
  obtain ⟨i, u, z, h1, h2, h3, h4, h5, h6, h7⟩ := tok_parts (P := P) ht
  rw [hs] at h4
  cases u <;> simp only [tk, reduceCtorEq, TK.slice.injEq, TK.arr.injEq] at h4
  simpa [h4] using h2
theorem arr_desc {t n e : Nat} {d : TD} (ht : lk td t = some d) (hs : d.k = .arr n e) : P.underlying t = some (.array n e) := by
  obtain ⟨i, u, z, h1, h2, h3, h4, h5, h6, h7⟩ := tok_parts (P := P) ht
  rw [hs] at h4
  cases u <;> simp only [tk, reduceCtorEq, TK.slice.injEq, TK.arr.injEq] at h4
  simpa [h4] using h2

theorem run_indexAt' {t e : Nat} {d ed : TD} (ht : lk td t = some d) (hs : d.k = .slice e) (he : lk td e = some ed) (w : World) (b off len cap : Nat) (k : IntKind) (i : Int) (hi : 0 ≤ i ∧ i < len) :
    (Instr.indexAt t (.slice (some ⟨b, off, none⟩) len cap) (.int k i)).run P w = .ok (.pointer (some ⟨b, off + i.toNat * ed.size, none⟩)) w := by
  simp [Instr.indexAt, asIntOf, run_underlying (slice_desc (P := P) ht hs), hi, run_sizeOf' (P := P) he, Addr.add_mid]

theorem ev_ia_fs {t e : Nat} {d ed : TD} {u q : Operand} {sz n : Nat} {es : List (List AV)} {ik : IntKind} {i : Int} {c : List AV} (h : val G S u = some (.fs sz n es)) (hi : val G S q = some (.v (.int ik i)))
    (ht : lk td t = some d) (hs : d.k = .slice e) (he : lk td e = some ed) (hsz : ed.size = sz) (hc : 0 ≤ i ∧ es[i.toNat]? = some c) : Ev P G N (.indexAddr t u q) ty S L (.fp c) := by
  intro o ho _ cx a hcn
  have e1 := val_R hcn h
  have e2 := val_R hcn hi
  simp only [R, RF] at e1 e2
  obtain ⟨hl, ad, cap, e1, hcap, hm⟩ := e1
  have hlt : i.toNat < n := by
    rw [← hl]
    rcases Nat.lt_or_ge i.toNat es.length with h | h
    · exact h
    · rw [List.getElem?_eq_none h] at hc; cases hc.2
  obtain ⟨b, off, rfl, hb, hm⟩ := hm (by omega)
  have := hm.get hc.2
  refine ⟨_, by simp only [execOp, ho, e1, e2]; rw [Sem.run_bind, run_indexAt' (P := P) ht hs he cx.w b off n cap ik i ⟨hc.1, by omega⟩]; rfl, ?_⟩
  simp only [R, RF]
  exact ⟨b, off + i.toNat * sz, by rw [hsz], hb, this.2⟩

theorem ev_ia_os {t e : Nat} {d ed : TD} {u q : Operand} {k sz E : Nat} {es : List (List AV)} {ik : IntKind} {i : Int} (h : val G S u = some (.os k)) (hL : L[k]? = some (.own E sz es)) (hi : val G S q = some (.v (.int ik i)))
    (ht : lk td t = some d) (hs : d.k = .slice e) (he : lk td e = some ed) (hsz : ed.size = sz) (hc : 0 ≤ i ∧ i < es.length) : Ev P G N (.indexAddr t u q) ty S L (.ep k i.toNat 0) := by
  intro o ho _ cx a hcn
  have e1 := val_R hcn h
  have e2 := val_R hcn hi
  have hb := hcn.st.blk _ _ hL
  simp only [R, OS] at e1 e2
  simp only [BR] at hb
  obtain ⟨hz, hl, _⟩ := hb
  obtain ⟨hk, e1⟩ := e1
  rcases e1 with ⟨h0, _, _⟩ | ⟨b, cap, arr, T', hb, e1, hh, hn, hm, hs'⟩
  · omega
  · refine ⟨_, by simp only [execOp, ho, e1, e2]; rw [Sem.run_bind, run_indexAt' (P := P) ht hs he cx.w b 0 (cx.len k) cap ik i (by omega)]; rfl, ?_⟩
    simp only [R]
    exact ⟨hk, b, hb, by rw [hsz, hz]; simp⟩

theorem run_arrAt {t e n : Nat} {d ed : TD} (ht : lk td t = some d) (hs : d.k = .arr n e) (he : lk td e = some ed) (w : World) (b off : Nat) (k : IntKind) (i : Int) (hi : 0 ≤ i ∧ i < n) :
    (Instr.indexAt t (.pointer (some ⟨b, off, none⟩)) (.int k i)).run P w = .ok (.pointer (some ⟨b, off + i.toNat * ed.size, none⟩)) w := by
  simp [Instr.indexAt, asIntOf, run_underlying (arr_desc (P := P) ht hs), hi, Instr.sureAddr, run_sizeOf' (P := P) he, Addr.add_mid]
theorem ev_ia_fp {t e n : Nat} {d ed : TD} {u q : Operand} {cs : List AV} {ik : IntKind} {i : Int} (h : val G S u = some (.fp cs)) (hi : val G S q = some (.v (.int ik i)))
    (ht : lk td t = some d) (hs : d.k = .arr n e) (he : lk td e = some ed) (hc : 0 ≤ i ∧ i < n) : Ev P G N (.indexAddr t u q) ty S L (.fp (cs.drop (i.toNat * ed.size))) := by
  intro o ho _ cx a hcn
  have e1 := val_R hcn h
  have e2 := val_R hcn hi
  simp only [R, RF] at e1 e2
  obtain ⟨b, off, e1, hb, hm⟩ := e1
  refine ⟨_, by simp only [execOp, ho, e1, e2]; rw [Sem.run_bind, run_arrAt (P := P) ht hs he cx.w b off ik i hc]; rfl, ?_⟩
  simp only [R, RF]
  exact ⟨b, _, rfl, hb, hm.drop _⟩
theorem ev_ia_lp {t e n : Nat} {d ed : TD} {u q : Operand} {k p : Nat} {ik : IntKind} {i : Int} (h : val G S u = some (.lp k p)) (hi : val G S q = some (.v (.int ik i)))
    (ht : lk td t = some d) (hs : d.k = .arr n e) (he : lk td e = some ed) (hc : 0 ≤ i ∧ i < n) : Ev P G N (.indexAddr t u q) ty S L (.lp k (p + i.toNat * ed.size)) := by
  intro o ho _ cx a hcn
  have e1 := val_R hcn h
  have e2 := val_R hcn hi
  simp only [R] at e1 e2
  obtain ⟨hk, b, hb, e1⟩ := e1
  refine ⟨_, by simp only [execOp, ho, e1, e2]; rw [Sem.run_bind, run_arrAt (P := P) ht hs he cx.w b p ik i hc]; rfl, ?_⟩
  simp only [R]
  exact ⟨hk, b, hb, rfl⟩

theorem ev_index_str {t : Nat} {d : TD} {u q : Operand} {s : ByteArray} {ik : IntKind} {i : Int} {c : UInt8} (h : val G S u = some (.v (.string s))) (hi : val G S q = some (.v (.int ik i)))
    (ht : lk td t = some d) (hs : d.k = .str) (hc : 0 ≤ i ∧ s.data[i.toNat]? = some c) : Ev P G N (.index t u q) ty S L (.v (.int .u8 c.toNat)) := by
  intro o ho _ cx a hcn
  have e1 := val_R hcn h
  have e2 := val_R hcn hi
  simp only [R] at e1 e2
  refine ⟨.int .u8 c.toNat, ?_, by simp only [R]⟩
  have : s[i.toNat]? = some c := by
    have h2 := hc.2
    rw [Array.getElem?_eq_some_iff] at h2
    obtain ⟨hlt, he⟩ := h2
    have hlt' : i.toNat < s.size := hlt
    rw [getElem?_pos s i.toNat hlt']
    exact congrArg some he
  simp only [execOp, ho, e1, e2, Instr.index, asIntOf, Sem.run_bind, Sem.run_pure, Result.andThen_ok, run_underlying (str_desc (P := P) ht hs)]
  simp [hc.1, this]

/-- The length of a slice or string. -/
def lenv : AV → Option Int
  | .v (.string s) => some s.size
  | .v (.slice _ n _) => some n
  | .fs _ n _ => some n
  | .fz => some 0
  | _ => none
theorem ev_len {t : Nat} {d : TD} {u : Operand} {ats : Array TypeId} {n : Int} (h : val G S u = some x) (ht : lk td t = some d) (hk : (match d.k, x with | .str, .v (.string _) => true | .slice _, .v (.string _) => false | .slice _, _ => true | _, _ => false) = true)
    (hn : lenv x = some n) (hat : ats = #[t]) : Ev P G N (.call { callee := .builtin .len, args := #[u], argTypes := ats }) ty S L (.v (.int .i64 n)) := by
  intro o ho _ cx a hcn
  have e1 := val_R hcn h
  refine ⟨.int .i64 n, ?_, by simp only [R]⟩
  subst hat
  obtain ⟨i, ud, z, h1, h2, h3, h4, h5, h6, h7⟩ := tok_parts (P := P) ht
  have hgo : (Builtin.len_ #[t] o.type #[a.eval u]).run P cx.w = .ok (.int .i64 n) cx.w := by
    unfold lenv at hn
    split at hn
    · simp only [R, Option.some.injEq] at e1 hn
      subst hn
      cases hd : d.k <;> simp only [hd] at hk <;> (try cases hk)
      have := str_desc (P := P) ht hd
      simp [Builtin.len_, run_underlying this, e1, goInt]
    · simp only [R, Option.some.injEq] at e1 hn
      subst hn
      cases hd : d.k <;> simp only [hd] at hk <;> (try cases hk)
      have := slice_desc (P := P) ht hd
      simp [Builtin.len_, run_underlying this, e1, goInt]
    · simp only [R, RF, Option.some.injEq] at e1 hn
      subst hn
      obtain ⟨_, ad, cap, e1, _⟩ := e1
      cases hd : d.k <;> simp only [hd] at hk <;> (try cases hk)
      have := slice_desc (P := P) ht hd
      simp [Builtin.len_, run_underlying this, e1, goInt]
    · simp only [R, Option.some.injEq] at e1 hn
      subst hn
      obtain ⟨ad, e1⟩ := e1
      cases hd : d.k <;> simp only [hd] at hk <;> (try cases hk)
      have := slice_desc (P := P) ht hd
      simp [Builtin.len_, run_underlying this, e1, goInt]
    · cases hn
  simp [execOp, ho, resolve, invoke, builtin, hgo]

theorem ev_len_os {t e : Nat} {d : TD} {u : Operand} {ats : Array TypeId} {k E sz : Nat} {es : List (List AV)} (h : val G S u = some (.os k)) (hL : L[k]? = some (.own E sz es)) (ht : lk td t = some d) (hk : d.k = .slice e)
    (hat : ats = #[t]) : Ev P G N (.call { callee := .builtin .len, args := #[u], argTypes := ats }) ty S L (.v (.int .i64 es.length)) := by
  intro o ho _ cx a hcn
  have e1 := val_R hcn h
  have hb := hcn.st.blk _ _ hL
  simp only [R, OS] at e1
  simp only [BR] at hb
  obtain ⟨_, hl, _⟩ := hb
  refine ⟨.int .i64 es.length, ?_, by simp only [R]⟩
  subst hat
  have hu := slice_desc (P := P) ht hk
  have hgo : (Builtin.len_ #[t] o.type #[a.eval u]).run P cx.w = .ok (.int .i64 es.length) cx.w := by
    rcases e1 with ⟨_, ⟨h0, e1, _⟩ | ⟨b, cap, arr, T', _, e1, _⟩⟩
    · simp [Builtin.len_, run_underlying hu, e1, goInt]; omega
    · simp [Builtin.len_, run_underlying hu, e1, goInt]; omega
  simp [execOp, ho, resolve, invoke, builtin, hgo]
end
end Go.Ab
