/- Tiers and their dependencies, as plain functions. -/
import Derived.KernelRfl
namespace Go.Proofs.Ytghbllbjjfjenaa

structure Tier where
  name : ByteArray
  kind : Int
  role : Int
  parent : Int
  deriving Inhabited, DecidableEq

def timed (k : Int) : Bool := decide (k = 0) || decide (k = 1) || decide (k = 2)

def findFrom (name : ByteArray) : Nat → List Tier → Int
  | _, [] => -1
  | i, t :: r => if t.name = name then i else findFrom name (i + 1) r
def find (l : List Tier) (name : ByteArray) : Int := findFrom name 0 l
def roleFrom (role : Int) : Nat → List Tier → Int
  | _, [] => -1
  | i, t :: r => if role ≠ 0 ∧ t.role = role then i else roleFrom role (i + 1) r
def roleOf (l : List Tier) (role : Int) : Int := roleFrom role 0 l

theorem findFrom_drop (name : ByteArray) (l : List Tier) (k : Nat) (t : Tier) (h : l[k]? = some t) : findFrom name k (l.drop k) = if t.name = name then (k : Int) else findFrom name (k + 1) (l.drop (k + 1)) := by
  obtain ⟨hlt, rfl⟩ := List.getElem?_eq_some_iff.1 h
  rw [List.drop_eq_getElem_cons hlt]; rfl
theorem roleFrom_drop (role : Int) (l : List Tier) (k : Nat) (t : Tier) (h : l[k]? = some t) : roleFrom role k (l.drop k) = if role ≠ 0 ∧ t.role = role then (k : Int) else roleFrom role (k + 1) (l.drop (k + 1)) := by
  obtain ⟨hlt, rfl⟩ := List.getElem?_eq_some_iff.1 h
  rw [List.drop_eq_getElem_cons hlt]; rfl
theorem findFrom_ge (name : ByteArray) : ∀ (l : List Tier) (k : Nat), findFrom name k l = -1 ∨ (k : Int) ≤ findFrom name k l ∧ findFrom name k l < k + l.length
  | [], k => .inl rfl
  | t :: r, k => by
    simp only [findFrom]
    split
    · right; simp; omega
    · rcases findFrom_ge name r (k + 1) with h | h
      · exact .inl h
      · right; simp; omega
theorem roleFrom_ge (role : Int) : ∀ (l : List Tier) (k : Nat), roleFrom role k l = -1 ∨ (k : Int) ≤ roleFrom role k l ∧ roleFrom role k l < k + l.length
  | [], k => .inl rfl
  | t :: r, k => by
    simp only [roleFrom]
    split
    · right; simp; omega
    · rcases roleFrom_ge role r (k + 1) with h | h
      · exact .inl h
      · right; simp; omega

/-- A letter of a name; a small letter. -/
def small (b : Nat) : Bool := decide (97 ≤ b) && decide (b ≤ 122)
def letter (b : Nat) : Bool := small b || decide (48 ≤ b) && decide (b ≤ 57) || decide (b = 45) || decide (b = 95)
def nameOk (s : ByteArray) : Bool := decide (1 ≤ s.size) && decide (s.size ≤ 32) && (match s.data.toList with | [] => false | b :: _ => small b.toNat) && s.data.toList.all fun b => letter b.toNat

/-- The error of a role; above is the role of the parent, or -1. -/
def roles (above : Int) (t : Tier) : Int :=
  let kind := if t.role = 1 then 0 else if t.role = 3 then 3 else if t.role = 4 then 4 else if t.role = 5 then 4 else t.kind
  let need := if t.role = 2 then 1 else if t.role = 3 then 2 else if t.role = 4 then 3 else if t.role = 5 then 1 else above
  if t.kind ≠ kind then 14 else if above ≠ need then 13 else 0

/-- The error of a tier after earlier ones. -/
def one (before : List Tier) (t : Tier) : Int :=
  if nameOk t.name = false then 7
  else if 0 ≤ find before t.name then 8
  else if t.kind < 0 ∨ 4 < t.kind then 14
  else if t.role < 0 ∨ 5 < t.role then 2
  else if 0 ≤ roleOf before t.role then 8
  else if t.kind = 0 then (if t.parent ≠ -1 then 13 else roles (-1) t)
  else if t.parent < 0 ∨ before.length ≤ t.parent then 13
  else match before[t.parent.toNat]? with
    | none => 13
    | some p => if timed t.kind = true ∧ timed p.kind = false then 13 else roles p.role t

def checkFrom (l : List Tier) : Nat → Nat → Int
  | 0, _ => 0
  | n + 1, i => match l[i]? with
    | none => 0
    | some t => if one (l.take i) t ≠ 0 then one (l.take i) t else checkFrom l n (i + 1)
def check (l : List Tier) : Int := if 12 < l.length then 11 else checkFrom l l.length 0

def kidsFrom (i : Int) : Nat → List Tier → List Int
  | _, [] => []
  | k, t :: r => if t.parent = i then (k : Int) :: kidsFrom i (k + 1) r else kidsFrom i (k + 1) r
def kids (l : List Tier) (i : Int) : List Int := if i < 0 ∨ (l.length : Int) ≤ i then [] else kidsFrom i 0 l
def rkids (l : List Tier) (i : Int) : List Int := if i < 0 then [] else kidsFrom i 0 l
theorem kidsFrom_drop (i : Int) (l : List Tier) (k : Nat) (t : Tier) (h : l[k]? = some t) : kidsFrom i k (l.drop k) = if t.parent = i then (k : Int) :: kidsFrom i (k + 1) (l.drop (k + 1)) else kidsFrom i (k + 1) (l.drop (k + 1)) := by
  obtain ⟨hlt, rfl⟩ := List.getElem?_eq_some_iff.1 h
  rw [List.drop_eq_getElem_cons hlt]; rfl

/-- The way up; n bounds its length. -/
def pathFrom (l : List Tier) : Nat → Int → List Int
  | 0, _ => []
  | n + 1, i => if i < 0 then [] else match l[i.toNat]? with
    | none => []
    | some t => i :: pathFrom l n t.parent
def path (l : List Tier) (i : Int) : List Int := pathFrom l l.length i
/-- Each tier's parent lies before it. -/
def Down (l : List Tier) : Prop := ∀ (k : Nat) (t : Tier), l[k]? = some t → t.parent < k

theorem pathFrom_more {l : List Tier} (hd : Down l) : ∀ (n m : Nat) (i : Int), i < n → n ≤ m → pathFrom l n i = pathFrom l m i
  | 0, 0, i, _, _ => rfl
  | 0, m + 1, i, h, _ => by
    have : i < 0 := by omega
    simp [pathFrom, this]
  | n + 1, 0, i, _, h => by omega
  | n + 1, m + 1, i, h, hm => by
    simp only [pathFrom]
    split
    · rfl
    · cases ht : l[i.toNat]? with
      | none => rfl
      | some t =>
        have := hd _ _ ht
        simp only []
        rw [pathFrom_more hd n m t.parent (by omega) (by omega)]
theorem pathFrom_step {l : List Tier} (hd : Down l) {n : Nat} {i : Int} {t : Tier} (h0 : 0 ≤ i) (h : l[i.toNat]? = some t) (hn : i < n) : pathFrom l n i = i :: pathFrom l n t.parent := by
  cases n with
  | zero => omega
  | succ n =>
    have h1 : ¬ i < 0 := by omega
    have := hd _ _ h
    rw [pathFrom]
    simp only [h1, if_false, h]
    rw [pathFrom_more hd n (n + 1) t.parent (by omega) (by omega)]
theorem pathFrom_stop {l : List Tier} {n : Nat} {i : Int} (h : i < 0 ∨ (l.length : Int) ≤ i) : pathFrom l n i = [] := by
  cases n with
  | zero => rfl
  | succ n =>
    rw [pathFrom]
    split
    · rfl
    · have : l[i.toNat]? = none := by simp; omega
      rw [this]

/-- Is j on the way from k on? -/
def anyFrom (j : Int) (p : List Int) : Bool := p.any fun x => decide (x = j)
def above (l : List Tier) (i j : Int) : Bool := if i = j then false else anyFrom j (path l i)
def rabove (l : List Tier) (i j : Int) : Bool := anyFrom j ((path l i).drop 1)
theorem anyFrom_drop (j : Int) (l : List Int) (k : Nat) (x : Int) (h : l[k]? = some x) : anyFrom j (l.drop k) = (decide (x = j) || anyFrom j (l.drop (k + 1))) := by
  obtain ⟨hlt, rfl⟩ := List.getElem?_eq_some_iff.1 h
  rw [List.drop_eq_getElem_cons hlt]; rfl

end Go.Proofs.Ytghbllbjjfjenaa
