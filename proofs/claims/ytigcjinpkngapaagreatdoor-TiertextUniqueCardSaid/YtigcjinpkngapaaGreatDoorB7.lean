/- A logic of trees over the model's steps, and the contracts of the functions that the laws reach: part 7 of 16. -/
import Derived.Test.YtigcjinpkngapaaGreatDoorB6
import Derived.Lib.SliceRun
import Derived.Laws.CopyRow
set_option linter.unusedVariables false
set_option linter.unusedSimpArgs false
set_option linter.unusedSectionVars false
section
namespace Go.Proofs.YtigcjinpkngapaaGreatDoor
def findTF (name : ByteArray) : Nat → List Tier → Int
  | _, [] => -1
  | i, t :: r => if t.name = name then i else findTF name (i + 1) r
def findT (l : List Tier) (name : ByteArray) : Int := findTF name 0 l
def roleTF (role : Int) : Nat → List Tier → Int
  | _, [] => -1
  | i, t :: r => if role ≠ 0 ∧ t.role = role then i else roleTF role (i + 1) r
def roleT (l : List Tier) (role : Int) : Int := roleTF role 0 l
theorem findTF_drop (name : ByteArray) (l : List Tier) (k : Nat) (t : Tier) (h : l[k]? = some t) : findTF name k (l.drop k) = if t.name = name then (k : Int) else findTF name (k + 1) (l.drop (k + 1)) := by
  obtain ⟨hlt, rfl⟩ := List.getElem?_eq_some_iff.1 h
  rw [List.drop_eq_getElem_cons hlt]; rfl
theorem roleTF_drop (role : Int) (l : List Tier) (k : Nat) (t : Tier) (h : l[k]? = some t) : roleTF role k (l.drop k) = if role ≠ 0 ∧ t.role = role then (k : Int) else roleTF role (k + 1) (l.drop (k + 1)) := by
  obtain ⟨hlt, rfl⟩ := List.getElem?_eq_some_iff.1 h
  rw [List.drop_eq_getElem_cons hlt]; rfl
def smallB (b : Nat) : Bool := decide (97 ≤ b) && decide (b ≤ 122)
def letterB (b : Nat) : Bool := smallB b || decide (48 ≤ b) && decide (b ≤ 57) || decide (b = 45) || decide (b = 95)
def nameOk (s : ByteArray) : Bool := decide (1 ≤ s.size) && decide (s.size ≤ 32) && (match s.data.toList with | [] => false | b :: _ => smallB b.toNat) && s.data.toList.all fun b => letterB b.toNat
def rolesE (above : Int) (t : Tier) : Int :=
  let kind := if t.role = 1 then 0 else if t.role = 3 then 3 else if t.role = 4 then 4 else if t.role = 5 then 4 else t.kind
  let need := if t.role = 2 then 1 else if t.role = 3 then 2 else if t.role = 4 then 3 else if t.role = 5 then 1 else above
  if t.kind ≠ kind then 14 else if above ≠ need then 13 else 0
def tierOne (before : List Tier) (t : Tier) : Int :=
  if nameOk t.name = false then 7
  else if 0 ≤ findT before t.name then 8
  else if t.kind < 0 ∨ 4 < t.kind then 14
  else if t.role < 0 ∨ 5 < t.role then 2
  else if 0 ≤ roleT before t.role then 8
  else if t.kind = 0 then (if t.parent ≠ -1 then 13 else rolesE (-1) t)
  else if t.parent < 0 ∨ before.length ≤ t.parent then 13
  else match before[t.parent.toNat]? with
    | none => 13
    | some p => if timed t.kind = true ∧ timed p.kind = false then 13 else rolesE p.role t
def tiersEF (l : List Tier) : Nat → Nat → Int
  | 0, _ => 0
  | n + 1, i => match l[i]? with
    | none => 0
    | some t => if tierOne (l.take i) t ≠ 0 then tierOne (l.take i) t else tiersEF l n (i + 1)
def tiersE (l : List Tier) : Int := if 12 < l.length then 11 else tiersEF l l.length 0
theorem tiersEF_step {l : List Tier} {n i : Nat} {t : Tier} (h : l[i]? = some t) : tiersEF l (n + 1) i = if tierOne (l.take i) t ≠ 0 then tierOne (l.take i) t else tiersEF l n (i + 1) := by
  simp only [tiersEF, h]
theorem tiersEF_all {l : List Tier} : ∀ (n i : Nat), tiersEF l n i = 0 → i + n = l.length → ∀ k, i ≤ k → ∀ t, l[k]? = some t → tierOne (l.take k) t = 0
  | 0, i, _, hn, k, hk, t, ht => by
    have := (List.getElem?_eq_some_iff.1 ht).1
    omega
  | n + 1, i, h, hn, k, hk, t, ht => by
    have hi : i < l.length := by omega
    have hti : l[i]? = some l[i] := by simp [hi]
    rw [tiersEF_step hti] at h
    split at h
    · rename_i h'; exact absurd h h'
    · rename_i h'
      simp only [ne_eq, Decidable.not_not] at h'
      rcases Nat.eq_or_lt_of_le hk with rfl | hlt
      · rw [hti] at ht; injection ht with ht; subst ht; exact h'
      · exact tiersEF_all n (i + 1) h (by omega) k hlt t ht
theorem tiersE_len {l : List Tier} (h : tiersE l = 0) : l.length ≤ 12 := by
  unfold tiersE at h
  split at h
  · cases h
  · omega
theorem tiersE_one {l : List Tier} (h : tiersE l = 0) {k : Nat} {t : Tier} (ht : l[k]? = some t) : tierOne (l.take k) t = 0 := by
  have hl := tiersE_len h
  have : tiersE l = tiersEF l l.length 0 := by simp [tiersE]; omega
  rw [this] at h
  exact tiersEF_all l.length 0 h (by omega) k (by omega) t ht
theorem tierOne_parent {b : List Tier} {t : Tier} (h : tierOne b t = 0) : 0 ≤ t.kind ∧ t.kind ≤ 4 ∧ (t.kind = 0 ∧ t.parent = -1 ∨ t.kind ≠ 0 ∧ 0 ≤ t.parent ∧ t.parent < b.length) := by
  unfold tierOne at h
  split at h
  · cases h
  split at h
  · cases h
  split at h
  · cases h
  rename_i hk
  refine ⟨by omega, by omega, ?_⟩
  split at h
  · cases h
  split at h
  · cases h
  split at h
  · rename_i h0
    split at h
    · cases h
    · rename_i h1; exact .inl ⟨h0, Decidable.of_not_not h1⟩
  · rename_i h0
    split at h
    · cases h
    · rename_i h1; exact .inr ⟨h0, by omega, by omega⟩
def noNote : Note := ⟨0, 0, 0, ⟨0, 0⟩, 0, .empty⟩
def placedE (d : Doc) (t : Tier) (n : Note) : Int :=
  if (t.kind = 0 ∧ n.parent ≠ 0) ∨ (t.kind ≠ 0 ∧ ((getN d.notes n.parent).isSome = false ∨ ((getN d.notes n.parent).getD noNote).tier ≠ t.parent)) then 13
  else if (timed t.kind = false ∧ n.span ≠ ⟨0, 0⟩) ∨ (timed t.kind = true ∧ spanRight n.span = false) then 12
  else if t.kind = 0 ∧ d.rec_.length < n.span.til then 12
  else if (timed t.kind = true ∧ t.kind ≠ 0) ∧ (n.span.fro < ((getN d.notes n.parent).getD noNote).span.fro ∨ ((getN d.notes n.parent).getD noNote).span.til < n.span.til) then 12
  else if n.rank < 0 ∨ (n.rank ≠ 0 ∧ t.kind ≠ 3) then 1
  else 0
def lateB (p : Option Note) (n : Note) : Bool := match p with | some q => decide (n.id ≤ q.id) | none => false
def noteE (d : Doc) (p : Option Note) (n : Note) : Int :=
  if n.id < 1 ∨ 1099511627776 < n.id then 2
  else if lateB p n = true then 10
  else match tierAt d.tiers n.tier with
    | none => 2
    | some t => if textE n.text ≠ 0 then textE n.text else placedE d t n
def sibs (d : Doc) (tier parent : Int) : List Note := d.notes.filter fun n => decide (n.tier = tier) && decide (n.parent = parent)
def meet (a b : Span) : Bool := decide (a.fro < b.til) && decide (b.fro < a.til)
def overlapL : List Span → Bool
  | l => (List.range l.length).any fun i => (List.range i).any fun k => meet (l.getD i ⟨0, 0⟩) (l.getD k ⟨0, 0⟩)
def rankedL (l : List Int) : Bool := (List.range l.length).all fun n => l.any fun r => decide (r = (n : Int))
def tierStep (d : Doc) (kind : Int) (out : Int) (n : Note) : Int :=
  let l := sibs d n.tier n.parent
  let a := if kind = 1 ∧ covB (l.map (·.span)) ((getN d.notes n.parent).getD noNote).span = false then 16 else out
  let b := if kind = 3 ∧ rankedL (l.map (·.rank)) = false then 10 else a
  if kind = 4 ∧ 1 < l.length then 8 else b
def tierE1 (d : Doc) (kind tier : Int) : Int → List Note → Int
  | out, [] => out
  | out, n :: r => if n.tier ≠ tier then tierE1 d kind tier out r
    else if timed kind = true ∧ overlapL ((sibs d n.tier n.parent).map (·.span)) = true then 15
    else tierE1 d kind tier (tierStep d kind out n) r
def tierE (d : Doc) (tier : Int) : Int := match tierAt d.tiers tier with
  | none => 0
  | some t => tierE1 d t.kind tier 0 d.notes
def notesE (d : Doc) : Option Note → List Note → Int
  | _, [] => 0
  | p, n :: r => if noteE d p n ≠ 0 then noteE d p n else notesE d (some n) r
def eachE (d : Doc) : Nat → Nat → Int
  | 0, _ => 0
  | m + 1, i => if tierE d (i : Int) ≠ 0 then tierE d (i : Int) else eachE d m (i + 1)
def docE (d : Doc) : Int :=
  if tiersE d.tiers ≠ 0 then tiersE d.tiers
  else if d.rec_.length < 0 ∨ 86400000 < d.rec_.length then 12
  else if 300 < d.notes.length then 11
  else if notesE d none d.notes ≠ 0 then notesE d none d.notes
  else eachE d d.tiers.length 0
theorem notesE_all {d : Doc} : ∀ (l : List Note) (p : Option Note), notesE d p l = 0 → ∀ n ∈ l, ∃ q, noteE d q n = 0
  | [], _, _, n, hn => by cases hn
  | x :: r, p, h, n, hn => by
    rw [notesE] at h
    split at h
    · rename_i h1; exact absurd h h1
    · rename_i h1
      rcases List.mem_cons.1 hn with rfl | hn
      · exact ⟨p, Decidable.of_not_not h1⟩
      · exact notesE_all r (some x) h n hn
theorem docE_zero {d : Doc} (h : docE d = 0) : tiersE d.tiers = 0 ∧ 0 ≤ d.rec_.length ∧ d.rec_.length ≤ 86400000 ∧ d.notes.length ≤ 300 ∧ notesE d none d.notes = 0 ∧ eachE d d.tiers.length 0 = 0 := by
  unfold docE at h
  split at h
  · rename_i h1; exact absurd h h1
  rename_i h1
  split at h
  · cases h
  split at h
  · cases h
  split at h
  · rename_i h4; exact absurd h h4
  · rename_i h4
    exact ⟨Decidable.of_not_not h1, by omega, by omega, by omega, Decidable.of_not_not h4, h⟩
theorem noteE_zero {d : Doc} {p : Option Note} {n : Note} (h : noteE d p n = 0) : 1 ≤ n.id ∧ n.id ≤ 1099511627776 ∧ textE n.text = 0 ∧ ∃ t, tierAt d.tiers n.tier = some t ∧ placedE d t n = 0 := by
  unfold noteE at h
  split at h
  · cases h
  split at h
  · cases h
  cases ht : tierAt d.tiers n.tier with
  | none => rw [ht] at h; cases h
  | some t =>
    rw [ht] at h
    simp only at h
    split at h
    · rename_i h1; exact absurd h h1
    · rename_i h1
      exact ⟨by omega, by omega, Decidable.of_not_not h1, t, rfl, h⟩
theorem tierAt_some {l : List Tier} {i : Int} {t : Tier} (h : tierAt l i = some t) : 0 ≤ i ∧ l[i.toNat]? = some t := by
  unfold tierAt at h
  split at h
  · rename_i h0; exact ⟨h0, h⟩
  · cases h
end Go.Proofs.YtigcjinpkngapaaGreatDoor
end
section
namespace Go.Proofs.YtigcjinpkngapaaGreatDoor
open Go.Ac
attribute [local irreducible] awp awpL Ev Ev2 EvS thenQ blockQ retQ PCalls OCalls
variable {g : List (Nat × List AV)}
theorem tierC_get {l : List Tier} {k : Nat} {x : Tier} (h : l[k]? = some x) : 0 ≤ (k : Int) ∧ (l.map tierC)[(k : Int).toNat]? = some (tierC x) := ⟨by omega, by simp [h]⟩
end Go.Proofs.YtigcjinpkngapaaGreatDoor
end
section
namespace Go.Proofs.YtigcjinpkngapaaGreatDoor
open Go.Ac
attribute [local irreducible] awp awpL Ev Ev2 EvS thenQ blockQ retQ PCalls OCalls
variable {g : List (Nat × List AV)}
end Go.Proofs.YtigcjinpkngapaaGreatDoor
end
section
namespace Go.Proofs.YtigcjinpkngapaaGreatDoor
open Go.RowKit Go.Shelf Go.Lib Go.Sort
end Go.Proofs.YtigcjinpkngapaaGreatDoor
end
section
namespace Go.Proofs.YtigcjinpkngapaaGreatDoor
open Go.RowKit Go.Shelf Go.Lib Go.Sort
end Go.Proofs.YtigcjinpkngapaaGreatDoor
end
section
namespace Go.Proofs.YtigcjinpkngapaaGreatDoor
open Go.Ac Go.MapKept
attribute [local irreducible] awp awpL Ev Ev2 EvS thenQ blockQ retQ PCalls OCalls YieldOk IterC ICalls
variable {g : List (Nat × List AV)}
end Go.Proofs.YtigcjinpkngapaaGreatDoor
end
section
namespace Go.Proofs.YtigcjinpkngapaaGreatDoor
open Go.Ac Go.MapKept
attribute [local irreducible] awp awpL Ev Ev2 EvS thenQ blockQ retQ PCalls OCalls YieldOk IterC ICalls
variable {g : List (Nat × List AV)}
end Go.Proofs.YtigcjinpkngapaaGreatDoor
end
section
namespace Go.Proofs.YtigcjinpkngapaaGreatDoor
open Go.Ac Go.MapKept
attribute [local irreducible] awp awpL Ev Ev2 EvS thenQ blockQ retQ PCalls OCalls YieldOk IterC ICalls
variable {g : List (Nat × List AV)}
end Go.Proofs.YtigcjinpkngapaaGreatDoor
end
section
namespace Go.Proofs.YtigcjinpkngapaaGreatDoor
open Go.Ac
end Go.Proofs.YtigcjinpkngapaaGreatDoor
end
section
namespace Go.Proofs.YtigcjinpkngapaaGreatDoor
open Go.Ac Go.MapKept
attribute [local irreducible] awp awpL Ev Ev2 EvS thenQ blockQ retQ PCalls OCalls YieldOk IterC ICalls
end Go.Proofs.YtigcjinpkngapaaGreatDoor
end
section
namespace Go.Proofs.YtigcjinpkngapaaGreatDoor
open Go.Ac Go.MapKept
attribute [local irreducible] awp awpL Ev Ev2 EvS thenQ blockQ retQ PCalls OCalls YieldOk IterC ICalls
end Go.Proofs.YtigcjinpkngapaaGreatDoor
end
section
namespace Go.Proofs.YtigcjinpkngapaaGreatDoor
open Go.Ac Go.MapKept
attribute [local irreducible] awp awpL Ev Ev2 EvS thenQ blockQ retQ PCalls OCalls YieldOk IterC ICalls
end Go.Proofs.YtigcjinpkngapaaGreatDoor
end
section
namespace Go.Proofs.YtigcjinpkngapaaGreatDoor
open Go.Ac Go.MapKept
attribute [local irreducible] awp awpL Ev Ev2 EvS thenQ blockQ retQ PCalls OCalls YieldOk IterC ICalls
end Go.Proofs.YtigcjinpkngapaaGreatDoor
end
section
namespace Go.Proofs.YtigcjinpkngapaaGreatDoor
end Go.Proofs.YtigcjinpkngapaaGreatDoor
end
section
namespace Go.Proofs.YtigcjinpkngapaaGreatDoor
open Go.Ac
end Go.Proofs.YtigcjinpkngapaaGreatDoor
end
section
namespace Go.Proofs.YtigcjinpkngapaaGreatDoor
open Go.Ac
end Go.Proofs.YtigcjinpkngapaaGreatDoor
end
section
namespace Go.Proofs.YtigcjinpkngapaaGreatDoor
open Go.Ac
end Go.Proofs.YtigcjinpkngapaaGreatDoor
end
section
namespace Go.Proofs.YtigcjinpkngapaaGreatDoor
open Go.Ac
end Go.Proofs.YtigcjinpkngapaaGreatDoor
end
section
namespace Go.Proofs.YtigcjinpkngapaaGreatDoor
open Go.Ac
end Go.Proofs.YtigcjinpkngapaaGreatDoor
end
section
namespace Go.Ac
section
variable {P : Program} {td : TDs} [T : TOK P td] {G : Glo} {N : Nat} {Q : AQ} {S Sb D : SL} {L : List LB} {ops : Array Oper} {rest : List Oper}
  {op : Op} {ty : TypeId} {pos : String} {af : Array Edge} {d i : Nat} {x : AV} {nb : Nat} {W : DW}
end
end Go.Ac
end
section
namespace Go.Ac
section
variable {P : Program} {td : TDs} [T : TOK P td] {G : Glo} {N : Nat} {Q : AQ} {S : SL} {L : List LB} {ops : Array Oper} {rest : List Oper}
  {ty : TypeId} {pos : String} {af : Array Edge} {d : Nat}
end
end Go.Ac
namespace Go.Ac
section
variable {P : Program} {td : TDs} [T : TOK P td] {G : Glo} {N : Nat} {Q : AQ} {S Sb D D' : SL} {L : List LB} {rest : List Oper} {C : SL → List LB → Prop}
  {ty : TypeId} {pos : String} {af : Array Edge} {d nb : Nat} {W : DW}
end
end Go.Ac
end
section
namespace Go.Proofs.YtigcjinpkngapaaGreatDoor
open Go.Ac Go.MapKept
attribute [local irreducible] awp awpL Ev Ev2 EvS thenQ blockQ retQ PCalls OCalls YieldOk IterC ICalls
end Go.Proofs.YtigcjinpkngapaaGreatDoor
end
section
namespace Go.Ac
section
variable {P : Program} {td : TDs} [T : TOK P td] {G : Glo} {N : Nat} {Q : AQ} {S Sb D : SL} {L : List LB} {ops : Array Oper} {rest : List Oper}
  {op : Op} {ty ty2 : TypeId} {pos pos2 : String} {af af2 : Array Edge} {d i : Nat} {x : AV} {nb : Nat} {W : DW}
end
end Go.Ac
end
section
namespace Go.Proofs.YtigcjinpkngapaaGreatDoor
open Go.Ac
attribute [local irreducible] awp awpL Ev Ev2 EvS thenQ blockQ retQ PCalls OCalls YieldOk IterC ICalls
variable {g : List (Nat × List AV)}
end Go.Proofs.YtigcjinpkngapaaGreatDoor
end
section
namespace Go.Proofs.YtigcjinpkngapaaGreatDoor
end Go.Proofs.YtigcjinpkngapaaGreatDoor
end
section
namespace Go.Proofs.YtigcjinpkngapaaGreatDoor
open Go.Ac
attribute [local irreducible] awp awpL Ev Ev2 EvS thenQ blockQ retQ PCalls OCalls YieldOk IterC ICalls
variable {g : List (Nat × List AV)}
end Go.Proofs.YtigcjinpkngapaaGreatDoor
end
section
namespace Go.Proofs.YtigcjinpkngapaaGreatDoor
open Go.Ac
attribute [local irreducible] awp awpL Ev Ev2 EvS thenQ blockQ retQ PCalls OCalls YieldOk IterC ICalls
variable {g : List (Nat × List AV)}
end Go.Proofs.YtigcjinpkngapaaGreatDoor
end
section
namespace Go.Proofs.YtigcjinpkngapaaGreatDoor
open Go.Ac
attribute [local irreducible] awp awpL Ev Ev2 EvS thenQ blockQ retQ PCalls OCalls
variable {g : List (Nat × List AV)}
def rankE (t : Tier) (n : Note) : Int := if n.rank < 0 ∨ (n.rank ≠ 0 ∧ t.kind ≠ 3) then 1 else 0
theorem rank_cases (t : Tier) (n : Note) :
    (decide (n.rank < 0) = true ∧ rankE t n = 1) ∨ (decide (n.rank < 0) = false ∧ (!decide (n.rank = 0)) = false ∧ rankE t n = 0) ∨
    (decide (n.rank < 0) = false ∧ (!decide (n.rank = 0)) = true ∧ (!decide (t.kind = 3)) = true ∧ rankE t n = 1) ∨
    (decide (n.rank < 0) = false ∧ (!decide (n.rank = 0)) = true ∧ (!decide (t.kind = 3)) = false ∧ rankE t n = 0) := by
  unfold rankE
  by_cases h1 : n.rank < 0
  · exact .inl ⟨decide_eq_true h1, if_pos (.inl h1)⟩
  · by_cases h2 : n.rank = 0
    · exact .inr (.inl ⟨decide_eq_false h1, by simp [h2], if_neg (by omega)⟩)
    · by_cases h3 : t.kind = 3
      · exact .inr (.inr (.inr ⟨decide_eq_false h1, by simp [h2], by simp [h3], if_neg (by omega)⟩))
      · exact .inr (.inr (.inl ⟨decide_eq_false h1, by simp [h2], by simp [h3], if_pos (.inr ⟨h2, h3⟩)⟩))
def prevN (d : Doc) (i : Nat) : Option Note := if i = 0 then none else d.notes[i - 1]?
end Go.Proofs.YtigcjinpkngapaaGreatDoor
end
section
namespace Go.Proofs.YtigcjinpkngapaaGreatDoor
open Go.Ac
attribute [local irreducible] awp awpL Ev Ev2 EvS thenQ blockQ retQ PCalls OCalls
variable {g : List (Nat × List AV)}
end Go.Proofs.YtigcjinpkngapaaGreatDoor
end
section
namespace Go.Proofs.YtigcjinpkngapaaGreatDoor
open Go.Ac
attribute [local irreducible] awp awpL Ev Ev2 EvS thenQ blockQ retQ PCalls OCalls
variable {g : List (Nat × List AV)}
end Go.Proofs.YtigcjinpkngapaaGreatDoor
end
section
namespace Go.Proofs.YtigcjinpkngapaaGreatDoor
open Go.Ac
attribute [local irreducible] awp awpL Ev Ev2 EvS thenQ blockQ retQ PCalls OCalls
variable {g : List (Nat × List AV)}
end Go.Proofs.YtigcjinpkngapaaGreatDoor
end
section
namespace Go.Proofs.YtigcjinpkngapaaGreatDoor
open Go.Ac Go.MapKept
attribute [local irreducible] awp awpL Ev Ev2 EvS thenQ blockQ retQ PCalls OCalls YieldOk IterC ICalls
end Go.Proofs.YtigcjinpkngapaaGreatDoor
end
section
namespace Go.Proofs.YtigcjinpkngapaaGreatDoor
open Go.Ac Go.MapKept
attribute [local irreducible] awp awpL Ev Ev2 EvS thenQ blockQ retQ PCalls OCalls YieldOk IterC
variable {g : List (Nat × List AV)}
end Go.Proofs.YtigcjinpkngapaaGreatDoor
end
section
namespace Go.Proofs.YtigcjinpkngapaaGreatDoor
open Go.Ac Go.MapKept
attribute [local irreducible] awp awpL Ev Ev2 EvS thenQ blockQ retQ PCalls OCalls YieldOk IterC
variable {g : List (Nat × List AV)}
end Go.Proofs.YtigcjinpkngapaaGreatDoor
end
section
namespace Go.Proofs.YtigcjinpkngapaaGreatDoor
open Go.Ac Go.MapKept
attribute [local irreducible] awp awpL Ev Ev2 EvS thenQ blockQ retQ PCalls OCalls YieldOk IterC
variable {g : List (Nat × List AV)}
end Go.Proofs.YtigcjinpkngapaaGreatDoor
end
section
namespace Go.Proofs.YtigcjinpkngapaaGreatDoor
open Go.Ac Go.MapKept
attribute [local irreducible] awp awpL Ev Ev2 EvS thenQ blockQ retQ PCalls OCalls YieldOk IterC ICalls
end Go.Proofs.YtigcjinpkngapaaGreatDoor
end
section
namespace Go.Proofs.YtigcjinpkngapaaGreatDoor
open Go.Ac Go.MapKept
attribute [local irreducible] awp awpL Ev Ev2 EvS thenQ blockQ retQ PCalls OCalls YieldOk IterC ICalls
variable {g : List (Nat × List AV)}
end Go.Proofs.YtigcjinpkngapaaGreatDoor
end
section
namespace Go.Proofs.YtigcjinpkngapaaGreatDoor
open Go.Ac Go.MapKept
attribute [local irreducible] awp awpL Ev Ev2 EvS thenQ blockQ retQ PCalls OCalls YieldOk IterC ICalls
variable {g : List (Nat × List AV)}
end Go.Proofs.YtigcjinpkngapaaGreatDoor
end
section
namespace Go.Proofs.YtigcjinpkngapaaGreatDoor
open Go.Ac Go.MapKept
attribute [local irreducible] awp awpL Ev Ev2 EvS thenQ blockQ retQ PCalls OCalls YieldOk IterC
variable {g : List (Nat × List AV)}
end Go.Proofs.YtigcjinpkngapaaGreatDoor
end
section
namespace Go.Proofs.YtigcjinpkngapaaGreatDoor
open Go.Ac
attribute [local irreducible] awp awpL Ev Ev2 EvS thenQ blockQ retQ PCalls OCalls YieldOk IterC
variable {g : List (Nat × List AV)}
end Go.Proofs.YtigcjinpkngapaaGreatDoor
end
section
namespace Go.Proofs.YtigcjinpkngapaaGreatDoor
open Go.Ac Go.MapKept
attribute [local irreducible] awp awpL Ev Ev2 EvS thenQ blockQ retQ PCalls OCalls YieldOk IterC
variable {g : List (Nat × List AV)}
end Go.Proofs.YtigcjinpkngapaaGreatDoor
end
section
namespace Go.Proofs.YtigcjinpkngapaaGreatDoor
open Go.Ac Go.MapKept
attribute [local irreducible] awp awpL Ev Ev2 EvS thenQ blockQ retQ PCalls OCalls YieldOk IterC ICalls
end Go.Proofs.YtigcjinpkngapaaGreatDoor
end
section
namespace Go.Proofs.YtigcjinpkngapaaGreatDoor
open Go.Ac Go.MapKept
attribute [local irreducible] awp awpL Ev Ev2 EvS thenQ blockQ retQ PCalls OCalls YieldOk IterC ICalls
end Go.Proofs.YtigcjinpkngapaaGreatDoor
end
section
namespace Go.Ac
section
variable {P : Program} {td : TDs} [T : TOK P td] {G : Glo} {N : Nat} {S : SL} {L : List LB} {ty : TypeId} {x : AV}
theorem LF_drop {F : Nat → Prop} {w : World} : ∀ {cs : List AV} {ys : List Value} (n : Nat), LF F w cs ys → LF F w (cs.drop n) (ys.drop n)
  | cs, ys, 0, h => by simpa using h
  | [], ys, n + 1, h => by
    simp only [LF] at h; subst h; simp [LF]
  | c :: r, ys, n + 1, h => by
    simp only [LF] at h
    obtain ⟨y, s, rfl, _, _, h⟩ := h
    simpa using LF_drop n h
theorem LF_take {F : Nat → Prop} {w : World} : ∀ {cs : List AV} {ys : List Value} (n : Nat), LF F w cs ys → LF F w (cs.take n) (ys.take n)
  | cs, ys, 0, h => by simp [LF]
  | [], ys, n + 1, h => by
    simp only [LF] at h; subst h; simp [LF]
  | c :: r, ys, n + 1, h => by
    simp only [LF] at h
    obtain ⟨y, s, rfl, h1, h2, h⟩ := h
    simp only [List.take_succ_cons, LF]
    exact ⟨y, _, rfl, h1, h2, LF_take n h⟩
theorem struct_desc {t : Nat} {d : TD} {fs : List (TypeId × Nat)} (ht : lk td t = some d) (hs : d.k = .struct fs) : ∃ fields : Array Field, P.underlying t = some (.struct fields) ∧ fs = fields.toList.map fun f => (f.type, f.offset) := by
  obtain ⟨i, u, z, h1, h2, h3, h4, h5, h6, h7⟩ := tok_parts (P := P) ht
  rw [hs] at h4
  cases u <;> simp only [tk, reduceCtorEq, TK.struct.injEq] at h4
  rename_i fields
  exact ⟨fields, h2, h4.symm⟩
theorem ev_fld_agg {t : Nat} {d fd : TD} {fs : List (TypeId × Nat)} {f ft off : Nat} {u : Operand} {cs ds : List AV} (h : val G S u = some (.agg cs)) (ht : lk td t = some d) (hs : d.k = .struct fs) (hf : fs[f]? = some (ft, off))
    (hft : lk td ft = some fd) (hr : fd.k.row = true) (hx : (cs.drop off).take fd.size = ds) : Ev P G N (.field t u f) ty S L (.agg ds) := by
  subst hx
  intro o ho _ cx a hc
  have e1 := val_R hc h
  simp only [R, RF] at e1
  obtain ⟨xs, e1, hl⟩ := e1
  obtain ⟨fields, h2, rfl⟩ := struct_desc (P := P) ht hs
  simp only [List.getElem?_map, Array.getElem?_toList] at hf
  cases hq : fields[f]? with
  | none => simp [hq] at hf
  | some fl =>
    simp only [hq, Option.map_some, Option.some.injEq, Prod.mk.injEq] at hf
    obtain ⟨rfl, rfl⟩ := hf
    have hag := run_isAgg (P := P) hft cx.w
    rw [hr] at hag
    refine ⟨.agg (xs.extract fl.offset (fl.offset + fd.size)), ?_, ?_⟩
    · simp [execOp, ho, e1, Instr.field, asAgg, run_underlying h2, Result.andThen, hq, part, hag, run_sizeOf' (P := P) hft]
    · simp only [R, RF]
      refine ⟨_, rfl, ?_⟩
      have : (xs.extract fl.offset (fl.offset + fd.size)).toList = (xs.toList.drop fl.offset).take fd.size := by
        simp
      rw [this]
      exact LF_take _ (LF_drop _ hl)
end
end Go.Ac
end
section
namespace Go.Proofs.YtigcjinpkngapaaGreatDoor
open Go.Ac Go.MapKept
attribute [local irreducible] awp awpL Ev Ev2 EvS thenQ blockQ retQ PCalls OCalls YieldOk IterC ICalls
end Go.Proofs.YtigcjinpkngapaaGreatDoor
end
section
namespace Go.Proofs.YtigcjinpkngapaaGreatDoor
open Go.Ac Go.MapKept
attribute [local irreducible] awp awpL Ev Ev2 EvS thenQ blockQ retQ PCalls OCalls YieldOk IterC ICalls
end Go.Proofs.YtigcjinpkngapaaGreatDoor
end
section
namespace Go.Proofs.YtigcjinpkngapaaGreatDoor
open Go.Ac Go.MapKept
attribute [local irreducible] awp awpL Ev Ev2 EvS thenQ blockQ retQ PCalls OCalls YieldOk IterC ICalls
end Go.Proofs.YtigcjinpkngapaaGreatDoor
end
section
namespace Go.Proofs.YtigcjinpkngapaaGreatDoor
open Go.Ac Go.MapKept
attribute [local irreducible] awp awpL Ev Ev2 EvS thenQ blockQ retQ PCalls OCalls YieldOk IterC ICalls
end Go.Proofs.YtigcjinpkngapaaGreatDoor
end
section
namespace Go.Proofs.YtigcjinpkngapaaGreatDoor
open Go.Ac Go.MapKept
attribute [local irreducible] awp awpL Ev Ev2 EvS thenQ blockQ retQ PCalls OCalls YieldOk IterC ICalls
end Go.Proofs.YtigcjinpkngapaaGreatDoor
end
section
namespace Go.Proofs.YtigcjinpkngapaaGreatDoor
open Go.Ac Go.MapKept
attribute [local irreducible] awp awpL Ev Ev2 EvS thenQ blockQ retQ PCalls OCalls YieldOk IterC ICalls
end Go.Proofs.YtigcjinpkngapaaGreatDoor
end
section
namespace Go.Proofs.YtigcjinpkngapaaGreatDoor
open Go.Ac Go.MapKept
attribute [local irreducible] awp awpL Ev Ev2 EvS thenQ blockQ retQ PCalls OCalls YieldOk IterC ICalls
end Go.Proofs.YtigcjinpkngapaaGreatDoor
end
section
namespace Go.Proofs.YtigcjinpkngapaaGreatDoor
open Go.Ac Go.MapKept
attribute [local irreducible] awp awpL Ev Ev2 EvS thenQ blockQ retQ PCalls OCalls YieldOk IterC ICalls
variable {g : List (Nat × List AV)}
end Go.Proofs.YtigcjinpkngapaaGreatDoor
end
section
namespace Go.Proofs.YtigcjinpkngapaaGreatDoor
open Go.Ac
attribute [local irreducible] awp awpL Ev Ev2 EvS thenQ blockQ retQ PCalls OCalls YieldOk IterC ICalls
variable {g : List (Nat × List AV)}
end Go.Proofs.YtigcjinpkngapaaGreatDoor
end
section
namespace Go.Proofs.YtigcjinpkngapaaGreatDoor
open Go.Ac
attribute [local irreducible] awp awpL Ev Ev2 EvS thenQ blockQ retQ PCalls OCalls
variable {g : List (Nat × List AV)}
theorem notesE_drop {d : Doc} {l : List Note} {k : Nat} {p : Option Note} {n : Note} (h : l[k]? = some n) : notesE d p (l.drop k) = if noteE d p n ≠ 0 then noteE d p n else notesE d (some n) (l.drop (k + 1)) := by
  obtain ⟨h1, rfl⟩ := List.getElem?_eq_some_iff.1 h
  rw [List.drop_eq_getElem_cons h1]
  rfl
theorem prevN_succ {d : Doc} {k : Nat} {n : Note} (h : d.notes[k]? = some n) : prevN d (k + 1) = some n := by
  unfold prevN
  rw [if_neg (by omega)]
  exact h
theorem eachE_step {d : Doc} {k : Nat} (h : k < d.tiers.length) : eachE d (d.tiers.length - k) k = if tierE d (k : Int) ≠ 0 then tierE d (k : Int) else eachE d (d.tiers.length - (k + 1)) (k + 1) := by
  rw [show d.tiers.length - k = (d.tiers.length - (k + 1)) + 1 by omega]
  rfl
set_option maxHeartbeats 2000000 in
theorem rCopyD_spec (d : Doc) (h1 : d.notes.length ≤ 100000) (h2 : d.tiers.length ≤ 100000) (h3 : d.rec_.speakers.length ≤ 100000) : PCalls Tryz.prog g 15 [.agg (docC d)] (.agg (docC d)) := by
  refine pcalls' Tryz.func15 Tryz.ntmps15 rfl rfl rfl ?_
  repeat' (first
   | ((with_reducible refine is_un ?_); (first | refine awpL_ev2 (ev_append_zf (n := d.rec_.speakers.length) rfl rfl rfl rfl rfl rfl rfl rfl rfl rfl rfl rfl rfl qe0 (List.length_map _)) rfl ?_ | refine awpL_ev2 (ev_append_zf (n := d.tiers.length) rfl rfl rfl rfl rfl rfl rfl rfl rfl rfl rfl rfl rfl qe0 (List.length_map _)) rfl ?_ | refine awpL_ev2 (ev_append_zf (n := d.notes.length) rfl rfl rfl rfl rfl rfl rfl rfl rfl rfl rfl rfl rfl qe0 (List.length_map _)) rfl ?_))
   | refine stn [1, 2] ?_
   | ((with_reducible refine is_gd ?_); refine awpL_split rfl rfl (fun h => ?_) (fun h => ?_))
   | ((with_reducible refine is_awp ?_); refine awp_cond rfl (fun h => ?_) (fun h => ?_))
   | fail)
  refine retP rfl ?_
  rfl
end Go.Proofs.YtigcjinpkngapaaGreatDoor
end
section
namespace Go.Proofs.YtigcjinpkngapaaGreatDoor
open Go.Ac
attribute [local irreducible] awp awpL Ev Ev2 EvS thenQ blockQ retQ PCalls OCalls
variable {g : List (Nat × List AV)}
def kRec : ByteArray := ⟨#[114, 101, 99, 111, 114, 100, 105, 110, 103]⟩
def kTier : ByteArray := ⟨#[116, 105, 101, 114]⟩
def kNote : ByteArray := ⟨#[110, 111, 116, 101]⟩
def recW (r : Recording) : List ByteArray := [kRec, numT r.id, r.name, numT r.length, numT r.day] ++ r.speakers.map numT
def tierW (t : Tier) : List ByteArray := [kTier, t.name] ++ [t.kind, t.role, t.parent].map numT
def noteW (n : Note) : List ByteArray := [kNote] ++ [n.id, n.tier, n.parent, n.span.fro, n.span.til, n.rank].map numT ++ [n.text]
def recC (r : Recording) : List AV := [.v (.int .i64 r.id), .v (.string r.name), .v (.int .i64 r.length), .v (.int .i64 r.day), encIs r.speakers]
def InNote (n : Note) : Prop := InI n.id ∧ InI n.tier ∧ InI n.parent ∧ InI n.span.fro ∧ InI n.span.til ∧ InI n.rank
def InTier (t : Tier) : Prop := InI t.kind ∧ InI t.role ∧ InI t.parent
def InRec (r : Recording) : Prop := InI r.id ∧ InI r.length ∧ InI r.day ∧ r.speakers.length ≤ 100000 ∧ ∀ n ∈ r.speakers, InI n
end Go.Proofs.YtigcjinpkngapaaGreatDoor
end
section
namespace Go.Proofs.YtigcjinpkngapaaGreatDoor
open Go.Ac
attribute [local irreducible] awp awpL Ev Ev2 EvS thenQ blockQ retQ PCalls OCalls
variable {g : List (Nat × List AV)}
theorem mall_drop_get {l : List UInt8} {k : Nat} {b : UInt8} (p : UInt8 → Bool) (h : l[k]? = some b) : (l.drop k).all p = (p b && (l.drop (k + 1)).all p) := by
  obtain ⟨hlt, rfl⟩ := List.getElem?_eq_some_iff.1 h
  rw [List.drop_eq_getElem_cons hlt, List.all_cons]
theorem mbytesA_get {s : ByteArray} {k : Nat} {b : UInt8} (h : s.data.toList[k]? = some b) : 0 ≤ (k : Int) ∧ (bytesA s)[(k : Int).toNat]? = some [.v (.int .u8 b.toNat)] := ⟨by omega, by simp [bytesA]; exact ⟨b, by simpa using h, rfl⟩⟩
theorem msize_data (s : ByteArray) : s.data.toList.length = s.size := by rw [Array.length_toList]; rfl
set_option maxHeartbeats 1000000 in
theorem mName_spec (s : ByteArray) : PCalls Tryz.prog g 47 [vs s] (vb (nameOk s)) := by
  refine pcalls' Tryz.func47 Tryz.ntmps47 rfl rfl rfl ?_
  by_cases he : s = ⟨#[]⟩
  · subst he
    have c0 : decide ((⟨#[]⟩ : ByteArray) = ⟨#[]⟩) = true := by simp
    repeat' (first
     | refine stn [] ?_
     | ((with_reducible refine is_gd ?_); refine awpL_split rfl rfl (fun h => ?_) (fun h => ?_))
     | ((with_reducible refine is_awp ?_); refine awp_cond rfl (fun h => ?_) (fun h => ?_))
     | fail)
    refine retP rfl ?_
    rfl
  have c0 : decide (s = ⟨#[]⟩) = false := by simpa using he
  by_cases hl : 32 < (s.size : Int)
  · have c1 : decide (32 < (s.size : Int)) = true := by simpa using hl
    repeat' (first
     | refine stn [] ?_
     | ((with_reducible refine is_gd ?_); refine awpL_split rfl rfl (fun h => ?_) (fun h => ?_))
     | ((with_reducible refine is_awp ?_); refine awp_cond rfl (fun h => ?_) (fun h => ?_))
     | fail)
    refine retP rfl ?_
    have : ¬ s.size ≤ 32 := by omega
    simp [ex, nameOk, this]
  have c1 : decide (32 < (s.size : Int)) = false := by simpa using hl
  have hb : ∃ b, s.data.toList[0]? = some b := by
    cases hh : s.data.toList[0]? with
    | some b => exact ⟨b, rfl⟩
    | none =>
      exfalso; apply he
      have hz : s.data.toList = [] := by
        have := List.getElem?_eq_none_iff.1 hh
        exact List.eq_nil_of_length_eq_zero (by omega)
      cases s with | mk d => congr 1; exact Array.ext' (by simpa using hz)
  obtain ⟨b, hb⟩ := hb
  have g0 : 0 ≤ (0 : Int) ∧ s.data[(0 : Int).toNat]? = some b := by simpa using hb
  have hsz : s.data.toList.length = s.size := msize_data s
  have h1 : 1 ≤ s.size := by have := (List.getElem?_eq_some_iff.1 hb).1; omega
  have hcons : s.data.toList = b :: s.data.toList.drop 1 := by
    have := List.drop_eq_getElem_cons (List.getElem?_eq_some_iff.1 hb).1
    rw [(List.getElem?_eq_some_iff.1 hb).2] at this
    simpa using this
  by_cases hs : smallB b.toNat = true
  · have c2 : decide ((b.toNat : Int) < 97) = false := by simp [smallB] at hs; simp; omega
    have c3 : decide (122 < (b.toNat : Int)) = false := by simp [smallB] at hs; simp; omega
    repeat' (first
     | ((with_reducible refine is_un ?_); refine awpL_ev2 (ev_stb rfl rfl rfl rfl rfl rfl rfl) rfl ?_)
     | refine stn [] ?_
     | ((with_reducible refine is_gd ?_); refine awpL_split rfl rfl (fun h => ?_) (fun h => ?_))
     | ((with_reducible refine is_awp ?_); refine awp_cond rfl (fun h => ?_) (fun h => ?_))
     | fail)
    refine awp_for (α := Nat) 0 (fun k => [(23, .fs 1 s.size (bytesA s)), (24, vi s.size), (25, vi k)]) (fun _ => []) (fun k => k ≤ s.size ∧ (s.data.toList.all fun b => letterB b.toNat) = ((s.data.toList.drop k).all fun b => letterB b.toNat)) (fun k => s.size - k) 0
      ⟨(.cons rfl rfl (.cons rfl rfl (.cons rfl rfl .nil))), rfl, rfl, rfl⟩ ⟨Nat.zero_le _, rfl⟩ ?_
    rintro k ⟨hk, hf⟩
    cases ht : s.data.toList[k]? with
    | none =>
      have hge : s.data.toList.length ≤ k := by simpa using ht
      have d1 : decide ((k : Int) < s.size) = false := by simp; omega
      rw [List.drop_of_length_le hge] at hf
      repeat' (first
       | refine stn [] ?_
       | ((with_reducible refine is_gd ?_); refine awpL_split rfl rfl (fun h => ?_) (fun h => ?_))
       | ((with_reducible refine is_awp ?_); refine awp_cond rfl (fun h => ?_) (fun h => ?_))
       | fail)
      refine retP rfl ?_
      have : s.size ≤ 32 := by omega
      simp only [ex, nameOk, hf]
      rw [hcons]
      simp [hs, this, h1]
    | some c =>
      have hlt : k < s.data.toList.length := (List.getElem?_eq_some_iff.1 ht).1
      have d1 : decide ((k : Int) < s.size) = true := by simp; omega
      have g1 := mbytesA_get ht
      have hd := mall_drop_get (fun b => letterB b.toNat) ht
      repeat' (first
       | refine stn [] ?_
       | ((with_reducible refine is_gd ?_); refine awpL_split rfl rfl (fun h => ?_) (fun h => ?_))
       | ((with_reducible refine is_awp ?_); refine awp_cond rfl (fun h => ?_) (fun h => ?_))
       | fail)
      all_goals first
        | (have hL : letterB c.toNat = true := by
            clear hf hd g1 g0 c0 c1 c2 c3 hcons hsz hb ht hlt d1 h1 hs he hl hk
            simp only [letterB, smallB, Bool.or_eq_true, Bool.and_eq_true, decide_eq_true_eq]
            simp at *; omega
           exact ⟨k + 1, ⟨(.cons rfl rfl (.cons rfl rfl (.cons rfl rfl .nil))), rfl, rfl, rfl⟩, ⟨by omega, by rw [hf, hd, hL]; rfl⟩, by omega⟩)
        | (have hL : letterB c.toNat = false := by
            clear hf hd g1 g0 c0 c1 c2 c3 hcons hsz hb ht hlt d1 h1 hs he hl hk
            rw [Bool.eq_false_iff]
            simp only [letterB, smallB, ne_eq, Bool.or_eq_true, Bool.and_eq_true, decide_eq_true_eq]
            simp at *; omega
           refine retP rfl ?_
           simp only [ex, nameOk, hf, hd, hL, Bool.false_and, Bool.and_false])
  · have hs' : smallB b.toNat = false := by simpa using hs
    by_cases c2 : (b.toNat : Int) < 97
    · have c2' : decide ((b.toNat : Int) < 97) = true := by simpa using c2
      repeat' (first
       | refine stn [] ?_
       | ((with_reducible refine is_gd ?_); refine awpL_split rfl rfl (fun h => ?_) (fun h => ?_))
       | ((with_reducible refine is_awp ?_); refine awp_cond rfl (fun h => ?_) (fun h => ?_))
       | fail)
      refine retP rfl ?_
      simp only [ex, nameOk]
      rw [hcons]; simp [hs']
    · have c2' : decide ((b.toNat : Int) < 97) = false := by simpa using c2
      have c3 : decide (122 < (b.toNat : Int)) = true := by simp [smallB] at hs'; simp; omega
      repeat' (first
       | refine stn [] ?_
       | ((with_reducible refine is_gd ?_); refine awpL_split rfl rfl (fun h => ?_) (fun h => ?_))
       | ((with_reducible refine is_awp ?_); refine awp_cond rfl (fun h => ?_) (fun h => ?_))
       | fail)
      refine retP rfl ?_
      simp only [ex, nameOk]
      rw [hcons]; simp [hs']
end Go.Proofs.YtigcjinpkngapaaGreatDoor
end
section
namespace Go.Proofs.YtigcjinpkngapaaGreatDoor
open Go.Ac
attribute [local irreducible] awp awpL Ev Ev2 EvS thenQ blockQ retQ PCalls OCalls
variable {g : List (Nat × List AV)}
def spkOk : Int → List Int → Bool
  | _, [] => true
  | last, n :: r => decide (last < n) && (decide (n ≤ 1099511627776) && spkOk n r)
def recOk (r : Recording) : Bool := decide (1 ≤ r.id) && (decide (r.id ≤ 1099511627776) && (nameOk r.name && (decide (1 ≤ r.length) && (decide (r.length ≤ 86400000) && (decide (1 ≤ r.day) && (decide (r.day ≤ 109573) && (!r.speakers.isEmpty && spkOk 0 r.speakers)))))))
def lastI (l : List Int) (k : Nat) : Int := if k = 0 then 0 else (l[k - 1]?).getD 0
theorem lastI_succ {l : List Int} {k : Nat} {n : Int} (h : l[k]? = some n) : lastI l (k + 1) = n := by
  unfold lastI
  rw [if_neg (by omega), Nat.add_sub_cancel, h]
  rfl
theorem drop_int {l : List Int} {k : Nat} {n : Int} (h : l[k]? = some n) : l.drop k = n :: l.drop (k + 1) := by
  obtain ⟨h1, h2⟩ := List.getElem?_eq_some_iff.1 h
  rw [List.drop_eq_getElem_cons h1, h2]
set_option maxRecDepth 4000 in
set_option maxHeartbeats 4000000 in
theorem wprintable_spec (d : Doc) (hl : d.rec_.speakers.length ≤ 1000000) : PCalls Tryz.prog g 28 [.agg (docC d)] (vb (recOk d.rec_)) := by
  have hN := mName_spec (g := g) d.rec_.name
  have n1 : (!true) = false := rfl
  have n2 : (!false) = true := rfl
  refine pcalls' Tryz.func28 Tryz.ntmps28 rfl rfl rfl ?_
  repeat' (first
   | refine stn [] ?_
   | ((with_reducible refine is_gd ?_); refine awpL_split rfl rfl (fun h => ?_) (fun h => ?_))
   | ((with_reducible refine is_awp ?_); refine awp_cond rfl (fun h => ?_) (fun h => ?_))
   | fail)
  refine awp_for (α := Nat) 0 (fun k => [(1, .fp (docC d)), (3, vi (lastI d.rec_.speakers k)), (9, encIs d.rec_.speakers), (10, vi d.rec_.speakers.length), (11, vi k)]) (fun _ => []) (fun k => k ≤ d.rec_.speakers.length ∧ spkOk 0 d.rec_.speakers = spkOk (lastI d.rec_.speakers k) (d.rec_.speakers.drop k) ∧ 0 ≤ lastI d.rec_.speakers k ∧ (lastI d.rec_.speakers k = 0 ↔ k = 0)) (fun k => d.rec_.speakers.length - k) 0
    ⟨(.cons rfl rfl (.cons rfl rfl (.cons rfl rfl (.cons rfl rfl (.cons rfl rfl .nil))))), rfl, rfl, rfl⟩ ⟨Nat.zero_le _, rfl, Int.le_refl _, by simp [lastI]⟩ ?_
  rintro k ⟨hk, hf, h0, hz⟩
  cases ht : d.rec_.speakers[k]? with
  | some n =>
    have hlt : k < d.rec_.speakers.length := (List.getElem?_eq_some_iff.1 ht).1
    have c1 : decide ((k : Int) < d.rec_.speakers.length) = true := decide_eq_true (by omega)
    have ik : 0 ≤ (k : Int) ∧ (d.rec_.speakers.map intC)[(k : Int).toNat]? = some (intC n) := ⟨by omega, by simp [ht]⟩
    have hs := lastI_succ ht
    rw [drop_int ht] at hf
    by_cases a : n ≤ lastI d.rec_.speakers k
    · have c2 : decide (n ≤ lastI d.rec_.speakers k) = true := decide_eq_true a
      have hf : spkOk 0 d.rec_.speakers = false := by rw [hf]; simp [spkOk]; omega
      have hr : recOk d.rec_ = false := by simp [recOk, hf]
      rw [hr]
      repeat' (first
       | refine stn [] ?_
       | ((with_reducible refine is_gd ?_); refine awpL_split rfl rfl (fun h => ?_) (fun h => ?_))
       | ((with_reducible refine is_awp ?_); refine awp_cond rfl (fun h => ?_) (fun h => ?_))
       | fail)
      exact retP rfl rfl
    have c2 : decide (n ≤ lastI d.rec_.speakers k) = false := decide_eq_false a
    by_cases b : 1099511627776 < n
    · have c3 : decide ((1099511627776 : Int) < n) = true := decide_eq_true b
      have hf : spkOk 0 d.rec_.speakers = false := by rw [hf]; simp [spkOk]; omega
      have hr : recOk d.rec_ = false := by simp [recOk, hf]
      rw [hr]
      repeat' (first
       | refine stn [] ?_
       | ((with_reducible refine is_gd ?_); refine awpL_split rfl rfl (fun h => ?_) (fun h => ?_))
       | ((with_reducible refine is_awp ?_); refine awp_cond rfl (fun h => ?_) (fun h => ?_))
       | fail)
      exact retP rfl rfl
    have c3 : decide ((1099511627776 : Int) < n) = false := decide_eq_false b
    repeat' (first
     | refine stn [] ?_
     | ((with_reducible refine is_gd ?_); refine awpL_split rfl rfl (fun h => ?_) (fun h => ?_))
     | ((with_reducible refine is_awp ?_); refine awp_cond rfl (fun h => ?_) (fun h => ?_))
     | fail)
    refine ⟨k + 1, by rw [hs]; exact ⟨(.cons rfl rfl (.cons rfl rfl (.cons rfl rfl (.cons rfl rfl (.cons rfl rfl .nil))))), rfl, rfl, rfl⟩, ⟨by omega, ?_, by rw [hs]; omega, by rw [hs]; omega⟩, by omega⟩
    rw [hf, hs, spkOk, decide_eq_true (by omega), decide_eq_true (by omega), Bool.true_and, Bool.true_and]
  | none =>
    have hge : d.rec_.speakers.length ≤ k := by simpa using ht
    have c1 : decide ((k : Int) < d.rec_.speakers.length) = false := decide_eq_false (by omega)
    rw [List.drop_of_length_le hge] at hf
    have hf : spkOk 0 d.rec_.speakers = true := hf
    have he : d.rec_.speakers.isEmpty = !decide (0 < lastI d.rec_.speakers k) := by
      cases hsp : d.rec_.speakers with
      | nil =>
        rw [hsp] at hk hz
        simp only [List.length_nil] at hk
        have := hz.2 (by omega)
        rw [this]; rfl
      | cons x r =>
        rw [hsp] at hge hz h0
        simp only [List.length_cons] at hge
        rw [decide_eq_true (by omega)]
        rfl
    have hr : recOk d.rec_ = (decide (1 ≤ d.rec_.id) && (decide (d.rec_.id ≤ 1099511627776) && (nameOk d.rec_.name && (decide (1 ≤ d.rec_.length) && (decide (d.rec_.length ≤ 86400000) && (decide (1 ≤ d.rec_.day) && (decide (d.rec_.day ≤ 109573) && decide (0 < lastI d.rec_.speakers k)))))))) := by
      simp [recOk, hf, he]
    rw [hr]
    repeat' (first
     | refine stn [] ?_
     | ((with_reducible refine is_gd ?_); refine awpL_split rfl rfl (fun h => ?_) (fun h => ?_))
     | ((with_reducible refine is_awp ?_); refine awp_cond rfl (fun h => ?_) (fun h => ?_))
     | fail)
    all_goals refine retP rfl ?_
    all_goals (simp_all [ex] <;> intros <;> omega)
end Go.Proofs.YtigcjinpkngapaaGreatDoor
end
section
namespace Go.Proofs.YtigcjinpkngapaaGreatDoor
open Go.Ac
attribute [local irreducible] awp awpL Ev Ev2 EvS thenQ blockQ retQ PCalls OCalls
variable {g : List (Nat × List AV)}
end Go.Proofs.YtigcjinpkngapaaGreatDoor
end
section
namespace Go.Proofs.YtigcjinpkngapaaGreatDoor
open Go.Ac
attribute [local irreducible] awp awpL Ev Ev2 EvS thenQ blockQ retQ PCalls OCalls
variable {g : List (Nat × List AV)}
def printE (d : Doc) : Int := if docE d ≠ 0 then docE d else if recOk d.rec_ then 0 else 1
end Go.Proofs.YtigcjinpkngapaaGreatDoor
end
section
namespace Go.Proofs.YtigcjinpkngapaaGreatDoor
open Go.Ac
attribute [local irreducible] awp awpL Ev Ev2 EvS thenQ blockQ retQ PCalls OCalls
variable {g : List (Nat × List AV)}
def recL (r : Recording) : ByteArray := toB (joinW ((recW r).map lst))
def tierL (t : Tier) : ByteArray := toB (joinW ((tierW t).map lst))
def noteL (n : Note) : ByteArray := toB (joinW ((noteW n).map lst))
def docL (d : Doc) : List ByteArray := recL d.rec_ :: (d.tiers.map tierL ++ d.notes.map noteL)
def printD (d : Doc) : List UInt8 := textW ((docL d).map lst)
structure FitP (d : Doc) : Prop where
  r : InRec d.rec_
  t : ∀ t ∈ d.tiers, InTier t
  n : ∀ n ∈ d.notes, InNote n
  ls : d.rec_.speakers.length ≤ 99000
  lr : recOk d.rec_ = true → (recL d.rec_).size ≤ 80000
  lt : d.tiers.length ≤ 100
  ln : d.notes.length ≤ 300
  rs : d.rec_.name.size ≤ 9223372036854775807
  ts : ∀ t ∈ d.tiers, t.name.size ≤ 9223372036854775807
theorem nameOk_size {s : ByteArray} (h : nameOk s = true) : s.size ≤ 32 := by
  simp only [nameOk, Bool.and_eq_true, decide_eq_true_eq] at h
  exact h.1.1.2
theorem textE_size {s : ByteArray} (h : textE s = 0) : s.size ≤ 200 := by
  unfold textE at h
  split at h
  · cases h
  · omega
theorem tierOne_name {b : List Tier} {t : Tier} (h : tierOne b t = 0) : nameOk t.name = true := by
  cases hn : nameOk t.name with
  | true => rfl
  | false => unfold tierOne at h; rw [if_pos hn] at h; cases h
theorem printE_zero {d : Doc} (h : printE d = 0) : docE d = 0 ∧ recOk d.rec_ = true := by
  unfold printE at h
  split at h
  · rename_i h1; exact absurd h h1
  · rename_i h1
    split at h
    · rename_i h2; exact ⟨Decidable.of_not_not h1, h2⟩
    · cases h
theorem recOk_name {r : Recording} (h : recOk r = true) : nameOk r.name = true := by
  simp only [recOk, Bool.and_eq_true] at h
  exact h.2.2.1
theorem num_words {l : List Int} (h : ∀ n ∈ l, InI n) : ∀ s ∈ l.map numT, s.size ≤ 250 := by
  intro s hs
  obtain ⟨n, hn, rfl⟩ := List.mem_map.1 hs
  have := numT_len n (h n hn)
  omega
theorem recW_words {r : Recording} (h : InRec r) (hl : r.speakers.length ≤ 99000) (hn : nameOk r.name = true) : Words (recW r) := by
  obtain ⟨a1, a2, a3, a4, a5⟩ := h
  refine ⟨by simp [recW]; omega, fun s hs => ?_⟩
  have b1 := numT_len _ a1
  have b2 := numT_len _ a2
  have b3 := numT_len _ a3
  have b4 := nameOk_size hn
  simp only [recW, List.cons_append, List.nil_append, List.mem_cons] at hs
  rcases hs with rfl | rfl | rfl | rfl | rfl | hs
  · decide
  · omega
  · omega
  · omega
  · omega
  · exact num_words a5 s hs
theorem tierW_words {t : Tier} (h : InTier t) (hn : nameOk t.name = true) : Words (tierW t) := by
  obtain ⟨a1, a2, a3⟩ := h
  refine ⟨by simp [tierW], fun s hs => ?_⟩
  have b4 := nameOk_size hn
  simp only [tierW, List.cons_append, List.nil_append, List.mem_cons] at hs
  rcases hs with rfl | rfl | hs
  · decide
  · omega
  · exact num_words (l := [t.kind, t.role, t.parent]) (by simp; exact ⟨a1, a2, a3⟩) s hs
theorem noteW_words {n : Note} (h : InNote n) (hn : textE n.text = 0) : Words (noteW n) := by
  obtain ⟨a1, a2, a3, a4, a5, a6⟩ := h
  refine ⟨by simp [noteW], fun s hs => ?_⟩
  have b4 := textE_size hn
  simp only [noteW, List.mem_append, List.mem_singleton] at hs
  rcases hs with (rfl | hs) | rfl
  · decide
  · exact num_words (l := [n.id, n.tier, n.parent, n.span.fro, n.span.til, n.rank]) (by simp; exact ⟨a1, a2, a3, a4, a5, a6⟩) s hs
  · omega
theorem line_size {l : List ByteArray} (h : Words l) (hl : l.length ≤ 105) : (toB (joinW (l.map lst))).size ≤ 80000 := by
  have := joinW_len h.2
  rw [toB_size]
  omega
structure DocW (d : Doc) : Prop where
  r : Words (recW d.rec_)
  t : ∀ t ∈ d.tiers, Words (tierW t)
  n : ∀ n ∈ d.notes, Words (noteW n)
theorem docW {d : Doc} (hd : FitP d) (h : printE d = 0) : DocW d := by
  obtain ⟨h1, h2⟩ := printE_zero h
  obtain ⟨e1, _, _, _, e2, _⟩ := docE_zero h1
  refine ⟨recW_words hd.r hd.ls (recOk_name h2), fun t ht => ?_, fun n hn => ?_⟩
  · obtain ⟨k, hk⟩ := List.mem_iff_getElem?.1 ht
    exact tierW_words (hd.t t ht) (tierOne_name (tiersE_one e1 hk))
  · obtain ⟨q, hq⟩ := notesE_all _ _ e2 n hn
    exact noteW_words (hd.n n hn) (noteE_zero hq).2.2.1
theorem docL_fit {d : Doc} (hd : FitP d) (h : DocW d) (hr : recOk d.rec_ = true) : LinesB (docL d) := by
  have h1 := hd.lt
  have h2 := hd.ln
  have h3 := hd.ls
  refine ⟨by simp [docL]; omega, fun s hs => ?_⟩
  simp only [docL, List.mem_cons, List.mem_append] at hs
  rcases hs with rfl | hs | hs
  · exact hd.lr hr
  · obtain ⟨t, ht, rfl⟩ := List.mem_map.1 hs
    exact line_size (h.t t ht) (by simp [tierW])
  · obtain ⟨n, hn, rfl⟩ := List.mem_map.1 hs
    exact line_size (h.n n hn) (by simp [noteW])
abbrev printV (d : Doc) : AV := .tup [.v (.string (if printE d = 0 then toB (printD d) else ⟨#[]⟩)), vi (printE d)]
end Go.Proofs.YtigcjinpkngapaaGreatDoor
end
section
namespace Go.Proofs.YtigcjinpkngapaaGreatDoor
open Go.Ac
attribute [local irreducible] awp awpL Ev Ev2 EvS thenQ blockQ retQ PCalls OCalls
variable {g : List (Nat × List AV)}
theorem take_tail {α β : Type} (f : α → β) {l : List α} {k : Nat} {x : α} (a : List β) (h : l[k]? = some x) : (a ++ (l.take k).map f) ++ [f x] = a ++ (l.take (k + 1)).map f := by
  rw [List.take_add_one, h]; simp
end Go.Proofs.YtigcjinpkngapaaGreatDoor
end
section
namespace Go.Proofs.YtigcjinpkngapaaGreatDoor
open Go.Ac
attribute [local irreducible] awp awpL Ev Ev2 EvS thenQ blockQ retQ PCalls OCalls
variable {g : List (Nat × List AV)}
end Go.Proofs.YtigcjinpkngapaaGreatDoor
end
