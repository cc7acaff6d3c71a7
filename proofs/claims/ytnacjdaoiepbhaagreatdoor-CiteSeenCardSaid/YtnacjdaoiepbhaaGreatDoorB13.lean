/- A logic of trees over the model's steps, and the contracts of the functions that the laws reach: part 13 of 19. -/
import Derived.Test.YtnacjdaoiepbhaaGreatDoorB12
set_option linter.unusedVariables false
set_option linter.unusedSimpArgs false
set_option linter.unusedSectionVars false
section
namespace Go.Proofs.YtnacjdaoiepbhaaGreatDoor
open Go.Ac Go.MapKept
attribute [local irreducible] awp awpL Ev Ev2 EvS thenQ blockQ retQ PCalls OCalls YieldOk IterC
variable {g : List (Nat × List AV)}
theorem lives_yes {l : List Op} {note : Int} {a : Op} (ha : addedO l note = some a) {f : Nat} (hf : f < 3) (h : saved l note f = true) : lives l note = true := by
  unfold lives
  rw [ha]
  rcases (show f = 0 ∨ f = 1 ∨ f = 2 by omega) with rfl | rfl | rfl
  · rw [show saved l note 0 = true from h]; rfl
  · rw [show saved l note 1 = true from h]; simp
  · rw [show saved l note 2 = true from h]; simp
theorem lives_no {l : List Op} {note : Int} (h : ∀ f : Nat, f < 3 → saved l note f = false) : lives l note = false := by
  unfold lives
  rw [show saved l note 0 = false from h 0 (by omega), show saved l note 1 = false from h 1 (by omega), show saved l note 2 = false from h 2 (by omega)]
  simp
theorem lives_none {l : List Op} {note : Int} (h : addedO l note = none) : lives l note = false := by
  unfold lives; rw [h]; rfl
theorem lives_cell {l : List Op} {note : Int} (h : lives l note = true) : ∃ a, addedO l note = some a ∧ cell l note = some (cellOf l note a) := by
  have := cell_lives (l := l) (note := note)
  rw [h] at this
  obtain ⟨c, hc⟩ := Option.isSome_iff_exists.1 this
  obtain ⟨a, h1, h2, _⟩ := cell_inv hc
  exact ⟨a, h1, by rw [hc, h2]⟩
theorem lives_cellN {l : List Op} {note : Int} (h : lives l note = false) : cell l note = none := by
  have := cell_lives (l := l) (note := note)
  rw [h] at this
  simpa using this
set_option maxRecDepth 4000 in
set_option maxHeartbeats 2000000 in
theorem rlives_spec (r : Replica) (note : Int) (hr : FitO r.ops) : PCalls Tryz.prog g 76 [.agg (repC r), vi note] (vb (lives r.ops note)) := by
  have hl := hr.1
  have n1 : (!true) = false := rfl
  have n2 : (!false) = true := rfl
  have hA := rAdded_spec (g := g) r.ops note (by omega)
  rw [addedV] at hA
  refine pcalls' Tryz.func76 Tryz.ntmps76 rfl rfl rfl ?_
  cases ha : addedO r.ops note with
  | none =>
    rw [ha] at hA
    simp only [Option.getD_none, Option.isSome_none] at hA
    rw [lives_none ha]
    repeat' (first
     | refine stn [] ?_
     | ((with_reducible refine is_gd ?_); refine awpL_split rfl rfl (fun h => ?_) (fun h => ?_))
     | ((with_reducible refine is_awp ?_); refine awp_cond rfl (fun h => ?_) (fun h => ?_))
     | fail)
    refine awp_for (α := Nat) 0 (fun k => [(6, vb false), (7, vi k)]) (fun _ => []) (fun k => k = 0) (fun k => k) 0
      ⟨(.cons rfl rfl (.cons rfl rfl .nil)), rfl, rfl, rfl⟩ rfl ?_
    rintro k rfl
    have c1 : decide (((0 : Nat) : Int) ≤ 2) = true := rfl
    repeat' (first
     | refine stn [] ?_
     | ((with_reducible refine is_gd ?_); refine awpL_split rfl rfl (fun h => ?_) (fun h => ?_))
     | ((with_reducible refine is_awp ?_); refine awp_cond rfl (fun h => ?_) (fun h => ?_))
     | fail)
    exact retP rfl rfl
  | some a =>
  rw [ha] at hA
  simp only [Option.getD_some, Option.isSome_some] at hA
  repeat' (first
   | refine stn [] ?_
   | ((with_reducible refine is_gd ?_); refine awpL_split rfl rfl (fun h => ?_) (fun h => ?_))
   | ((with_reducible refine is_awp ?_); refine awp_cond rfl (fun h => ?_) (fun h => ?_))
   | fail)
  refine awp_for (α := Nat) 0 (fun k => [(1, vi note), (2, .fp (repC r)), (6, vb true), (7, vi k)]) (fun _ => []) (fun k => k ≤ 3 ∧ ∀ f : Nat, f < k → saved r.ops note f = false) (fun k => 3 - k) 0
    ⟨(.cons rfl rfl (.cons rfl rfl (.cons rfl rfl (.cons rfl rfl .nil)))), rfl, rfl, rfl⟩ ⟨by omega, fun f h => by omega⟩ ?_
  rintro k ⟨hk, hsv⟩
  by_cases hk3 : k < 3
  · have c1 : decide ((k : Int) ≤ 2) = true := decide_eq_true (by omega)
    have hV := rvalues_spec (g := g) r note k hr
    have hVl := valuesL_len r.ops note k
    have hss : ∀ v ∈ valuesL r.ops note k, overd r.ops v.at_ 2 note k = false → saved r.ops note k = true := fun v hv ho => by
      unfold saved; rw [List.any_eq_true]; exact ⟨v, hv, by rw [ho]; rfl⟩
    have hsf := saved_false (l := r.ops) (note := note) (f := (k : Int))
    generalize valuesL r.ops note k = V at *
    repeat' (first
     | refine stn [] ?_
     | ((with_reducible refine is_gd ?_); refine awpL_split rfl rfl (fun h => ?_) (fun h => ?_))
     | ((with_reducible refine is_awp ?_); refine awp_cond rfl (fun h => ?_) (fun h => ?_))
     | fail)
    refine awp_for (α := Nat) 0 (fun j => [(1, vi note), (2, .fp (repC r)), (6, vb true), (7, vi k), (8, encVals V), (9, vi j)]) (fun _ => []) (fun j => j ≤ V.length ∧ ∀ v ∈ V.take j, overd r.ops v.at_ 2 note k = true) (fun j => V.length - j) 0
      ⟨(.cons rfl rfl (.cons rfl rfl (.cons rfl rfl (.cons rfl rfl (.cons rfl rfl (.cons rfl rfl .nil)))))), rfl, rfl, rfl⟩ ⟨Nat.zero_le _, fun v h => by simp at h⟩ ?_
    rintro j ⟨hj, hall⟩
    cases hs : V[j]? with
    | some v =>
      have hjl : j < V.length := (List.getElem?_eq_some_iff.1 hs).1
      have c3 : decide ((j : Int) < V.length) = true := decide_eq_true (by omega)
      have h2 := val_get hs
      have hO := rover_spec (g := g) r v.at_ 2 note k hr
      cases hov : overd r.ops v.at_ 2 note k with
      | true =>
        rw [hov] at hO
        repeat' (first
         | refine st [] ?_
         | ((with_reducible refine is_gd ?_); refine awpL_split rfl rfl (fun h => ?_) (fun h => ?_))
         | ((with_reducible refine isD_gd ?_); ((fail_if_success (refine isD_kn (c := true) rfl (by first | with_reducible rfl | with_reducible assumption) ?_)); (fail_if_success (refine isD_kn (c := false) rfl (by first | with_reducible rfl | with_reducible assumption) ?_)); refine awpD_split rfl (fun h => ?_) (fun h => ?_)))
         | ((with_reducible refine is_awp ?_); refine awp_cond rfl (fun h => ?_) (fun h => ?_))
         | fail)
        exact ⟨j + 1, ⟨(.cons rfl rfl (.cons rfl rfl (.cons rfl rfl (.cons rfl rfl (.cons rfl rfl (.cons rfl rfl .nil)))))), rfl, rfl, rfl⟩, ⟨by omega, fun w hw => by
          rw [List.take_add_one, hs] at hw
          rcases List.mem_append.1 hw with g | g
          · exact hall w g
          · simp only [Option.toList_some, List.mem_singleton] at g; subst g; exact hov⟩, by omega⟩
      | false =>
        rw [hov] at hO
        rw [lives_yes ha hk3 (hss v (List.mem_of_getElem? hs) hov)]
        repeat' (first
         | refine st [] ?_
         | ((with_reducible refine is_gd ?_); refine awpL_split rfl rfl (fun h => ?_) (fun h => ?_))
         | ((with_reducible refine isD_gd ?_); ((fail_if_success (refine isD_kn (c := true) rfl (by first | with_reducible rfl | with_reducible assumption) ?_)); (fail_if_success (refine isD_kn (c := false) rfl (by first | with_reducible rfl | with_reducible assumption) ?_)); refine awpD_split rfl (fun h => ?_) (fun h => ?_)))
         | ((with_reducible refine is_awp ?_); refine awp_cond rfl (fun h => ?_) (fun h => ?_))
         | fail)
        exact retP rfl rfl
    | none =>
      have hjl : V.length ≤ j := by simpa using hs
      have c3 : decide ((j : Int) < V.length) = false := decide_eq_false (by omega)
      rw [List.take_of_length_le hjl] at hall
      have hsi := hsf hall
      repeat' (first
       | refine stn [] ?_
       | ((with_reducible refine is_gd ?_); refine awpL_split rfl rfl (fun h => ?_) (fun h => ?_))
       | ((with_reducible refine is_awp ?_); refine awp_cond rfl (fun h => ?_) (fun h => ?_))
       | fail)
      exact ⟨k + 1, ⟨(.cons rfl rfl (.cons rfl rfl (.cons rfl rfl (.cons rfl rfl .nil)))), rfl, rfl, rfl⟩, ⟨by omega, fun f hf => by
        rcases Nat.lt_or_ge f k with h | h
        · exact hsv f h
        · have : f = k := by omega
          subst this; exact hsi⟩, by omega⟩
  · have c1 : decide ((k : Int) ≤ 2) = false := decide_eq_false (by omega)
    have hk3' : k = 3 := by omega
    subst hk3'
    rw [lives_no hsv]
    repeat' (first
     | refine stn [] ?_
     | ((with_reducible refine is_gd ?_); refine awpL_split rfl rfl (fun h => ?_) (fun h => ?_))
     | ((with_reducible refine is_awp ?_); refine awp_cond rfl (fun h => ?_) (fun h => ?_))
     | fail)
    exact retP rfl rfl
set_option maxRecDepth 8000 in
set_option maxHeartbeats 2000000 in
theorem rCell_spec (r : Replica) (note : Int) (hr : FitO r.ops) : PCalls Tryz.prog g 47 [.agg (repC r), vi note] (cellV (cell r.ops note)) := by
  have hl := hr.1
  have n1 : (!true) = false := rfl
  have n2 : (!false) = true := rfl
  have hL := rlives_spec (g := g) r note hr
  refine pcalls' Tryz.func47 Tryz.ntmps47 rfl rfl rfl ?_
  cases hlv : lives r.ops note with
  | false =>
    rw [hlv] at hL
    rw [lives_cellN hlv]
    repeat' (first
     | refine stn [4] ?_
     | ((with_reducible refine is_gd ?_); refine awpL_split rfl rfl (fun h => ?_) (fun h => ?_))
     | ((with_reducible refine is_awp ?_); refine awp_cond rfl (fun h => ?_) (fun h => ?_))
     | fail)
    exact retLe rfl (Le.tup (.cons (Le.agg le_zeroCell) (.cons (Le.rfl' _) .nil)))
  | true =>
    rw [hlv] at hL
    obtain ⟨a, ha, hc⟩ := lives_cell hlv
    have hA := rAdded_spec (g := g) r.ops note (by omega)
    rw [addedV, ha] at hA
    simp only [Option.getD_some, Option.isSome_some] at hA
    have h0 := rvalues_spec (g := g) r note 0 hr
    have h1 := rvalues_spec (g := g) r note 1 hr
    have h2 := rvalues_spec (g := g) r note 2 hr
    rw [hc]
    repeat' (first
     | refine st [4] ?_
     | ((with_reducible refine is_gd ?_); refine awpL_split rfl rfl (fun h => ?_) (fun h => ?_))
     | ((with_reducible refine isD_gd ?_); ((fail_if_success (refine isD_kn (c := true) rfl (by first | with_reducible rfl | with_reducible assumption) ?_)); (fail_if_success (refine isD_kn (c := false) rfl (by first | with_reducible rfl | with_reducible assumption) ?_)); refine awpD_split rfl (fun h => ?_) (fun h => ?_)))
     | ((with_reducible refine is_awp ?_); refine awp_cond rfl (fun h => ?_) (fun h => ?_))
     | fail)
    exact retP rfl rfl
end Go.Proofs.YtnacjdaoiepbhaaGreatDoor
end
section
namespace Go.Proofs.YtnacjdaoiepbhaaGreatDoor
open Go.Ac Go.MapKept
attribute [local irreducible] awp awpL Ev Ev2 EvS thenQ blockQ retQ PCalls OCalls YieldOk IterC
variable {g : List (Nat × List AV)}
def ixFrom (s : Stamp) : List Stamp → Nat → Int
  | [], _ => -1
  | x :: r, k => if x = s then (k : Int) else ixFrom s r (k + 1)
abbrev preS (ls : List (List Val)) (i : Nat) : List Stamp := (ls.take i).flatMap atsV
end Go.Proofs.YtnacjdaoiepbhaaGreatDoor
end
section
namespace Go.Proofs.YtnacjdaoiepbhaaGreatDoor
open Go.Ac Go.MapKept
attribute [local irreducible] awp awpL Ev Ev2 EvS thenQ blockQ retQ PCalls OCalls YieldOk IterC ICalls
def livingR (r : Replica) (note : Int) : Cell × Stamp × Int := match addedO r.ops note with
  | none => (zeroCell, ⟨0, 0⟩, 9)
  | some _ => match cell r.ops note with
    | none => (zeroCell, ⟨0, 0⟩, 26)
    | some c => match nextS r.seen r.dev with
      | none => (zeroCell, ⟨0, 0⟩, 27)
      | some s => (c, s, 0)
def livV (p : Cell × Stamp × Int) : AV := .tup [.agg (cellC p.1), .agg (stampC p.2.1), vi p.2.2]
structure FitG (r : Replica) : Prop where
  o : FitO r.ops
  s : r.seen.length ≤ 1000000
  i : Ids r.ops
  g : Good r.ops
theorem FitG.l {r : Replica} (h : FitG r) : r.ops.length ≤ 100000 := by have := h.o.1; omega
end Go.Proofs.YtnacjdaoiepbhaaGreatDoor
end
section
namespace Go.Proofs.YtnacjdaoiepbhaaGreatDoor
open Go.Ac Go.MapKept
attribute [local irreducible] awp awpL Ev Ev2 EvS thenQ blockQ retQ PCalls OCalls YieldOk IterC ICalls
variable {g : List (Nat × List AV)}
def nextR (r : Replica) (note : Int) : Stamp × Op × Int := match addedO r.ops note with
  | none => (⟨0, 0⟩, zeroOp, 9)
  | some a => match lives r.ops note with
    | false => (⟨0, 0⟩, a, 26)
    | true => match nextS r.seen r.dev with
      | none => (⟨0, 0⟩, a, 27)
      | some s => (s, a, 0)
def nextV (p : Stamp × Op × Int) : AV := .tup [.agg (stampC p.1), .agg (opC p.2.1), vi p.2.2]
end Go.Proofs.YtnacjdaoiepbhaaGreatDoor
end
section
namespace Go.Proofs.YtnacjdaoiepbhaaGreatDoor
open Go.Ac Go.MapKept
attribute [local irreducible] awp awpL Ev Ev2 EvS thenQ blockQ retQ PCalls OCalls YieldOk IterC ICalls
variable {g : List (Nat × List AV)}
def inF (l : List Op) (note : Int) (x : Op) (f : Int) : Bool := (atsV (valuesL l note f)).any fun q => decide (q = x.at_)
end Go.Proofs.YtnacjdaoiepbhaaGreatDoor
end
section
namespace Go.Proofs.YtnacjdaoiepbhaaGreatDoor
open Go.Ac Go.MapKept
attribute [local irreducible] awp awpL Ev Ev2 EvS thenQ blockQ retQ PCalls OCalls YieldOk IterC
variable {g : List (Nat × List AV)}
end Go.Proofs.YtnacjdaoiepbhaaGreatDoor
end
section
namespace Go.Proofs.YtnacjdaoiepbhaaGreatDoor
open Go.Ac
attribute [local irreducible] awp awpL Ev Ev2 EvS thenQ blockQ retQ PCalls OCalls YieldOk IterC
variable {g : List (Nat × List AV)}
def valEq : List Value → List Value → Option Bool
  | [.int .i64 a, .int .i64 b, .int .i64 c, .string s], [.int .i64 a', .int .i64 b', .int .i64 c', .string s'] => some ((a == a' && b == b') && (c == c' && s.toList == s'.toList))
  | _, _ => none
def FitC (c : Cell) : Prop := c.text.length ≤ 100000 ∧ c.fro.length ≤ 100000 ∧ c.til.length ≤ 100000
def FitCs (l : List Cell) : Prop := l.length ≤ 100000 ∧ ∀ c ∈ l, FitC c
end Go.Proofs.YtnacjdaoiepbhaaGreatDoor
end
section
namespace Go.Proofs.YtnacjdaoiepbhaaGreatDoor
open Go.Ac Go.MapKept
attribute [local irreducible] awp awpL Ev Ev2 EvS thenQ blockQ retQ PCalls OCalls YieldOk IterC
variable {g : List (Nat × List AV)}
abbrev lastV (o : Option Val) : AV := .tup [.agg (valC (o.getD zeroVal)), vb o.isSome]
theorem last_val {l : List Val} {p : Val} (h : l.getLast? = some p) : 0 < l.length ∧ 0 ≤ (l.length : Int) - 1 ∧ (l.map valC)[((l.length : Int) - 1).toNat]? = some (valC p) := by
  rw [List.getLast?_eq_getElem?] at h
  have hpos : 0 < l.length := by
    cases l with
    | nil => simp at h
    | cons x r => simp
  refine ⟨hpos, by omega, ?_⟩
  rw [show ((l.length : Int) - 1).toNat = l.length - 1 by omega, List.getElem?_map, h]; rfl
theorem last_nil {l : List Val} (h : l.getLast? = none) : l.length = 0 := by simpa using h
set_option maxHeartbeats 1000000 in
theorem last_spec (l : List Val) (hl : l.length ≤ 1000000) : PCalls Tryz.prog g 60 [encVals l] (lastV l.getLast?) := by
  refine pcalls' Tryz.func60 Tryz.ntmps60 rfl rfl rfl ?_
  cases hq : l.getLast? with
  | none =>
    have c1 : decide ((l.length : Int) = 0) = true := decide_eq_true (by have := last_nil hq; omega)
    repeat' (first
     | refine stn [2] ?_
     | ((with_reducible refine is_gd ?_); refine awpL_split rfl rfl (fun h => ?_) (fun h => ?_))
     | ((with_reducible refine is_awp ?_); refine awp_cond rfl (fun h => ?_) (fun h => ?_))
     | fail)
    exact retP rfl rfl
  | some p =>
    obtain ⟨h1, h2⟩ := last_val hq
    have c1 : decide ((l.length : Int) = 0) = false := decide_eq_false (by omega)
    repeat' (first
     | refine stn [2] ?_
     | ((with_reducible refine is_gd ?_); refine awpL_split rfl rfl (fun h => ?_) (fun h => ?_))
     | ((with_reducible refine is_awp ?_); refine awp_cond rfl (fun h => ?_) (fun h => ?_))
     | fail)
    exact retP rfl rfl
set_option maxRecDepth 8000 in
set_option maxHeartbeats 4000000 in
theorem Current_spec (c : Cell) (hc : FitC c) : PCalls Tryz.prog g 33 [.agg (cellC c)] (.agg (noteC (current c))) := by
  obtain ⟨k0, k1, k2⟩ := hc
  have l0 := last_spec (g := g) c.text (by omega)
  have l1 := last_spec (g := g) c.fro (by omega)
  have l2 := last_spec (g := g) c.til (by omega)
  refine pcalls' Tryz.func33 Tryz.ntmps33 rfl rfl rfl ?_
  cases q0 : c.text.getLast? with
  | none =>
    rw [lastV, q0] at l0
    simp only [Option.getD_none, Option.isSome_none] at l0
    cases q1 : c.fro.getLast? with
    | none =>
      rw [lastV, q1] at l1
      simp only [Option.getD_none, Option.isSome_none] at l1
      cases q2 : c.til.getLast? with
      | none =>
        rw [lastV, q2] at l2
        simp only [Option.getD_none, Option.isSome_none] at l2
        repeat' (first
         | refine stn [2, 3] ?_
         | ((with_reducible refine is_gd ?_); refine awpL_split rfl rfl (fun h => ?_) (fun h => ?_))
         | ((with_reducible refine is_awp ?_); refine awp_cond rfl (fun h => ?_) (fun h => ?_))
         | fail)
        refine retP rfl ?_
        unfold current
        simp only [q0, q1, q2]
        rfl
      | some p2 =>
        rw [lastV, q2] at l2
        simp only [Option.getD_some, Option.isSome_some] at l2
        repeat' (first
         | refine stn [2, 3] ?_
         | ((with_reducible refine is_gd ?_); refine awpL_split rfl rfl (fun h => ?_) (fun h => ?_))
         | ((with_reducible refine is_awp ?_); refine awp_cond rfl (fun h => ?_) (fun h => ?_))
         | fail)
        refine retP rfl ?_
        unfold current
        simp only [q0, q1, q2]
        rfl
    | some p1 =>
      rw [lastV, q1] at l1
      simp only [Option.getD_some, Option.isSome_some] at l1
      cases q2 : c.til.getLast? with
      | none =>
        rw [lastV, q2] at l2
        simp only [Option.getD_none, Option.isSome_none] at l2
        repeat' (first
         | refine stn [2, 3] ?_
         | ((with_reducible refine is_gd ?_); refine awpL_split rfl rfl (fun h => ?_) (fun h => ?_))
         | ((with_reducible refine is_awp ?_); refine awp_cond rfl (fun h => ?_) (fun h => ?_))
         | fail)
        refine retP rfl ?_
        unfold current
        simp only [q0, q1, q2]
        rfl
      | some p2 =>
        rw [lastV, q2] at l2
        simp only [Option.getD_some, Option.isSome_some] at l2
        repeat' (first
         | refine stn [2, 3] ?_
         | ((with_reducible refine is_gd ?_); refine awpL_split rfl rfl (fun h => ?_) (fun h => ?_))
         | ((with_reducible refine is_awp ?_); refine awp_cond rfl (fun h => ?_) (fun h => ?_))
         | fail)
        refine retP rfl ?_
        unfold current
        simp only [q0, q1, q2]
        rfl
  | some p0 =>
    rw [lastV, q0] at l0
    simp only [Option.getD_some, Option.isSome_some] at l0
    cases q1 : c.fro.getLast? with
    | none =>
      rw [lastV, q1] at l1
      simp only [Option.getD_none, Option.isSome_none] at l1
      cases q2 : c.til.getLast? with
      | none =>
        rw [lastV, q2] at l2
        simp only [Option.getD_none, Option.isSome_none] at l2
        repeat' (first
         | refine stn [2, 3] ?_
         | ((with_reducible refine is_gd ?_); refine awpL_split rfl rfl (fun h => ?_) (fun h => ?_))
         | ((with_reducible refine is_awp ?_); refine awp_cond rfl (fun h => ?_) (fun h => ?_))
         | fail)
        refine retP rfl ?_
        unfold current
        simp only [q0, q1, q2]
        rfl
      | some p2 =>
        rw [lastV, q2] at l2
        simp only [Option.getD_some, Option.isSome_some] at l2
        repeat' (first
         | refine stn [2, 3] ?_
         | ((with_reducible refine is_gd ?_); refine awpL_split rfl rfl (fun h => ?_) (fun h => ?_))
         | ((with_reducible refine is_awp ?_); refine awp_cond rfl (fun h => ?_) (fun h => ?_))
         | fail)
        refine retP rfl ?_
        unfold current
        simp only [q0, q1, q2]
        rfl
    | some p1 =>
      rw [lastV, q1] at l1
      simp only [Option.getD_some, Option.isSome_some] at l1
      cases q2 : c.til.getLast? with
      | none =>
        rw [lastV, q2] at l2
        simp only [Option.getD_none, Option.isSome_none] at l2
        repeat' (first
         | refine stn [2, 3] ?_
         | ((with_reducible refine is_gd ?_); refine awpL_split rfl rfl (fun h => ?_) (fun h => ?_))
         | ((with_reducible refine is_awp ?_); refine awp_cond rfl (fun h => ?_) (fun h => ?_))
         | fail)
        refine retP rfl ?_
        unfold current
        simp only [q0, q1, q2]
        rfl
      | some p2 =>
        rw [lastV, q2] at l2
        simp only [Option.getD_some, Option.isSome_some] at l2
        repeat' (first
         | refine stn [2, 3] ?_
         | ((with_reducible refine is_gd ?_); refine awpL_split rfl rfl (fun h => ?_) (fun h => ?_))
         | ((with_reducible refine is_awp ?_); refine awp_cond rfl (fun h => ?_) (fun h => ?_))
         | fail)
        refine retP rfl ?_
        unfold current
        simp only [q0, q1, q2]
        rfl
end Go.Proofs.YtnacjdaoiepbhaaGreatDoor
end
section
namespace Go.Proofs.YtnacjdaoiepbhaaGreatDoor
open Go.Ac Go.MapKept
attribute [local irreducible] awp awpL Ev Ev2 EvS thenQ blockQ retQ PCalls OCalls YieldOk IterC ICalls
end Go.Proofs.YtnacjdaoiepbhaaGreatDoor
end
section
namespace Go.Proofs.YtnacjdaoiepbhaaGreatDoor
open Go.Ac Go.MapKept
attribute [local irreducible] awp awpL Ev Ev2 EvS thenQ blockQ retQ PCalls OCalls YieldOk IterC ICalls
def Held (l : List Op) : Prop := ∀ o ∈ l, (o.text.size : Int) ≤ 281474976710656 ∧ (o.note.text.size : Int) ≤ 281474976710656 ∧ (o.over.length : Int) ≤ 281474976710656
end Go.Proofs.YtnacjdaoiepbhaaGreatDoor
end
section
namespace Go.Ac
section
variable {P : Program} {td : TDs} [T : TOK P td] {G : Glo} {N : Nat} {S : SL} {L : List LB} {ty : TypeId} {x : AV}
theorem LF_get {F : Nat → Prop} {w : World} : ∀ {cs : List AV} {ys : List Value} {j : Nat} {x : AV}, LF F w cs ys → cs[j]? = some x → ∃ y, ys[j]? = some y ∧ RF F w x y
  | [], _, j, x, _, h => by simp at h
  | c :: r, ys, j, x, h, hj => by
    simp only [LF] at h
    obtain ⟨y, s, rfl, hx, _, h⟩ := h
    cases j with
    | zero => simp at hj; subst hj; exact ⟨y, rfl, hx⟩
    | succ j => obtain ⟨y', q1, q2⟩ := LF_get (j := j) h (by simpa using hj); exact ⟨y', by simpa using q1, q2⟩
theorem struct_desc {t : Nat} {d : TD} {fs : List (TypeId × Nat)} (ht : lk td t = some d) (hs : d.k = .struct fs) : ∃ fields : Array Field, P.underlying t = some (.struct fields) ∧ fs = fields.toList.map fun f => (f.type, f.offset) := by
  obtain ⟨i, u, z, h1, h2, h3, h4, h5, h6, h7⟩ := tok_parts (P := P) ht
  rw [hs] at h4
  cases u <;> simp only [tk, reduceCtorEq, TK.struct.injEq] at h4
  rename_i fields
  exact ⟨fields, h2, h4.symm⟩
theorem ev_fld_one {t : Nat} {d fd : TD} {fs : List (TypeId × Nat)} {f ft off : Nat} {u : Operand} {cs : List AV} (h : val G S u = some (.agg cs)) (ht : lk td t = some d) (hs : d.k = .struct fs) (hf : fs[f]? = some (ft, off))
    (hft : lk td ft = some fd) (hr : fd.k.row = false) (hx : cs[off]? = some x) : Ev P G N (.field t u f) ty S L x := by
  intro o ho _ cx a hc
  have e1 := val_R hc h
  simp only [R, RF] at e1
  obtain ⟨xs, e1, hl⟩ := e1
  obtain ⟨y, hy, hR⟩ := LF_get hl hx
  simp only [Array.getElem?_toList] at hy
  obtain ⟨fields, h2, rfl⟩ := struct_desc (P := P) ht hs
  simp only [List.getElem?_map, Array.getElem?_toList] at hf
  cases hq : fields[f]? with
  | none => simp [hq] at hf
  | some fl =>
    simp only [hq, Option.map_some, Option.some.injEq, Prod.mk.injEq] at hf
    obtain ⟨rfl, rfl⟩ := hf
    have hag := run_isAgg (P := P) hft cx.w
    rw [hr] at hag
    refine ⟨y, ?_, R.of_RF _ _ _ hR⟩
    simp [execOp, ho, e1, Instr.field, asAgg, run_underlying h2, Result.andThen, hq, part, hag, hy]
end
end Go.Ac
end
section
namespace Go.Proofs.YtnacjdaoiepbhaaGreatDoor
open Go.Ac Go.MapKept
attribute [local irreducible] awp awpL Ev Ev2 EvS thenQ blockQ retQ PCalls OCalls YieldOk IterC ICalls
def wBa : ByteArray := ⟨#[98, 97]⟩
def wMi : ByteArray := ⟨#[109, 105]⟩
def wPa : ByteArray := ⟨#[112, 97]⟩
def wN : Note := ⟨0, 0, 0, ⟨0, 9⟩, 0, wMi⟩
def wB0 : Note := ⟨17, 0, 0, ⟨0, 0⟩, 0, .empty⟩
def wO1 : Op := ⟨⟨1, 1⟩, 0, 3, ⟨17, 0, 0, ⟨0, 9⟩, 0, wMi⟩, 0, 0, .empty, []⟩
def wO2 : Op := ⟨⟨2, 1⟩, 1, 3, wB0, 0, 0, wBa, [⟨1, 1⟩]⟩
def wOt : Op := ⟨⟨2, 2⟩, 1, 3, wB0, 0, 0, wPa, [⟨1, 1⟩]⟩
def wDr : Op := ⟨⟨2, 2⟩, 2, 3, wB0, 0, 0, .empty, [⟨1, 1⟩]⟩
def wV (a b : Int) : List Int := [a, b, 0, 0, 0, 0, 0, 0, 0, 0, 0, 0, 0, 0, 0]
def wR0 : Replica := ⟨1, wV 0 0, []⟩
def wR1 : Replica := ⟨1, wV 1 0, [wO1]⟩
def wA : Replica := ⟨1, wV 2 0, [wO1, wO2]⟩
def wBo : Replica := ⟨1, wV 2 2, [wO1, wO2, wOt]⟩
def wKe : Replica := ⟨1, wV 2 2, [wO1, wO2, wDr]⟩
def wG : Replica := ⟨1, wV 2 0, [wO1, ⟨⟨2, 1⟩, 2, 3, wB0, 0, 0, .empty, [⟨1, 1⟩]⟩]⟩
def wC : Cell := (cell wBo.ops 17).getD zeroCell
def wD : Cell := (cell wKe.ops 17).getD zeroCell
theorem w1 : newR 1 = (wR0, 0) := by kernel_rfl
theorem w2 : newR 0 = (zeroRep, 1) := by kernel_rfl
theorem w3 : addR wR0 3 wN = (wR1, 17, 0) := by kernel_rfl
theorem w4 : setR wR1 17 0 0 wBa = (wA, 0) := by kernel_rfl
theorem w5 : dropR wR1 17 = (wG, 0) := by kernel_rfl
theorem w6 : see wA.seen ⟨2, 2⟩ = wV 2 2 := by kernel_rfl
def wV0 : Val := ⟨⟨2, 1⟩, 0, wBa⟩
def opG (o : Op) : Bool := decide (o.over.length ≤ 1000) && (decide (-9223372036854775808 ≤ o.note.id) && decide (o.note.id ≤ 9223372036854775807))
def repG (r : Replica) : Bool := decide (r.ops.length ≤ 1000) && (r.ops.all opG && decide (r.seen.length ≤ 1000))
theorem opG_ok {o : Op} (h : opG o = true) : o.over.length ≤ 100000 ∧ I64 o.note.id := by
  simp [opG] at h
  exact ⟨by omega, h.2⟩
theorem FitO.of {r : Replica} (h : repG r = true) : FitO r.ops ∧ r.seen.length ≤ 1000000 ∧ Ids r.ops := by
  simp only [repG, Bool.and_eq_true, decide_eq_true_eq, List.all_eq_true] at h
  exact ⟨⟨by omega, fun o ho => (opG_ok (h.2.1 o ho)).1⟩, by omega, fun o ho => (opG_ok (h.2.1 o ho)).2⟩
theorem FitG.of {r : Replica} (h : repG r = true) (h0 : repE r = 0) : FitG r := by
  obtain ⟨h1, h2, h3⟩ := FitO.of h
  exact ⟨h1, h2, h3, good_of h0⟩
theorem cell_fit {l : List Op} (hl : l.length ≤ 100000) {note : Int} {c : Cell} (h : cell l note = some c) : FitC c := by
  have hv : ∀ note f, (valuesL l note f).length ≤ 100000 := fun note f => by
    have := valuesL_len l note f
    omega
  obtain ⟨a, _, rfl, _⟩ := cell_inv h
  exact ⟨hv _ _, hv _ _, hv _ _⟩
end Go.Proofs.YtnacjdaoiepbhaaGreatDoor
end
section
namespace Go.Proofs.YtnacjdaoiepbhaaGreatDoor
open Go.Ac Go.MapKept
attribute [local irreducible] awp awpL Ev Ev2 EvS thenQ blockQ retQ PCalls OCalls YieldOk IterC ICalls
theorem rep_fit {r : Replica} (h : repE r = 0) : FitR r := by
  obtain ⟨_, h2, _, _, h3⟩ := repE_all h
  exact ⟨⟨by omega, fun o ho => by have := opE_over (repE_ops h o ho); omega⟩, by rw [h2, seenL_len]; omega⟩
end Go.Proofs.YtnacjdaoiepbhaaGreatDoor
end
section
namespace Go.Proofs.YtnacjdaoiepbhaaGreatDoor
open Go.Ac Go.MapKept
attribute [local irreducible] awp awpL Ev Ev2 EvS thenQ blockQ retQ PCalls OCalls YieldOk IterC ICalls
end Go.Proofs.YtnacjdaoiepbhaaGreatDoor
end
section
namespace Go.Proofs.YtnacjdaoiepbhaaGreatDoor
open Go.Ac Go.MapKept
attribute [local irreducible] awp awpL Ev Ev2 EvS thenQ blockQ retQ PCalls OCalls YieldOk IterC ICalls
structure Ask where
  r : Replica
  note : Int
  field : Int
  n : Int
  text : ByteArray
def askC (x : Ask) : List AV := [.v (.int .i64 x.r.dev), encIs x.r.seen, encOps x.r.ops, .v (.int .i64 x.note), .v (.int .i64 x.field), .v (.int .i64 x.n), .v (.string x.text)]
end Go.Proofs.YtnacjdaoiepbhaaGreatDoor
end
section
namespace Go.Proofs.YtnacjdaoiepbhaaGreatDoor
open Go.Ac Go.MapKept
attribute [local irreducible] awp awpL Ev Ev2 EvS thenQ blockQ retQ PCalls OCalls YieldOk IterC ICalls
end Go.Proofs.YtnacjdaoiepbhaaGreatDoor
end
section
namespace Go.Proofs.YtnacjdaoiepbhaaGreatDoor
open Go.Ac Go.MapKept
attribute [local irreducible] awp awpL Ev Ev2 EvS thenQ blockQ retQ PCalls OCalls YieldOk IterC ICalls
end Go.Proofs.YtnacjdaoiepbhaaGreatDoor
end
section
namespace Go.Proofs.YtnacjdaoiepbhaaGreatDoor
open Go.Ac Go.MapKept
attribute [local irreducible] awp awpL Ev Ev2 EvS thenQ blockQ retQ PCalls OCalls YieldOk IterC ICalls
theorem rep_G {r : Replica} (h : repE r = 0) (hi : Ids r.ops) : FitG r := by
  obtain ⟨_, h2, _, _, h3⟩ := repE_all h
  exact ⟨⟨by omega, (rep_fit h).1.2⟩, by rw [h2, seenL_len]; omega, hi, good_of h⟩
theorem cell_ne {r : Replica} (hg : Good r.ops) {note : Int} {c : Cell} (h : cell r.ops note = some c) : c.text.length ≠ 0 ∧ c.fro.length ≠ 0 ∧ c.til.length ≠ 0 := by
  obtain ⟨a, ha, rfl, _⟩ := cell_inv h
  refine ⟨fun e => ?_, fun e => ?_, fun e => ?_⟩
  · exact values_ne hg ha (f := 0) (by decide) (List.eq_nil_of_length_eq_zero e)
  · exact values_ne hg ha (f := 1) (by decide) (List.eq_nil_of_length_eq_zero e)
  · exact values_ne hg ha (f := 2) (by decide) (List.eq_nil_of_length_eq_zero e)
end Go.Proofs.YtnacjdaoiepbhaaGreatDoor
end
