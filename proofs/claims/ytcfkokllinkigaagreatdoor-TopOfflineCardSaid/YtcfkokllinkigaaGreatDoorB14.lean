/- A logic of trees over the model's steps, and the contracts of the functions that the laws reach: part 14 of 29. -/
import Derived.Test.YtcfkokllinkigaaGreatDoorB11
import Derived.Test.YtcfkokllinkigaaGreatDoorB13
set_option linter.unusedVariables false
set_option linter.unusedSimpArgs false
set_option linter.unusedSectionVars false
set_option linter.unnecessarySimpa false
namespace Go.Proofs.YtcfkokllinkigaaGreatDoor
section
open Go.Ac Go.MapKept
attribute [local irreducible] awp awpL Ev Ev2 EvS thenQ blockQ retQ PCalls OCalls YieldOk IterC
variable {g : List (Nat × List AV)}
set_option maxHeartbeats 2000000 in
theorem rValue_spec (o : Op) (f : Int) : PCalls Tryz.prog g 108 [.agg (opC o), vi f] (.agg (valC (valueOf o f))) := by
 have h1 := rwr_spec (g := g) o f
 have n1 : (!true) = false := rfl
 have n2 : (!false) = true := rfl
 refine pcalls' Tryz.func108 Tryz.ntmps108 rfl rfl rfl ?_
 cases hw : wrt o f with
 | false =>
  rw [hw] at h1
  refine runn [4, 5] ?_
  refine retP rfl ?_
  unfold valueOf
  rw [if_pos hw]
  rfl
 | true =>
  rw [hw] at h1
  have hv : valueOf o f = ⟨o.at_, if f = 0 then 0 else if o.kind = 0 then (if f = 1 then o.note.span.fro else o.note.span.til) else o.n, if f = 0 then (if o.kind = 0 then o.note.text else o.text) else .empty⟩ := by unfold valueOf; rw [if_neg (by simp [hw])]
  have hf : f = 0 ∨ f = 1 ∨ f = 2 := by
   simp only [wrt, within, Bool.and_eq_true, decide_eq_true_eq] at hw
   omega
  have f0 : decide ((0 : Int) = 0) = true := rfl
  have f1 : decide ((1 : Int) = 0) = false := rfl
  have f2 : decide ((1 : Int) = 1) = true := rfl
  have f3 : decide ((2 : Int) = 0) = false := rfl
  have f4 : decide ((2 : Int) = 1) = false := rfl
  have f5 : decide ((2 : Int) = 2) = true := rfl
  by_cases hk : o.kind = 0
  ·have k1 : decide (o.kind = 0) = true := decide_eq_true hk
   rcases hf with rfl | rfl | rfl
   ·rw [show valueOf o 0 = ⟨o.at_, 0, o.note.text⟩ by rw [hv]; simp [hk]]
    refine runn [4, 5] ?_
    exact retP rfl rfl
   ·rw [show valueOf o 1 = ⟨o.at_, o.note.span.fro, .empty⟩ by rw [hv]; simp [hk]]
    refine runn [4, 5] ?_
    exact retP rfl rfl
   ·rw [show valueOf o 2 = ⟨o.at_, o.note.span.til, .empty⟩ by rw [hv]; simp [hk]]
    refine runn [4, 5] ?_
    exact retP rfl rfl
  ·have k1 : decide (o.kind = 0) = false := decide_eq_false hk
   rcases hf with rfl | rfl | rfl
   ·rw [show valueOf o 0 = ⟨o.at_, 0, o.text⟩ by rw [hv]; simp [hk]]
    refine runn [4, 5] ?_
    exact retP rfl rfl
   ·rw [show valueOf o 1 = ⟨o.at_, o.n, .empty⟩ by rw [hv]; simp [hk]]
    refine runn [4, 5] ?_
    exact retP rfl rfl
   ·rw [show valueOf o 2 = ⟨o.at_, o.n, .empty⟩ by rw [hv]; simp [hk]]
    refine runn [4, 5] ?_
    exact retP rfl rfl
theorem anyd_drop {α : Type} (f : α → Bool) (l : List α) (k : Nat) (x : α) (h : l[k]? = some x) : (l.drop k).any f = (f x || (l.drop (k + 1)).any f) := by
 have hlt := (List.getElem?_eq_some_iff.1 h).1
 rw [List.drop_eq_getElem_cons hlt, List.any_cons]
 have : l[k] = x := by rw [List.getElem?_eq_getElem hlt] at h; exact Option.some.inj h
 rw [this]
set_option maxHeartbeats 1000000 in
theorem in_spec (l : List Stamp) (s : Stamp) (hl : l.length ≤ 1000000) : PCalls Tryz.prog g 132 [encStamps l, .agg (stampC s)] (vb (l.any fun q => decide (q = s))) := by
 refine pcalls' Tryz.func132 Tryz.ntmps132 rfl rfl rfl ?_
 refine runn [] ?_
 refine zi (α := Nat) 0 (fun k => [(0, encStamps l), (3, .fp (stampC s)), (5, vi k)]) (fun _ => []) (fun k => k ≤ l.length ∧ (l.any fun q => decide (q = s)) = (l.drop k).any fun q => decide (q = s)) (fun k => l.length - k) 0
  qw ⟨Nat.zero_le _, rfl⟩ ?_
 rintro k ⟨hk, hf⟩
 cases ht : l[k]? with
 | none =>
  have hge : l.length ≤ k := by simpa using ht
  have c1 : decide ((k : Int) < l.length) = false := decide_eq_false (by omega)
  rw [List.drop_of_length_le hge] at hf
  refine runn [] ?_
  refine retP rfl ?_
  rw [hf]; rfl
 | some x =>
  have hlt : k < l.length := (List.getElem?_eq_some_iff.1 ht).1
  have c1 : decide ((k : Int) < l.length) = true := decide_eq_true (by omega)
  have h1 := Ze ht
  rw [anyd_drop _ l k x ht] at hf
  by_cases he : x = s
  ·have e1 : (x.count == s.count && x.dev == s.dev) = true := by rw [he]; simp
   rw [decide_eq_true he, Bool.true_or] at hf
   repeat' (first
    | ((with_reducible refine zu ?_); refine zc (zh (fun _ => qE (b := true) zF (by kernel_rfl) rfl rfl rfl rfl (by rw [← e1]; rfl)) rfl rfl) qb0 ?_)
    | ((with_reducible refine zp ?_); refine zd rfl rfl qa0 (zh (fun _ => qE (b := true) zF (by kernel_rfl) rfl rfl rfl rfl (by rw [← e1]; rfl)) rfl rfl) qb0 ?_)
    | refine st [] ?_
    | fail)
   refine retP rfl ?_
   rw [hf]; rfl
  ·have e1 : (x.count == s.count && x.dev == s.dev) = false := by
    cases hc : (x.count == s.count && x.dev == s.dev) with
    | false => rfl
    | true => exact absurd (qM (by simpa using hc)) he
   rw [decide_eq_false he, Bool.false_or] at hf
   repeat' (first
    | ((with_reducible refine zu ?_); refine zc (zh (fun _ => qE (b := false) zF (by kernel_rfl) rfl rfl rfl rfl (by rw [← e1]; rfl)) rfl rfl) qb0 ?_)
    | ((with_reducible refine zp ?_); refine zd rfl rfl qa0 (zh (fun _ => qE (b := false) zF (by kernel_rfl) rfl rfl rfl rfl (by rw [← e1]; rfl)) rfl rfl) qb0 ?_)
    | refine st [] ?_
    | fail)
   exact ⟨k + 1, qw, ⟨by omega, hf⟩, by omega⟩
def FitO (l : List Op) : Prop := l.length ≤ 10000 ∧ ∀ o ∈ l, o.over.length ≤ 100000
set_option maxRecDepth 4000 in
set_option maxHeartbeats 2000000 in
theorem yk (r : Replica) (s : Stamp) (kind note f : Int) (hr : FitO r.ops) : PCalls Tryz.prog g 107 [.agg (repC r), .agg (stampC s), vi kind, vi note, vi f] (vb (overd r.ops s kind note f)) := by
 have hl := hr.1
 refine pcalls' Tryz.func107 Tryz.ntmps107 rfl rfl rfl ?_
 refine runn [] ?_
 refine zi (α := Nat) 0 (fun k => [(2, vi kind), (3, vi note), (4, vi f), (5, .fp (repC r)), (6, .fp (stampC s)), (11, vi k)]) (fun _ => []) (fun k => k ≤ r.ops.length ∧ overd r.ops s kind note f = (r.ops.drop k).any (overO kind note f s)) (fun k => r.ops.length - k) 0
  qw ⟨Nat.zero_le _, rfl⟩ ?_
 rintro k ⟨hk, hf⟩
 cases ht : r.ops[k]? with
 | none =>
  have hge : r.ops.length ≤ k := by simpa using ht
  have c1 : decide ((k : Int) < r.ops.length) = false := decide_eq_false (by omega)
  rw [List.drop_of_length_le hge] at hf
  refine runn [] ?_
  refine retP rfl ?_
  rw [hf]; rfl
 | some x =>
  have hlt : k < r.ops.length := (List.getElem?_eq_some_iff.1 ht).1
  have c1 : decide ((k : Int) < r.ops.length) = true := decide_eq_true (by omega)
  have h1 := Za ht
  have hI := in_spec (g := g) x.over s (by have := hr.2 x (List.mem_of_getElem? ht); omega)
  rw [anyd_drop _ r.ops k x ht, overO] at hf
  cases d1 : decide (x.kind = kind) with
  | false =>
   rw [d1] at hf
   refine runn [] ?_
   exact ⟨k + 1, qw, ⟨by omega, by simpa using hf⟩, by omega⟩
  | true =>
  rw [d1] at hf
  cases d2 : decide (x.note.id = note) with
  | false =>
   rw [d2] at hf
   refine runn [] ?_
   exact ⟨k + 1, qw, ⟨by omega, by simpa using hf⟩, by omega⟩
  | true =>
  rw [d2] at hf
  cases d3 : decide (kind = 2) with
  | true =>
   rw [d3] at hf
   cases hi : x.over.any (fun q => decide (q = s)) with
   | true =>
    rw [hi] at hf hI
    refine runn [] ?_
    refine retP rfl ?_
    rw [hf]; simp [ex]
   | false =>
    rw [hi] at hf hI
    refine runn [] ?_
    exact ⟨k + 1, qw, ⟨by omega, by simpa using hf⟩, by omega⟩
  | false =>
  rw [d3] at hf
  cases d4 : decide (x.set = f) with
  | false =>
   rw [d4] at hf
   refine runn [] ?_
   exact ⟨k + 1, qw, ⟨by omega, by simpa using hf⟩, by omega⟩
  | true =>
   rw [d4] at hf
   cases hi : x.over.any (fun q => decide (q = s)) with
   | true =>
    rw [hi] at hf hI
    refine runn [] ?_
    refine retP rfl ?_
    rw [hf]; simp [ex]
   | false =>
    rw [hi] at hf hI
    refine runn [] ?_
    exact ⟨k + 1, qw, ⟨by omega, by simpa using hf⟩, by omega⟩
set_option maxRecDepth 4000 in
set_option maxHeartbeats 2000000 in
theorem qH (r : Replica) (note f : Int) (hr : FitO r.ops) : PCalls Tryz.prog g 82 [.agg (repC r), vi note, vi f] (encVals (valuesL r.ops note f)) := by
 have hl := hr.1
 have n1 : (!true) = false := rfl
 have n2 : (!false) = true := rfl
 refine pcalls' Tryz.func82 Tryz.ntmps82 rfl rfl rfl ?_
 refine runn [] ?_
 refine ZC (t := 7) (E := 130) (sz := 4) rfl rfl rfl ?_
 refine zi (α := Nat) 1 (fun k => [(1, vi note), (2, vi f), (3, .fp (repC r)), (7, .os 0 0), (8, vi k)]) (fun k => [.own 0 130 4 ((valsK r.ops note f k).map valC)]) (fun k => k ≤ r.ops.length) (fun k => r.ops.length - k) 0
  qw (Nat.zero_le _) ?_
 rintro k hk
 cases ht : r.ops[k]? with
 | none =>
  have hge : r.ops.length ≤ k := by simpa using ht
  have c1 : decide ((k : Int) < r.ops.length) = false := decide_eq_false (by omega)
  have hD : valsK r.ops note f k = valuesL r.ops note f := by unfold valsK valuesL; rw [List.take_of_length_le hge]
  rw [hD]
  refine runn [] ?_
  refine retP rfl ?_
  simp [ex]
 | some x =>
  have hlt : k < r.ops.length := (List.getElem?_eq_some_iff.1 ht).1
  have c1 : decide ((k : Int) < r.ops.length) = true := decide_eq_true (by omega)
  have h1 := Za ht
  have hW := JK (g := g) x note f
  have hO := yk (g := g) r x.at_ 1 note f hr
  have hV := rValue_spec (g := g) x f
  have hcl := valsK_len r.ops note f k
  cases hw : writes x note f with
  | false =>
   have hS := valsK_no (note := note) (f := f) ht (by rw [keepV, hw]; rfl)
   rw [hw] at hW
   refine runn [] ?_
   exact ⟨k + 1, by rw [hS]; exact qw, by omega, by omega⟩
  | true =>
   rw [hw] at hW
   cases ho : overd r.ops x.at_ 1 note f with
   | true =>
    have hS := valsK_no (note := note) (f := f) ht (by rw [keepV, hw, ho]; rfl)
    rw [ho] at hO
    refine runn [] ?_
    exact ⟨k + 1, by rw [hS]; exact qw, by omega, by omega⟩
   | false =>
    have hS := valsK_yes (note := note) (f := f) ht (by rw [keepV, hw, ho]; rfl)
    rw [ho] at hO
    have hj : (valsK r.ops note f k).map valC ++ [valC (valueOf x f)] = (valsK r.ops note f (k + 1)).map valC := by rw [hS]; simp
    generalize valsK r.ops note f k = M at hcl hj ⊢
    generalize hM' : valsK r.ops note f (k + 1) = M' at hj
    have hmb : (M.map valC).length ≤ 100000 := by rw [List.length_map]; omega
    repeat' (first
     | ((with_reducible refine zg ?_); refine zk (zZ (es' := M'.map valC) rfl rfl rfl rfl rfl rfl rfl rfl rfl rfl rfl rfl rfl qe0 hj rfl) rfl ?_)
     | refine stn [] ?_
     | fail)
    exact ⟨k + 1, by rw [hM']; exact qw, by omega, by omega⟩
end
section
open Go.Ac Go.MapKept
attribute [local irreducible] awp awpL Ev Ev2 EvS thenQ blockQ retQ PCalls OCalls YieldOk IterC
variable {g : List (Nat × List AV)}
theorem lives_yes {l : List Op} {note : Int} {a : Op} (ha : addedO l note = some a) {f : Nat} (hf : f < 3) (h : saved l note f = true) : lives l note = true := by
 unfold lives
 rw [ha]
 rcases (show f = 0 ∨ f = 1 ∨ f = 2 by omega) with rfl | rfl | rfl
 ·rw [show saved l note 0 = true from h]; rfl
 ·rw [show saved l note 1 = true from h]; simp
 ·rw [show saved l note 2 = true from h]; simp
theorem lives_no {l : List Op} {note : Int} (h : ∀ f : Nat, f < 3 → saved l note f = false) : lives l note = false := by
 unfold lives
 rw [show saved l note 0 = false from h 0 (by omega), show saved l note 1 = false from h 1 (by omega), show saved l note 2 = false from h 2 (by omega)]
 simp
theorem lives_none {l : List Op} {note : Int} (h : addedO l note = none) : lives l note = false := by
 unfold lives; rw [h]; rfl
theorem lives_cell {l : List Op} {note : Int} (h : lives l note = true) : ∃ a, addedO l note = some a ∧ cell l note = some (cellOf l note a) := by
 have := y9 (l := l) (note := note)
 rw [h] at this
 obtain ⟨c, hc⟩ := Option.isSome_iff_exists.1 this
 obtain ⟨a, h1, h2, _⟩ := jC hc
 exact ⟨a, h1, by rw [hc, h2]⟩
theorem lives_cellN {l : List Op} {note : Int} (h : lives l note = false) : cell l note = none := by
 have := y9 (l := l) (note := note)
 rw [h] at this
 simpa using this
set_option maxRecDepth 4000 in
set_option maxHeartbeats 2000000 in
theorem rlives_spec (r : Replica) (note : Int) (hr : FitO r.ops) : PCalls Tryz.prog g 81 [.agg (repC r), vi note] (vb (lives r.ops note)) := by
 have hl := hr.1
 have n1 : (!true) = false := rfl
 have n2 : (!false) = true := rfl
 have hA := jg (g := g) r.ops note (by omega)
 rw [addedV] at hA
 refine pcalls' Tryz.func81 Tryz.ntmps81 rfl rfl rfl ?_
 cases ha : addedO r.ops note with
 | none =>
  rw [ha] at hA
  simp only [Option.getD_none, Option.isSome_none] at hA
  rw [lives_none ha]
  refine runn [] ?_
  refine zi (α := Nat) 0 (fun k => [(6, vb false), (7, vi k)]) (fun _ => []) (fun k => k = 0) (fun k => k) 0
   qw rfl ?_
  rintro k rfl
  have c1 : decide (((0 : Nat) : Int) ≤ 2) = true := rfl
  refine runn [] ?_
  exact retP rfl rfl
 | some a =>
 rw [ha] at hA
 simp only [Option.getD_some, Option.isSome_some] at hA
 refine runn [] ?_
 refine zi (α := Nat) 0 (fun k => [(1, vi note), (2, .fp (repC r)), (6, vb true), (7, vi k)]) (fun _ => []) (fun k => k ≤ 3 ∧ ∀ f : Nat, f < k → saved r.ops note f = false) (fun k => 3 - k) 0
  qw ⟨by omega, fun f h => by omega⟩ ?_
 rintro k ⟨hk, hsv⟩
 by_cases hk3 : k < 3
 ·have c1 : decide ((k : Int) ≤ 2) = true := decide_eq_true (by omega)
  have hV := qH (g := g) r note k hr
  have hVl := valuesL_len r.ops note k
  have hss : ∀ v ∈ valuesL r.ops note k, overd r.ops v.at_ 2 note k = false → saved r.ops note k = true := fun v hv ho => by
   unfold saved; rw [List.any_eq_true]; exact ⟨v, hv, by rw [ho]; rfl⟩
  have hsf := w8 (l := r.ops) (note := note) (f := (k : Int))
  generalize valuesL r.ops note k = V at *
  refine runn [] ?_
  refine zi (α := Nat) 0 (fun j => [(1, vi note), (2, .fp (repC r)), (6, vb true), (7, vi k), (8, encVals V), (9, vi j)]) (fun _ => []) (fun j => j ≤ V.length ∧ ∀ v ∈ V.take j, overd r.ops v.at_ 2 note k = true) (fun j => V.length - j) 0
   qw ⟨Nat.zero_le _, fun v h => by simp at h⟩ ?_
  rintro j ⟨hj, hall⟩
  cases hs : V[j]? with
  | some v =>
   have hjl : j < V.length := (List.getElem?_eq_some_iff.1 hs).1
   have c3 : decide ((j : Int) < V.length) = true := decide_eq_true (by omega)
   have h2 := val_get hs
   have hO := yk (g := g) r v.at_ 2 note k hr
   cases hov : overd r.ops v.at_ 2 note k with
   | true =>
    rw [hov] at hO
    refine run [] ?_
    exact ⟨j + 1, qw, ⟨by omega, fun w hw => by
     rw [List.take_add_one, hs] at hw
     rcases List.mem_append.1 hw with g | g
     ·exact hall w g
     ·simp only [Option.toList_some, List.mem_singleton] at g; subst g; exact hov⟩, by omega⟩
   | false =>
    rw [hov] at hO
    rw [lives_yes ha hk3 (hss v (List.mem_of_getElem? hs) hov)]
    refine run [] ?_
    exact retP rfl rfl
  | none =>
   have hjl : V.length ≤ j := by simpa using hs
   have c3 : decide ((j : Int) < V.length) = false := decide_eq_false (by omega)
   rw [List.take_of_length_le hjl] at hall
   have hsi := hsf hall
   refine runn [] ?_
   exact ⟨k + 1, qw, ⟨by omega, fun f hf => by
    rcases Nat.lt_or_ge f k with h | h
    ·exact hsv f h
    ·have : f = k := by omega
     subst this; exact hsi⟩, by omega⟩
 ·have c1 : decide ((k : Int) ≤ 2) = false := decide_eq_false (by omega)
  have hk3' : k = 3 := by omega
  subst hk3'
  rw [lives_no hsv]
  refine runn [] ?_
  exact retP rfl rfl
set_option maxRecDepth 8000 in
set_option maxHeartbeats 2000000 in
theorem rCell_spec (r : Replica) (note : Int) (hr : FitO r.ops) : PCalls Tryz.prog g 48 [.agg (repC r), vi note] (cellV (cell r.ops note)) := by
 have hl := hr.1
 have n1 : (!true) = false := rfl
 have n2 : (!false) = true := rfl
 have hL := rlives_spec (g := g) r note hr
 refine pcalls' Tryz.func48 Tryz.ntmps48 rfl rfl rfl ?_
 cases hlv : lives r.ops note with
 | false =>
  rw [hlv] at hL
  rw [lives_cellN hlv]
  refine runn [4] ?_
  exact retLe rfl (Le.tup (.cons (Le.agg js) (.cons (Le.rfl' _) .nil)))
 | true =>
  rw [hlv] at hL
  obtain ⟨a, ha, hc⟩ := lives_cell hlv
  have hA := jg (g := g) r.ops note (by omega)
  rw [addedV, ha] at hA
  simp only [Option.getD_some, Option.isSome_some] at hA
  have h0 := qH (g := g) r note 0 hr
  have h1 := qH (g := g) r note 1 hr
  have h2 := qH (g := g) r note 2 hr
  rw [hc]
  refine run [4] ?_
  exact retP rfl rfl
set_option maxRecDepth 8000 in
set_option maxHeartbeats 4000000 in
theorem rCells_spec (r : Replica) (rc : Int) (hr : FitO r.ops) : PCalls Tryz.prog g 19 [.agg (repC r), vi rc] (encCells (cells r.ops rc)) := by
 have hl := hr.1
 refine pcalls' Tryz.func19 Tryz.ntmps19 rfl rfl rfl ?_
 have n1 : (!true) = false := rfl
 have n2 : (!false) = true := rfl
 refine runn [] ?_
 refine ZC (t := 5) (E := 94) (sz := 11) rfl rfl rfl ?_
 refine zi (α := Nat) 1 (fun k => [(1, vi rc), (2, .fp (repC r)), (5, .os 0 0), (6, vi k)]) (fun k => [.own 0 94 11 ((cellsK r.ops rc k).map cellC)]) (fun k => k ≤ r.ops.length) (fun k => r.ops.length - k) 0
  qw (Nat.zero_le _) ?_
 rintro k hk
 have hcl := Jz r.ops rc k
 cases ht : r.ops[k]? with
 | none =>
  have hge : r.ops.length ≤ k := by simpa using ht
  have c1 : decide ((k : Int) < r.ops.length) = false := decide_eq_false (by omega)
  have hD : cellsK r.ops rc k = cells r.ops rc := by unfold cellsK cells; rw [List.take_of_length_le hge]
  rw [hD]
  refine runn [] ?_
  refine retP rfl ?_
  simp [ex]
 | some x =>
  have hlt : k < r.ops.length := (List.getElem?_eq_some_iff.1 ht).1
  have c1 : decide ((k : Int) < r.ops.length) = true := decide_eq_true (by omega)
  have h1 := Za ht
  have hC := rCell_spec (g := g) r x.note.id hr
  rw [cellV] at hC
  have hS := jB (rc := rc) ht
  rw [cellsStep] at hS
  generalize hM : cellsK r.ops rc k = M at hS hcl ⊢
  generalize hM' : cellsK r.ops rc (k + 1) = M' at hS
  have hmb : (M.map cellC).length ≤ 100000 := by rw [List.length_map]; omega
  by_cases hk0 : x.kind = 0
  ·have d1 : (!decide (x.kind = 0)) = false := by simp [hk0]
   by_cases hr2 : x.rec_ = rc
   ·have d2 : (!decide (x.rec_ = rc)) = false := by simp [hr2]
    rw [if_pos ⟨hk0, hr2⟩] at hS
    cases hc : cell r.ops x.note.id with
    | none =>
     rw [hc] at hC hS
     simp only [Option.getD_none, Option.isSome_none] at hC
     simp only at hS
     subst hS
     refine run [] ?_
     exact ⟨k + 1, by rw [hM']; exact qw, by omega, by omega⟩
    | some c =>
     rw [hc] at hC hS
     simp only [Option.getD_some, Option.isSome_some] at hC
     simp only at hS
     have hj : M.map cellC ++ [cellC c] = M'.map cellC := by rw [hS]; simp
     repeat' (first
      | ((with_reducible refine zg ?_); refine zk (zZ (es' := M'.map cellC) rfl rfl rfl rfl rfl rfl rfl rfl rfl rfl rfl rfl rfl qe0 hj rfl) rfl ?_)
      | refine st [] ?_
      | fail)
     exact ⟨k + 1, by rw [hM']; exact qw, by omega, by omega⟩
   ·have d2 : (!decide (x.rec_ = rc)) = true := by simp [hr2]
    rw [if_neg (fun h => hr2 h.2)] at hS
    subst hS
    refine run [] ?_
    exact ⟨k + 1, by rw [hM']; exact qw, by omega, by omega⟩
  ·have d1 : (!decide (x.kind = 0)) = true := by simp [hk0]
   rw [if_neg (fun h => hk0 h.1)] at hS
   subst hS
   refine run [] ?_
   exact ⟨k + 1, by rw [hM']; exact qw, by omega, by omega⟩
end
section
open Go.RowKit Go.Shelf Go.Lib Go.Sort
end
section
open Go.Ac Go.MapKept
attribute [local irreducible] awp awpL Ev Ev2 EvS thenQ blockQ retQ PCalls OCalls YieldOk IterC
variable {g : List (Nat × List AV)}
end
section
open Go.Ac Go.MapKept
attribute [local irreducible] awp awpL Ev Ev2 EvS thenQ blockQ retQ PCalls OCalls YieldOk IterC ICalls
end
section
open Go.Ac Go.MapKept
attribute [local irreducible] awp awpL Ev Ev2 EvS thenQ blockQ retQ PCalls OCalls YieldOk IterC ICalls
variable {g : List (Nat × List AV)}
end
section
open Go.Ac Go.MapKept
attribute [local irreducible] awp awpL Ev Ev2 EvS thenQ blockQ retQ PCalls OCalls YieldOk IterC ICalls
variable {g : List (Nat × List AV)}
end
section
open Go.Ac Go.MapKept
attribute [local irreducible] awp awpL Ev Ev2 EvS thenQ blockQ retQ PCalls OCalls YieldOk IterC
variable {g : List (Nat × List AV)}
end
section
open Go.Ac
attribute [local irreducible] awp awpL Ev Ev2 EvS thenQ blockQ retQ PCalls OCalls YieldOk IterC
variable {g : List (Nat × List AV)}
def FitC (c : Cell) : Prop := c.text.length ≤ 100000 ∧ c.fro.length ≤ 100000 ∧ c.til.length ≤ 100000
def FitCs (l : List Cell) : Prop := l.length ≤ 100000 ∧ ∀ c ∈ l, FitC c
end
section
open Go.Ac Go.MapKept
attribute [local irreducible] awp awpL Ev Ev2 EvS thenQ blockQ retQ PCalls OCalls YieldOk IterC
variable {g : List (Nat × List AV)}
abbrev lastV (o : Option Val) : AV := .tup [.agg (valC (o.getD zeroVal)), vb o.isSome]
theorem last_val {l : List Val} {p : Val} (h : l.getLast? = some p) : 0 < l.length ∧ 0 ≤ (l.length : Int) - 1 ∧ (l.map valC)[((l.length : Int) - 1).toNat]? = some (valC p) := by
 rw [List.getLast?_eq_getElem?] at h
 have hpos : 0 < l.length := by
  cases l with
  | nil => simp at h
  | cons x r => simp
 refine ⟨hpos, by omega, ?_⟩
 rw [show ((l.length : Int) - 1).toNat = l.length - 1 by omega, List.getElem?_map, h]; rfl
theorem last_nil {l : List Val} (h : l.getLast? = none) : l.length = 0 := by simpa using h
set_option maxHeartbeats 1000000 in
theorem wC (l : List Val) (hl : l.length ≤ 1000000) : PCalls Tryz.prog g 69 [encVals l] (lastV l.getLast?) := by
 refine pcalls' Tryz.func69 Tryz.ntmps69 rfl rfl rfl ?_
 cases hq : l.getLast? with
 | none =>
  have c1 : decide ((l.length : Int) = 0) = true := decide_eq_true (by have := last_nil hq; omega)
  refine runn [2] ?_
  exact retP rfl rfl
 | some p =>
  obtain ⟨h1, h2⟩ := last_val hq
  have c1 : decide ((l.length : Int) = 0) = false := decide_eq_false (by omega)
  refine runn [2] ?_
  exact retP rfl rfl
set_option maxRecDepth 8000 in
set_option maxHeartbeats 4000000 in
theorem Current_spec (c : Cell) (hc : FitC c) : PCalls Tryz.prog g 38 [.agg (cellC c)] (.agg (noteC (current c))) := by
 obtain ⟨k0, k1, k2⟩ := hc
 have l0 := wC (g := g) c.text (by omega)
 have l1 := wC (g := g) c.fro (by omega)
 have l2 := wC (g := g) c.til (by omega)
 refine pcalls' Tryz.func38 Tryz.ntmps38 rfl rfl rfl ?_
 cases q0 : c.text.getLast? with
 | none =>
  rw [lastV, q0] at l0
  simp only [Option.getD_none, Option.isSome_none] at l0
  cases q1 : c.fro.getLast? with
  | none =>
   rw [lastV, q1] at l1
   simp only [Option.getD_none, Option.isSome_none] at l1
   cases q2 : c.til.getLast? with
   | none =>
    rw [lastV, q2] at l2
    simp only [Option.getD_none, Option.isSome_none] at l2
    refine runn [2, 3] ?_
    refine retP rfl ?_
    unfold current
    simp only [q0, q1, q2]
    rfl
   | some p2 =>
    rw [lastV, q2] at l2
    simp only [Option.getD_some, Option.isSome_some] at l2
    refine runn [2, 3] ?_
    refine retP rfl ?_
    unfold current
    simp only [q0, q1, q2]
    rfl
  | some p1 =>
   rw [lastV, q1] at l1
   simp only [Option.getD_some, Option.isSome_some] at l1
   cases q2 : c.til.getLast? with
   | none =>
    rw [lastV, q2] at l2
    simp only [Option.getD_none, Option.isSome_none] at l2
    refine runn [2, 3] ?_
    refine retP rfl ?_
    unfold current
    simp only [q0, q1, q2]
    rfl
   | some p2 =>
    rw [lastV, q2] at l2
    simp only [Option.getD_some, Option.isSome_some] at l2
    refine runn [2, 3] ?_
    refine retP rfl ?_
    unfold current
    simp only [q0, q1, q2]
    rfl
 | some p0 =>
  rw [lastV, q0] at l0
  simp only [Option.getD_some, Option.isSome_some] at l0
  cases q1 : c.fro.getLast? with
  | none =>
   rw [lastV, q1] at l1
   simp only [Option.getD_none, Option.isSome_none] at l1
   cases q2 : c.til.getLast? with
   | none =>
    rw [lastV, q2] at l2
    simp only [Option.getD_none, Option.isSome_none] at l2
    refine runn [2, 3] ?_
    refine retP rfl ?_
    unfold current
    simp only [q0, q1, q2]
    rfl
   | some p2 =>
    rw [lastV, q2] at l2
    simp only [Option.getD_some, Option.isSome_some] at l2
    refine runn [2, 3] ?_
    refine retP rfl ?_
    unfold current
    simp only [q0, q1, q2]
    rfl
  | some p1 =>
   rw [lastV, q1] at l1
   simp only [Option.getD_some, Option.isSome_some] at l1
   cases q2 : c.til.getLast? with
   | none =>
    rw [lastV, q2] at l2
    simp only [Option.getD_none, Option.isSome_none] at l2
    refine runn [2, 3] ?_
    refine retP rfl ?_
    unfold current
    simp only [q0, q1, q2]
    rfl
   | some p2 =>
    rw [lastV, q2] at l2
    simp only [Option.getD_some, Option.isSome_some] at l2
    refine runn [2, 3] ?_
    refine retP rfl ?_
    unfold current
    simp only [q0, q1, q2]
    rfl
end
section
open Go.Ac Go.MapKept
attribute [local irreducible] awp awpL Ev Ev2 EvS thenQ blockQ retQ PCalls OCalls YieldOk IterC ICalls
theorem Ym {g : List (Nat × List AV)} (dev : Int) : PCalls Tryz.prog g 53 [vi dev] (mergeV (newR dev)) := by
 have hJ := Yn (g := g)
 refine pcalls' Tryz.func53 Tryz.ntmps53 rfl rfl rfl ?_
 by_cases h1 : dev < 1
 ·have c1 : decide (dev < 1) = true := decide_eq_true h1
  rw [show newR dev = (zeroRep, 1) by unfold newR; rw [if_neg (by simp [within]; omega)]; rfl]
  repeat' (first
   | refine stn [2] ?_
   | ((with_reducible refine zr ?_); refine zf rfl rfl (fun h => ?_) (fun h => ?_))
   | ((with_reducible refine zl ?_); refine ze rfl (fun h => ?_) (fun h => ?_))
   | fail)
  exact retLe rfl (jr _)
 have c1 : decide (dev < 1) = false := decide_eq_false h1
 by_cases h2 : 15 < dev
 ·have c2 : decide (15 < dev) = true := decide_eq_true h2
  rw [show newR dev = (zeroRep, 1) by unfold newR; rw [if_neg (by simp [within]; omega)]; rfl]
  repeat' (first
   | refine stn [2] ?_
   | ((with_reducible refine zr ?_); refine zf rfl rfl (fun h => ?_) (fun h => ?_))
   | ((with_reducible refine zl ?_); refine ze rfl (fun h => ?_) (fun h => ?_))
   | fail)
  exact retLe rfl (jr _)
 have c2 : decide (15 < dev) = false := decide_eq_false h2
 rw [show newR dev = (⟨dev, seenL [], []⟩, 0) by unfold newR; rw [if_pos (by simp [within]; omega)]; rfl]
 repeat' (first
  | refine stn [2] ?_
  | ((with_reducible refine zr ?_); refine zf rfl rfl (fun h => ?_) (fun h => ?_))
  | ((with_reducible refine zl ?_); refine ze rfl (fun h => ?_) (fun h => ?_))
  | fail)
 exact retLe rfl (Le.tup (.cons (Le.agg (.cons (Le.rfl' _) (.cons (Le.rfl' _) (.cons (Le.nil 15) .nil)))) (.cons (Le.rfl' _) .nil)))
end
section
open Go.Ac Go.MapKept
attribute [local irreducible] awp awpL Ev Ev2 EvS thenQ blockQ retQ PCalls OCalls YieldOk IterC ICalls
end
end Go.Proofs.YtcfkokllinkigaaGreatDoor
namespace Go.Ac
section
section
variable {P : Program} {td : TDs} [T : TOK P td] {G : Glo} {N : Nat} {S : SL} {L : List LB} {ty : TypeId} {x : AV}
theorem LF_drop {F : Nat → Prop} {w : World} : ∀ {cs : List AV} {ys : List Value} (n : Nat), LF F w cs ys → LF F w (cs.drop n) (ys.drop n)
 | cs, ys, 0, h => by simpa using h
 | [], ys, n + 1, h => by
  simp only [LF] at h; subst h; simp [LF]
 | c :: r, ys, n + 1, h => by
  simp only [LF] at h
  obtain ⟨y, s, rfl, _, _, h⟩ := h
  simpa using LF_drop n h
theorem LF_take {F : Nat → Prop} {w : World} : ∀ {cs : List AV} {ys : List Value} (n : Nat), LF F w cs ys → LF F w (cs.take n) (ys.take n)
 | cs, ys, 0, h => by simp [LF]
 | [], ys, n + 1, h => by
  simp only [LF] at h; subst h; simp [LF]
 | c :: r, ys, n + 1, h => by
  simp only [LF] at h
  obtain ⟨y, s, rfl, h1, h2, h⟩ := h
  simp only [List.take_succ_cons, LF]
  exact ⟨y, _, rfl, h1, h2, LF_take n h⟩
theorem struct_desc {t : Nat} {d : TD} {fs : List (TypeId × Nat)} (ht : lk td t = some d) (hs : d.k = .struct fs) : ∃ fields : Array Field, P.underlying t = some (.struct fields) ∧ fs = fields.toList.map fun f => (f.type, f.offset) := by
 obtain ⟨i, u, z, h1, h2, h3, h4, h5, h6, h7⟩ := zA (P := P) ht
 rw [hs] at h4
 cases u <;> simp only [tk, reduceCtorEq, TK.struct.injEq] at h4
 rename_i fields
 exact ⟨fields, h2, h4.symm⟩
theorem ZK {t : Nat} {d fd : TD} {fs : List (TypeId × Nat)} {f ft off : Nat} {u : Operand} {cs ds : List AV} (h : val G S u = some (.agg cs)) (ht : lk td t = some d) (hs : d.k = .struct fs) (hf : fs[f]? = some (ft, off))
  (hft : lk td ft = some fd) (hr : fd.k.row = true) (hx : (cs.drop off).take fd.size = ds) : Ev P G N (.field t u f) ty S L (.agg ds) := by
 subst hx
 intro o ho _ cx a hc
 have e1 := zn hc h
 simp only [R, RF] at e1
 obtain ⟨xs, e1, hl⟩ := e1
 obtain ⟨fields, h2, rfl⟩ := struct_desc (P := P) ht hs
 simp only [List.getElem?_map, Array.getElem?_toList] at hf
 cases hq : fields[f]? with
 | none => simp [hq] at hf
 | some fl =>
  simp only [hq, Option.map_some, Option.some.injEq, Prod.mk.injEq] at hf
  obtain ⟨rfl, rfl⟩ := hf
  have hag := wn (P := P) hft cx.w
  rw [hr] at hag
  refine ⟨.agg (xs.extract fl.offset (fl.offset + fd.size)), ?_, ?_⟩
  ·simp [execOp, ho, e1, Instr.field, asAgg, run_underlying h2, Result.andThen, hq, part, hag, run_sizeOf' (P := P) hft]
  ·simp only [R, RF]
   refine ⟨_, rfl, ?_⟩
   have : (xs.extract fl.offset (fl.offset + fd.size)).toList = (xs.toList.drop fl.offset).take fd.size := by
    simp
   rw [this]
   exact LF_take _ (LF_drop _ hl)
end
end
end Go.Ac
namespace Go.Proofs.YtcfkokllinkigaaGreatDoor
section
open Go.Ac Go.MapKept
attribute [local irreducible] awp awpL Ev Ev2 EvS thenQ blockQ retQ PCalls OCalls YieldOk IterC ICalls
end
section
open Go.Ac Go.MapKept
attribute [local irreducible] awp awpL Ev Ev2 EvS thenQ blockQ retQ PCalls OCalls YieldOk IterC ICalls
theorem Zv {r : Replica} (h : repE r = 0) : FitR r := by
 obtain ⟨_, h2, _, _, h3⟩ := Zy h
 exact ⟨⟨by omega, fun o ho => by have := JL (JJ h o ho); omega⟩, by rw [h2, Zf]; omega⟩
end
section
open Go.Ac Go.MapKept
attribute [local irreducible] awp awpL Ev Ev2 EvS thenQ blockQ retQ PCalls OCalls YieldOk IterC ICalls
theorem cells_fit (l : List Op) (rc : Int) (hl : l.length ≤ 100000) : FitCs (cells l rc) := by
 have hv : ∀ note f, (valuesL l note f).length ≤ 100000 := fun note f => by
  unfold valuesL
  rw [List.length_map]
  exact Nat.le_trans (List.length_filter_le ..) hl
 have hc : ∀ note c, cell l note = some c → FitC c := fun note c h => by
  unfold cell at h
  split at h
  ·cases h
  ·split at h
   ·cases h; exact ⟨hv _ _, hv _ _, hv _ _⟩
   ·cases h
 have H : ∀ (k : List Op) (out : List Cell), (∀ c ∈ out, FitC c) → ∀ c ∈ k.foldl (cellsStep l rc) out, FitC c := by
  intro k
  induction k with
  | nil => intro out h; exact h
  | cons o r ih =>
   intro out h
   refine ih _ ?_
   unfold cellsStep
   split
   ·split
    ·rename_i c hq
     intro d hd
     rcases List.mem_append.1 hd with g | g
     ·exact h d g
     ·simp only [List.mem_singleton] at g; subst g; exact hc _ _ hq
    ·exact h
   ·exact h
 refine ⟨?_, H l [] fun c h => by cases h⟩
 have := Jz l rc l.length
 unfold cellsK at this
 rw [List.take_length] at this
 unfold cells
 omega
end
section
open Go.Ac Go.MapKept
attribute [local irreducible] awp awpL Ev Ev2 EvS thenQ blockQ retQ PCalls OCalls YieldOk IterC ICalls
end
section
open Go.Ac
variable {B : Nat}
theorem yf {td : TDs} {f t : Nat} {cs : List AV} (hk : (lk td t).map (fun d : TD => d.k) = some .str) (h : ShpB td B f t cs) : ∃ s, cs = [.v (.string s)] ∧ s.size ≤ B := by
 cases f with
 | zero => exact absurd h (by simp [ShpB])
 | succ f => simp only [ShpB, hk] at h; exact h
theorem zL {td : TDs} {f t : Nat} {k : IntKind} {cs : List AV} (hk : (lk td t).map (fun d : TD => d.k) = some (.int k)) (h : ShpB td B f t cs) : ∃ n, cs = [.v (.int k n)] ∧ (Lit.int k n).wf = true := by
 cases f with
 | zero => exact absurd h (by simp [ShpB])
 | succ f => simp only [ShpB, hk] at h; exact h
theorem Jq {α : Type} {e f t sz0 : Nat} {cs : List AV} {enc : α → List AV} {ok : α → Prop} (hk : (lk td t).map (fun d : TD => d.k) = some (.slice e)) (hz : (lk td e).map (fun d : TD => d.size) = some sz0)
  (he : ∀ {f : Nat} {x : List AV}, ShpB td B f e x → ∃ a, x = enc a ∧ ok a) (h : ShpB td B f t cs) : ∃ l : List α, cs = [.fs sz0 l.length (l.map enc)] ∧ l.length ≤ B ∧ ∀ a ∈ l, ok a := by
 cases f with
 | zero => exact absurd h (by simp [ShpB])
 | succ f =>
  simp only [ShpB, hk] at h
  obtain ⟨sz, es, h1, rfl, hlen, hx⟩ := h
  rw [hz] at h1
  injection h1 with h1
  subst h1
  have : ∃ l : List α, es = l.map enc ∧ ∀ a ∈ l, ok a := by
   clear hlen
   induction es with
   | nil => exact ⟨[], rfl, by simp⟩
   | cons x r ih =>
    obtain ⟨t, rfl, ht⟩ := he (hx x (by simp))
    obtain ⟨l, rfl, hl⟩ := ih (fun y hy => hx y (by simp [hy]))
    refine ⟨t :: l, rfl, fun u hu => ?_⟩
    rcases List.mem_cons.1 hu with rfl | hu
    ·exact ht
    ·exact hl u hu
  obtain ⟨l, rfl, hl⟩ := this
  exact ⟨l, by simp, by simpa using hlen, hl⟩
theorem yg {f : Nat} {cs : List AV} (h : ShpB td B f 77 cs) : ∃ t : Stamp, cs = stampC t ∧ True := by
 cases f with
 | zero => exact absurd h (by simp [ShpB])
 | succ f =>
  have hk : (lk td 77).map (fun d : TD => d.k) = some (.struct [(3, 0), (3, 1)]) := rfl
  simp only [ShpB, hk] at h
  obtain ⟨parts, rfl, hl, hp⟩ := h
  match parts, hl with
  | [a, b], _ =>
   obtain ⟨n1, rfl, _⟩ := zL (k := .i64) rfl (hp 0 a _ rfl rfl)
   obtain ⟨n2, rfl, _⟩ := zL (k := .i64) rfl (hp 1 b _ rfl rfl)
   exact ⟨⟨n1, n2⟩, rfl, trivial⟩
theorem shpB_span {f : Nat} {cs : List AV} (h : ShpB td B f 54 cs) : ∃ t : Span, cs = spanC t ∧ True := by
 cases f with
 | zero => exact absurd h (by simp [ShpB])
 | succ f =>
  have hk : (lk td 54).map (fun d : TD => d.k) = some (.struct [(3, 0), (3, 1)]) := rfl
  simp only [ShpB, hk] at h
  obtain ⟨parts, rfl, hl, hp⟩ := h
  match parts, hl with
  | [a, b], _ =>
   obtain ⟨n1, rfl, _⟩ := zL (k := .i64) rfl (hp 0 a _ rfl rfl)
   obtain ⟨n2, rfl, _⟩ := zL (k := .i64) rfl (hp 1 b _ rfl rfl)
   exact ⟨⟨n1, n2⟩, rfl, trivial⟩
theorem shpB_note {f : Nat} {cs : List AV} (h : ShpB td B f 56 cs) : ∃ t : Note, cs = noteC t ∧ I64 t.id ∧ t.text.size ≤ B := by
 cases f with
 | zero => exact absurd h (by simp [ShpB])
 | succ f =>
  have hk : (lk td 56).map (fun d : TD => d.k) = some (.struct [(3, 0), (3, 1), (3, 2), (54, 3), (3, 5), (9, 6)]) := rfl
  simp only [ShpB, hk] at h
  obtain ⟨parts, rfl, hl, hp⟩ := h
  match parts, hl with
  | [a, b, c, d, e, g], _ =>
   obtain ⟨n1, rfl, w⟩ := zL (k := .i64) rfl (hp 0 a _ rfl rfl)
   obtain ⟨n2, rfl, _⟩ := zL (k := .i64) rfl (hp 1 b _ rfl rfl)
   obtain ⟨n3, rfl, _⟩ := zL (k := .i64) rfl (hp 2 c _ rfl rfl)
   obtain ⟨s, rfl, _⟩ := shpB_span (hp 3 d _ rfl rfl)
   obtain ⟨n4, rfl, _⟩ := zL (k := .i64) rfl (hp 4 e _ rfl rfl)
   obtain ⟨t, rfl, ht⟩ := yf rfl (hp 5 g _ rfl rfl)
   exact ⟨⟨n1, n2, n3, s, n4, t⟩, rfl, wf64 w, ht⟩
theorem shpB_stamps {f : Nat} {cs : List AV} (h : ShpB td B f 78 cs) : ∃ l : List Stamp, cs = [encStamps l] ∧ l.length ≤ B := by
 obtain ⟨l, h, hl, _⟩ := Jq (enc := stampC) (ok := fun _ => True) rfl rfl (fun h => yg h) h
 exact ⟨l, h, hl⟩
def OpB (B : Nat) (o : Op) : Prop := I64 o.note.id ∧ o.text.size ≤ B ∧ o.note.text.size ≤ B ∧ o.over.length ≤ B
theorem shpB_op {f : Nat} {cs : List AV} (h : ShpB td B f 80 cs) : ∃ o : Op, cs = opC o ∧ OpB B o := by
 cases f with
 | zero => exact absurd h (by simp [ShpB])
 | succ f =>
  have hk : (lk td 80).map (fun d : TD => d.k) = some (.struct [(77, 0), (3, 2), (3, 3), (56, 4), (3, 11), (3, 12), (9, 13), (78, 14)]) := rfl
  simp only [ShpB, hk] at h
  obtain ⟨parts, rfl, hl, hp⟩ := h
  match parts, hl with
  | [a, b, c, d, e, g, i, j], _ =>
   obtain ⟨t, rfl, _⟩ := yg (hp 0 a _ rfl rfl)
   obtain ⟨n1, rfl, _⟩ := zL (k := .i64) rfl (hp 1 b _ rfl rfl)
   obtain ⟨n2, rfl, _⟩ := zL (k := .i64) rfl (hp 2 c _ rfl rfl)
   obtain ⟨n, rfl, hn, hnt⟩ := shpB_note (hp 3 d _ rfl rfl)
   obtain ⟨n4, rfl, _⟩ := zL (k := .i64) rfl (hp 4 e _ rfl rfl)
   obtain ⟨n5, rfl, _⟩ := zL (k := .i64) rfl (hp 5 g _ rfl rfl)
   obtain ⟨s, rfl, hs⟩ := yf rfl (hp 6 i _ rfl rfl)
   obtain ⟨l, rfl, hl⟩ := shpB_stamps (hp 7 j _ rfl rfl)
   exact ⟨⟨t, n1, n2, n, n4, n5, s, l⟩, rfl, hn, hs, hnt, hl⟩
theorem shpB_ops {f : Nat} {cs : List AV} (h : ShpB td B f 26 cs) : ∃ l : List Op, cs = [encOps l] ∧ l.length ≤ B ∧ ∀ o ∈ l, OpB B o :=
 Jq (enc := opC) rfl rfl (fun h => shpB_op h) h
theorem shpB_ints {f : Nat} {cs : List AV} (h : ShpB td B f 22 cs) : ∃ l : List Int, cs = [encIs l] ∧ l.length ≤ B ∧ ∀ n ∈ l, I64 n :=
 Jq (enc := intC) rfl rfl (fun h => by obtain ⟨n, rfl, w⟩ := zL (k := .i64) rfl h; exact ⟨n, rfl, wf64 w⟩) h
theorem QL {f : Nat} {cs : List AV} (h : ShpB td B f 28 cs) : ∃ r : Replica, cs = repC r ∧ ∀ o ∈ r.ops, OpB B o := by
 cases f with
 | zero => exact absurd h (by simp [ShpB])
 | succ f =>
  have hk : (lk td 28).map (fun d : TD => d.k) = some (.struct [(3, 0), (22, 1), (26, 2)]) := rfl
  simp only [ShpB, hk] at h
  obtain ⟨parts, rfl, hl, hp⟩ := h
  match parts, hl with
  | [a, b, c], _ =>
   obtain ⟨n1, rfl, _⟩ := zL (k := .i64) rfl (hp 0 a _ rfl rfl)
   obtain ⟨l, rfl, _⟩ := shpB_ints (hp 1 b _ rfl rfl)
   obtain ⟨m, rfl, _, hm⟩ := shpB_ops (hp 2 c _ rfl rfl)
   exact ⟨⟨n1, l, m⟩, rfl, hm⟩
theorem ids_ofB {l : List Op} (h : ∀ o ∈ l, OpB B o) : Ids l := fun o ho => (h o ho).1
end
section
open Go.Ac Go.MapKept
attribute [local irreducible] awp awpL Ev Ev2 EvS thenQ blockQ retQ PCalls OCalls YieldOk IterC ICalls
end
end Go.Proofs.YtcfkokllinkigaaGreatDoor
