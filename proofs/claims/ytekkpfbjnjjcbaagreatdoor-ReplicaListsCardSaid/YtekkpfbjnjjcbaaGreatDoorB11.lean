/- A logic of trees over the model's steps, and the contracts of the functions that the laws reach: part 11 of 14. -/
import Derived.Test.YtekkpfbjnjjcbaaGreatDoorB10
section
set_option linter.unusedVariables false
set_option linter.unusedSimpArgs false
set_option linter.unusedSectionVars false
namespace Go.Proofs.YtekkpfbjnjjcbaaGreatDoor
open Go.Ac Go.MapKept
attribute [local irreducible] awp awpL Ev Ev2 EvS thenQ blockQ retQ PCalls OCalls YieldOk IterC
set_option linter.unusedSimpArgs false
set_option linter.unusedVariables false
variable {g : List (Nat × List AV)}
set_option maxHeartbeats 2000000 in
theorem rValue_spec (o : Op) (f : Int) : PCalls Tryz.prog g 80 [.agg (opC o), vi f] (.agg (valC (valueOf o f))) := by
  have h1 := rwr_spec (g := g) o f
  have n1 : (!true) = false := rfl
  have n2 : (!false) = true := rfl
  refine pcalls' Tryz.func80 Tryz.ntmps80 rfl rfl rfl ?_
  cases hw : wrt o f with
  | false =>
    rw [hw] at h1
    repeat' (first
     | refine stn [4, 5] ?_
     | ((with_reducible refine is_gd ?_); refine awpL_split rfl rfl (fun h => ?_) (fun h => ?_))
     | ((with_reducible refine is_awp ?_); refine awp_cond rfl (fun h => ?_) (fun h => ?_))
     | fail)
    refine retP rfl ?_
    unfold valueOf
    rw [if_pos hw]
    rfl
  | true =>
    rw [hw] at h1
    have hv : valueOf o f = ⟨o.at_, if f = 0 then 0 else if o.kind = 0 then (if f = 1 then o.note.span.fro else o.note.span.til) else o.n, if f = 0 then (if o.kind = 0 then o.note.text else o.text) else .empty⟩ := by unfold valueOf; rw [if_neg (by simp [hw])]
    have hf : f = 0 ∨ f = 1 ∨ f = 2 := by
      simp only [wrt, within, Bool.and_eq_true, decide_eq_true_eq] at hw
      omega
    have f0 : decide ((0 : Int) = 0) = true := rfl
    have f1 : decide ((1 : Int) = 0) = false := rfl
    have f2 : decide ((1 : Int) = 1) = true := rfl
    have f3 : decide ((2 : Int) = 0) = false := rfl
    have f4 : decide ((2 : Int) = 1) = false := rfl
    have f5 : decide ((2 : Int) = 2) = true := rfl
    by_cases hk : o.kind = 0
    · have k1 : decide (o.kind = 0) = true := decide_eq_true hk
      rcases hf with rfl | rfl | rfl
      · rw [show valueOf o 0 = ⟨o.at_, 0, o.note.text⟩ by rw [hv]; simp [hk]]
        repeat' (first
         | refine stn [4, 5] ?_
         | ((with_reducible refine is_gd ?_); refine awpL_split rfl rfl (fun h => ?_) (fun h => ?_))
         | ((with_reducible refine is_awp ?_); refine awp_cond rfl (fun h => ?_) (fun h => ?_))
         | fail)
        exact retP rfl rfl
      · rw [show valueOf o 1 = ⟨o.at_, o.note.span.fro, .empty⟩ by rw [hv]; simp [hk]]
        repeat' (first
         | refine stn [4, 5] ?_
         | ((with_reducible refine is_gd ?_); refine awpL_split rfl rfl (fun h => ?_) (fun h => ?_))
         | ((with_reducible refine is_awp ?_); refine awp_cond rfl (fun h => ?_) (fun h => ?_))
         | fail)
        exact retP rfl rfl
      · rw [show valueOf o 2 = ⟨o.at_, o.note.span.til, .empty⟩ by rw [hv]; simp [hk]]
        repeat' (first
         | refine stn [4, 5] ?_
         | ((with_reducible refine is_gd ?_); refine awpL_split rfl rfl (fun h => ?_) (fun h => ?_))
         | ((with_reducible refine is_awp ?_); refine awp_cond rfl (fun h => ?_) (fun h => ?_))
         | fail)
        exact retP rfl rfl
    · have k1 : decide (o.kind = 0) = false := decide_eq_false hk
      rcases hf with rfl | rfl | rfl
      · rw [show valueOf o 0 = ⟨o.at_, 0, o.text⟩ by rw [hv]; simp [hk]]
        repeat' (first
         | refine stn [4, 5] ?_
         | ((with_reducible refine is_gd ?_); refine awpL_split rfl rfl (fun h => ?_) (fun h => ?_))
         | ((with_reducible refine is_awp ?_); refine awp_cond rfl (fun h => ?_) (fun h => ?_))
         | fail)
        exact retP rfl rfl
      · rw [show valueOf o 1 = ⟨o.at_, o.n, .empty⟩ by rw [hv]; simp [hk]]
        repeat' (first
         | refine stn [4, 5] ?_
         | ((with_reducible refine is_gd ?_); refine awpL_split rfl rfl (fun h => ?_) (fun h => ?_))
         | ((with_reducible refine is_awp ?_); refine awp_cond rfl (fun h => ?_) (fun h => ?_))
         | fail)
        exact retP rfl rfl
      · rw [show valueOf o 2 = ⟨o.at_, o.n, .empty⟩ by rw [hv]; simp [hk]]
        repeat' (first
         | refine stn [4, 5] ?_
         | ((with_reducible refine is_gd ?_); refine awpL_split rfl rfl (fun h => ?_) (fun h => ?_))
         | ((with_reducible refine is_awp ?_); refine awp_cond rfl (fun h => ?_) (fun h => ?_))
         | fail)
        exact retP rfl rfl
theorem anyd_drop {α : Type} (f : α → Bool) (l : List α) (k : Nat) (x : α) (h : l[k]? = some x) : (l.drop k).any f = (f x || (l.drop (k + 1)).any f) := by
  have hlt := (List.getElem?_eq_some_iff.1 h).1
  rw [List.drop_eq_getElem_cons hlt, List.any_cons]
  have : l[k] = x := by rw [List.getElem?_eq_getElem hlt] at h; exact Option.some.inj h
  rw [this]
set_option maxHeartbeats 1000000 in
theorem in_spec (l : List Stamp) (s : Stamp) (hl : l.length ≤ 1000000) : PCalls Tryz.prog g 63 [encStamps l, .agg (stampC s)] (vb (l.any fun q => decide (q = s))) := by
  refine pcalls' Tryz.func63 Tryz.ntmps63 rfl rfl rfl ?_
  repeat' (first
   | refine stn [] ?_
   | ((with_reducible refine is_gd ?_); refine awpL_split rfl rfl (fun h => ?_) (fun h => ?_))
   | ((with_reducible refine is_awp ?_); refine awp_cond rfl (fun h => ?_) (fun h => ?_))
   | fail)
  refine awp_for (α := Nat) 0 (fun k => [(0, encStamps l), (3, .fp (stampC s)), (5, vi k)]) (fun _ => []) (fun k => k ≤ l.length ∧ (l.any fun q => decide (q = s)) = (l.drop k).any fun q => decide (q = s)) (fun k => l.length - k) 0
    ⟨(.cons rfl rfl (.cons rfl rfl (.cons rfl rfl .nil))), rfl, rfl, rfl⟩ ⟨Nat.zero_le _, rfl⟩ ?_
  rintro k ⟨hk, hf⟩
  cases ht : l[k]? with
  | none =>
    have hge : l.length ≤ k := by simpa using ht
    have c1 : decide ((k : Int) < l.length) = false := decide_eq_false (by omega)
    rw [List.drop_of_length_le hge] at hf
    repeat' (first
     | refine stn [] ?_
     | ((with_reducible refine is_gd ?_); refine awpL_split rfl rfl (fun h => ?_) (fun h => ?_))
     | ((with_reducible refine is_awp ?_); refine awp_cond rfl (fun h => ?_) (fun h => ?_))
     | fail)
    refine retP rfl ?_
    rw [hf]; rfl
  | some x =>
    have hlt : k < l.length := (List.getElem?_eq_some_iff.1 ht).1
    have c1 : decide ((k : Int) < l.length) = true := decide_eq_true (by omega)
    have h1 := stamp_get ht
    rw [anyd_drop _ l k x ht] at hf
    by_cases he : x = s
    · have e1 : (x.count == s.count && x.dev == s.dev) = true := by rw [he]; simp
      rw [decide_eq_true he, Bool.true_or] at hf
      repeat' (first
       | ((with_reducible refine isD_un ?_); refine awpD_un (as_ev (fun _ => ev_eqA (b := true) stampEq_T (by kernel_rfl) rfl rfl rfl rfl (by rw [← e1]; rfl)) rfl rfl) (by (try simp only [List.nil_append, List.cons_append]); (try rfl)) ?_)
       | ((with_reducible refine isD_gd ?_); refine awpD_gd rfl rfl (by first | with_reducible rfl | with_reducible assumption) (as_ev (fun _ => ev_eqA (b := true) stampEq_T (by kernel_rfl) rfl rfl rfl rfl (by rw [← e1]; rfl)) rfl rfl) (by (try simp only [List.nil_append, List.cons_append]); (try rfl)) ?_)
       | refine st [] ?_
       | ((with_reducible refine is_gd ?_); refine awpL_split rfl rfl (fun h => ?_) (fun h => ?_))
       | ((with_reducible refine isD_gd ?_); ((fail_if_success (refine isD_kn (c := true) rfl (by first | with_reducible rfl | with_reducible assumption) ?_)); (fail_if_success (refine isD_kn (c := false) rfl (by first | with_reducible rfl | with_reducible assumption) ?_)); refine awpD_split rfl (fun h => ?_) (fun h => ?_)))
       | ((with_reducible refine is_awp ?_); refine awp_cond rfl (fun h => ?_) (fun h => ?_))
       | fail)
      refine retP rfl ?_
      rw [hf]; rfl
    · have e1 : (x.count == s.count && x.dev == s.dev) = false := by
        cases hc : (x.count == s.count && x.dev == s.dev) with
        | false => rfl
        | true => exact absurd (stamp_ext (by simpa using hc)) he
      rw [decide_eq_false he, Bool.false_or] at hf
      repeat' (first
       | ((with_reducible refine isD_un ?_); refine awpD_un (as_ev (fun _ => ev_eqA (b := false) stampEq_T (by kernel_rfl) rfl rfl rfl rfl (by rw [← e1]; rfl)) rfl rfl) (by (try simp only [List.nil_append, List.cons_append]); (try rfl)) ?_)
       | ((with_reducible refine isD_gd ?_); refine awpD_gd rfl rfl (by first | with_reducible rfl | with_reducible assumption) (as_ev (fun _ => ev_eqA (b := false) stampEq_T (by kernel_rfl) rfl rfl rfl rfl (by rw [← e1]; rfl)) rfl rfl) (by (try simp only [List.nil_append, List.cons_append]); (try rfl)) ?_)
       | refine st [] ?_
       | ((with_reducible refine is_gd ?_); refine awpL_split rfl rfl (fun h => ?_) (fun h => ?_))
       | ((with_reducible refine isD_gd ?_); ((fail_if_success (refine isD_kn (c := true) rfl (by first | with_reducible rfl | with_reducible assumption) ?_)); (fail_if_success (refine isD_kn (c := false) rfl (by first | with_reducible rfl | with_reducible assumption) ?_)); refine awpD_split rfl (fun h => ?_) (fun h => ?_)))
       | ((with_reducible refine is_awp ?_); refine awp_cond rfl (fun h => ?_) (fun h => ?_))
       | fail)
      exact ⟨k + 1, ⟨(.cons rfl rfl (.cons rfl rfl (.cons rfl rfl .nil))), rfl, rfl, rfl⟩, ⟨by omega, hf⟩, by omega⟩
def FitO (l : List Op) : Prop := l.length ≤ 10000 ∧ ∀ o ∈ l, o.over.length ≤ 100000
set_option maxRecDepth 4000 in
set_option maxHeartbeats 2000000 in
theorem rover_spec (r : Replica) (s : Stamp) (kind note f : Int) (hr : FitO r.ops) : PCalls Tryz.prog g 78 [.agg (repC r), .agg (stampC s), vi kind, vi note, vi f] (vb (overd r.ops s kind note f)) := by
  have hl := hr.1
  refine pcalls' Tryz.func78 Tryz.ntmps78 rfl rfl rfl ?_
  repeat' (first
   | refine stn [] ?_
   | ((with_reducible refine is_gd ?_); refine awpL_split rfl rfl (fun h => ?_) (fun h => ?_))
   | ((with_reducible refine is_awp ?_); refine awp_cond rfl (fun h => ?_) (fun h => ?_))
   | fail)
  refine awp_for (α := Nat) 0 (fun k => [(2, vi kind), (3, vi note), (4, vi f), (5, .fp (repC r)), (6, .fp (stampC s)), (11, vi k)]) (fun _ => []) (fun k => k ≤ r.ops.length ∧ overd r.ops s kind note f = (r.ops.drop k).any (overO kind note f s)) (fun k => r.ops.length - k) 0
    ⟨(.cons rfl rfl (.cons rfl rfl (.cons rfl rfl (.cons rfl rfl (.cons rfl rfl (.cons rfl rfl .nil)))))), rfl, rfl, rfl⟩ ⟨Nat.zero_le _, rfl⟩ ?_
  rintro k ⟨hk, hf⟩
  cases ht : r.ops[k]? with
  | none =>
    have hge : r.ops.length ≤ k := by simpa using ht
    have c1 : decide ((k : Int) < r.ops.length) = false := decide_eq_false (by omega)
    rw [List.drop_of_length_le hge] at hf
    repeat' (first
     | refine stn [] ?_
     | ((with_reducible refine is_gd ?_); refine awpL_split rfl rfl (fun h => ?_) (fun h => ?_))
     | ((with_reducible refine is_awp ?_); refine awp_cond rfl (fun h => ?_) (fun h => ?_))
     | fail)
    refine retP rfl ?_
    rw [hf]; rfl
  | some x =>
    have hlt : k < r.ops.length := (List.getElem?_eq_some_iff.1 ht).1
    have c1 : decide ((k : Int) < r.ops.length) = true := decide_eq_true (by omega)
    have h1 := op_get ht
    have hI := in_spec (g := g) x.over s (by have := hr.2 x (List.mem_of_getElem? ht); omega)
    rw [anyd_drop _ r.ops k x ht, overO] at hf
    cases d1 : decide (x.kind = kind) with
    | false =>
      rw [d1] at hf
      repeat' (first
       | refine stn [] ?_
       | ((with_reducible refine is_gd ?_); refine awpL_split rfl rfl (fun h => ?_) (fun h => ?_))
       | ((with_reducible refine is_awp ?_); refine awp_cond rfl (fun h => ?_) (fun h => ?_))
       | fail)
      exact ⟨k + 1, ⟨(.cons rfl rfl (.cons rfl rfl (.cons rfl rfl (.cons rfl rfl (.cons rfl rfl (.cons rfl rfl .nil)))))), rfl, rfl, rfl⟩, ⟨by omega, by simpa using hf⟩, by omega⟩
    | true =>
    rw [d1] at hf
    cases d2 : decide (x.note.id = note) with
    | false =>
      rw [d2] at hf
      repeat' (first
       | refine stn [] ?_
       | ((with_reducible refine is_gd ?_); refine awpL_split rfl rfl (fun h => ?_) (fun h => ?_))
       | ((with_reducible refine is_awp ?_); refine awp_cond rfl (fun h => ?_) (fun h => ?_))
       | fail)
      exact ⟨k + 1, ⟨(.cons rfl rfl (.cons rfl rfl (.cons rfl rfl (.cons rfl rfl (.cons rfl rfl (.cons rfl rfl .nil)))))), rfl, rfl, rfl⟩, ⟨by omega, by simpa using hf⟩, by omega⟩
    | true =>
    rw [d2] at hf
    cases d3 : decide (kind = 2) with
    | true =>
      rw [d3] at hf
      cases hi : x.over.any (fun q => decide (q = s)) with
      | true =>
        rw [hi] at hf hI
        repeat' (first
         | refine stn [] ?_
         | ((with_reducible refine is_gd ?_); refine awpL_split rfl rfl (fun h => ?_) (fun h => ?_))
         | ((with_reducible refine is_awp ?_); refine awp_cond rfl (fun h => ?_) (fun h => ?_))
         | fail)
        refine retP rfl ?_
        rw [hf]; simp [ex]
      | false =>
        rw [hi] at hf hI
        repeat' (first
         | refine stn [] ?_
         | ((with_reducible refine is_gd ?_); refine awpL_split rfl rfl (fun h => ?_) (fun h => ?_))
         | ((with_reducible refine is_awp ?_); refine awp_cond rfl (fun h => ?_) (fun h => ?_))
         | fail)
        exact ⟨k + 1, ⟨(.cons rfl rfl (.cons rfl rfl (.cons rfl rfl (.cons rfl rfl (.cons rfl rfl (.cons rfl rfl .nil)))))), rfl, rfl, rfl⟩, ⟨by omega, by simpa using hf⟩, by omega⟩
    | false =>
    rw [d3] at hf
    cases d4 : decide (x.set = f) with
    | false =>
      rw [d4] at hf
      repeat' (first
       | refine stn [] ?_
       | ((with_reducible refine is_gd ?_); refine awpL_split rfl rfl (fun h => ?_) (fun h => ?_))
       | ((with_reducible refine is_awp ?_); refine awp_cond rfl (fun h => ?_) (fun h => ?_))
       | fail)
      exact ⟨k + 1, ⟨(.cons rfl rfl (.cons rfl rfl (.cons rfl rfl (.cons rfl rfl (.cons rfl rfl (.cons rfl rfl .nil)))))), rfl, rfl, rfl⟩, ⟨by omega, by simpa using hf⟩, by omega⟩
    | true =>
      rw [d4] at hf
      cases hi : x.over.any (fun q => decide (q = s)) with
      | true =>
        rw [hi] at hf hI
        repeat' (first
         | refine stn [] ?_
         | ((with_reducible refine is_gd ?_); refine awpL_split rfl rfl (fun h => ?_) (fun h => ?_))
         | ((with_reducible refine is_awp ?_); refine awp_cond rfl (fun h => ?_) (fun h => ?_))
         | fail)
        refine retP rfl ?_
        rw [hf]; simp [ex]
      | false =>
        rw [hi] at hf hI
        repeat' (first
         | refine stn [] ?_
         | ((with_reducible refine is_gd ?_); refine awpL_split rfl rfl (fun h => ?_) (fun h => ?_))
         | ((with_reducible refine is_awp ?_); refine awp_cond rfl (fun h => ?_) (fun h => ?_))
         | fail)
        exact ⟨k + 1, ⟨(.cons rfl rfl (.cons rfl rfl (.cons rfl rfl (.cons rfl rfl (.cons rfl rfl (.cons rfl rfl .nil)))))), rfl, rfl, rfl⟩, ⟨by omega, by simpa using hf⟩, by omega⟩
set_option maxRecDepth 4000 in
set_option maxHeartbeats 2000000 in
theorem rvalues_spec (r : Replica) (note f : Int) (hr : FitO r.ops) : PCalls Tryz.prog g 49 [.agg (repC r), vi note, vi f] (encVals (valuesL r.ops note f)) := by
  have hl := hr.1
  have n1 : (!true) = false := rfl
  have n2 : (!false) = true := rfl
  refine pcalls' Tryz.func49 Tryz.ntmps49 rfl rfl rfl ?_
  repeat' (first
   | refine stn [] ?_
   | ((with_reducible refine is_gd ?_); refine awpL_split rfl rfl (fun h => ?_) (fun h => ?_))
   | ((with_reducible refine is_awp ?_); refine awp_cond rfl (fun h => ?_) (fun h => ?_))
   | fail)
  refine awp_adopt (t := 7) (E := 59) (sz := 4) rfl rfl rfl ?_
  refine awp_for (α := Nat) 1 (fun k => [(1, vi note), (2, vi f), (3, .fp (repC r)), (7, .os 0 0), (8, vi k)]) (fun k => [.own 0 59 4 ((valsK r.ops note f k).map valC)]) (fun k => k ≤ r.ops.length) (fun k => r.ops.length - k) 0
    ⟨(.cons rfl rfl (.cons rfl rfl (.cons rfl rfl (.cons rfl rfl (.cons rfl rfl .nil))))), rfl, rfl, rfl⟩ (Nat.zero_le _) ?_
  rintro k hk
  cases ht : r.ops[k]? with
  | none =>
    have hge : r.ops.length ≤ k := by simpa using ht
    have c1 : decide ((k : Int) < r.ops.length) = false := decide_eq_false (by omega)
    have hD : valsK r.ops note f k = valuesL r.ops note f := by unfold valsK valuesL; rw [List.take_of_length_le hge]
    rw [hD]
    repeat' (first
     | refine stn [] ?_
     | ((with_reducible refine is_gd ?_); refine awpL_split rfl rfl (fun h => ?_) (fun h => ?_))
     | ((with_reducible refine is_awp ?_); refine awp_cond rfl (fun h => ?_) (fun h => ?_))
     | fail)
    refine retP rfl ?_
    simp [ex]
  | some x =>
    have hlt : k < r.ops.length := (List.getElem?_eq_some_iff.1 ht).1
    have c1 : decide ((k : Int) < r.ops.length) = true := decide_eq_true (by omega)
    have h1 := op_get ht
    have hW := rWrites_spec (g := g) x note f
    have hO := rover_spec (g := g) r x.at_ 1 note f hr
    have hV := rValue_spec (g := g) x f
    have hcl := valsK_len r.ops note f k
    cases hw : writes x note f with
    | false =>
      have hS := valsK_no (note := note) (f := f) ht (by rw [keepV, hw]; rfl)
      rw [hw] at hW
      repeat' (first
       | refine stn [] ?_
       | ((with_reducible refine is_gd ?_); refine awpL_split rfl rfl (fun h => ?_) (fun h => ?_))
       | ((with_reducible refine is_awp ?_); refine awp_cond rfl (fun h => ?_) (fun h => ?_))
       | fail)
      exact ⟨k + 1, by rw [hS]; exact ⟨(.cons rfl rfl (.cons rfl rfl (.cons rfl rfl (.cons rfl rfl (.cons rfl rfl .nil))))), rfl, rfl, rfl⟩, by omega, by omega⟩
    | true =>
      rw [hw] at hW
      cases ho : overd r.ops x.at_ 1 note f with
      | true =>
        have hS := valsK_no (note := note) (f := f) ht (by rw [keepV, hw, ho]; rfl)
        rw [ho] at hO
        repeat' (first
         | refine stn [] ?_
         | ((with_reducible refine is_gd ?_); refine awpL_split rfl rfl (fun h => ?_) (fun h => ?_))
         | ((with_reducible refine is_awp ?_); refine awp_cond rfl (fun h => ?_) (fun h => ?_))
         | fail)
        exact ⟨k + 1, by rw [hS]; exact ⟨(.cons rfl rfl (.cons rfl rfl (.cons rfl rfl (.cons rfl rfl (.cons rfl rfl .nil))))), rfl, rfl, rfl⟩, by omega, by omega⟩
      | false =>
        have hS := valsK_yes (note := note) (f := f) ht (by rw [keepV, hw, ho]; rfl)
        rw [ho] at hO
        have hj : (valsK r.ops note f k).map valC ++ [valC (valueOf x f)] = (valsK r.ops note f (k + 1)).map valC := by rw [hS]; simp
        generalize valsK r.ops note f k = M at hcl hj ⊢
        generalize hM' : valsK r.ops note f (k + 1) = M' at hj
        have hmb : (M.map valC).length ≤ 100000 := by rw [List.length_map]; omega
        repeat' (first
         | ((with_reducible refine is_un ?_); refine awpL_ev2 (ev_app (es' := M'.map valC) rfl rfl rfl rfl rfl rfl rfl rfl rfl rfl rfl rfl rfl (by simp only [List.length_map, List.length_cons, List.length_nil, List.length_append, List.length_take]; omega) hj rfl) rfl ?_)
         | refine stn [] ?_
         | ((with_reducible refine is_gd ?_); refine awpL_split rfl rfl (fun h => ?_) (fun h => ?_))
         | ((with_reducible refine is_awp ?_); refine awp_cond rfl (fun h => ?_) (fun h => ?_))
         | fail)
        exact ⟨k + 1, by rw [hM']; exact ⟨(.cons rfl rfl (.cons rfl rfl (.cons rfl rfl (.cons rfl rfl (.cons rfl rfl .nil))))), rfl, rfl, rfl⟩, by omega, by omega⟩
end Go.Proofs.YtekkpfbjnjjcbaaGreatDoor
end
section
set_option linter.unusedVariables false
set_option linter.unusedSimpArgs false
set_option linter.unusedSectionVars false
namespace Go.Proofs.YtekkpfbjnjjcbaaGreatDoor
open Go.Ac Go.MapKept
attribute [local irreducible] awp awpL Ev Ev2 EvS thenQ blockQ retQ PCalls OCalls YieldOk IterC
set_option linter.unusedSimpArgs false
set_option linter.unusedVariables false
variable {g : List (Nat × List AV)}
theorem lives_yes {l : List Op} {note : Int} {a : Op} (ha : addedO l note = some a) {f : Nat} (hf : f < 3) (h : saved l note f = true) : lives l note = true := by
  unfold lives
  rw [ha]
  rcases (show f = 0 ∨ f = 1 ∨ f = 2 by omega) with rfl | rfl | rfl
  · rw [show saved l note 0 = true from h]; rfl
  · rw [show saved l note 1 = true from h]; simp
  · rw [show saved l note 2 = true from h]; simp
theorem lives_no {l : List Op} {note : Int} (h : ∀ f : Nat, f < 3 → saved l note f = false) : lives l note = false := by
  unfold lives
  rw [show saved l note 0 = false from h 0 (by omega), show saved l note 1 = false from h 1 (by omega), show saved l note 2 = false from h 2 (by omega)]
  simp
theorem lives_none {l : List Op} {note : Int} (h : addedO l note = none) : lives l note = false := by
  unfold lives; rw [h]; rfl
theorem lives_cell {l : List Op} {note : Int} (h : lives l note = true) : ∃ a, addedO l note = some a ∧ cell l note = some (cellOf l note a) := by
  have := cell_lives (l := l) (note := note)
  rw [h] at this
  obtain ⟨c, hc⟩ := Option.isSome_iff_exists.1 this
  obtain ⟨a, h1, h2, _⟩ := cell_inv hc
  exact ⟨a, h1, by rw [hc, h2]⟩
theorem lives_cellN {l : List Op} {note : Int} (h : lives l note = false) : cell l note = none := by
  have := cell_lives (l := l) (note := note)
  rw [h] at this
  simpa using this
set_option maxRecDepth 4000 in
set_option maxHeartbeats 2000000 in
theorem rlives_spec (r : Replica) (note : Int) (hr : FitO r.ops) : PCalls Tryz.prog g 47 [.agg (repC r), vi note] (vb (lives r.ops note)) := by
  have hl := hr.1
  have n1 : (!true) = false := rfl
  have n2 : (!false) = true := rfl
  have hA := rAdded_spec (g := g) r.ops note (by omega)
  rw [addedV] at hA
  refine pcalls' Tryz.func47 Tryz.ntmps47 rfl rfl rfl ?_
  cases ha : addedO r.ops note with
  | none =>
    rw [ha] at hA
    simp only [Option.getD_none, Option.isSome_none] at hA
    rw [lives_none ha]
    repeat' (first
     | refine stn [] ?_
     | ((with_reducible refine is_gd ?_); refine awpL_split rfl rfl (fun h => ?_) (fun h => ?_))
     | ((with_reducible refine is_awp ?_); refine awp_cond rfl (fun h => ?_) (fun h => ?_))
     | fail)
    refine awp_for (α := Nat) 0 (fun k => [(6, vb false), (7, vi k)]) (fun _ => []) (fun k => k = 0) (fun k => k) 0
      ⟨(.cons rfl rfl (.cons rfl rfl .nil)), rfl, rfl, rfl⟩ rfl ?_
    rintro k rfl
    have c1 : decide (((0 : Nat) : Int) ≤ 2) = true := rfl
    repeat' (first
     | refine stn [] ?_
     | ((with_reducible refine is_gd ?_); refine awpL_split rfl rfl (fun h => ?_) (fun h => ?_))
     | ((with_reducible refine is_awp ?_); refine awp_cond rfl (fun h => ?_) (fun h => ?_))
     | fail)
    exact retP rfl rfl
  | some a =>
  rw [ha] at hA
  simp only [Option.getD_some, Option.isSome_some] at hA
  repeat' (first
   | refine stn [] ?_
   | ((with_reducible refine is_gd ?_); refine awpL_split rfl rfl (fun h => ?_) (fun h => ?_))
   | ((with_reducible refine is_awp ?_); refine awp_cond rfl (fun h => ?_) (fun h => ?_))
   | fail)
  refine awp_for (α := Nat) 0 (fun k => [(1, vi note), (2, .fp (repC r)), (6, vb true), (7, vi k)]) (fun _ => []) (fun k => k ≤ 3 ∧ ∀ f : Nat, f < k → saved r.ops note f = false) (fun k => 3 - k) 0
    ⟨(.cons rfl rfl (.cons rfl rfl (.cons rfl rfl (.cons rfl rfl .nil)))), rfl, rfl, rfl⟩ ⟨by omega, fun f h => by omega⟩ ?_
  rintro k ⟨hk, hsv⟩
  by_cases hk3 : k < 3
  · have c1 : decide ((k : Int) ≤ 2) = true := decide_eq_true (by omega)
    have hV := rvalues_spec (g := g) r note k hr
    have hVl := valuesL_len r.ops note k
    have hss : ∀ v ∈ valuesL r.ops note k, overd r.ops v.at_ 2 note k = false → saved r.ops note k = true := fun v hv ho => by
      unfold saved; rw [List.any_eq_true]; exact ⟨v, hv, by rw [ho]; rfl⟩
    have hsf := saved_false (l := r.ops) (note := note) (f := (k : Int))
    generalize valuesL r.ops note k = V at *
    repeat' (first
     | refine stn [] ?_
     | ((with_reducible refine is_gd ?_); refine awpL_split rfl rfl (fun h => ?_) (fun h => ?_))
     | ((with_reducible refine is_awp ?_); refine awp_cond rfl (fun h => ?_) (fun h => ?_))
     | fail)
    refine awp_for (α := Nat) 0 (fun j => [(1, vi note), (2, .fp (repC r)), (6, vb true), (7, vi k), (8, encVals V), (9, vi j)]) (fun _ => []) (fun j => j ≤ V.length ∧ ∀ v ∈ V.take j, overd r.ops v.at_ 2 note k = true) (fun j => V.length - j) 0
      ⟨(.cons rfl rfl (.cons rfl rfl (.cons rfl rfl (.cons rfl rfl (.cons rfl rfl (.cons rfl rfl .nil)))))), rfl, rfl, rfl⟩ ⟨Nat.zero_le _, fun v h => by simp at h⟩ ?_
    rintro j ⟨hj, hall⟩
    cases hs : V[j]? with
    | some v =>
      have hjl : j < V.length := (List.getElem?_eq_some_iff.1 hs).1
      have c3 : decide ((j : Int) < V.length) = true := decide_eq_true (by omega)
      have h2 := val_get hs
      have hO := rover_spec (g := g) r v.at_ 2 note k hr
      cases hov : overd r.ops v.at_ 2 note k with
      | true =>
        rw [hov] at hO
        repeat' (first
         | refine st [] ?_
         | ((with_reducible refine is_gd ?_); refine awpL_split rfl rfl (fun h => ?_) (fun h => ?_))
         | ((with_reducible refine isD_gd ?_); ((fail_if_success (refine isD_kn (c := true) rfl (by first | with_reducible rfl | with_reducible assumption) ?_)); (fail_if_success (refine isD_kn (c := false) rfl (by first | with_reducible rfl | with_reducible assumption) ?_)); refine awpD_split rfl (fun h => ?_) (fun h => ?_)))
         | ((with_reducible refine is_awp ?_); refine awp_cond rfl (fun h => ?_) (fun h => ?_))
         | fail)
        exact ⟨j + 1, ⟨(.cons rfl rfl (.cons rfl rfl (.cons rfl rfl (.cons rfl rfl (.cons rfl rfl (.cons rfl rfl .nil)))))), rfl, rfl, rfl⟩, ⟨by omega, fun w hw => by
          rw [List.take_add_one, hs] at hw
          rcases List.mem_append.1 hw with g | g
          · exact hall w g
          · simp only [Option.toList_some, List.mem_singleton] at g; subst g; exact hov⟩, by omega⟩
      | false =>
        rw [hov] at hO
        rw [lives_yes ha hk3 (hss v (List.mem_of_getElem? hs) hov)]
        repeat' (first
         | refine st [] ?_
         | ((with_reducible refine is_gd ?_); refine awpL_split rfl rfl (fun h => ?_) (fun h => ?_))
         | ((with_reducible refine isD_gd ?_); ((fail_if_success (refine isD_kn (c := true) rfl (by first | with_reducible rfl | with_reducible assumption) ?_)); (fail_if_success (refine isD_kn (c := false) rfl (by first | with_reducible rfl | with_reducible assumption) ?_)); refine awpD_split rfl (fun h => ?_) (fun h => ?_)))
         | ((with_reducible refine is_awp ?_); refine awp_cond rfl (fun h => ?_) (fun h => ?_))
         | fail)
        exact retP rfl rfl
    | none =>
      have hjl : V.length ≤ j := by simpa using hs
      have c3 : decide ((j : Int) < V.length) = false := decide_eq_false (by omega)
      rw [List.take_of_length_le hjl] at hall
      have hsi := hsf hall
      repeat' (first
       | refine stn [] ?_
       | ((with_reducible refine is_gd ?_); refine awpL_split rfl rfl (fun h => ?_) (fun h => ?_))
       | ((with_reducible refine is_awp ?_); refine awp_cond rfl (fun h => ?_) (fun h => ?_))
       | fail)
      exact ⟨k + 1, ⟨(.cons rfl rfl (.cons rfl rfl (.cons rfl rfl (.cons rfl rfl .nil)))), rfl, rfl, rfl⟩, ⟨by omega, fun f hf => by
        rcases Nat.lt_or_ge f k with h | h
        · exact hsv f h
        · have : f = k := by omega
          subst this; exact hsi⟩, by omega⟩
  · have c1 : decide ((k : Int) ≤ 2) = false := decide_eq_false (by omega)
    have hk3' : k = 3 := by omega
    subst hk3'
    rw [lives_no hsv]
    repeat' (first
     | refine stn [] ?_
     | ((with_reducible refine is_gd ?_); refine awpL_split rfl rfl (fun h => ?_) (fun h => ?_))
     | ((with_reducible refine is_awp ?_); refine awp_cond rfl (fun h => ?_) (fun h => ?_))
     | fail)
    exact retP rfl rfl
set_option maxRecDepth 8000 in
set_option maxHeartbeats 2000000 in
theorem rCell_spec (r : Replica) (note : Int) (hr : FitO r.ops) : PCalls Tryz.prog g 17 [.agg (repC r), vi note] (cellV (cell r.ops note)) := by
  have hl := hr.1
  have n1 : (!true) = false := rfl
  have n2 : (!false) = true := rfl
  have hL := rlives_spec (g := g) r note hr
  refine pcalls' Tryz.func17 Tryz.ntmps17 rfl rfl rfl ?_
  cases hlv : lives r.ops note with
  | false =>
    rw [hlv] at hL
    rw [lives_cellN hlv]
    repeat' (first
     | refine stn [4] ?_
     | ((with_reducible refine is_gd ?_); refine awpL_split rfl rfl (fun h => ?_) (fun h => ?_))
     | ((with_reducible refine is_awp ?_); refine awp_cond rfl (fun h => ?_) (fun h => ?_))
     | fail)
    exact retLe rfl (Le.tup (.cons (Le.agg le_zeroCell) (.cons (Le.rfl' _) .nil)))
  | true =>
    rw [hlv] at hL
    obtain ⟨a, ha, hc⟩ := lives_cell hlv
    have hA := rAdded_spec (g := g) r.ops note (by omega)
    rw [addedV, ha] at hA
    simp only [Option.getD_some, Option.isSome_some] at hA
    have h0 := rvalues_spec (g := g) r note 0 hr
    have h1 := rvalues_spec (g := g) r note 1 hr
    have h2 := rvalues_spec (g := g) r note 2 hr
    rw [hc]
    repeat' (first
     | refine st [4] ?_
     | ((with_reducible refine is_gd ?_); refine awpL_split rfl rfl (fun h => ?_) (fun h => ?_))
     | ((with_reducible refine isD_gd ?_); ((fail_if_success (refine isD_kn (c := true) rfl (by first | with_reducible rfl | with_reducible assumption) ?_)); (fail_if_success (refine isD_kn (c := false) rfl (by first | with_reducible rfl | with_reducible assumption) ?_)); refine awpD_split rfl (fun h => ?_) (fun h => ?_)))
     | ((with_reducible refine is_awp ?_); refine awp_cond rfl (fun h => ?_) (fun h => ?_))
     | fail)
    exact retP rfl rfl
set_option maxRecDepth 8000 in
set_option maxHeartbeats 4000000 in
theorem rCells_spec (r : Replica) (rc : Int) (hr : FitO r.ops) : PCalls Tryz.prog g 20 [.agg (repC r), vi rc] (encCells (cells r.ops rc)) := by
  have hl := hr.1
  refine pcalls' Tryz.func20 Tryz.ntmps20 rfl rfl rfl ?_
  have n1 : (!true) = false := rfl
  have n2 : (!false) = true := rfl
  repeat' (first
   | refine stn [] ?_
   | ((with_reducible refine is_gd ?_); refine awpL_split rfl rfl (fun h => ?_) (fun h => ?_))
   | ((with_reducible refine is_awp ?_); refine awp_cond rfl (fun h => ?_) (fun h => ?_))
   | fail)
  refine awp_adopt (t := 5) (E := 36) (sz := 11) rfl rfl rfl ?_
  refine awp_for (α := Nat) 1 (fun k => [(1, vi rc), (2, .fp (repC r)), (5, .os 0 0), (6, vi k)]) (fun k => [.own 0 36 11 ((cellsK r.ops rc k).map cellC)]) (fun k => k ≤ r.ops.length) (fun k => r.ops.length - k) 0
    ⟨(.cons rfl rfl (.cons rfl rfl (.cons rfl rfl (.cons rfl rfl .nil)))), rfl, rfl, rfl⟩ (Nat.zero_le _) ?_
  rintro k hk
  have hcl := cellsK_len r.ops rc k
  cases ht : r.ops[k]? with
  | none =>
    have hge : r.ops.length ≤ k := by simpa using ht
    have c1 : decide ((k : Int) < r.ops.length) = false := decide_eq_false (by omega)
    have hD : cellsK r.ops rc k = cells r.ops rc := by unfold cellsK cells; rw [List.take_of_length_le hge]
    rw [hD]
    repeat' (first
     | refine stn [] ?_
     | ((with_reducible refine is_gd ?_); refine awpL_split rfl rfl (fun h => ?_) (fun h => ?_))
     | ((with_reducible refine is_awp ?_); refine awp_cond rfl (fun h => ?_) (fun h => ?_))
     | fail)
    refine retP rfl ?_
    simp [ex]
  | some x =>
    have hlt : k < r.ops.length := (List.getElem?_eq_some_iff.1 ht).1
    have c1 : decide ((k : Int) < r.ops.length) = true := decide_eq_true (by omega)
    have h1 := op_get ht
    have hC := rCell_spec (g := g) r x.note.id hr
    rw [cellV] at hC
    have hS := cellsK_succ (rc := rc) ht
    rw [cellsStep] at hS
    generalize hM : cellsK r.ops rc k = M at hS hcl ⊢
    generalize hM' : cellsK r.ops rc (k + 1) = M' at hS
    have hmb : (M.map cellC).length ≤ 100000 := by rw [List.length_map]; omega
    by_cases hk0 : x.kind = 0
    · have d1 : (!decide (x.kind = 0)) = false := by simp [hk0]
      by_cases hr2 : x.rec_ = rc
      · have d2 : (!decide (x.rec_ = rc)) = false := by simp [hr2]
        rw [if_pos ⟨hk0, hr2⟩] at hS
        cases hc : cell r.ops x.note.id with
        | none =>
          rw [hc] at hC hS
          simp only [Option.getD_none, Option.isSome_none] at hC
          simp only at hS
          subst hS
          repeat' (first
           | refine st [] ?_
           | ((with_reducible refine is_gd ?_); refine awpL_split rfl rfl (fun h => ?_) (fun h => ?_))
           | ((with_reducible refine isD_gd ?_); ((fail_if_success (refine isD_kn (c := true) rfl (by first | with_reducible rfl | with_reducible assumption) ?_)); (fail_if_success (refine isD_kn (c := false) rfl (by first | with_reducible rfl | with_reducible assumption) ?_)); refine awpD_split rfl (fun h => ?_) (fun h => ?_)))
           | ((with_reducible refine is_awp ?_); refine awp_cond rfl (fun h => ?_) (fun h => ?_))
           | fail)
          exact ⟨k + 1, by rw [hM']; exact ⟨(.cons rfl rfl (.cons rfl rfl (.cons rfl rfl (.cons rfl rfl .nil)))), rfl, rfl, rfl⟩, by omega, by omega⟩
        | some c =>
          rw [hc] at hC hS
          simp only [Option.getD_some, Option.isSome_some] at hC
          simp only at hS
          have hj : M.map cellC ++ [cellC c] = M'.map cellC := by rw [hS]; simp
          repeat' (first
           | ((with_reducible refine is_un ?_); refine awpL_ev2 (ev_app (es' := M'.map cellC) rfl rfl rfl rfl rfl rfl rfl rfl rfl rfl rfl rfl rfl (by simp only [List.length_map, List.length_cons, List.length_nil, List.length_append, List.length_take]; omega) hj rfl) rfl ?_)
           | refine st [] ?_
           | ((with_reducible refine is_gd ?_); refine awpL_split rfl rfl (fun h => ?_) (fun h => ?_))
           | ((with_reducible refine isD_gd ?_); ((fail_if_success (refine isD_kn (c := true) rfl (by first | with_reducible rfl | with_reducible assumption) ?_)); (fail_if_success (refine isD_kn (c := false) rfl (by first | with_reducible rfl | with_reducible assumption) ?_)); refine awpD_split rfl (fun h => ?_) (fun h => ?_)))
           | ((with_reducible refine is_awp ?_); refine awp_cond rfl (fun h => ?_) (fun h => ?_))
           | fail)
          exact ⟨k + 1, by rw [hM']; exact ⟨(.cons rfl rfl (.cons rfl rfl (.cons rfl rfl (.cons rfl rfl .nil)))), rfl, rfl, rfl⟩, by omega, by omega⟩
      · have d2 : (!decide (x.rec_ = rc)) = true := by simp [hr2]
        rw [if_neg (fun h => hr2 h.2)] at hS
        subst hS
        repeat' (first
         | refine st [] ?_
         | ((with_reducible refine is_gd ?_); refine awpL_split rfl rfl (fun h => ?_) (fun h => ?_))
         | ((with_reducible refine isD_gd ?_); ((fail_if_success (refine isD_kn (c := true) rfl (by first | with_reducible rfl | with_reducible assumption) ?_)); (fail_if_success (refine isD_kn (c := false) rfl (by first | with_reducible rfl | with_reducible assumption) ?_)); refine awpD_split rfl (fun h => ?_) (fun h => ?_)))
         | ((with_reducible refine is_awp ?_); refine awp_cond rfl (fun h => ?_) (fun h => ?_))
         | fail)
        exact ⟨k + 1, by rw [hM']; exact ⟨(.cons rfl rfl (.cons rfl rfl (.cons rfl rfl (.cons rfl rfl .nil)))), rfl, rfl, rfl⟩, by omega, by omega⟩
    · have d1 : (!decide (x.kind = 0)) = true := by simp [hk0]
      rw [if_neg (fun h => hk0 h.1)] at hS
      subst hS
      repeat' (first
       | refine st [] ?_
       | ((with_reducible refine is_gd ?_); refine awpL_split rfl rfl (fun h => ?_) (fun h => ?_))
       | ((with_reducible refine isD_gd ?_); ((fail_if_success (refine isD_kn (c := true) rfl (by first | with_reducible rfl | with_reducible assumption) ?_)); (fail_if_success (refine isD_kn (c := false) rfl (by first | with_reducible rfl | with_reducible assumption) ?_)); refine awpD_split rfl (fun h => ?_) (fun h => ?_)))
       | ((with_reducible refine is_awp ?_); refine awp_cond rfl (fun h => ?_) (fun h => ?_))
       | fail)
      exact ⟨k + 1, by rw [hM']; exact ⟨(.cons rfl rfl (.cons rfl rfl (.cons rfl rfl (.cons rfl rfl .nil)))), rfl, rfl, rfl⟩, by omega, by omega⟩
end Go.Proofs.YtekkpfbjnjjcbaaGreatDoor
end
section
set_option linter.unusedVariables false
set_option linter.unusedSimpArgs false
set_option linter.unusedSectionVars false
namespace Go.Proofs.YtekkpfbjnjjcbaaGreatDoor
open Go.RowKit Go.Shelf Go.Lib Go.Sort
set_option maxHeartbeats 2000000 in
theorem zStamp (a b c d : Int) (W : World) : Calls Tryz.prog 86 #[.agg #[.int .i64 a, .int .i64 b], .agg #[.int .i64 c, .int .i64 d]] W fun e w' => e = .returned (.int .i64 (if (decide (a < c) || (decide (a = c) && decide (b < d))) = true then -1 else 1)) ∧ ∃ q os', w' = grow (W.drewN q) os' := by
  have hL := zLess a b c d
  generalize (decide (a < c) || (decide (a = c) && decide (b < d))) = r at hL ⊢
  cases r with
  | true =>
    go_enter Tryz.func86, Tryz.ntmps86
    go_wp2_with (go_at_call 71; refine (hL _).mono ?_; rintro e w' ⟨rfl, q, os', hw'⟩; rw [hw'])
    go_ret
    exact ⟨rfl, q, _, grow3 _ _ _ _ _⟩
  | false =>
    go_enter Tryz.func86, Tryz.ntmps86
    go_wp2_with (go_at_call 71; refine (hL _).mono ?_; rintro e w' ⟨rfl, q, os', hw'⟩; rw [hw'])
    go_ret
    exact ⟨rfl, q, _, grow3 _ _ _ _ _⟩
def sortStamps_ren : Go.Shelf.Ren := ⟨fun | 6 => 85 | 15 => 103 | 14 => 106 | 28 => 122 | 29 => 123 | 20 => 124 | 21 => 125 | 22 => 126 | 23 => 127 | 24 => 128 | 25 => 129 | 26 => 130 | 27 => 131 | 46 => 139 | 47 => 135 | 48 => 136 | 49 => 140 | 50 => 141 | 57 => 146 | n => n, fun | 22 => 60 | 24 => 57 | 25 => 118 | 3 => 3 | 39 => 129 | 0 => 0 | 53 => 144 | 55 => 146 | 4 => 4 | 46 => 138 | 45 => 137 | 50 => 105 | 5 => 5 | 9 => 9 | 66 => 154 | 70 => 158 | 76 => 168 | 77 => 166 | n => n, fun n => n⟩
theorem sortStamps : Go.Proofs.SlLaysF0.n6 Tryz.prog sortStamps_ren := {
  mixed := by kernel_rfl
  f6 := ⟨ "slices.SortFunc[[]langdoc/api.Stamp,langdoc/api.Stamp]", by kernel_rfl, Tryz.func85.trans (congrArg some (by kernel_rfl))⟩
  f14 := ⟨ "slices.pdqsortCmpFunc[langdoc/api.Stamp]", by kernel_rfl, Tryz.func106.trans (congrArg some (by kernel_rfl))⟩
  f15 := Tryz.func103.trans (congrArg some (by kernel_rfl))
  f20 := ⟨ "slices.insertionSortCmpFunc[langdoc/api.Stamp]", by kernel_rfl, Tryz.func124.trans (congrArg some (by kernel_rfl))⟩
  f21 := ⟨ "slices.heapSortCmpFunc[langdoc/api.Stamp]", by kernel_rfl, Tryz.func125.trans (congrArg some (by kernel_rfl))⟩
  f22 := ⟨ "slices.breakPatternsCmpFunc[langdoc/api.Stamp]", by kernel_rfl, Tryz.func126.trans (congrArg some (by kernel_rfl))⟩
  f23 := ⟨ "slices.choosePivotCmpFunc[langdoc/api.Stamp]", by kernel_rfl, Tryz.func127.trans (congrArg some (by kernel_rfl))⟩
  f24 := ⟨ "slices.reverseRangeCmpFunc[langdoc/api.Stamp]", by kernel_rfl, Tryz.func128.trans (congrArg some (by kernel_rfl))⟩
  f25 := ⟨ "slices.partialInsertionSortCmpFunc[langdoc/api.Stamp]", by kernel_rfl, Tryz.func129.trans (congrArg some (by kernel_rfl))⟩
  f26 := ⟨ "slices.partitionEqualCmpFunc[langdoc/api.Stamp]", by kernel_rfl, Tryz.func130.trans (congrArg some (by kernel_rfl))⟩
  f27 := ⟨ "slices.partitionCmpFunc[langdoc/api.Stamp]", by kernel_rfl, Tryz.func131.trans (congrArg some (by kernel_rfl))⟩
  f28 := Tryz.func122.trans (congrArg some (by kernel_rfl))
  f29 := Tryz.func123.trans (congrArg some (by kernel_rfl))
  f46 := ⟨ "slices.siftDownCmpFunc[langdoc/api.Stamp]", by kernel_rfl, Tryz.func139.trans (congrArg some (by kernel_rfl))⟩
  f47 := Tryz.func135.trans (congrArg some (by kernel_rfl))
  f48 := Tryz.func136.trans (congrArg some (by kernel_rfl))
  f49 := ⟨ "slices.medianAdjacentCmpFunc[langdoc/api.Stamp]", by kernel_rfl, Tryz.func140.trans (congrArg some (by kernel_rfl))⟩
  f50 := ⟨ "slices.medianCmpFunc[langdoc/api.Stamp]", by kernel_rfl, Tryz.func141.trans (congrArg some (by kernel_rfl))⟩
  f57 := ⟨ "slices.order2CmpFunc[langdoc/api.Stamp]", by kernel_rfl, Tryz.func146.trans (congrArg some (by kernel_rfl))⟩
  t0 := Tryz.underlying0
  a0 := Tryz.isAgg0
  z0 := Tryz.sizeOf0
  v0 := Tryz.zeroValue0
  t3 := Tryz.underlying3
  a3 := Tryz.isAgg3
  z3 := Tryz.sizeOf3
  v3 := Tryz.zeroValue3
  t4 := Tryz.underlying4
  a4 := Tryz.isAgg4
  z4 := Tryz.sizeOf4
  v4 := Tryz.zeroValue4
  t5 := Tryz.underlying5
  a5 := Tryz.isAgg5
  z5 := Tryz.sizeOf5
  v5 := Tryz.zeroValue5
  t9 := Tryz.underlying9
  a9 := Tryz.isAgg9
  z9 := Tryz.sizeOf9
  v9 := Tryz.zeroValue9
  t22 := Tryz.underlying60
  a22 := Tryz.isAgg60
  z22 := Tryz.sizeOf60
  v22 := Tryz.zeroValue60
  t25 := Tryz.underlying118
  a25 := Tryz.isAgg118
  z25 := Tryz.sizeOf118
  v25 := Tryz.zeroValue118
  t39 := Tryz.underlying129
  a39 := Tryz.isAgg129
  z39 := Tryz.sizeOf129
  v39 := Tryz.zeroValue129
  t45 := Tryz.underlying137
  a45 := Tryz.isAgg137
  z45 := Tryz.sizeOf137
  v45 := Tryz.zeroValue137
  t46 := Tryz.underlying138
  a46 := Tryz.isAgg138
  z46 := Tryz.sizeOf138
  v46 := Tryz.zeroValue138
  t50 := Tryz.underlying105
  a50 := Tryz.isAgg105
  z50 := Tryz.sizeOf105
  v50 := Tryz.zeroValue105
  t53 := Tryz.underlying144
  a53 := Tryz.isAgg144
  z53 := Tryz.sizeOf144
  v53 := Tryz.zeroValue144
  t55 := Tryz.underlying146
  a55 := Tryz.isAgg146
  z55 := Tryz.sizeOf146
  v55 := Tryz.zeroValue146
  t66 := Tryz.underlying154
  a66 := Tryz.isAgg154
  z66 := Tryz.sizeOf154
  v66 := Tryz.zeroValue154
  t70 := Tryz.underlying158
  a70 := Tryz.isAgg158
  z70 := Tryz.sizeOf158
  v70 := Tryz.zeroValue158
  t76 := Tryz.underlying168
  a76 := Tryz.isAgg168
  z76 := Tryz.sizeOf168
  v76 := Tryz.zeroValue168
  t77 := Tryz.underlying166
  a77 := Tryz.isAgg166
  z77 := Tryz.sizeOf166
  v77 := Tryz.zeroValue166 }
def encSt (s : Stamp) : List Value := [.int .i64 s.count, .int .i64 s.dev]
def cmpSt (a b : Stamp) : Int := if less a b = true then -1 else 1
theorem ltSt (a b : Stamp) : ltOf cmpSt a b = less a b := by
  unfold ltOf cmpSt
  cases less a b <;> simp
theorem swoSt : SWO (ltOf cmpSt) where
  irrefl x := by rw [ltSt]; exact less_irr _
  trans x y z h1 h2 := by rw [ltSt] at *; exact less_trans h1 h2
  ntrans x y z h1 h2 := by
    rw [ltSt] at *
    rcases nless_iff.1 h1 with h | h
    · exact less_asym (le_less (nless_iff.2 (nless_iff.1 h2)) h)
    · rw [← h] at *; exact h2
theorem laysSt (blk off size : Nat) (w : World) : CmpLays Tryz.prog 86 #[] encSt 2 cmpSt blk off size w :=
  fun _ _ _ _ x y => zStamp x.count x.dev y.count y.dev _
theorem sortStamps_calls (d : List Stamp) (blk cap : Nat) (w : World) (hsz : d.length ≤ 1000000) (hH : HoldsK encSt 2 w blk 0 d.toArray) (hb : blk < w.heap.size) :
    Calls Tryz.prog 85 #[.slice (some ⟨blk, 0, none⟩) d.toArray.size cap, .func (.func 86) #[] #[]] w fun e w' => e = .returned (.tuple #[]) ∧ ∃ d' n os, PermIn 0 d.toArray.size d.toArray d' ∧ SortedIn (ltOf cmpSt) 0 d.toArray.size d' ∧ w' = sortWorldK encSt 2 w blk 0 n d' os :=
  AnyQ.slices_SortFunc sortStamps 2 Tryz.isAgg57 Tryz.sizeOf57 encSt (fun _ => rfl) (fun x v hv => by simp [encSt] at hv; rcases hv with rfl | rfl <;> rfl) cmpSt swoSt 86 #[] blk 0 cap d.toArray w
    (enters_of Tryz.func86 (by kernel_rfl) rfl) (laysSt blk 0 d.toArray.size w) hH hb (by simp; omega)
theorem sortStamps_none (w : World) : Calls Tryz.prog 85 #[.slice none 0 0, .func (.func 86) #[] #[]] w fun e w' => e = .returned (.tuple #[]) ∧ ∃ n os, w' = Go.Sort.grow (Go.Sort.ahead w n) os :=
  (AnyF.slices_SortFunc_none (P := Tryz.prog) (ρ := sortStamps_ren) sortStamps none 0 (.func (.func 86) #[] #[]) w).mono fun _ _ ⟨h1, h2⟩ => ⟨h1, 0, #[], by rw [h2]; simp [Go.Sort.grow]⟩
end Go.Proofs.YtekkpfbjnjjcbaaGreatDoor
end
