/- A logic of trees over the model's steps, and the contracts of the functions that the laws reach: part 8 of 11. -/
import Derived.Test.YtifpafbmfedpkaaGreatDoorB7
section
set_option linter.unusedVariables false
set_option linter.unusedSimpArgs false
set_option linter.unusedSectionVars false
namespace Go.Proofs.YtifpafbmfedpkaaGreatDoor
open Go.Ac
attribute [local irreducible] awp awpL Ev Ev2 EvS thenQ blockQ retQ PCalls OCalls YieldOk IterC
set_option linter.unusedSimpArgs false
set_option linter.unusedVariables false
variable {g : List (Nat × List AV)}
def Ids (l : List Op) : Prop := ∀ o ∈ l, I64 o.note.id
set_option maxRecDepth 4000 in
set_option maxHeartbeats 4000000 in
theorem rOne_spec (l : List Op) (i : Nat) (o : Op) (hl : l.length ≤ 1000000) (hi : l[i]? = some o) (hid : I64 o.note.id) : PCalls Tryz.prog g 29 [encOps l, vi i] (vi (oneE (l.take i) o)) := by
  have hlt : i < l.length := (List.getElem?_eq_some_iff.1 hi).1
  have g1 := op_get hi
  have hC := rOp_spec (g := g) o hid
  refine pcalls' Tryz.func29 Tryz.ntmps29 rfl rfl rfl ?_
  have n1 : (!true) = false := rfl
  have n2 : (!false) = true := rfl
  by_cases hE : opE o = 0
  case neg =>
    have c0 : (!decide (opE o = 0)) = true := by simp [hE]
    rw [oneE_bad hE]
    refine runn [] ?_
    exact retP rfl rfl
  case pos =>
  have c0 : (!decide (opE o = 0)) = false := by simp [hE]
  have rest : ∀ b, (match (l.take i).getLast? with | some p => less p.at_ o.at_ | none => true) = b → ∃ q, ((i = 0 ∧ b = true) ∨ (0 < i ∧ l[i - 1]? = some q ∧ less q.at_ o.at_ = b)) := by
    intro b hb
    by_cases h0 : i = 0
    · subst h0
      exact ⟨o, .inl ⟨rfl, by simpa using hb.symm⟩⟩
    · have hpos : 0 < i := by omega
      rw [last_take hpos (by omega)] at hb
      obtain ⟨q, hq⟩ : ∃ q, l[i - 1]? = some q := ⟨_, List.getElem?_eq_getElem (by omega)⟩
      rw [hq] at hb
      exact ⟨q, .inr ⟨hpos, hq, hb⟩⟩
  have hidx : 0 < i → ∀ q, l[i - 1]? = some q → 0 ≤ (i : Int) - 1 ∧ (l.map opC)[((i : Int) - 1).toNat]? = some (opC q) := fun h q hq => ⟨by omega, by rw [show ((i : Int) - 1).toNat = i - 1 by omega]; simp [hq]⟩
  cases ha : (match (l.take i).getLast? with | some p => less p.at_ o.at_ | none => true) with
  | false =>
    obtain ⟨q, h | ⟨hpos, hq, hL⟩⟩ := rest _ ha
    · cases h.2
    have c1 : decide ((0 : Int) < (i : Int)) = true := decide_eq_true (by omega)
    have hLs := rLess_spec (g := g) q.at_ o.at_
    rw [hL] at hLs
    have g2 := hidx hpos q hq
    rw [oneE_10 hE ha]
    refine run [] ?_
    exact retP rfl rfl
  | true =>
  have b0 : (0 : Int) ≤ 0 ∧ (0 : Int) ≤ (i : Int) ∧ (i : Int) ≤ (l.length : Nat) := by omega
  have m0 : ((i : Int) - 0).toNat = (l.take i).length := by rw [List.length_take]; omega
  have f0 : ((l.map opC).drop (0 : Int).toNat).take (l.take i).length = (l.take i).map opC := by simp [List.map_take]
  have hA := rAdded_spec (g := g) (l.take i) o.note.id (by rw [List.length_take]; omega)
  have hpl : (l.take i).length ≤ 1000000 := by rw [List.length_take]; omega
  repeat' (first
   | refine stn [] ?_
   | ((with_reducible refine is_awp ?_); refine awp_cond rfl (fun h => ?_) (fun h => ?_))
   | fail)
  refine awp_cut 0 [(0, encOps l), (1, vi i), (5, .fp (opC o)), (34, vb false)] [] ?_ ?_
  · obtain ⟨q, h | ⟨hpos, hq, hL⟩⟩ := rest _ ha
    · have c1 : decide ((0 : Int) < (i : Int)) = false := decide_eq_false (by omega)
      refine run [] ?_
      exact ⟨(.cons rfl rfl (.cons rfl rfl (.cons rfl rfl (.cons rfl rfl .nil)))), rfl, rfl, rfl⟩
    · have c1 : decide ((0 : Int) < (i : Int)) = true := decide_eq_true (by omega)
      have hLs := rLess_spec (g := g) q.at_ o.at_
      rw [hL] at hLs
      have g2 := hidx hpos q hq
      refine run [] ?_
      exact ⟨(.cons rfl rfl (.cons rfl rfl (.cons rfl rfl (.cons rfl rfl .nil)))), rfl, rfl, rfl⟩
  generalize hpre : l.take i = pre at *
  by_cases hk : o.kind = 0
  · have d0 : decide (o.kind = 0) = true := decide_eq_true hk
    rw [oneE_add hE ha hk]
    refine runn [] ?_
    exact retP rfl rfl
  have d0 : decide (o.kind = 0) = false := decide_eq_false hk
  cases hb : (match addedO pre o.note.id with | some a => decide (a.rec_ = o.rec_) | none => false) with
  | false =>
    rw [oneE_9 hE ha hk hb]
    cases hf : addedO pre o.note.id with
    | none =>
      rw [hf] at hA
      replace hA : PCalls Tryz.prog g 45 [encOps pre, vi o.note.id] (.tup [.agg (opC zeroOp), vb false]) := hA
      repeat' (first
       | ((with_reducible refine isD_un ?_); refine awpD_un (as_ev (fun _ => ev_slice_fs rfl rfl rfl rfl rfl rfl rfl b0 m0 f0) rfl rfl) (by (try simp only [List.nil_append, List.cons_append]); (try rfl)) ?_)
       | refine st [] ?_
       | fail)
      exact retP rfl rfl
    | some a =>
      rw [hf] at hA hb
      replace hA : PCalls Tryz.prog g 45 [encOps pre, vi o.note.id] (.tup [.agg (opC a), vb true]) := hA
      have hr : (!decide (a.rec_ = o.rec_)) = true := by simpa using hb
      repeat' (first
       | ((with_reducible refine isD_un ?_); refine awpD_un (as_ev (fun _ => ev_slice_fs rfl rfl rfl rfl rfl rfl rfl b0 m0 f0) rfl rfl) (by (try simp only [List.nil_append, List.cons_append]); (try rfl)) ?_)
       | refine st [] ?_
       | fail)
      exact retP rfl rfl
  | true =>
  obtain ⟨a, hf, hrec⟩ : ∃ a, addedO pre o.note.id = some a ∧ a.rec_ = o.rec_ := by
    cases hf : addedO pre o.note.id with
    | none => rw [hf] at hb; cases hb
    | some a => rw [hf] at hb; exact ⟨a, rfl, by simpa using hb⟩
  rw [hf] at hA
  replace hA : PCalls Tryz.prog g 45 [encOps pre, vi o.note.id] (.tup [.agg (opC a), vb true]) := hA
  have hr : (!decide (a.rec_ = o.rec_)) = false := by simp [hrec]
  repeat' (first
   | ((with_reducible refine isD_un ?_); refine awpD_un (as_ev (fun _ => ev_slice_fs rfl rfl rfl rfl rfl rfl rfl b0 m0 f0) rfl rfl) (by (try simp only [List.nil_append, List.cons_append]); (try rfl)) ?_)
   | refine st [] ?_
   | ((with_reducible refine is_awp ?_); refine awp_cond rfl (fun h => ?_) (fun h => ?_))
   | fail)
  refine awp_for (α := Nat) 0 (fun k => [(0, encOps l), (1, vi i), (5, .fp (opC o)), (9, vi k)]) (fun _ => []) (fun k => k ≤ o.over.length ∧ o.over.all (overOk pre o) = (o.over.drop k).all (overOk pre o)) (fun k => o.over.length - k) 0
    ⟨(.cons rfl rfl (.cons rfl rfl (.cons rfl rfl (.cons rfl rfl .nil)))), rfl, rfl, rfl⟩ ⟨Nat.zero_le _, rfl⟩ ?_
  rintro k ⟨hkl, hall⟩
  cases ht : o.over[k]? with
  | none =>
    have hge : o.over.length ≤ k := by simpa using ht
    have c1 : decide ((k : Int) < o.over.length) = false := decide_eq_false (by omega)
    rw [List.drop_of_length_le hge] at hall
    rw [oneE_0 hE ha hk hb hall]
    refine runn [] ?_
    exact retP rfl rfl
  | some t =>
    have hltk : k < o.over.length := (List.getElem?_eq_some_iff.1 ht).1
    have c1 : decide ((k : Int) < o.over.length) = true := decide_eq_true (by omega)
    have g3 := stamp_get ht
    have h16 := opE_over hE
    rw [all_drop _ _ k t ht] at hall
    repeat' (first
     | refine stn [] ?_
     | ((with_reducible refine is_awp ?_); refine awp_cond rfl (fun h => ?_) (fun h => ?_))
     | fail)
    refine awp_cutB 0 [(0, encOps l), (1, vi i), (5, .fp (opC o)), (9, vi k), (10, vb (overOk pre o t))] [] ?_ ?_
    · refine awp_for (α := Nat) 0 (fun j => [(0, encOps l), (1, vi i), (5, .fp (opC o)), (9, vi k), (10, vb (anyK (okF pre o t) j)), (11, vi j)]) (fun _ => []) (fun j => j ≤ 3) (fun j => 3 - j) 0
        ⟨(.cons rfl rfl (.cons rfl rfl (.cons rfl rfl (.cons rfl rfl (.cons rfl rfl (.cons rfl rfl .nil)))))), rfl, rfl, rfl⟩ (by omega) ?_
      intro j hj
      by_cases hj3 : j = 3
      · subst hj3
        have c2 : decide (((3 : Nat) : Int) ≤ 2) = false := rfl
        refine runn [] ?_
        exact ⟨(.cons rfl rfl (.cons rfl rfl (.cons rfl rfl (.cons rfl rfl (.cons rfl rfl .nil))))), rfl, rfl, rfl⟩
      · have c2 : decide ((j : Int) ≤ 2) = true := decide_eq_true (by omega)
        have hS := anyK_succ (okF pre o t) (j := j) (by omega)
        have hw := rWriter_spec (g := g) pre t o.note.id j hpl
        cases hacc : anyK (okF pre o t) j with
        | true =>
          rw [hacc, Bool.true_or] at hS
          repeat' (first
           | ((with_reducible refine is_draw ?_); refine awp_drawT 27 (by simp only [List.take_succ_cons, List.take_zero, List.take_nil]; rfl) (by simp only [List.drop_succ_cons, List.drop_zero, List.drop_nil]; rfl) (by kernel_rfl) rfl rfl rfl rfl (by repeat' (first | exact Strip.nil | apply Strip.keep rfl | apply Strip.drop rfl)) ?_)
           | refine st [] ?_
           | fail)
          exact ⟨j + 1, ⟨(.cons rfl rfl (.cons rfl rfl (.cons rfl rfl (.cons rfl rfl (.cons rfl (by rw [hS]; rfl) (.cons rfl rfl .nil)))))), rfl, rfl, rfl⟩, by omega, by omega⟩
        | false =>
          rw [hacc, Bool.false_or] at hS
          by_cases k2 : o.kind = 2
          · have e1 : decide (o.kind = 2) = true := decide_eq_true k2
            rw [okF, e1, Bool.true_or, Bool.true_and] at hS
            repeat' (first
             | ((with_reducible refine isD_un ?_); refine awpD_un (as_ev (fun _ => ev_slice_fs rfl rfl rfl rfl rfl rfl rfl b0 m0 f0) rfl rfl) (by (try simp only [List.nil_append, List.cons_append]); (try rfl)) ?_)
             | ((with_reducible refine isD_gd ?_); refine awpD_gd rfl rfl (by first | with_reducible rfl | with_reducible assumption) (as_ev (fun _ => ev_slice_fs rfl rfl rfl rfl rfl rfl rfl b0 m0 f0) rfl rfl) (by (try simp only [List.nil_append, List.cons_append]); (try rfl)) ?_)
             | ((with_reducible refine is_draw ?_); refine awp_drawT 27 (by simp only [List.take_succ_cons, List.take_zero, List.take_nil]; rfl) (by simp only [List.drop_succ_cons, List.drop_zero, List.drop_nil]; rfl) (by kernel_rfl) rfl rfl rfl rfl (by repeat' (first | exact Strip.nil | apply Strip.keep rfl | apply Strip.drop rfl)) ?_)
             | refine st [] ?_
             | fail)
            exact ⟨j + 1, ⟨(.cons rfl rfl (.cons rfl rfl (.cons rfl rfl (.cons rfl rfl (.cons rfl (by rw [hS]; rfl) (.cons rfl rfl .nil)))))), rfl, rfl, rfl⟩, by omega, by omega⟩
          · have e1 : decide (o.kind = 2) = false := decide_eq_false k2
            by_cases k3 : (j : Int) = o.set
            · have e2 : decide ((j : Int) = o.set) = true := decide_eq_true k3
              rw [okF, e1, e2, Bool.false_or, Bool.true_and] at hS
              repeat' (first
               | ((with_reducible refine isD_un ?_); refine awpD_un (as_ev (fun _ => ev_slice_fs rfl rfl rfl rfl rfl rfl rfl b0 m0 f0) rfl rfl) (by (try simp only [List.nil_append, List.cons_append]); (try rfl)) ?_)
               | ((with_reducible refine isD_gd ?_); refine awpD_gd rfl rfl (by first | with_reducible rfl | with_reducible assumption) (as_ev (fun _ => ev_slice_fs rfl rfl rfl rfl rfl rfl rfl b0 m0 f0) rfl rfl) (by (try simp only [List.nil_append, List.cons_append]); (try rfl)) ?_)
               | ((with_reducible refine is_draw ?_); refine awp_drawT 27 (by simp only [List.take_succ_cons, List.take_zero, List.take_nil]; rfl) (by simp only [List.drop_succ_cons, List.drop_zero, List.drop_nil]; rfl) (by kernel_rfl) rfl rfl rfl rfl (by repeat' (first | exact Strip.nil | apply Strip.keep rfl | apply Strip.drop rfl)) ?_)
               | refine st [] ?_
               | fail)
              exact ⟨j + 1, ⟨(.cons rfl rfl (.cons rfl rfl (.cons rfl rfl (.cons rfl rfl (.cons rfl (by rw [hS]; rfl) (.cons rfl rfl .nil)))))), rfl, rfl, rfl⟩, by omega, by omega⟩
            · have e2 : decide ((j : Int) = o.set) = false := decide_eq_false k3
              rw [okF, e1, e2, Bool.false_or, Bool.false_and] at hS
              repeat' (first
               | ((with_reducible refine is_draw ?_); refine awp_drawT 27 (by simp only [List.take_succ_cons, List.take_zero, List.take_nil]; rfl) (by simp only [List.drop_succ_cons, List.drop_zero, List.drop_nil]; rfl) (by kernel_rfl) rfl rfl rfl rfl (by repeat' (first | exact Strip.nil | apply Strip.keep rfl | apply Strip.drop rfl)) ?_)
               | refine st [] ?_
               | fail)
              exact ⟨j + 1, ⟨(.cons rfl rfl (.cons rfl rfl (.cons rfl rfl (.cons rfl rfl (.cons rfl (by rw [hS]; rfl) (.cons rfl rfl .nil)))))), rfl, rfl, rfl⟩, by omega, by omega⟩
    · cases hov : overOk pre o t with
      | true =>
        rw [hov, Bool.true_and] at hall
        refine runn [] ?_
        exact ⟨k + 1, ⟨(.cons rfl rfl (.cons rfl rfl (.cons rfl rfl (.cons rfl rfl .nil)))), rfl, rfl, rfl⟩, ⟨by omega, hall⟩, by omega⟩
      | false =>
        rw [hov, Bool.false_and] at hall
        rw [oneE_27 hE ha hk hb hall]
        refine runn [] ?_
        exact retP rfl rfl
end Go.Proofs.YtifpafbmfedpkaaGreatDoor
end
section
set_option linter.unusedVariables false
set_option linter.unusedSimpArgs false
set_option linter.unusedSectionVars false
namespace Go.Proofs.YtifpafbmfedpkaaGreatDoor
open Go.Ac
attribute [local irreducible] awp awpL Ev Ev2 EvS thenQ blockQ retQ PCalls OCalls YieldOk IterC
set_option linter.unusedSimpArgs false
set_option linter.unusedVariables false
variable {g : List (Nat × List AV)}
theorem allE_nil (pre : List Op) : allE pre [] = 0 := by rw [allE]
theorem allE_bad {pre r : List Op} {o : Op} (h : oneE pre o ≠ 0) : allE pre (o :: r) = oneE pre o := by rw [allE, if_pos h]
theorem allE_ok {pre r : List Op} {o : Op} (h : oneE pre o = 0) : allE pre (o :: r) = allE (pre ++ [o]) r := by rw [allE, if_neg (by simpa using h)]
theorem take_snoc {α : Type} {l : List α} {k : Nat} {x : α} (h : l[k]? = some x) : l.take (k + 1) = l.take k ++ [x] := by rw [List.take_add_one, h]; rfl
theorem drop_get {α : Type} {l : List α} {k : Nat} {x : α} (h : l[k]? = some x) : l.drop k = x :: l.drop (k + 1) := by
  obtain ⟨_, rfl⟩ := List.getElem?_eq_some_iff.1 h
  exact List.drop_eq_getElem_cons (List.getElem?_eq_some_iff.1 h).1
theorem all_right {l : List Op} (h : allE [] l = 0) : ∀ o ∈ l, right o.at_ = true := by
  intro o ho
  obtain ⟨k, hk⟩ := List.getElem?_of_mem ho
  exact opE_right (oneE_opE (allE_split l [] h k o hk))
set_option maxRecDepth 4000 in
set_option maxHeartbeats 2000000 in
theorem rCheck_spec (r : Replica) (hs : r.seen.length ≤ 1000000) (hid : Ids r.ops) : PCalls Tryz.prog g 14 [.agg (repC r)] (vi (repE r)) := by
  refine pcalls' Tryz.func14 Tryz.ntmps14 rfl rfl rfl ?_
  have n1 : (!true) = false := rfl
  have n2 : (!false) = true := rfl
  by_cases h1 : r.dev < 1
  · have c1 : decide (r.dev < 1) = true := decide_eq_true h1
    refine runn [] ?_
    refine retP rfl ?_
    rw [repE, if_pos (by simp [within]; omega)]; rfl
  have c1 : decide (r.dev < 1) = false := decide_eq_false h1
  by_cases h2 : 15 < r.dev
  · have c2 : decide (15 < r.dev) = true := decide_eq_true h2
    refine runn [] ?_
    refine retP rfl ?_
    rw [repE, if_pos (by simp [within]; omega)]; rfl
  have c2 : decide (15 < r.dev) = false := decide_eq_false h2
  have hw : ¬ within r.dev 1 15 = false := by simp [within]; omega
  by_cases h4 : 400 < r.ops.length
  · have c3 : decide ((400 : Int) < r.ops.length) = true := decide_eq_true (by omega)
    refine runn [] ?_
    refine retP rfl ?_
    rw [repE, if_neg hw, if_pos h4]; rfl
  have c3 : decide ((400 : Int) < r.ops.length) = false := decide_eq_false (by omega)
  have hE : repE r = if allE [] r.ops ≠ 0 then allE [] r.ops else if r.seen ≠ seenL r.ops then 1 else 0 := by rw [repE, if_neg hw, if_neg h4]
  rw [hE]
  repeat' (first
   | refine stn [] ?_
   | ((with_reducible refine is_awp ?_); refine awp_cond rfl (fun h => ?_) (fun h => ?_))
   | fail)
  refine awp_for (α := Nat) 0 (fun k => [(1, .fp (repC r)), (3, vi k)]) (fun _ => []) (fun k => k ≤ r.ops.length ∧ allE [] r.ops = allE (r.ops.take k) (r.ops.drop k)) (fun k => r.ops.length - k) 0
    ⟨(.cons rfl rfl (.cons rfl rfl .nil)), rfl, rfl, rfl⟩ ⟨Nat.zero_le _, rfl⟩ ?_
  rintro k ⟨hk, hf⟩
  cases ht : r.ops[k]? with
  | none =>
    have hge : r.ops.length ≤ k := by simpa using ht
    have c4 : decide ((k : Int) < r.ops.length) = false := decide_eq_false (by omega)
    rw [List.drop_of_length_le hge, allE_nil] at hf
    have hS := (rSeen_spec (g := g) r.ops (by omega) (all_right hf)).toP
    rw [List.length_map] at hS
    have hQ := rSameInts_spec (g := g) r.seen (seenL r.ops) hs (by rw [seenL_len]; omega)
    rw [hf, if_neg (by simp)]
    by_cases he : r.seen = seenL r.ops
    · rw [decide_eq_true he] at hQ
      rw [if_neg (by simpa using he)]
      refine run [] ?_
      exact retP rfl rfl
    · rw [decide_eq_false he] at hQ
      rw [if_pos he]
      refine run [] ?_
      exact retP rfl rfl
  | some o =>
    have hlt : k < r.ops.length := (List.getElem?_eq_some_iff.1 ht).1
    have c4 : decide ((k : Int) < r.ops.length) = true := decide_eq_true (by omega)
    have hO := rOne_spec (g := g) r.ops k o (by omega) ht (hid o (List.mem_of_getElem? ht))
    rw [drop_get ht] at hf
    by_cases he : oneE (r.ops.take k) o = 0
    · have c5 : (!decide (oneE (r.ops.take k) o = 0)) = false := by simp [he]
      rw [allE_ok he, ← take_snoc ht] at hf
      refine runn [] ?_
      exact ⟨k + 1, ⟨(.cons rfl rfl (.cons rfl rfl .nil)), rfl, rfl, rfl⟩, ⟨by omega, hf⟩, by omega⟩
    · have c5 : (!decide (oneE (r.ops.take k) o = 0)) = true := by simp [he]
      rw [allE_bad he] at hf
      refine runn [] ?_
      refine retP rfl ?_
      rw [hf, if_pos he]; rfl
def light (r : Replica) : Bool := decide (r.ops.length ≤ 16) && (decide (r.seen.length ≤ 100) && decide (repE r = 0))
theorem Light_spec (r : Replica) (hid : Ids r.ops) : PCalls Tryz.prog g 4 [.agg (repC r)] (vb (light r)) := by
  refine pcalls' Tryz.func4 Tryz.ntmps4 rfl rfl rfl ?_
  by_cases h1 : r.ops.length ≤ 16
  · have c1 : decide ((r.ops.length : Int) ≤ 16) = true := decide_eq_true (by omega)
    by_cases h2 : r.seen.length ≤ 100
    · have c2 : decide ((r.seen.length : Int) ≤ 100) = true := decide_eq_true (by omega)
      have hC := rCheck_spec (g := g) r (by omega) hid
      refine runn [] ?_
      refine retP rfl ?_
      simp [ex, light, h1, h2]
    · have c2 : decide ((r.seen.length : Int) ≤ 100) = false := decide_eq_false (by omega)
      refine runn [] ?_
      refine retP rfl ?_
      simp [ex, light, h2]
  · have c1 : decide ((r.ops.length : Int) ≤ 16) = false := decide_eq_false (by omega)
    refine runn [] ?_
    refine retP rfl ?_
    simp [ex, light, h1]
end Go.Proofs.YtifpafbmfedpkaaGreatDoor
end
section
set_option linter.unusedVariables false
set_option linter.unusedSimpArgs false
set_option linter.unusedSectionVars false
namespace Go.Proofs.YtifpafbmfedpkaaGreatDoor
open Go.Ac Go.MapKept
def GL : List (Nat × List AV) := [(0, [vi 0, vi 1, vi 2]), (1, firstCs), (2, acceptCs)]
theorem GL_utf : Utf GL := ⟨List.mem_cons_of_mem _ (List.mem_cons_self ..), List.mem_cons_of_mem _ (List.mem_cons_of_mem _ (List.mem_cons_self ..))⟩
abbrev intV (n : Int) : Value := .int .i64 n
theorem intKey : KeyOk Tryz.prog 3 (IsKey (.int .i64)) := KeyOk.plain Tryz.underlying3
theorem intV_inj (a b : Int) (h : intV a = intV b) : a = b := by simpa [intV] using h
theorem intV_R (n : Int) : ∀ c y, R c (vi n) y → y = intV n := by
  intro c y h; simpa only [R] using h
theorem intV_ok (n : Int) : IsKey (.int .i64) (intV n) := rfl
def wkV (k : WK) : Value := .agg #[.int .i64 k.at_.count, .int .i64 k.at_.dev, .int .i64 k.note, .int .i64 k.f]
def isWkV (v : Value) : Prop := ∃ a b c d, v = .agg #[.int .i64 a, .int .i64 b, .int .i64 c, .int .i64 d]
abbrev wkC (s : Stamp) (n f : Int) : List AV := [.v (.int .i64 s.count), .v (.int .i64 s.dev), .v (.int .i64 n), .v (.int .i64 f)]
def wkEq : List Value → List Value → Option Bool
  | [.int .i64 a, .int .i64 b, .int .i64 c, .int .i64 d], [.int .i64 a', .int .i64 b', .int .i64 c', .int .i64 d'] => some ((a == a' && b == b') && (c == c' && d == d'))
  | _, _ => none
theorem wkEq_T : EqT Tryz.prog 82 wkEq := by
  intro xs ys b w h
  unfold wkEq at h
  split at h
  · rename_i a b c d a' b' c' d'
    have h := Option.some.inj h
    subst h
    have u3 := Tryz.underlying3
    have a3 := Tryz.isAgg3
    have z3 := Tryz.sizeOf3
    have a7 := Tryz.isAgg43
    have z7 := Tryz.sizeOf43
    have hS : Tryz.prog.underlying 82 = some (.struct (Tryz.prog.fieldsOf 82)) := by kernel_rfl
    have hsp : ∀ w, (Op.equalIn 9999 43 (.agg #[.int .i64 a, .int .i64 b]) (.agg #[.int .i64 a', .int .i64 b'])).run Tryz.prog w = .ok (a == a' && b == b') w := by
      intro w
      rw [show (9999 : Nat) = 9998 + 1 from rfl, run_equalIn_agg w 9998 _ _ _ (show Tryz.prog.underlying 43 = some (.struct (Tryz.prog.fieldsOf 43)) by kernel_rfl) (by kernel_rfl)]
      simp only [Program.fieldsOf, Tryz.underlying43]
      go_simp
      by_cases h1 : a = a' <;> by_cases h2 : b = b' <;> simp [h1, h2]
    rw [show (10000 : Nat) = 9999 + 1 from rfl, run_equalIn_agg w 9999 _ _ _ hS (by kernel_rfl)]
    simp only [Program.fieldsOf, Tryz.underlying82]
    go_simp
    by_cases h1 : a = a' <;> by_cases h2 : b = b' <;> by_cases h3 : c = c' <;> by_cases h4 : d = d' <;> simp [h1, h2, h3, h4]
  · cases h
theorem stamp_chkN (b : Bool) (n : Nat) (a c : Int) (w : World) : (Instr.checkKey b (n + 2) 43 (.agg #[.int .i64 a, .int .i64 c])).run Tryz.prog w = .ok () w := by
  have h1 := int_chk b n a w
  have h2 := int_chk b n c w
  have a3 := Tryz.isAgg3
  have z3 := Tryz.sizeOf3
  unfold Instr.checkKey
  simp only [Sem.run_bind, run_underlying Tryz.underlying43, Result.andThen_ok]
  have p0 : (part 3 #[Value.int IntKind.i64 a, Value.int IntKind.i64 c] 0).run Tryz.prog w = .ok (.int .i64 a) w := by simp [part, a3, Result.andThen]
  have p1 : (part 3 #[Value.int IntKind.i64 a, Value.int IntKind.i64 c] 1).run Tryz.prog w = .ok (.int .i64 c) w := by simp [part, a3, Result.andThen]
  simp [p0, p1, h1, h2, Result.andThen]
theorem wk_chk (b : Bool) (x y c d : Int) (w : World) : (Instr.checkKey b 10000 82 (.agg #[.int .i64 x, .int .i64 y, .int .i64 c, .int .i64 d])).run Tryz.prog w = .ok () w := by
  have h0 := stamp_chkN b 9997 x y w
  have h1 := int_chk b 9998 c w
  have h2 := int_chk b 9998 d w
  have a3 := Tryz.isAgg3
  have z3 := Tryz.sizeOf3
  have a7 := Tryz.isAgg43
  have z7 := Tryz.sizeOf43
  rw [show (10000 : Nat) = 9999 + 1 from rfl]
  unfold Instr.checkKey
  simp only [Sem.run_bind, run_underlying Tryz.underlying82, Result.andThen_ok]
  have p0 : (part 43 #[Value.int IntKind.i64 x, Value.int IntKind.i64 y, Value.int IntKind.i64 c, Value.int IntKind.i64 d] 0).run Tryz.prog w = .ok (.agg #[.int .i64 x, .int .i64 y]) w := by simp [part, a7, z7, Result.andThen]
  have p1 : (part 3 #[Value.int IntKind.i64 x, Value.int IntKind.i64 y, Value.int IntKind.i64 c, Value.int IntKind.i64 d] 2).run Tryz.prog w = .ok (.int .i64 c) w := by simp [part, a3, Result.andThen]
  have p2 : (part 3 #[Value.int IntKind.i64 x, Value.int IntKind.i64 y, Value.int IntKind.i64 c, Value.int IntKind.i64 d] 3).run Tryz.prog w = .ok (.int .i64 d) w := by simp [part, a3, Result.andThen]
  simp [p0, p1, p2, h0, h1, h2, Result.andThen]
theorem wkKey : KeyOk Tryz.prog 82 isWkV := by
  refine KeyOk.asks Tryz.underlying82 (fun a b _ _ => by rfl) (fun x y w hx hy => ?_) (fun b k w hk => ?_) (fun k hk => ?_)
  · obtain ⟨a, b, c, d, rfl⟩ := hx
    obtain ⟨a', b', c', d', rfl⟩ := hy
    refine ⟨_, wkEq_T [.int .i64 a, .int .i64 b, .int .i64 c, .int .i64 d] [.int .i64 a', .int .i64 b', .int .i64 c', .int .i64 d'] _ w rfl, ?_⟩
    simp [and_assoc]
  · obtain ⟨a, b', c, d, rfl⟩ := hk
    exact wk_chk b a b' c d w
  · obtain ⟨a, b', c, d, rfl⟩ := hk
    simp [Instr.sameBits]
theorem wkV_inj (a b : WK) (h : wkV a = wkV b) : a = b := by
  rcases a with ⟨⟨a1, a2⟩, a3, a4⟩
  rcases b with ⟨⟨b1, b2⟩, b3, b4⟩
  simp [wkV] at h
  obtain ⟨h1, h2, h3, h4⟩ := h
  subst h1 h2 h3 h4; rfl
theorem agg_scal {cs : List AV} {xs : List Value} (h : scalL cs = some xs) : ∀ c y, R c (.agg cs) y → y = .agg xs.toArray := by
  intro c y hy
  simp only [R, RF] at hy
  obtain ⟨ys, rfl, h2⟩ := hy
  have := scalL_LF h h2
  congr 1
  apply Array.ext'
  rw [this]
theorem wkV_R (s : Stamp) (n f : Int) : ∀ c y, R c (.agg (wkC s n f)) y → y = wkV ⟨s, n, f⟩ := agg_scal rfl
theorem wkV_ok (k : WK) : isWkV (wkV k) := ⟨_, _, _, _, rfl⟩
def aks (m : List (Int × Int)) : List Value := m.map fun p => intV p.1
def axs (m : List (Int × Int)) : List AV := m.map fun p => vi p.2
def wks (m : List (WK × Unit)) : List Value := m.map fun p => wkV p.1
def wxs (m : List (WK × Unit)) : List AV := m.map fun _ => vb true
theorem aks_ok (m : List (Int × Int)) : ∀ k ∈ aks m, IsKey (.int .i64) k := by
  intro k hk
  obtain ⟨p, _, rfl⟩ := List.mem_map.1 hk
  exact intV_ok _
theorem wks_ok (m : List (WK × Unit)) : ∀ k ∈ wks m, isWkV k := by
  intro k hk
  obtain ⟨p, _, rfl⟩ := List.mem_map.1 hk
  exact wkV_ok _
theorem aks_nd {m : List (Int × Int)} (h : ANd m) : (aks m).Nodup := h.kv intV_inj
theorem wks_nd {m : List (WK × Unit)} (h : ANd m) : (wks m).Nodup := h.kv wkV_inj
theorem a_look (m : List (Int × Int)) (n : Int) : MLook (aks m) (axs m) (intV n) (vi 0) (vi ((aget m n).getD 0)) (aget m n).isSome := by
  have := look_data (kv := intV) (va := fun v : Int => vi v) intV_inj m n (vi 0)
  cases h : aget m n with
  | none => rw [h] at this; exact this
  | some v => rw [h] at this; exact this
theorem w_look (m : List (WK × Unit)) (k : WK) : MLook (wks m) (wxs m) (wkV k) (vb false) (vb (aget m k).isSome) (aget m k).isSome := by
  have := look_data (kv := wkV) (va := fun _ : Unit => vb true) wkV_inj m k (vb false)
  cases h : aget m k with
  | none => rw [h] at this; exact this
  | some v => rw [h] at this; exact this
theorem a_put (m : List (Int × Int)) (n v : Int) : MPut (aks m) (axs m) (intV n) (vi v) (aks (aput m n v)) (axs (aput m n v)) := put_data (kv := intV) (va := fun v : Int => vi v) intV_inj m n v
theorem w_put (m : List (WK × Unit)) (k : WK) : MPut (wks m) (wxs m) (wkV k) (vb true) (wks (aput m k ())) (wxs (aput m k ())) := put_data (kv := wkV) (va := fun _ : Unit => vb true) wkV_inj m k ()
end Go.Proofs.YtifpafbmfedpkaaGreatDoor
end
section
set_option linter.unusedVariables false
set_option linter.unusedSimpArgs false
set_option linter.unusedSectionVars false
namespace Go.Proofs.YtifpafbmfedpkaaGreatDoor
open Go.Ac Go.MapKept
attribute [local irreducible] awp awpL Ev Ev2 EvS thenQ blockQ retQ PCalls OCalls YieldOk IterC ICalls
set_option linter.unusedSimpArgs false
set_option linter.unusedVariables false
def lastS (pre : List Op) : Stamp := match pre.getLast? with
  | some p => p.at_
  | none => ⟨0, 0⟩
abbrev chkL (pre : List Op) : List LB := [.map (aks (addedM pre)) (axs (addedM pre)), .map (wks (writesM pre)) (wxs (writesM pre)), .box [.mp 0, .mp 1, vi (lastS pre).count, vi (lastS pre).dev], .dead]
theorem ord_last {pre : List Op} {o : Op} (h : opE o = 0) : (match pre.getLast? with | some p => less p.at_ o.at_ | none => true) = less (lastS pre) o.at_ := by
  unfold lastS
  cases pre.getLast? with
  | some p => rfl
  | none =>
    have := right_dev (opE_right h)
    simp [less]; omega
theorem lastS_snoc (pre : List Op) (o : Op) : lastS (pre ++ [o]) = o.at_ := by simp [lastS]
theorem rec_get {pre : List Op} (hp : Good pre) (o : Op) : (match addedO pre o.note.id with | some a => decide (a.rec_ = o.rec_) | none => false) = ((aget (addedM pre) o.note.id).isSome && decide ((aget (addedM pre) o.note.id).getD 0 = o.rec_)) := by
  rw [get_added hp]
  cases addedO pre o.note.id with
  | none => rfl
  | some a => simp
theorem fld_get {j : Nat} (h : j < 3) : 0 ≤ (j : Int) ∧ (j : Int) < (3 : Nat) ∧ [vi 0, vi 1, vi 2][(j : Int).toNat]? = some (vi j) := by
  have : j = 0 ∨ j = 1 ∨ j = 2 := by omega
  rcases this with rfl | rfl | rfl <;> exact ⟨by omega, by omega, rfl⟩
theorem wr_upd {o : Op} {m : List (WK × Unit)} {j : Nat} (hj : j < 3) : wrK o m (j + 1) = if writes o o.note.id j then aput (wrK o m j) ⟨o.at_, o.note.id, j⟩ () else wrK o m j := wrK_succ o m j hj
set_option maxRecDepth 8000 in
set_option maxHeartbeats 8000000 in
theorem one_spec (pre : List Op) (o : Op) (hp : Good pre) (hid : I64 o.note.id) : ICalls Tryz.prog (Glo.of GL) 23 [.lp 2 0, .agg (opC o)] (chkL pre) (chkL (if oneE pre o = 0 then pre ++ [o] else pre)) (vi (oneE pre o)) := by
  have hC := Op_spec (g := GL) GL_utf o hid
  refine icalls Tryz.func23 rfl Tryz.ntmps23 rfl rfl rfl rfl rfl rfl ?_
  have n1 : (!true) = false := rfl
  have n2 : (!false) = true := rfl
  by_cases hE : opE o = 0
  case neg =>
    have c0 : (!decide (opE o = 0)) = true := by simp [hE]
    rw [oneE_bad hE, if_neg hE]
    refine runn [0] ?_
    exact retI rfl ⟨rfl, rfl⟩
  case pos =>
  have c0 : (!decide (opE o = 0)) = false := by simp [hE]
  have hL := Less_spec (g := GL) (lastS pre) o.at_
  have hord := ord_last (pre := pre) hE
  cases ha : less (lastS pre) o.at_ with
  | false =>
    rw [ha] at hL hord
    rw [oneE_10 hE hord, if_neg (by omega)]
    refine run [0] ?_
    exact retI rfl ⟨rfl, rfl⟩
  | true =>
  rw [ha] at hL hord
  have hrec := rec_get hp o
  have hlook := a_look (addedM pre) o.note.id
  have hand := aks_nd (addedM_nd pre)
  have hwnd := wks_nd (writesM_nd pre)
  have hwr : ∀ s n f, (aget (writesM pre) ⟨s, n, f⟩).isSome = writer pre s n f := get_writes pre
  have h16 := opE_over hE
  have z3 : zeroOf Tryz.prog 3 = some (.int .i64 0) := by kernel_rfl
  have z4 : zeroOf Tryz.prog 4 = some (.bool false) := by kernel_rfl
  refine run [0] ?_
  have rest : o.kind ≠ 0 → ∀ b, ((aget (addedM pre) o.note.id).isSome && decide ((aget (addedM pre) o.note.id).getD 0 = o.rec_)) = b → (match addedO pre o.note.id with | some a => decide (a.rec_ = o.rec_) | none => false) = b := fun _ b h => hrec.trans h
  by_cases hbad : o.kind ≠ 0 ∧ ((aget (addedM pre) o.note.id).isSome && decide ((aget (addedM pre) o.note.id).getD 0 = o.rec_)) = false
  case pos =>
    obtain ⟨hk, hb⟩ := hbad
    have d0 : (!decide (o.kind = 0)) = true := by simp [hk]
    rw [oneE_9 hE hord hk (hrec.trans hb), if_neg (by omega)]
    cases hs : (aget (addedM pre) o.note.id).isSome with
    | false =>
      rw [hs] at hlook
      repeat' (first
       | ((with_reducible refine isD_un ?_); refine awpD_un (as_pure rfl (by repeat' (first | exact Msk.nil | apply Msk.base | apply Msk.vis rfl | apply Msk.hid rfl)) (ev_lookup intKey rfl rfl rfl (intV_R _) rfl rfl z3 rfl (aks_ok _) (intV_ok _) hlook hand rfl) rfl rfl rfl) (by (try simp only [List.nil_append, List.cons_append]); (try rfl)) ?_)
       | refine st [0] ?_
       | fail)
      exact retI rfl ⟨rfl, rfl⟩
    | true =>
      rw [hs, Bool.true_and] at hb
      rw [hs] at hlook
      have d1 : (!decide ((aget (addedM pre) o.note.id).getD 0 = o.rec_)) = true := by rw [hb]; rfl
      repeat' (first
       | ((with_reducible refine isD_un ?_); refine awpD_un (as_pure rfl (by repeat' (first | exact Msk.nil | apply Msk.base | apply Msk.vis rfl | apply Msk.hid rfl)) (ev_lookup intKey rfl rfl rfl (intV_R _) rfl rfl z3 rfl (aks_ok _) (intV_ok _) hlook hand rfl) rfl rfl rfl) (by (try simp only [List.nil_append, List.cons_append]); (try rfl)) ?_)
       | refine st [0] ?_
       | fail)
      exact retI rfl ⟨rfl, rfl⟩
  case neg =>
  have hgood : o.kind ≠ 0 → (aget (addedM pre) o.note.id).isSome = true ∧ (aget (addedM pre) o.note.id).getD 0 = o.rec_ := fun hk => by
    cases hb : ((aget (addedM pre) o.note.id).isSome && decide ((aget (addedM pre) o.note.id).getD 0 = o.rec_)) with
    | false => exact absurd ⟨hk, hb⟩ hbad
    | true => simpa using hb
  refine awp_cut 5 [(0, .lp 2 0), (3, .fp (opC o))] (chkL pre ++ [.pin]) ?_ ?_
  · by_cases hk : o.kind = 0
    · have d0 : (!decide (o.kind = 0)) = false := by simp [hk]
      refine runn [0] ?_
      exact ⟨(.cons rfl rfl (.cons rfl rfl .nil)), rfl, rfl, rfl⟩
    · have d0 : (!decide (o.kind = 0)) = true := by simp [hk]
      obtain ⟨g1, g2⟩ := hgood hk
      rw [g1] at hlook
      have d1 : (!decide ((aget (addedM pre) o.note.id).getD 0 = o.rec_)) = false := by simp [g2]
      repeat' (first
       | ((with_reducible refine isD_un ?_); refine awpD_un (as_pure rfl (by repeat' (first | exact Msk.nil | apply Msk.base | apply Msk.vis rfl | apply Msk.hid rfl)) (ev_lookup intKey rfl rfl rfl (intV_R _) rfl rfl z3 rfl (aks_ok _) (intV_ok _) hlook hand rfl) rfl rfl rfl) (by (try simp only [List.nil_append, List.cons_append]); (try rfl)) ?_)
       | refine st [0] ?_
       | fail)
      exact ⟨(.cons rfl rfl (.cons rfl rfl .nil)), rfl, rfl, rfl⟩
  have hone : oneE pre o = if o.over.all (overOk pre o) = true then 0 else 27 := by
    by_cases hk : o.kind = 0
    · have h0 : o.over = [] := by
        have : wanted (decide (o.over.length = 0)) = 0 := by
          have h := hE
          unfold opE at h
          rw [if_neg (by simp [opE_right hE]), if_pos hk] at h
          split at h
          · omega
          · exact (firstE3' _ _ _ h).2.2
        unfold wanted at this
        split at this
        · rename_i q; simpa using q
        · omega
      rw [oneE_add hE hord hk, h0]; rfl
    · obtain ⟨g1, g2⟩ := hgood hk
      have hb : (match addedO pre o.note.id with | some a => decide (a.rec_ = o.rec_) | none => false) = true := hrec.trans (by rw [g1, g2]; simp)
      cases hc : o.over.all (overOk pre o) with
      | true => rw [oneE_0 hE hord hk hb hc]; rfl
      | false => rw [oneE_27 hE hord hk hb hc]; rfl
  repeat' (first
   | refine stn [0] ?_
   | ((with_reducible refine is_awp ?_); refine awp_cond rfl (fun h => ?_) (fun h => ?_))
   | fail)
  refine awp_cutBP 5 (o.over.all (overOk pre o) = true) [(0, .lp 2 0), (3, .fp (opC o))] (chkL pre ++ [.pin]) ?_ ?_
  · refine awp_for (α := Nat) 5 (fun k => [(0, .lp 2 0), (3, .fp (opC o)), (51, encStamps o.over), (52, vi o.over.length), (53, vi k)]) (fun _ => chkL pre ++ [.pin]) (fun k => k ≤ o.over.length ∧ o.over.all (overOk pre o) = (o.over.drop k).all (overOk pre o)) (fun k => o.over.length - k) 0
      ⟨(.cons rfl rfl (.cons rfl rfl (.cons rfl rfl (.cons rfl rfl (.cons rfl rfl .nil))))), rfl, rfl, rfl⟩ ⟨Nat.zero_le _, rfl⟩ ?_
    rintro k ⟨hkl, hall⟩
    cases ht : o.over[k]? with
    | none =>
      have hge : o.over.length ≤ k := by simpa using ht
      have c1 : decide ((k : Int) < o.over.length) = false := decide_eq_false (by omega)
      rw [List.drop_of_length_le hge] at hall
      refine runn [0] ?_
      exact ⟨hall, ⟨(.cons rfl rfl (.cons rfl rfl .nil)), rfl, rfl, rfl⟩⟩
    | some t =>
      have hltk : k < o.over.length := (List.getElem?_eq_some_iff.1 ht).1
      have c1 : decide ((k : Int) < o.over.length) = true := decide_eq_true (by omega)
      have g3 := stamp_get ht
      rw [all_drop _ _ k t ht] at hall
      repeat' (first
       | refine stn [0] ?_
       | ((with_reducible refine is_awp ?_); refine awp_cond rfl (fun h => ?_) (fun h => ?_))
       | fail)
      refine awp_cutB 5 [(0, .lp 2 0), (3, .fp (opC o)), (51, encStamps o.over), (52, vi o.over.length), (53, vi k), (10, vb (overOk pre o t))] (chkL pre ++ [.pin]) ?_ ?_
      · refine awp_for (α := Nat) 5 (fun j => [(0, .lp 2 0), (3, .fp (opC o)), (51, encStamps o.over), (52, vi o.over.length), (53, vi k), (9, .fp (stampC t)), (57, .agg [vi 0, vi 1, vi 2]), (58, vi j), (10, vb (anyK (okF pre o t) j))]) (fun _ => chkL pre ++ [.pin]) (fun j => j ≤ 3) (fun j => 3 - j) 0
          ⟨(.cons rfl rfl (.cons rfl rfl (.cons rfl rfl (.cons rfl rfl (.cons rfl rfl (.cons rfl rfl (.cons rfl rfl (.cons rfl rfl (.cons rfl rfl .nil))))))))), rfl, rfl, rfl⟩ (by omega) ?_
        intro j hj
        by_cases hj3 : j = 3
        · subst hj3
          have c2 : decide (((3 : Nat) : Int) < 3) = false := rfl
          refine runn [0] ?_
          exact ⟨(.cons rfl rfl (.cons rfl rfl (.cons rfl rfl (.cons rfl rfl (.cons rfl rfl (.cons rfl rfl .nil)))))), rfl, rfl, rfl⟩
        · have c2 : decide ((j : Int) < 3) = true := decide_eq_true (by omega)
          have hfj := fld_get (j := j) (by omega)
          have hS := anyK_succ (okF pre o t) (j := j) (by omega)
          have hw := w_look (writesM pre) ⟨t, o.note.id, j⟩
          rw [hwr] at hw
          cases hacc : anyK (okF pre o t) j with
          | true =>
            rw [hacc, Bool.true_or] at hS
            repeat' (first
             | ((with_reducible refine is_un ?_); refine awpL_ev (ev_index_arr rfl rfl rfl rfl rfl rfl rfl hfj) rfl ?_)
             | ((with_reducible refine is_draw ?_); refine awp_drawT 25 (by simp only [List.take_succ_cons, List.take_zero, List.take_nil]; rfl) (by simp only [List.drop_succ_cons, List.drop_zero, List.drop_nil]; rfl) (by kernel_rfl) rfl rfl rfl rfl (by repeat' (first | exact Strip.nil | apply Strip.keep rfl | apply Strip.drop rfl)) ?_)
             | refine st [0] ?_
             | fail)
            exact ⟨j + 1, ⟨(.cons rfl rfl (.cons rfl rfl (.cons rfl rfl (.cons rfl rfl (.cons rfl rfl (.cons rfl rfl (.cons rfl rfl (.cons rfl rfl (.cons rfl (by rw [hS]; rfl) .nil))))))))), rfl, rfl, rfl⟩, by omega, by omega⟩
          | false =>
            rw [hacc, Bool.false_or] at hS
            by_cases k2 : o.kind = 2
            · have e1 : decide (o.kind = 2) = true := decide_eq_true k2
              rw [okF, e1, Bool.true_or, Bool.true_and] at hS
              repeat' (first
               | ((with_reducible refine is_un ?_); refine awpL_ev (ev_index_arr rfl rfl rfl rfl rfl rfl rfl hfj) rfl ?_)
               | ((with_reducible refine isD_un ?_); refine awpD_un (as_pure rfl (by repeat' (first | exact Msk.nil | apply Msk.base | apply Msk.vis rfl | apply Msk.hid rfl)) (ev_lookup wkKey rfl rfl rfl (wkV_R _ _ _) rfl rfl z4 rfl (wks_ok _) (wkV_ok _) hw hwnd rfl) rfl rfl rfl) (by (try simp only [List.nil_append, List.cons_append]); (try rfl)) ?_)
               | ((with_reducible refine isD_gd ?_); refine awpD_gd rfl rfl (by first | with_reducible rfl | with_reducible assumption) (as_pure rfl (by repeat' (first | exact Msk.nil | apply Msk.base | apply Msk.vis rfl | apply Msk.hid rfl)) (ev_lookup wkKey rfl rfl rfl (wkV_R _ _ _) rfl rfl z4 rfl (wks_ok _) (wkV_ok _) hw hwnd rfl) rfl rfl rfl) (by (try simp only [List.nil_append, List.cons_append]); (try rfl)) ?_)
               | ((with_reducible refine is_draw ?_); refine awp_drawT 25 (by simp only [List.take_succ_cons, List.take_zero, List.take_nil]; rfl) (by simp only [List.drop_succ_cons, List.drop_zero, List.drop_nil]; rfl) (by kernel_rfl) rfl rfl rfl rfl (by repeat' (first | exact Strip.nil | apply Strip.keep rfl | apply Strip.drop rfl)) ?_)
               | refine st [0] ?_
               | fail)
              exact ⟨j + 1, ⟨(.cons rfl rfl (.cons rfl rfl (.cons rfl rfl (.cons rfl rfl (.cons rfl rfl (.cons rfl rfl (.cons rfl rfl (.cons rfl rfl (.cons rfl (by rw [hS]; rfl) .nil))))))))), rfl, rfl, rfl⟩, by omega, by omega⟩
            · have e1 : decide (o.kind = 2) = false := decide_eq_false k2
              by_cases k3 : (j : Int) = o.set
              · have e2 : decide ((j : Int) = o.set) = true := decide_eq_true k3
                rw [okF, e1, e2, Bool.false_or, Bool.true_and] at hS
                repeat' (first
                 | ((with_reducible refine is_un ?_); refine awpL_ev (ev_index_arr rfl rfl rfl rfl rfl rfl rfl hfj) rfl ?_)
                 | ((with_reducible refine isD_un ?_); refine awpD_un (as_pure rfl (by repeat' (first | exact Msk.nil | apply Msk.base | apply Msk.vis rfl | apply Msk.hid rfl)) (ev_lookup wkKey rfl rfl rfl (wkV_R _ _ _) rfl rfl z4 rfl (wks_ok _) (wkV_ok _) hw hwnd rfl) rfl rfl rfl) (by (try simp only [List.nil_append, List.cons_append]); (try rfl)) ?_)
                 | ((with_reducible refine isD_gd ?_); refine awpD_gd rfl rfl (by first | with_reducible rfl | with_reducible assumption) (as_pure rfl (by repeat' (first | exact Msk.nil | apply Msk.base | apply Msk.vis rfl | apply Msk.hid rfl)) (ev_lookup wkKey rfl rfl rfl (wkV_R _ _ _) rfl rfl z4 rfl (wks_ok _) (wkV_ok _) hw hwnd rfl) rfl rfl rfl) (by (try simp only [List.nil_append, List.cons_append]); (try rfl)) ?_)
                 | ((with_reducible refine is_draw ?_); refine awp_drawT 25 (by simp only [List.take_succ_cons, List.take_zero, List.take_nil]; rfl) (by simp only [List.drop_succ_cons, List.drop_zero, List.drop_nil]; rfl) (by kernel_rfl) rfl rfl rfl rfl (by repeat' (first | exact Strip.nil | apply Strip.keep rfl | apply Strip.drop rfl)) ?_)
                 | refine st [0] ?_
                 | fail)
                exact ⟨j + 1, ⟨(.cons rfl rfl (.cons rfl rfl (.cons rfl rfl (.cons rfl rfl (.cons rfl rfl (.cons rfl rfl (.cons rfl rfl (.cons rfl rfl (.cons rfl (by rw [hS]; rfl) .nil))))))))), rfl, rfl, rfl⟩, by omega, by omega⟩
              · have e2 : decide ((j : Int) = o.set) = false := decide_eq_false k3
                rw [okF, e1, e2, Bool.false_or, Bool.false_and] at hS
                repeat' (first
                 | ((with_reducible refine is_un ?_); refine awpL_ev (ev_index_arr rfl rfl rfl rfl rfl rfl rfl hfj) rfl ?_)
                 | ((with_reducible refine is_draw ?_); refine awp_drawT 25 (by simp only [List.take_succ_cons, List.take_zero, List.take_nil]; rfl) (by simp only [List.drop_succ_cons, List.drop_zero, List.drop_nil]; rfl) (by kernel_rfl) rfl rfl rfl rfl (by repeat' (first | exact Strip.nil | apply Strip.keep rfl | apply Strip.drop rfl)) ?_)
                 | refine st [0] ?_
                 | fail)
                exact ⟨j + 1, ⟨(.cons rfl rfl (.cons rfl rfl (.cons rfl rfl (.cons rfl rfl (.cons rfl rfl (.cons rfl rfl (.cons rfl rfl (.cons rfl rfl (.cons rfl (by rw [hS]; rfl) .nil))))))))), rfl, rfl, rfl⟩, by omega, by omega⟩
      · cases hov : overOk pre o t with
        | true =>
          rw [hov, Bool.true_and] at hall
          refine runn [0] ?_
          exact ⟨k + 1, ⟨(.cons rfl rfl (.cons rfl rfl (.cons rfl rfl (.cons rfl rfl (.cons rfl rfl .nil))))), rfl, rfl, rfl⟩, ⟨by omega, hall⟩, by omega⟩
        | false =>
          rw [hov, Bool.false_and] at hall
          rw [hone, if_neg (by rw [hall]; simp), if_neg (by omega)]
          refine runn [0] ?_
          exact retI rfl ⟨rfl, rfl⟩
  intro hall
  rw [hone, if_pos hall, if_pos rfl]
  refine runn [0] ?_
  refine awp_cut 5 [(0, .lp 2 0), (3, .fp (opC o))] [.map (aks (addedM (pre ++ [o]))) (axs (addedM (pre ++ [o]))), .map (wks (writesM pre)) (wxs (writesM pre)), .box [.mp 0, .mp 1, vi o.at_.count, vi o.at_.dev], .dead, .pin] ?_ ?_
  · rw [addedM_snoc, addM]
    by_cases hk : o.kind = 0
    · have d0 : decide (o.kind = 0) = true := decide_eq_true hk
      rw [if_pos hk]
      have hput := a_put (addedM pre) o.note.id o.rec_
      repeat' (first
       | ((with_reducible refine is_un ?_); refine awpL_evS (ev_mapUpd (L' := [.map (aks (aput (addedM pre) o.note.id o.rec_)) (axs (aput (addedM pre) o.note.id o.rec_)), .map (wks (writesM pre)) (wxs (writesM pre)), .box [.mp 0, .mp 1, vi o.at_.count, vi o.at_.dev], .dead, .pin]) intKey rfl rfl rfl (intV_R _) rfl rfl rfl rfl (aks_ok _) (intV_ok _) hput hand rfl) ?_)
       | ((with_reducible refine is_draw ?_); refine awp_drawT 9 (by simp only [List.take_succ_cons, List.take_zero, List.take_nil]; rfl) (by simp only [List.drop_succ_cons, List.drop_zero, List.drop_nil]; rfl) (by kernel_rfl) rfl rfl rfl rfl (by repeat' (first | exact Strip.nil | apply Strip.keep rfl | apply Strip.drop rfl)) ?_)
       | refine st [0] ?_
       | fail)
      exact ⟨(.cons rfl rfl (.cons rfl rfl .nil)), rfl, rfl, rfl⟩
    · have d0 : decide (o.kind = 0) = false := decide_eq_false hk
      rw [if_neg hk]
      refine runn [0] ?_
      exact ⟨(.cons rfl rfl (.cons rfl rfl .nil)), rfl, rfl, rfl⟩
  generalize hA : addedM (pre ++ [o]) = A at *
  repeat' (first
   | refine stn [0] ?_
   | ((with_reducible refine is_awp ?_); refine awp_cond rfl (fun h => ?_) (fun h => ?_))
   | fail)
  refine awp_for (α := Nat) 5 (fun j => [(0, .lp 2 0), (3, .fp (opC o)), (107, .agg [vi 0, vi 1, vi 2]), (108, vi j)]) (fun j => [.map (aks A) (axs A), .map (wks (wrK o (writesM pre) j)) (wxs (wrK o (writesM pre) j)), .box [.mp 0, .mp 1, vi o.at_.count, vi o.at_.dev], .dead, .pin]) (fun j => j ≤ 3) (fun j => 3 - j) 0
    ⟨(.cons rfl rfl (.cons rfl rfl (.cons rfl rfl (.cons rfl rfl .nil)))), rfl, rfl, rfl⟩ (by omega) ?_
  intro j hj
  by_cases hj3 : j = 3
  · subst hj3
    have c2 : decide (((3 : Nat) : Int) < 3) = false := rfl
    refine runn [0] ?_
    refine retI rfl ⟨rfl, ?_⟩
    simp only [chkL, hA, writesM_snoc, lastS_snoc]; rfl
  · have c2 : decide ((j : Int) < 3) = true := decide_eq_true (by omega)
    have hfj := fld_get (j := j) (by omega)
    have hW := Writes_spec (g := GL) o o.note.id j
    have hS := wr_upd (o := o) (m := writesM pre) (j := j) (by omega)
    have hnd2 := wks_nd (wrK_nd (o := o) (writesM_nd pre) j)
    cases hw : writes o o.note.id j with
    | false =>
      rw [hw] at hW hS
      rw [if_neg (by simp)] at hS
      repeat' (first
       | ((with_reducible refine is_un ?_); refine awpL_ev (ev_index_arr rfl rfl rfl rfl rfl rfl rfl hfj) rfl ?_)
       | refine stn [0] ?_
       | fail)
      exact ⟨j + 1, ⟨(.cons rfl rfl (.cons rfl rfl (.cons rfl rfl (.cons rfl rfl .nil)))), by rw [hS]; rfl, rfl, rfl⟩, by omega, by omega⟩
    | true =>
      rw [hw] at hW hS
      rw [if_pos rfl] at hS
      have hput := w_put (wrK o (writesM pre) j) ⟨o.at_, o.note.id, j⟩
      rw [← hS] at hput
      repeat' (first
       | ((with_reducible refine is_un ?_); (first | refine awpL_ev (ev_index_arr rfl rfl rfl rfl rfl rfl rfl hfj) rfl ?_ | refine awpL_evS (ev_mapUpd (L' := [.map (aks A) (axs A), .map (wks (wrK o (writesM pre) (j + 1))) (wxs (wrK o (writesM pre) (j + 1))), .box [.mp 0, .mp 1, vi o.at_.count, vi o.at_.dev], .dead, .pin]) wkKey rfl rfl rfl (wkV_R _ _ _) rfl rfl rfl rfl (wks_ok _) (wkV_ok _) hput hnd2 rfl) ?_))
       | ((with_reducible refine is_draw ?_); refine awp_drawT 11 (by simp only [List.take_succ_cons, List.take_zero, List.take_nil]; rfl) (by simp only [List.drop_succ_cons, List.drop_zero, List.drop_nil]; rfl) (by kernel_rfl) rfl rfl rfl rfl (by repeat' (first | exact Strip.nil | apply Strip.keep rfl | apply Strip.drop rfl)) ?_)
       | refine st [0] ?_
       | fail)
      exact ⟨j + 1, ⟨(.cons rfl rfl (.cons rfl rfl (.cons rfl rfl (.cons rfl rfl .nil)))), rfl, rfl, rfl⟩, by omega, by omega⟩
end Go.Proofs.YtifpafbmfedpkaaGreatDoor
end
