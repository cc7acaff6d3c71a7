/- A logic of trees over the model's steps, and the contracts of the functions that the laws reach: part 12 of 14. -/
import Derived.Test.YtekkpfbjnjjcbaaGreatDoorB11
section
set_option linter.unusedVariables false
set_option linter.unusedSimpArgs false
set_option linter.unusedSectionVars false
namespace Go.Proofs.YtekkpfbjnjjcbaaGreatDoor
open Go.Ac Go.MapKept
attribute [local irreducible] awp awpL Ev Ev2 EvS thenQ blockQ retQ PCalls OCalls YieldOk IterC
set_option linter.unusedSimpArgs false
set_option linter.unusedVariables false
variable {g : List (Nat × List AV)}
def ixFrom (s : Stamp) : List Stamp → Nat → Int
  | [], _ => -1
  | x :: r, k => if x = s then (k : Int) else ixFrom s r (k + 1)
theorem ixFrom_ge (s : Stamp) : ∀ (l : List Stamp) (k : Nat), decide (0 ≤ ixFrom s l k) = decide (s ∈ l)
  | [], k => by simp [ixFrom]
  | x :: r, k => by
    have ih := ixFrom_ge s r (k + 1)
    unfold ixFrom
    by_cases h : x = s
    · subst h; simp
    · rw [if_neg h, ih]
      have : ¬ s = x := fun e => h e.symm
      simp [this]
theorem drop_at {α : Type} {l : List α} {k : Nat} {x : α} (h : l[k]? = some x) : l.drop k = x :: l.drop (k + 1) := by
  have hlt := (List.getElem?_eq_some_iff.1 h).1
  rw [List.drop_eq_getElem_cons hlt]
  congr 1
  rw [List.getElem?_eq_getElem hlt] at h
  exact Option.some.inj h
set_option maxHeartbeats 1000000 in
theorem Index_spec (l : List Stamp) (s : Stamp) (hl : l.length ≤ 1000000) : PCalls Tryz.prog g 105 [encStamps l, .agg (stampC s)] (vi (ixFrom s l 0)) := by
  refine pcalls' Tryz.func105 Tryz.ntmps105 rfl rfl rfl ?_
  repeat' (first
   | refine stn [] ?_
   | ((with_reducible refine is_gd ?_); refine awpL_split rfl rfl (fun h => ?_) (fun h => ?_))
   | ((with_reducible refine is_awp ?_); refine awp_cond rfl (fun h => ?_) (fun h => ?_))
   | fail)
  refine awp_for (α := Nat) 0 (fun k => [(0, encStamps l), (3, .fp (stampC s)), (7, vi l.length), (8, vi k)]) (fun _ => []) (fun k => k ≤ l.length ∧ ixFrom s l 0 = ixFrom s (l.drop k) k) (fun k => l.length - k) 0
    ⟨(.cons rfl rfl (.cons rfl rfl (.cons rfl rfl (.cons rfl rfl .nil)))), rfl, rfl, rfl⟩ ⟨Nat.zero_le _, rfl⟩ ?_
  rintro k ⟨hk, hf⟩
  cases ht : l[k]? with
  | none =>
    have hge : l.length ≤ k := by simpa using ht
    have c1 : decide ((k : Int) < l.length) = false := decide_eq_false (by omega)
    rw [List.drop_of_length_le hge] at hf
    repeat' (first
     | refine stn [] ?_
     | ((with_reducible refine is_gd ?_); refine awpL_split rfl rfl (fun h => ?_) (fun h => ?_))
     | ((with_reducible refine is_awp ?_); refine awp_cond rfl (fun h => ?_) (fun h => ?_))
     | fail)
    refine retP rfl ?_
    rw [hf]; rfl
  | some x =>
    have hlt : k < l.length := (List.getElem?_eq_some_iff.1 ht).1
    have c1 : decide ((k : Int) < l.length) = true := decide_eq_true (by omega)
    have h1 := stamp_get ht
    rw [drop_at ht, ixFrom] at hf
    by_cases he : x = s
    · have e1 : (s.count == x.count && s.dev == x.dev) = true := by rw [he]; simp
      rw [if_pos he] at hf
      repeat' (first
       | ((with_reducible refine isD_un ?_); refine awpD_un (as_ev (fun _ => ev_eqA (b := true) stampEq_T (by kernel_rfl) rfl rfl rfl rfl (by rw [← e1]; rfl)) rfl rfl) (by (try simp only [List.nil_append, List.cons_append]); (try rfl)) ?_)
       | ((with_reducible refine isD_gd ?_); refine awpD_gd rfl rfl (by first | with_reducible rfl | with_reducible assumption) (as_ev (fun _ => ev_eqA (b := true) stampEq_T (by kernel_rfl) rfl rfl rfl rfl (by rw [← e1]; rfl)) rfl rfl) (by (try simp only [List.nil_append, List.cons_append]); (try rfl)) ?_)
       | refine st [] ?_
       | ((with_reducible refine is_gd ?_); refine awpL_split rfl rfl (fun h => ?_) (fun h => ?_))
       | ((with_reducible refine isD_gd ?_); ((fail_if_success (refine isD_kn (c := true) rfl (by first | with_reducible rfl | with_reducible assumption) ?_)); (fail_if_success (refine isD_kn (c := false) rfl (by first | with_reducible rfl | with_reducible assumption) ?_)); refine awpD_split rfl (fun h => ?_) (fun h => ?_)))
       | ((with_reducible refine is_awp ?_); refine awp_cond rfl (fun h => ?_) (fun h => ?_))
       | fail)
      refine retP rfl ?_
      rw [hf]; rfl
    · have e1 : (s.count == x.count && s.dev == x.dev) = false := by
        cases hc : (s.count == x.count && s.dev == x.dev) with
        | false => rfl
        | true => exact absurd (stamp_ext (by simpa using hc)).symm he
      rw [if_neg he] at hf
      repeat' (first
       | ((with_reducible refine isD_un ?_); refine awpD_un (as_ev (fun _ => ev_eqA (b := false) stampEq_T (by kernel_rfl) rfl rfl rfl rfl (by rw [← e1]; rfl)) rfl rfl) (by (try simp only [List.nil_append, List.cons_append]); (try rfl)) ?_)
       | ((with_reducible refine isD_gd ?_); refine awpD_gd rfl rfl (by first | with_reducible rfl | with_reducible assumption) (as_ev (fun _ => ev_eqA (b := false) stampEq_T (by kernel_rfl) rfl rfl rfl rfl (by rw [← e1]; rfl)) rfl rfl) (by (try simp only [List.nil_append, List.cons_append]); (try rfl)) ?_)
       | refine st [] ?_
       | ((with_reducible refine is_gd ?_); refine awpL_split rfl rfl (fun h => ?_) (fun h => ?_))
       | ((with_reducible refine isD_gd ?_); ((fail_if_success (refine isD_kn (c := true) rfl (by first | with_reducible rfl | with_reducible assumption) ?_)); (fail_if_success (refine isD_kn (c := false) rfl (by first | with_reducible rfl | with_reducible assumption) ?_)); refine awpD_split rfl (fun h => ?_) (fun h => ?_)))
       | ((with_reducible refine is_awp ?_); refine awp_cond rfl (fun h => ?_) (fun h => ?_))
       | fail)
      exact ⟨k + 1, ⟨(.cons rfl rfl (.cons rfl rfl (.cons rfl rfl (.cons rfl rfl .nil)))), rfl, rfl, rfl⟩, ⟨by omega, hf⟩, by omega⟩
theorem Contains_spec (l : List Stamp) (s : Stamp) (hl : l.length ≤ 1000000) : PCalls Tryz.prog g 84 [encStamps l, .agg (stampC s)] (vb (decide (s ∈ l))) := by
  have hI := Index_spec (g := g) l s hl
  have hg := ixFrom_ge s l 0
  refine pcalls' Tryz.func84 Tryz.ntmps84 rfl rfl rfl ?_
  repeat' (first
   | refine stn [] ?_
   | ((with_reducible refine is_gd ?_); refine awpL_split rfl rfl (fun h => ?_) (fun h => ?_))
   | ((with_reducible refine is_awp ?_); refine awp_cond rfl (fun h => ?_) (fun h => ?_))
   | fail)
  refine retP rfl ?_
  rw [← hg]; rfl
abbrev preS (ls : List (List Val)) (i : Nat) : List Stamp := (ls.take i).flatMap atsV
theorem preS_succ {ls : List (List Val)} {i : Nat} {V : List Val} (h : ls[i]? = some V) : preS ls (i + 1) = preS ls i ++ atsV V := by
  unfold preS
  rw [List.take_add_one, h, Option.toList_some, List.flatMap_append]
  simp
theorem preS_len {ls : List (List Val)} {n : Nat} (hv : ∀ l ∈ ls, l.length ≤ n) : ∀ i, (preS ls i).length ≤ i * n := by
  intro i
  induction i with
  | zero => simp [preS]
  | succ i ih =>
    cases h : ls[i]? with
    | none =>
      have hge : ls.length ≤ i := by simpa using h
      have : preS ls (i + 1) = preS ls i := by unfold preS; rw [List.take_of_length_le hge, List.take_of_length_le (by omega)]
      rw [this, Nat.add_mul]; omega
    | some V =>
      rw [preS_succ h, List.length_append, atsV_len, Nat.add_mul]
      have := hv V (List.mem_of_getElem? h)
      omega
set_option maxRecDepth 4000 in
set_option maxHeartbeats 4000000 in
theorem stamps_spec (ls : List (List Val)) (hn : ls.length ≤ 10) (hv : ∀ l ∈ ls, l.length ≤ 10000) (m : List Stamp) (hm : IncS m) (he : ∀ s, s ∈ m ↔ s ∈ ls.flatMap atsV) : PCalls Tryz.prog g 60 [.fs 1 ls.length (ls.map fun l => [encVals l])] (encStamps m) := by
  have n1 : (!true) = false := rfl
  have n2 : (!false) = true := rfl
  refine pcalls' Tryz.func60 Tryz.ntmps60 rfl rfl rfl ?_
  repeat' (first
   | refine stn [] ?_
   | ((with_reducible refine is_gd ?_); refine awpL_split rfl rfl (fun h => ?_) (fun h => ?_))
   | ((with_reducible refine is_awp ?_); refine awp_cond rfl (fun h => ?_) (fun h => ?_))
   | fail)
  refine awp_adopt (t := 3) (E := 57) (sz := 2) rfl rfl rfl ?_
  refine awp_for (α := Nat) 1 (fun i => [(3, .os 0 0), (8, .fs 1 ls.length (ls.map fun l => [encVals l])), (9, vi ls.length), (10, vi i)]) (fun i => [.own 0 57 2 ((uniqS (preS ls i)).map stampC)]) (fun i => i ≤ ls.length) (fun i => ls.length - i) 0
    ⟨(.cons rfl rfl (.cons rfl rfl (.cons rfl rfl (.cons rfl rfl .nil)))), rfl, rfl, rfl⟩ (Nat.zero_le _) ?_
  rintro i hi
  have hpl := preS_len hv i
  have hpl2 : i * 10000 ≤ 100000 := by omega
  cases ht : ls[i]? with
  | some V =>
    have hlt : i < ls.length := (List.getElem?_eq_some_iff.1 ht).1
    have c1 : decide ((i : Int) < ls.length) = true := decide_eq_true (by omega)
    have g1 : 0 ≤ (i : Int) ∧ (ls.map fun l => [encVals l])[(i : Int).toNat]? = some [encVals V] := ⟨by omega, by simp [ht]⟩
    have hVl := hv V (List.mem_of_getElem? ht)
    have hS := preS_succ ht
    generalize hP : preS ls i = P at hS hpl ⊢
    repeat' (first
     | refine stn [] ?_
     | ((with_reducible refine is_gd ?_); refine awpL_split rfl rfl (fun h => ?_) (fun h => ?_))
     | ((with_reducible refine is_awp ?_); refine awp_cond rfl (fun h => ?_) (fun h => ?_))
     | fail)
    refine awp_for (α := Nat) 1 (fun j => [(3, .os 0 0), (8, .fs 1 ls.length (ls.map fun l => [encVals l])), (9, vi ls.length), (10, vi i), (14, encVals V), (15, vi V.length), (16, vi j)]) (fun j => [.own 0 57 2 ((uniqS (P ++ (atsV V).take j)).map stampC)]) (fun j => j ≤ V.length) (fun j => V.length - j) 0
      (by simp only [List.take_zero, List.append_nil]; exact ⟨(.cons rfl rfl (.cons rfl rfl (.cons rfl rfl (.cons rfl rfl (.cons rfl rfl (.cons rfl rfl (.cons rfl rfl .nil))))))), rfl, rfl, rfl⟩) (Nat.zero_le _) ?_
    rintro j hj
    cases hs : V[j]? with
    | some v =>
      have hjl : j < V.length := (List.getElem?_eq_some_iff.1 hs).1
      have c2 : decide ((j : Int) < V.length) = true := decide_eq_true (by omega)
      have h2 := val_get hs
      have hU : uniqS (P ++ (atsV V).take (j + 1)) = addS (uniqS (P ++ (atsV V).take j)) v.at_ := by
        rw [← uniqS_snoc, List.append_assoc]
        congr 2
        rw [List.take_add_one, show (atsV V)[j]? = some v.at_ by unfold atsV; rw [List.getElem?_map, hs]; rfl]
        rfl
      have hUl : (uniqS (P ++ (atsV V).take j)).length ≤ 200000 := by
        have h1 := uniqS_len (P ++ (atsV V).take j)
        have h2 : ((atsV V).take j).length ≤ j := by rw [List.length_take]; omega
        rw [List.length_append] at h1
        omega
      generalize hM : uniqS (P ++ (atsV V).take j) = M at hU hUl ⊢
      generalize hM' : uniqS (P ++ (atsV V).take (j + 1)) = M' at hU
      have hC : PCalls Tryz.prog g 84 [.fs 2 (M.map stampC).length (M.map stampC), .agg (stampC v.at_)] (vb (decide (v.at_ ∈ M))) := by rw [List.length_map]; exact Contains_spec M v.at_ (by omega)
      have hx : exL [.own 0 57 2 (M.map stampC), .dead] [.os 0 0, .agg (stampC v.at_)] = [.fs 2 (M.map stampC).length (M.map stampC), .agg (stampC v.at_)] := by simp [exL, ex]
      by_cases hin : v.at_ ∈ M
      · rw [decide_eq_true hin] at hC
        rw [addS_in hin] at hU
        subst hU
        repeat' (first
         | ((with_reducible refine is_un ?_); refine awpL_callS rfl hx hC rfl rfl ?_)
         | refine stn [] ?_
         | ((with_reducible refine is_gd ?_); refine awpL_split rfl rfl (fun h => ?_) (fun h => ?_))
         | ((with_reducible refine is_awp ?_); refine awp_cond rfl (fun h => ?_) (fun h => ?_))
         | fail)
        exact ⟨j + 1, by rw [hM']; exact ⟨(.cons rfl rfl (.cons rfl rfl (.cons rfl rfl (.cons rfl rfl (.cons rfl rfl (.cons rfl rfl (.cons rfl rfl .nil))))))), rfl, rfl, rfl⟩, by omega, by omega⟩
      · rw [decide_eq_false hin] at hC
        rw [addS_new hin] at hU
        have hjj : M.map stampC ++ [stampC v.at_] = M'.map stampC := by rw [hU]; simp
        repeat' (first
         | ((with_reducible refine is_un ?_); (first | refine awpL_callS rfl hx hC rfl rfl ?_ | refine awpL_ev2 (ev_app (es' := M'.map stampC) rfl rfl rfl rfl rfl rfl rfl rfl rfl rfl rfl rfl rfl (by simp only [List.length_map, List.length_cons, List.length_nil, List.length_append, List.length_take]; omega) hjj rfl) rfl ?_))
         | refine stn [] ?_
         | ((with_reducible refine is_gd ?_); refine awpL_split rfl rfl (fun h => ?_) (fun h => ?_))
         | ((with_reducible refine is_awp ?_); refine awp_cond rfl (fun h => ?_) (fun h => ?_))
         | fail)
        exact ⟨j + 1, by rw [hM']; exact ⟨(.cons rfl rfl (.cons rfl rfl (.cons rfl rfl (.cons rfl rfl (.cons rfl rfl (.cons rfl rfl (.cons rfl rfl .nil))))))), rfl, rfl, rfl⟩, by omega, by omega⟩
    | none =>
      have hjl : V.length ≤ j := by simpa using hs
      have c2 : decide ((j : Int) < V.length) = false := decide_eq_false (by omega)
      have hD : P ++ (atsV V).take j = preS ls (i + 1) := by rw [List.take_of_length_le (by rw [atsV_len]; omega), hS]
      rw [hD]
      repeat' (first
       | refine stn [] ?_
       | ((with_reducible refine is_gd ?_); refine awpL_split rfl rfl (fun h => ?_) (fun h => ?_))
       | ((with_reducible refine is_awp ?_); refine awp_cond rfl (fun h => ?_) (fun h => ?_))
       | fail)
      exact ⟨i + 1, ⟨(.cons rfl rfl (.cons rfl rfl (.cons rfl rfl (.cons rfl rfl .nil)))), rfl, rfl, rfl⟩, by omega, by omega⟩
  | none =>
    have hge : ls.length ≤ i := by simpa using ht
    have c1 : decide ((i : Int) < ls.length) = false := decide_eq_false (by omega)
    have hD : preS ls i = ls.flatMap atsV := by unfold preS; rw [List.take_of_length_le hge]
    rw [hD] at hpl ⊢
    have hul := uniqS_len (ls.flatMap atsV)
    have hfin := fun (d : List Stamp) hp hs => stamps_sorted (l := ls.flatMap atsV) (m := m) (d := d) hp hs hm he
    generalize uniqS (ls.flatMap atsV) = M at hul hfin ⊢
    repeat' (first
     | refine stn [] ?_
     | ((with_reducible refine is_gd ?_); refine awpL_split rfl rfl (fun h => ?_) (fun h => ?_))
     | ((with_reducible refine is_awp ?_); refine awp_cond rfl (fun h => ?_) (fun h => ?_))
     | fail)
    refine awpL_sort (enc := encSt) (d := M) (lt := Go.Proofs.ltOf cmpSt) rfl rfl (fun _ => rfl) (fun x v hv => by simp [encSt] at hv; rcases hv with rfl | rfl <;> rfl) (callable Tryz.func85 rfl rfl) (fun blk cap w hH hb => sortStamps_calls _ blk cap w (by omega) hH hb) (fun _ w => sortStamps_none w) rfl fun d' hp hs => ?_
    have hd := hfin d' hp (hs.imp fun h => by rw [ltSt] at h; exact h)
    subst hd
    repeat' (first
     | refine stn [] ?_
     | ((with_reducible refine is_gd ?_); refine awpL_split rfl rfl (fun h => ?_) (fun h => ?_))
     | ((with_reducible refine is_awp ?_); refine awp_cond rfl (fun h => ?_) (fun h => ?_))
     | fail)
    refine retP rfl ?_
    simp [ex]
    exact fun _ _ => rfl
end Go.Proofs.YtekkpfbjnjjcbaaGreatDoor
end
section
set_option linter.unusedVariables false
set_option linter.unusedSimpArgs false
set_option linter.unusedSectionVars false
namespace Go.Proofs.YtekkpfbjnjjcbaaGreatDoor
open Go.Ac Go.MapKept
attribute [local irreducible] awp awpL Ev Ev2 EvS thenQ blockQ retQ PCalls OCalls YieldOk IterC ICalls
set_option linter.unusedSimpArgs false
set_option linter.unusedVariables false
def livingR (r : Replica) (note : Int) : Cell × Stamp × Int := match addedO r.ops note with
  | none => (zeroCell, ⟨0, 0⟩, 9)
  | some _ => match cell r.ops note with
    | none => (zeroCell, ⟨0, 0⟩, 26)
    | some c => match nextS r.seen r.dev with
      | none => (zeroCell, ⟨0, 0⟩, 27)
      | some s => (c, s, 0)
def livV (p : Cell × Stamp × Int) : AV := .tup [.agg (cellC p.1), .agg (stampC p.2.1), vi p.2.2]
theorem le_zeroL (e : Int) : Le (.tup [.agg zeroCellC, .agg [vi 0, vi 0], vi e]) (livV (zeroCell, ⟨0, 0⟩, e)) := Le.tup (.cons (Le.agg le_zeroCell) (.cons (Le.rfl' _) (.cons (Le.rfl' _) .nil)))
theorem living_cases (r : Replica) (note : Int) : (∃ e, e ≠ 0 ∧ livingR r note = (zeroCell, ⟨0, 0⟩, e) ∧ (∀ f n t, setR r note f n t = (zeroRep, e)) ∧ dropR r note = (zeroRep, e)) ∨
    (∃ a s, livingR r note = (cellOf r.ops note a, s, 0) ∧ (∀ f n t, setR r note f n t = withR r (setOpR s a.rec_ note f n t (atsV (valuesL r.ops note f)))) ∧ dropR r note = withR r (dropOpR s a.rec_ note (overAll r.ops note))) := by
  unfold livingR setR dropR
  cases ha : addedO r.ops note with
  | none => exact .inl ⟨9, by decide, rfl, fun _ _ _ => by cases nextS r.seen r.dev <;> rfl, by cases nextS r.seen r.dev <;> rfl⟩
  | some a =>
    cases hlv : lives r.ops note with
    | false =>
      rw [lives_cellN hlv]
      exact .inl ⟨26, by decide, rfl, fun _ _ _ => by cases nextS r.seen r.dev <;> rfl, by cases nextS r.seen r.dev <;> rfl⟩
    | true =>
      obtain ⟨b, hb, hc⟩ := lives_cell hlv
      rw [ha] at hb
      cases hb
      rw [hc]
      cases hn : nextS r.seen r.dev with
      | none => exact .inl ⟨27, by decide, rfl, fun _ _ _ => rfl, rfl⟩
      | some s => exact .inr ⟨a, s, rfl, fun _ _ _ => rfl, rfl⟩
structure FitG (r : Replica) : Prop where
  o : FitO r.ops
  s : r.seen.length ≤ 1000000
  i : Ids r.ops
  g : Good r.ops
theorem FitG.l {r : Replica} (h : FitG r) : r.ops.length ≤ 100000 := by have := h.o.1; omega
set_option maxRecDepth 8000 in
set_option maxHeartbeats 4000000 in
theorem living_spec {g : List (Nat × List AV)} (r : Replica) (note : Int) (h : FitG r) : PCalls Tryz.prog g 59 [.agg (repC r), vi note] (livV (livingR r note)) := by
  have hA := Added_spec (g := g) r note (by have := h.l; omega)
  rw [addedV] at hA
  have hC := Cell_spec (g := g) r note h.l h.o.2 h.g
  rw [cellV] at hC
  have hN := Next_spec (g := g) r.seen r.dev h.s
  have n1 : (!true) = false := rfl
  have n2 : (!false) = true := rfl
  refine pcalls' Tryz.func59 Tryz.ntmps59 rfl rfl rfl ?_
  unfold livingR
  cases ha : addedO r.ops note with
  | none =>
    rw [ha] at hA
    simp only [Option.getD_none, Option.isSome_none] at hA
    simp only
    repeat' (first
     | refine st [4, 5] ?_
     | ((with_reducible refine is_gd ?_); refine awpL_split rfl rfl (fun h => ?_) (fun h => ?_))
     | ((with_reducible refine isD_gd ?_); ((fail_if_success (refine isD_kn (c := true) rfl (by first | with_reducible rfl | with_reducible assumption) ?_)); (fail_if_success (refine isD_kn (c := false) rfl (by first | with_reducible rfl | with_reducible assumption) ?_)); refine awpD_split rfl (fun h => ?_) (fun h => ?_)))
     | ((with_reducible refine is_awp ?_); refine awp_cond rfl (fun h => ?_) (fun h => ?_))
     | fail)
    exact retLe rfl (le_zeroL _)
  | some a =>
  rw [ha] at hA
  simp only [Option.getD_some, Option.isSome_some] at hA
  cases hc : cell r.ops note with
  | none =>
    rw [hc] at hC
    simp only [Option.getD_none, Option.isSome_none] at hC
    simp only
    repeat' (first
     | refine st [4, 5] ?_
     | ((with_reducible refine is_gd ?_); refine awpL_split rfl rfl (fun h => ?_) (fun h => ?_))
     | ((with_reducible refine isD_gd ?_); ((fail_if_success (refine isD_kn (c := true) rfl (by first | with_reducible rfl | with_reducible assumption) ?_)); (fail_if_success (refine isD_kn (c := false) rfl (by first | with_reducible rfl | with_reducible assumption) ?_)); refine awpD_split rfl (fun h => ?_) (fun h => ?_)))
     | ((with_reducible refine is_awp ?_); refine awp_cond rfl (fun h => ?_) (fun h => ?_))
     | fail)
    exact retLe rfl (le_zeroL _)
  | some c =>
  rw [hc] at hC
  simp only [Option.getD_some, Option.isSome_some] at hC
  cases hn : nextS r.seen r.dev with
  | none =>
    rw [hn] at hN
    simp only [nextP, Option.getD_none, Option.isSome_none] at hN
    simp only
    repeat' (first
     | refine st [4, 5] ?_
     | ((with_reducible refine is_gd ?_); refine awpL_split rfl rfl (fun h => ?_) (fun h => ?_))
     | ((with_reducible refine isD_gd ?_); ((fail_if_success (refine isD_kn (c := true) rfl (by first | with_reducible rfl | with_reducible assumption) ?_)); (fail_if_success (refine isD_kn (c := false) rfl (by first | with_reducible rfl | with_reducible assumption) ?_)); refine awpD_split rfl (fun h => ?_) (fun h => ?_)))
     | ((with_reducible refine is_awp ?_); refine awp_cond rfl (fun h => ?_) (fun h => ?_))
     | fail)
    exact retLe rfl (le_zeroL _)
  | some s =>
    rw [hn] at hN
    simp only [nextP, Option.getD_some, Option.isSome_some] at hN
    simp only
    repeat' (first
     | refine st [4, 5] ?_
     | ((with_reducible refine is_gd ?_); refine awpL_split rfl rfl (fun h => ?_) (fun h => ?_))
     | ((with_reducible refine isD_gd ?_); ((fail_if_success (refine isD_kn (c := true) rfl (by first | with_reducible rfl | with_reducible assumption) ?_)); (fail_if_success (refine isD_kn (c := false) rfl (by first | with_reducible rfl | with_reducible assumption) ?_)); refine awpD_split rfl (fun h => ?_) (fun h => ?_)))
     | ((with_reducible refine is_awp ?_); refine awp_cond rfl (fun h => ?_) (fun h => ?_))
     | fail)
    exact retP rfl rfl
set_option maxRecDepth 8000 in
set_option maxHeartbeats 4000000 in
theorem Set_spec (r : Replica) (note f n : Int) (t : ByteArray) (h : FitG r) (hno : I64 note) : PCalls Tryz.prog GL 27 [.agg (repC r), vi note, vi f, vi n, vs t] (mergeV (setR r note f n t)) := by
  have hL := living_spec (g := GL) r note h
  rw [livV] at hL
  have hV := values_spec (g := GL) r note f h.l h.o.2 h.g
  have hvl := valuesL_len r.ops note f
  have hl := h.o.1
  have hSt : PCalls Tryz.prog GL 60 [.fs 1 1 [[encVals (valuesL r.ops note f)]]] (encStamps (atsV (valuesL r.ops note f))) := stamps_spec [valuesL r.ops note f] (by simp) (fun l hl => by simp only [List.mem_singleton] at hl; subst hl; omega) _ (ats_inc h.g note f) (fun s => by simp)
  refine pcalls' Tryz.func27 Tryz.ntmps27 rfl rfl rfl ?_
  rcases living_cases r note with ⟨e, he, h1, h2, _⟩ | ⟨a, s, h1, h2, _⟩
  · rw [h1] at hL
    rw [h2]
    have c1 : (!decide (e = 0)) = true := by simp [he]
    repeat' (first
     | refine st [10] ?_
     | ((with_reducible refine is_gd ?_); refine awpL_split rfl rfl (fun h => ?_) (fun h => ?_))
     | ((with_reducible refine isD_gd ?_); ((fail_if_success (refine isD_kn (c := true) rfl (by first | with_reducible rfl | with_reducible assumption) ?_)); (fail_if_success (refine isD_kn (c := false) rfl (by first | with_reducible rfl | with_reducible assumption) ?_)); refine awpD_split rfl (fun h => ?_) (fun h => ?_)))
     | ((with_reducible refine is_awp ?_); refine awp_cond rfl (fun h => ?_) (fun h => ?_))
     | fail)
    exact retLe rfl (le_zeroM _)
  · rw [h1] at hL
    rw [h2]
    have c1 : (!decide ((0 : Int) = 0)) = false := rfl
    have hW := with_spec r (setOpR s a.rec_ note f n t (atsV (valuesL r.ops note f))) h.s h.o.1 h.i hno
    rw [mergeV] at hW
    generalize withR r (setOpR s a.rec_ note f n t (atsV (valuesL r.ops note f))) = p at hW ⊢
    repeat' (first
     | refine st [10] ?_
     | ((with_reducible refine is_gd ?_); refine awpL_split rfl rfl (fun h => ?_) (fun h => ?_))
     | ((with_reducible refine isD_gd ?_); ((fail_if_success (refine isD_kn (c := true) rfl (by first | with_reducible rfl | with_reducible assumption) ?_)); (fail_if_success (refine isD_kn (c := false) rfl (by first | with_reducible rfl | with_reducible assumption) ?_)); refine awpD_split rfl (fun h => ?_) (fun h => ?_)))
     | ((with_reducible refine is_awp ?_); refine awp_cond rfl (fun h => ?_) (fun h => ?_))
     | fail)
    exact retP rfl rfl
set_option maxRecDepth 8000 in
set_option maxHeartbeats 4000000 in
theorem Drop_spec (r : Replica) (note : Int) (h : FitG r) (hno : I64 note) : PCalls Tryz.prog GL 29 [.agg (repC r), vi note] (mergeV (dropR r note)) := by
  have hL := living_spec (g := GL) r note h
  rw [livV] at hL
  have hvl := fun f => valuesL_len r.ops note f
  have hl := h.o.1
  have hSt : PCalls Tryz.prog GL 60 [.fs 1 3 [[encVals (valuesL r.ops note 0)], [encVals (valuesL r.ops note 1)], [encVals (valuesL r.ops note 2)]]] (encStamps (overAll r.ops note)) :=
    stamps_spec [valuesL r.ops note 0, valuesL r.ops note 1, valuesL r.ops note 2] (by simp) (fun l hl2 => by
      simp only [List.mem_cons, List.not_mem_nil, or_false] at hl2
      rcases hl2 with rfl | rfl | rfl
      · have := hvl 0; omega
      · have := hvl 1; omega
      · have := hvl 2; omega) _ (overAll_inc h.g note) (fun s => by rw [overAll_iff]; simp)
  refine pcalls' Tryz.func29 Tryz.ntmps29 rfl rfl rfl ?_
  rcases living_cases r note with ⟨e, he, h1, _, h2⟩ | ⟨a, s, h1, _, h2⟩
  · rw [h1] at hL
    rw [h2]
    have c1 : (!decide (e = 0)) = true := by simp [he]
    repeat' (first
     | refine st [4] ?_
     | ((with_reducible refine is_gd ?_); refine awpL_split rfl rfl (fun h => ?_) (fun h => ?_))
     | ((with_reducible refine isD_gd ?_); ((fail_if_success (refine isD_kn (c := true) rfl (by first | with_reducible rfl | with_reducible assumption) ?_)); (fail_if_success (refine isD_kn (c := false) rfl (by first | with_reducible rfl | with_reducible assumption) ?_)); refine awpD_split rfl (fun h => ?_) (fun h => ?_)))
     | ((with_reducible refine is_awp ?_); refine awp_cond rfl (fun h => ?_) (fun h => ?_))
     | fail)
    exact retLe rfl (le_zeroM _)
  · rw [h1] at hL
    rw [h2]
    have c1 : (!decide ((0 : Int) = 0)) = false := rfl
    have hW := with_spec r (dropOpR s a.rec_ note (overAll r.ops note)) h.s h.o.1 h.i hno
    rw [mergeV] at hW
    generalize withR r (dropOpR s a.rec_ note (overAll r.ops note)) = p at hW ⊢
    repeat' (first
     | refine st [4] ?_
     | ((with_reducible refine is_gd ?_); refine awpL_split rfl rfl (fun h => ?_) (fun h => ?_))
     | ((with_reducible refine isD_gd ?_); ((fail_if_success (refine isD_kn (c := true) rfl (by first | with_reducible rfl | with_reducible assumption) ?_)); (fail_if_success (refine isD_kn (c := false) rfl (by first | with_reducible rfl | with_reducible assumption) ?_)); refine awpD_split rfl (fun h => ?_) (fun h => ?_)))
     | ((with_reducible refine is_awp ?_); refine awp_cond rfl (fun h => ?_) (fun h => ?_))
     | fail)
    exact retP rfl rfl
end Go.Proofs.YtekkpfbjnjjcbaaGreatDoor
end
section
set_option linter.unusedVariables false
set_option linter.unusedSimpArgs false
set_option linter.unusedSectionVars false
namespace Go.Proofs.YtekkpfbjnjjcbaaGreatDoor
open Go.Ac Go.MapKept
attribute [local irreducible] awp awpL Ev Ev2 EvS thenQ blockQ retQ PCalls OCalls YieldOk IterC ICalls
set_option linter.unusedSimpArgs false
set_option linter.unusedVariables false
variable {g : List (Nat × List AV)}
def nextR (r : Replica) (note : Int) : Stamp × Op × Int := match addedO r.ops note with
  | none => (⟨0, 0⟩, zeroOp, 9)
  | some a => match lives r.ops note with
    | false => (⟨0, 0⟩, a, 26)
    | true => match nextS r.seen r.dev with
      | none => (⟨0, 0⟩, a, 27)
      | some s => (s, a, 0)
def nextV (p : Stamp × Op × Int) : AV := .tup [.agg (stampC p.1), .agg (opC p.2.1), vi p.2.2]
theorem next_cases (r : Replica) (note : Int) : (∃ e a, e ≠ 0 ∧ nextR r note = (⟨0, 0⟩, a, e) ∧ (∀ f n t, setR r note f n t = (zeroRep, e)) ∧ dropR r note = (zeroRep, e)) ∨
    (∃ a s, nextR r note = (s, a, 0) ∧ (∀ f n t, setR r note f n t = withR r (setOpR s a.rec_ note f n t (atsV (valuesL r.ops note f)))) ∧ dropR r note = withR r (dropOpR s a.rec_ note (overAll r.ops note))) := by
  unfold nextR setR dropR
  cases ha : addedO r.ops note with
  | none => exact .inl ⟨9, zeroOp, by decide, rfl, fun _ _ _ => by cases nextS r.seen r.dev <;> rfl, by cases nextS r.seen r.dev <;> rfl⟩
  | some a =>
    cases hlv : lives r.ops note with
    | false => exact .inl ⟨26, a, by decide, rfl, fun _ _ _ => by cases nextS r.seen r.dev <;> rfl, by cases nextS r.seen r.dev <;> rfl⟩
    | true =>
      cases hn : nextS r.seen r.dev with
      | none => exact .inl ⟨27, a, by decide, rfl, fun _ _ _ => rfl, rfl⟩
      | some s => exact .inr ⟨a, s, rfl, fun _ _ _ => rfl, rfl⟩
set_option maxRecDepth 8000 in
set_option maxHeartbeats 4000000 in
theorem rnext_spec (r : Replica) (note : Int) (h : FitG r) : PCalls Tryz.prog g 61 [.agg (repC r), vi note] (nextV (nextR r note)) := by
  have hA := rAdded_spec (g := g) r.ops note (by have := h.l; omega)
  rw [addedV] at hA
  have hC := rlives_spec (g := g) r note h.o
  have hN := rNext_spec (g := g) r.seen r.dev h.s
  have n1 : (!true) = false := rfl
  have n2 : (!false) = true := rfl
  refine pcalls' Tryz.func61 Tryz.ntmps61 rfl rfl rfl ?_
  unfold nextR
  cases ha : addedO r.ops note with
  | none =>
    rw [ha] at hA
    simp only [Option.getD_none, Option.isSome_none] at hA
    simp only
    repeat' (first
     | refine st [4, 5] ?_
     | ((with_reducible refine is_gd ?_); refine awpL_split rfl rfl (fun h => ?_) (fun h => ?_))
     | ((with_reducible refine isD_gd ?_); ((fail_if_success (refine isD_kn (c := true) rfl (by first | with_reducible rfl | with_reducible assumption) ?_)); (fail_if_success (refine isD_kn (c := false) rfl (by first | with_reducible rfl | with_reducible assumption) ?_)); refine awpD_split rfl (fun h => ?_) (fun h => ?_)))
     | ((with_reducible refine is_awp ?_); refine awp_cond rfl (fun h => ?_) (fun h => ?_))
     | fail)
    exact retP rfl rfl
  | some a =>
  rw [ha] at hA
  simp only [Option.getD_some, Option.isSome_some] at hA
  cases hc : lives r.ops note with
  | false =>
    rw [hc] at hC
    simp only
    repeat' (first
     | refine st [4, 5] ?_
     | ((with_reducible refine is_gd ?_); refine awpL_split rfl rfl (fun h => ?_) (fun h => ?_))
     | ((with_reducible refine isD_gd ?_); ((fail_if_success (refine isD_kn (c := true) rfl (by first | with_reducible rfl | with_reducible assumption) ?_)); (fail_if_success (refine isD_kn (c := false) rfl (by first | with_reducible rfl | with_reducible assumption) ?_)); refine awpD_split rfl (fun h => ?_) (fun h => ?_)))
     | ((with_reducible refine is_awp ?_); refine awp_cond rfl (fun h => ?_) (fun h => ?_))
     | fail)
    exact retP rfl rfl
  | true =>
  rw [hc] at hC
  cases hn : nextS r.seen r.dev with
  | none =>
    rw [hn] at hN
    simp only [nextP, Option.getD_none, Option.isSome_none] at hN
    simp only
    repeat' (first
     | refine st [4, 5] ?_
     | ((with_reducible refine is_gd ?_); refine awpL_split rfl rfl (fun h => ?_) (fun h => ?_))
     | ((with_reducible refine isD_gd ?_); ((fail_if_success (refine isD_kn (c := true) rfl (by first | with_reducible rfl | with_reducible assumption) ?_)); (fail_if_success (refine isD_kn (c := false) rfl (by first | with_reducible rfl | with_reducible assumption) ?_)); refine awpD_split rfl (fun h => ?_) (fun h => ?_)))
     | ((with_reducible refine is_awp ?_); refine awp_cond rfl (fun h => ?_) (fun h => ?_))
     | fail)
    exact retP rfl rfl
  | some s =>
    rw [hn] at hN
    simp only [nextP, Option.getD_some, Option.isSome_some] at hN
    simp only
    repeat' (first
     | refine st [4, 5] ?_
     | ((with_reducible refine is_gd ?_); refine awpL_split rfl rfl (fun h => ?_) (fun h => ?_))
     | ((with_reducible refine isD_gd ?_); ((fail_if_success (refine isD_kn (c := true) rfl (by first | with_reducible rfl | with_reducible assumption) ?_)); (fail_if_success (refine isD_kn (c := false) rfl (by first | with_reducible rfl | with_reducible assumption) ?_)); refine awpD_split rfl (fun h => ?_) (fun h => ?_)))
     | ((with_reducible refine is_awp ?_); refine awp_cond rfl (fun h => ?_) (fun h => ?_))
     | fail)
    exact retP rfl rfl
set_option maxHeartbeats 1000000 in
theorem rstamps_spec (l : List Val) (hl : l.length ≤ 100000) : PCalls Tryz.prog g 62 [encVals l] (encStamps (atsV l)) := by
  refine pcalls' Tryz.func62 Tryz.ntmps62 rfl rfl rfl ?_
  repeat' (first
   | refine stn [] ?_
   | ((with_reducible refine is_gd ?_); refine awpL_split rfl rfl (fun h => ?_) (fun h => ?_))
   | ((with_reducible refine is_awp ?_); refine awp_cond rfl (fun h => ?_) (fun h => ?_))
   | fail)
  refine awp_adopt (t := 3) (E := 57) (sz := 2) rfl rfl rfl ?_
  refine awp_for (α := Nat) 1 (fun k => [(0, encVals l), (3, .os 0 0), (4, vi k)]) (fun k => [.own 0 57 2 ((atsV (l.take k)).map stampC)]) (fun k => k ≤ l.length) (fun k => l.length - k) 0
    ⟨(.cons rfl rfl (.cons rfl rfl (.cons rfl rfl .nil))), rfl, rfl, rfl⟩ (Nat.zero_le _) ?_
  rintro k hk
  cases ht : l[k]? with
  | none =>
    have hge : l.length ≤ k := by simpa using ht
    have c1 : decide ((k : Int) < l.length) = false := decide_eq_false (by omega)
    rw [List.take_of_length_le hge]
    repeat' (first
     | refine stn [] ?_
     | ((with_reducible refine is_gd ?_); refine awpL_split rfl rfl (fun h => ?_) (fun h => ?_))
     | ((with_reducible refine is_awp ?_); refine awp_cond rfl (fun h => ?_) (fun h => ?_))
     | fail)
    refine retP rfl ?_
    simp [ex]
  | some x =>
    have hlt : k < l.length := (List.getElem?_eq_some_iff.1 ht).1
    have c1 : decide ((k : Int) < l.length) = true := decide_eq_true (by omega)
    have h1 := val_get ht
    have hS : atsV (l.take (k + 1)) = atsV (l.take k) ++ [x.at_] := by unfold atsV; rw [List.take_add_one, ht, List.map_append]; rfl
    have hml : (atsV (l.take k)).length ≤ 100000 := by rw [atsV_len, List.length_take]; omega
    have hj : (atsV (l.take k)).map stampC ++ [stampC x.at_] = (atsV (l.take (k + 1))).map stampC := by rw [hS]; simp
    generalize atsV (l.take k) = M at hml hj ⊢
    generalize hM' : atsV (l.take (k + 1)) = M' at hj
    repeat' (first
     | ((with_reducible refine is_un ?_); refine awpL_ev2 (ev_app (es' := M'.map stampC) rfl rfl rfl rfl rfl rfl rfl rfl rfl rfl rfl rfl rfl (by simp only [List.length_map, List.length_cons, List.length_nil, List.length_append, List.length_take]; omega) hj rfl) rfl ?_)
     | refine stn [] ?_
     | ((with_reducible refine is_gd ?_); refine awpL_split rfl rfl (fun h => ?_) (fun h => ?_))
     | ((with_reducible refine is_awp ?_); refine awp_cond rfl (fun h => ?_) (fun h => ?_))
     | fail)
    exact ⟨k + 1, by rw [hM']; exact ⟨(.cons rfl rfl (.cons rfl rfl (.cons rfl rfl .nil))), rfl, rfl, rfl⟩, by omega, by omega⟩
set_option maxRecDepth 8000 in
set_option maxHeartbeats 4000000 in
theorem refSet_spec (r : Replica) (note f n : Int) (t : ByteArray) (h : FitG r) (hno : I64 note) : PCalls Tryz.prog g 28 [.agg (repC r), vi note, vi f, vi n, vs t] (mergeV (setR r note f n t)) := by
  have hL := rnext_spec (g := g) r note h
  rw [nextV] at hL
  have hV := rvalues_spec (g := g) r note f h.o
  have hvl := valuesL_len r.ops note f
  have hl := h.o.1
  have hSt := rstamps_spec (g := g) (valuesL r.ops note f) (by omega)
  refine pcalls' Tryz.func28 Tryz.ntmps28 rfl rfl rfl ?_
  rcases next_cases r note with ⟨e, a, he, h1, h2, _⟩ | ⟨a, s, h1, h2, _⟩
  · rw [h1] at hL
    rw [h2]
    have c1 : (!decide (e = 0)) = true := by simp [he]
    repeat' (first
     | refine st [10] ?_
     | ((with_reducible refine is_gd ?_); refine awpL_split rfl rfl (fun h => ?_) (fun h => ?_))
     | ((with_reducible refine isD_gd ?_); ((fail_if_success (refine isD_kn (c := true) rfl (by first | with_reducible rfl | with_reducible assumption) ?_)); (fail_if_success (refine isD_kn (c := false) rfl (by first | with_reducible rfl | with_reducible assumption) ?_)); refine awpD_split rfl (fun h => ?_) (fun h => ?_)))
     | ((with_reducible refine is_awp ?_); refine awp_cond rfl (fun h => ?_) (fun h => ?_))
     | fail)
    exact retLe rfl (le_zeroM _)
  · rw [h1] at hL
    rw [h2]
    have c1 : (!decide ((0 : Int) = 0)) = false := rfl
    have hW := rwith_spec (g := g) r (setOpR s a.rec_ note f n t (atsV (valuesL r.ops note f))) h.s h.o.1 h.i hno
    rw [mergeV] at hW
    generalize withR r (setOpR s a.rec_ note f n t (atsV (valuesL r.ops note f))) = p at hW ⊢
    repeat' (first
     | refine st [10] ?_
     | ((with_reducible refine is_gd ?_); refine awpL_split rfl rfl (fun h => ?_) (fun h => ?_))
     | ((with_reducible refine isD_gd ?_); ((fail_if_success (refine isD_kn (c := true) rfl (by first | with_reducible rfl | with_reducible assumption) ?_)); (fail_if_success (refine isD_kn (c := false) rfl (by first | with_reducible rfl | with_reducible assumption) ?_)); refine awpD_split rfl (fun h => ?_) (fun h => ?_)))
     | ((with_reducible refine is_awp ?_); refine awp_cond rfl (fun h => ?_) (fun h => ?_))
     | fail)
    exact retP rfl rfl
end Go.Proofs.YtekkpfbjnjjcbaaGreatDoor
end
section
set_option linter.unusedVariables false
set_option linter.unusedSimpArgs false
set_option linter.unusedSectionVars false
namespace Go.Proofs.YtekkpfbjnjjcbaaGreatDoor
open Go.Ac Go.MapKept
attribute [local irreducible] awp awpL Ev Ev2 EvS thenQ blockQ retQ PCalls OCalls YieldOk IterC ICalls
set_option linter.unusedSimpArgs false
set_option linter.unusedVariables false
variable {g : List (Nat × List AV)}
def inF (l : List Op) (note : Int) (x : Op) (f : Int) : Bool := (atsV (valuesL l note f)).any fun q => decide (q = x.at_)
theorem inF_all (l : List Op) (note : Int) (x : Op) : inAll l note x = anyK (inF l note x) 3 := by
  have h : ∀ f, (atsV (valuesL l note f)).contains x.at_ = inF l note x f := fun f => by
    unfold inF
    rw [Bool.eq_iff_iff]
    simp
  unfold inAll anyK
  simp only [List.take_succ_cons, List.take_zero, List.any_cons, List.any_nil, h]
set_option maxRecDepth 8000 in
set_option maxHeartbeats 8000000 in
theorem refDrop_spec (r : Replica) (note : Int) (h : FitG r) (hno : I64 note) : PCalls Tryz.prog g 30 [.agg (repC r), vi note] (mergeV (dropR r note)) := by
  have hL := rnext_spec (g := g) r note h
  rw [nextV] at hL
  have hl := h.o.1
  have n1 : (!true) = false := rfl
  have n2 : (!false) = true := rfl
  refine pcalls' Tryz.func30 Tryz.ntmps30 rfl rfl rfl ?_
  rcases next_cases r note with ⟨e, a, he, h1, _, h2⟩ | ⟨a, s, h1, _, h2⟩
  · rw [h1] at hL
    rw [h2]
    have c1 : (!decide (e = 0)) = true := by simp [he]
    repeat' (first
     | refine st [4] ?_
     | ((with_reducible refine is_gd ?_); refine awpL_split rfl rfl (fun h => ?_) (fun h => ?_))
     | ((with_reducible refine isD_gd ?_); ((fail_if_success (refine isD_kn (c := true) rfl (by first | with_reducible rfl | with_reducible assumption) ?_)); (fail_if_success (refine isD_kn (c := false) rfl (by first | with_reducible rfl | with_reducible assumption) ?_)); refine awpD_split rfl (fun h => ?_) (fun h => ?_)))
     | ((with_reducible refine is_awp ?_); refine awp_cond rfl (fun h => ?_) (fun h => ?_))
     | fail)
    exact retLe rfl (le_zeroM _)
  rw [h1] at hL
  rw [h2]
  have c1 : (!decide ((0 : Int) = 0)) = false := rfl
  have hW := rwith_spec (g := g) r (dropOpR s a.rec_ note (overAll r.ops note)) h.s h.o.1 h.i hno
  rw [mergeV] at hW
  generalize withR r (dropOpR s a.rec_ note (overAll r.ops note)) = p at hW ⊢
  repeat' (first
   | refine st [4] ?_
   | ((with_reducible refine is_gd ?_); refine awpL_split rfl rfl (fun h => ?_) (fun h => ?_))
   | ((with_reducible refine isD_gd ?_); ((fail_if_success (refine isD_kn (c := true) rfl (by first | with_reducible rfl | with_reducible assumption) ?_)); (fail_if_success (refine isD_kn (c := false) rfl (by first | with_reducible rfl | with_reducible assumption) ?_)); refine awpD_split rfl (fun h => ?_) (fun h => ?_)))
   | ((with_reducible refine is_awp ?_); refine awp_cond rfl (fun h => ?_) (fun h => ?_))
   | fail)
  refine awp_adopt (t := 9) (E := 57) (sz := 2) rfl rfl rfl ?_
  refine awp_for (α := Nat) 4 (fun k => [(1, vi note), (2, .fp (repC r)), (4, .lp 0 0), (6, .fp (stampC s)), (7, .fp (opC a)), (9, .os 3 0), (10, vi k)]) (fun k => [.box zeroRepC, .dead, .dead, .own 0 57 2 ((ovK r.ops note k).map stampC)]) (fun k => k ≤ r.ops.length) (fun k => r.ops.length - k) 0
    ⟨(.cons rfl rfl (.cons rfl rfl (.cons rfl rfl (.cons rfl rfl (.cons rfl rfl (.cons rfl rfl (.cons rfl rfl .nil))))))), rfl, rfl, rfl⟩ (Nat.zero_le _) ?_
  rintro k hk
  have hol := ovK_len r.ops note k
  cases ht : r.ops[k]? with
  | none =>
    have hge : r.ops.length ≤ k := by simpa using ht
    have c2 : decide ((k : Int) < r.ops.length) = false := decide_eq_false (by omega)
    have hD : ovK r.ops note k = overAll r.ops note := by unfold ovK overAll; rw [List.take_of_length_le hge]; rfl
    rw [hD]
    generalize overAll r.ops note = M at hW ⊢
    repeat' (first
     | refine awp_frz (x := .os 3 0) (x' := encStamps M) 9 (c := .region 15 _ _) rfl (by simp [frzV]) rfl rfl ?_
     | refine stn [4] ?_
     | ((with_reducible refine is_gd ?_); refine awpL_split rfl rfl (fun h => ?_) (fun h => ?_))
     | ((with_reducible refine is_awp ?_); refine awp_cond rfl (fun h => ?_) (fun h => ?_))
     | fail)
    exact retP rfl rfl
  | some x =>
    have hlt : k < r.ops.length := (List.getElem?_eq_some_iff.1 ht).1
    have c2 : decide ((k : Int) < r.ops.length) = true := decide_eq_true (by omega)
    have g1 := op_get ht
    repeat' (first
     | refine stn [4] ?_
     | ((with_reducible refine is_gd ?_); refine awpL_split rfl rfl (fun h => ?_) (fun h => ?_))
     | ((with_reducible refine is_awp ?_); refine awp_cond rfl (fun h => ?_) (fun h => ?_))
     | fail)
    refine awp_for (α := Nat) 4 (fun j => [(1, vi note), (2, .fp (repC r)), (4, .lp 0 0), (6, .fp (stampC s)), (7, .fp (opC a)), (9, .os 3 0), (10, vi k), (11, vb (anyK (inF r.ops note x) j)), (12, vi j)]) (fun _ => [.box zeroRepC, .dead, .dead, .own 0 57 2 ((ovK r.ops note k).map stampC)]) (fun j => j ≤ 3) (fun j => 3 - j) 0
      ⟨(.cons rfl rfl (.cons rfl rfl (.cons rfl rfl (.cons rfl rfl (.cons rfl rfl (.cons rfl rfl (.cons rfl rfl (.cons rfl rfl (.cons rfl rfl .nil))))))))), rfl, rfl, rfl⟩ (Nat.zero_le _) ?_
    rintro j hj
    by_cases hj3 : j < 3
    · have c3 : decide ((j : Int) ≤ 2) = true := decide_eq_true (by omega)
      have hV := rvalues_spec (g := g) r note j h.o
      have hvl := valuesL_len r.ops note j
      have hSt := rstamps_spec (g := g) (valuesL r.ops note j) (by omega)
      have hI := in_spec (g := g) (atsV (valuesL r.ops note j)) x.at_ (by rw [atsV_len]; omega)
      have hS := anyK_succ (inF r.ops note x) hj3
      rw [show ((atsV (valuesL r.ops note j)).any fun q => decide (q = x.at_)) = inF r.ops note x j from rfl] at hI
      cases hb : anyK (inF r.ops note x) j with
      | true =>
        rw [hb, Bool.true_or] at hS
        repeat' (first
         | ((with_reducible refine is_draw ?_); refine awp_drawT 15 (by simp only [List.take_succ_cons, List.take_zero, List.take_nil]; rfl) (by simp only [List.drop_succ_cons, List.drop_zero, List.drop_nil]; rfl) (by kernel_rfl) rfl rfl rfl rfl (by repeat' (first | exact Strip.nil | apply Strip.keep rfl | apply Strip.drop rfl)) ?_)
         | refine st [4] ?_
         | ((with_reducible refine is_gd ?_); refine awpL_split rfl rfl (fun h => ?_) (fun h => ?_))
         | ((with_reducible refine isD_gd ?_); ((fail_if_success (refine isD_kn (c := true) rfl (by first | with_reducible rfl | with_reducible assumption) ?_)); (fail_if_success (refine isD_kn (c := false) rfl (by first | with_reducible rfl | with_reducible assumption) ?_)); refine awpD_split rfl (fun h => ?_) (fun h => ?_)))
         | ((with_reducible refine is_awp ?_); refine awp_cond rfl (fun h => ?_) (fun h => ?_))
         | fail)
        exact ⟨j + 1, by rw [hS]; exact ⟨(.cons rfl rfl (.cons rfl rfl (.cons rfl rfl (.cons rfl rfl (.cons rfl rfl (.cons rfl rfl (.cons rfl rfl (.cons rfl rfl (.cons rfl rfl .nil))))))))), rfl, rfl, rfl⟩, by omega, by omega⟩
      | false =>
        rw [hb, Bool.false_or] at hS
        repeat' (first
         | ((with_reducible refine is_draw ?_); refine awp_drawT 15 (by simp only [List.take_succ_cons, List.take_zero, List.take_nil]; rfl) (by simp only [List.drop_succ_cons, List.drop_zero, List.drop_nil]; rfl) (by kernel_rfl) rfl rfl rfl rfl (by repeat' (first | exact Strip.nil | apply Strip.keep rfl | apply Strip.drop rfl)) ?_)
         | refine st [4] ?_
         | ((with_reducible refine is_gd ?_); refine awpL_split rfl rfl (fun h => ?_) (fun h => ?_))
         | ((with_reducible refine isD_gd ?_); ((fail_if_success (refine isD_kn (c := true) rfl (by first | with_reducible rfl | with_reducible assumption) ?_)); (fail_if_success (refine isD_kn (c := false) rfl (by first | with_reducible rfl | with_reducible assumption) ?_)); refine awpD_split rfl (fun h => ?_) (fun h => ?_)))
         | ((with_reducible refine is_awp ?_); refine awp_cond rfl (fun h => ?_) (fun h => ?_))
         | fail)
        exact ⟨j + 1, by rw [hS]; exact ⟨(.cons rfl rfl (.cons rfl rfl (.cons rfl rfl (.cons rfl rfl (.cons rfl rfl (.cons rfl rfl (.cons rfl rfl (.cons rfl rfl (.cons rfl rfl .nil))))))))), rfl, rfl, rfl⟩, by omega, by omega⟩
    · have c3 : decide ((j : Int) ≤ 2) = false := decide_eq_false (by omega)
      have hj' : j = 3 := by omega
      subst hj'
      rw [← inF_all]
      cases hia : inAll r.ops note x with
      | false =>
        have hS := ovK_no (note := note) ht hia
        repeat' (first
         | refine stn [4] ?_
         | ((with_reducible refine is_gd ?_); refine awpL_split rfl rfl (fun h => ?_) (fun h => ?_))
         | ((with_reducible refine is_awp ?_); refine awp_cond rfl (fun h => ?_) (fun h => ?_))
         | fail)
        exact ⟨k + 1, by rw [hS]; exact ⟨(.cons rfl rfl (.cons rfl rfl (.cons rfl rfl (.cons rfl rfl (.cons rfl rfl (.cons rfl rfl (.cons rfl rfl .nil))))))), rfl, rfl, rfl⟩, by omega, by omega⟩
      | true =>
        have hS := ovK_yes (note := note) ht hia
        have hjj : (ovK r.ops note k).map stampC ++ [stampC x.at_] = (ovK r.ops note (k + 1)).map stampC := by rw [hS]; simp
        generalize ovK r.ops note k = M at hol hjj ⊢
        generalize hM' : ovK r.ops note (k + 1) = M' at hjj
        repeat' (first
         | ((with_reducible refine is_un ?_); refine awpL_ev2 (ev_app (es' := M'.map stampC) rfl rfl rfl rfl rfl rfl rfl rfl rfl rfl rfl rfl rfl (by simp only [List.length_map, List.length_cons, List.length_nil, List.length_append, List.length_take]; omega) hjj rfl) rfl ?_)
         | refine stn [4] ?_
         | ((with_reducible refine is_gd ?_); refine awpL_split rfl rfl (fun h => ?_) (fun h => ?_))
         | ((with_reducible refine is_awp ?_); refine awp_cond rfl (fun h => ?_) (fun h => ?_))
         | fail)
        exact ⟨k + 1, by rw [hM']; exact ⟨(.cons rfl rfl (.cons rfl rfl (.cons rfl rfl (.cons rfl rfl (.cons rfl rfl (.cons rfl rfl (.cons rfl rfl .nil))))))), rfl, rfl, rfl⟩, by omega, by omega⟩
end Go.Proofs.YtekkpfbjnjjcbaaGreatDoor
end
