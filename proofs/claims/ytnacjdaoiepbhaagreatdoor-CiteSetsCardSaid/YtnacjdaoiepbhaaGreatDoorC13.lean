/- A logic of trees over the model's steps, and the contracts of the functions that the laws reach: part 13 of 15. -/
import Derived.Test.YtnacjdaoiepbhaaGreatDoorC12
set_option linter.unusedVariables false
set_option linter.unusedSimpArgs false
set_option linter.unusedSectionVars false
section
namespace Go.Proofs.YtnacjdaoiepbhaaGreatDoor
open Go.Ac Go.MapKept
attribute [local irreducible] awp awpL Ev Ev2 EvS thenQ blockQ retQ PCalls OCalls YieldOk IterC
variable {g : List (Nat × List AV)}
def ixFrom (s : Stamp) : List Stamp → Nat → Int
  | [], _ => -1
  | x :: r, k => if x = s then (k : Int) else ixFrom s r (k + 1)
theorem ixFrom_ge (s : Stamp) : ∀ (l : List Stamp) (k : Nat), decide (0 ≤ ixFrom s l k) = decide (s ∈ l)
  | [], k => by simp [ixFrom]
  | x :: r, k => by
    have ih := ixFrom_ge s r (k + 1)
    unfold ixFrom
    by_cases h : x = s
    · subst h; simp
    · rw [if_neg h, ih]
      have : ¬ s = x := fun e => h e.symm
      simp [this]
theorem drop_at {α : Type} {l : List α} {k : Nat} {x : α} (h : l[k]? = some x) : l.drop k = x :: l.drop (k + 1) := by
  have hlt := (List.getElem?_eq_some_iff.1 h).1
  rw [List.drop_eq_getElem_cons hlt]
  congr 1
  rw [List.getElem?_eq_getElem hlt] at h
  exact Option.some.inj h
set_option maxHeartbeats 1000000 in
theorem Index_spec (l : List Stamp) (s : Stamp) (hl : l.length ≤ 1000000) : PCalls Tryz.prog g 129 [encStamps l, .agg (stampC s)] (vi (ixFrom s l 0)) := by
  refine pcalls' Tryz.func129 Tryz.ntmps129 rfl rfl rfl ?_
  repeat' (first
   | refine stn [] ?_
   | ((with_reducible refine is_gd ?_); refine awpL_split rfl rfl (fun h => ?_) (fun h => ?_))
   | ((with_reducible refine is_awp ?_); refine awp_cond rfl (fun h => ?_) (fun h => ?_))
   | fail)
  refine awp_for (α := Nat) 0 (fun k => [(0, encStamps l), (3, .fp (stampC s)), (7, vi l.length), (8, vi k)]) (fun _ => []) (fun k => k ≤ l.length ∧ ixFrom s l 0 = ixFrom s (l.drop k) k) (fun k => l.length - k) 0
    ⟨(.cons rfl rfl (.cons rfl rfl (.cons rfl rfl (.cons rfl rfl .nil)))), rfl, rfl, rfl⟩ ⟨Nat.zero_le _, rfl⟩ ?_
  rintro k ⟨hk, hf⟩
  cases ht : l[k]? with
  | none =>
    have hge : l.length ≤ k := by simpa using ht
    have c1 : decide ((k : Int) < l.length) = false := decide_eq_false (by omega)
    rw [List.drop_of_length_le hge] at hf
    repeat' (first
     | refine stn [] ?_
     | ((with_reducible refine is_gd ?_); refine awpL_split rfl rfl (fun h => ?_) (fun h => ?_))
     | ((with_reducible refine is_awp ?_); refine awp_cond rfl (fun h => ?_) (fun h => ?_))
     | fail)
    refine retP rfl ?_
    rw [hf]; rfl
  | some x =>
    have hlt : k < l.length := (List.getElem?_eq_some_iff.1 ht).1
    have c1 : decide ((k : Int) < l.length) = true := decide_eq_true (by omega)
    have h1 := stamp_get ht
    rw [drop_at ht, ixFrom] at hf
    by_cases he : x = s
    · have e1 : (s.count == x.count && s.dev == x.dev) = true := by rw [he]; simp
      rw [if_pos he] at hf
      repeat' (first
       | ((with_reducible refine isD_un ?_); refine awpD_un (as_ev (fun _ => ev_eqA (b := true) stampEq_T (by kernel_rfl) rfl rfl rfl rfl (by rw [← e1]; rfl)) rfl rfl) (by (try simp only [List.nil_append, List.cons_append]); (try rfl)) ?_)
       | ((with_reducible refine isD_gd ?_); refine awpD_gd rfl rfl (by first | with_reducible rfl | with_reducible assumption) (as_ev (fun _ => ev_eqA (b := true) stampEq_T (by kernel_rfl) rfl rfl rfl rfl (by rw [← e1]; rfl)) rfl rfl) (by (try simp only [List.nil_append, List.cons_append]); (try rfl)) ?_)
       | refine st [] ?_
       | ((with_reducible refine is_gd ?_); refine awpL_split rfl rfl (fun h => ?_) (fun h => ?_))
       | ((with_reducible refine isD_gd ?_); ((fail_if_success (refine isD_kn (c := true) rfl (by first | with_reducible rfl | with_reducible assumption) ?_)); (fail_if_success (refine isD_kn (c := false) rfl (by first | with_reducible rfl | with_reducible assumption) ?_)); refine awpD_split rfl (fun h => ?_) (fun h => ?_)))
       | ((with_reducible refine is_awp ?_); refine awp_cond rfl (fun h => ?_) (fun h => ?_))
       | fail)
      refine retP rfl ?_
      rw [hf]; rfl
    · have e1 : (s.count == x.count && s.dev == x.dev) = false := by
        cases hc : (s.count == x.count && s.dev == x.dev) with
        | false => rfl
        | true => exact absurd (stamp_ext (by simpa using hc)).symm he
      rw [if_neg he] at hf
      repeat' (first
       | ((with_reducible refine isD_un ?_); refine awpD_un (as_ev (fun _ => ev_eqA (b := false) stampEq_T (by kernel_rfl) rfl rfl rfl rfl (by rw [← e1]; rfl)) rfl rfl) (by (try simp only [List.nil_append, List.cons_append]); (try rfl)) ?_)
       | ((with_reducible refine isD_gd ?_); refine awpD_gd rfl rfl (by first | with_reducible rfl | with_reducible assumption) (as_ev (fun _ => ev_eqA (b := false) stampEq_T (by kernel_rfl) rfl rfl rfl rfl (by rw [← e1]; rfl)) rfl rfl) (by (try simp only [List.nil_append, List.cons_append]); (try rfl)) ?_)
       | refine st [] ?_
       | ((with_reducible refine is_gd ?_); refine awpL_split rfl rfl (fun h => ?_) (fun h => ?_))
       | ((with_reducible refine isD_gd ?_); ((fail_if_success (refine isD_kn (c := true) rfl (by first | with_reducible rfl | with_reducible assumption) ?_)); (fail_if_success (refine isD_kn (c := false) rfl (by first | with_reducible rfl | with_reducible assumption) ?_)); refine awpD_split rfl (fun h => ?_) (fun h => ?_)))
       | ((with_reducible refine is_awp ?_); refine awp_cond rfl (fun h => ?_) (fun h => ?_))
       | fail)
      exact ⟨k + 1, ⟨(.cons rfl rfl (.cons rfl rfl (.cons rfl rfl (.cons rfl rfl .nil)))), rfl, rfl, rfl⟩, ⟨by omega, hf⟩, by omega⟩
theorem Contains_spec (l : List Stamp) (s : Stamp) (hl : l.length ≤ 1000000) : PCalls Tryz.prog g 100 [encStamps l, .agg (stampC s)] (vb (decide (s ∈ l))) := by
  have hI := Index_spec (g := g) l s hl
  have hg := ixFrom_ge s l 0
  refine pcalls' Tryz.func100 Tryz.ntmps100 rfl rfl rfl ?_
  repeat' (first
   | refine stn [] ?_
   | ((with_reducible refine is_gd ?_); refine awpL_split rfl rfl (fun h => ?_) (fun h => ?_))
   | ((with_reducible refine is_awp ?_); refine awp_cond rfl (fun h => ?_) (fun h => ?_))
   | fail)
  refine retP rfl ?_
  rw [← hg]; rfl
abbrev preS (ls : List (List Val)) (i : Nat) : List Stamp := (ls.take i).flatMap atsV
theorem preS_succ {ls : List (List Val)} {i : Nat} {V : List Val} (h : ls[i]? = some V) : preS ls (i + 1) = preS ls i ++ atsV V := by
  unfold preS
  rw [List.take_add_one, h, Option.toList_some, List.flatMap_append]
  simp
theorem preS_len {ls : List (List Val)} {n : Nat} (hv : ∀ l ∈ ls, l.length ≤ n) : ∀ i, (preS ls i).length ≤ i * n := by
  intro i
  induction i with
  | zero => simp [preS]
  | succ i ih =>
    cases h : ls[i]? with
    | none =>
      have hge : ls.length ≤ i := by simpa using h
      have : preS ls (i + 1) = preS ls i := by unfold preS; rw [List.take_of_length_le hge, List.take_of_length_le (by omega)]
      rw [this, Nat.add_mul]; omega
    | some V =>
      rw [preS_succ h, List.length_append, atsV_len, Nat.add_mul]
      have := hv V (List.mem_of_getElem? h)
      omega
set_option maxRecDepth 4000 in
set_option maxHeartbeats 4000000 in
theorem stamps_spec (ls : List (List Val)) (hn : ls.length ≤ 10) (hv : ∀ l ∈ ls, l.length ≤ 10000) (m : List Stamp) (hm : IncS m) (he : ∀ s, s ∈ m ↔ s ∈ ls.flatMap atsV) : PCalls Tryz.prog g 69 [.fs 1 ls.length (ls.map fun l => [encVals l])] (encStamps m) := by
  have n1 : (!true) = false := rfl
  have n2 : (!false) = true := rfl
  refine pcalls' Tryz.func69 Tryz.ntmps69 rfl rfl rfl ?_
  repeat' (first
   | refine stn [] ?_
   | ((with_reducible refine is_gd ?_); refine awpL_split rfl rfl (fun h => ?_) (fun h => ?_))
   | ((with_reducible refine is_awp ?_); refine awp_cond rfl (fun h => ?_) (fun h => ?_))
   | fail)
  refine awp_adopt (t := 3) (E := 23) (sz := 2) rfl rfl rfl ?_
  refine awp_for (α := Nat) 1 (fun i => [(3, .os 0 0), (8, .fs 1 ls.length (ls.map fun l => [encVals l])), (9, vi ls.length), (10, vi i)]) (fun i => [.own 0 23 2 ((uniqS (preS ls i)).map stampC)]) (fun i => i ≤ ls.length) (fun i => ls.length - i) 0
    ⟨(.cons rfl rfl (.cons rfl rfl (.cons rfl rfl (.cons rfl rfl .nil)))), rfl, rfl, rfl⟩ (Nat.zero_le _) ?_
  rintro i hi
  have hpl := preS_len hv i
  have hpl2 : i * 10000 ≤ 100000 := by omega
  cases ht : ls[i]? with
  | some V =>
    have hlt : i < ls.length := (List.getElem?_eq_some_iff.1 ht).1
    have c1 : decide ((i : Int) < ls.length) = true := decide_eq_true (by omega)
    have g1 : 0 ≤ (i : Int) ∧ (ls.map fun l => [encVals l])[(i : Int).toNat]? = some [encVals V] := ⟨by omega, by simp [ht]⟩
    have hVl := hv V (List.mem_of_getElem? ht)
    have hS := preS_succ ht
    generalize hP : preS ls i = P at hS hpl ⊢
    repeat' (first
     | refine stn [] ?_
     | ((with_reducible refine is_gd ?_); refine awpL_split rfl rfl (fun h => ?_) (fun h => ?_))
     | ((with_reducible refine is_awp ?_); refine awp_cond rfl (fun h => ?_) (fun h => ?_))
     | fail)
    refine awp_for (α := Nat) 1 (fun j => [(3, .os 0 0), (8, .fs 1 ls.length (ls.map fun l => [encVals l])), (9, vi ls.length), (10, vi i), (14, encVals V), (15, vi V.length), (16, vi j)]) (fun j => [.own 0 23 2 ((uniqS (P ++ (atsV V).take j)).map stampC)]) (fun j => j ≤ V.length) (fun j => V.length - j) 0
      (by simp only [List.take_zero, List.append_nil]; exact ⟨(.cons rfl rfl (.cons rfl rfl (.cons rfl rfl (.cons rfl rfl (.cons rfl rfl (.cons rfl rfl (.cons rfl rfl .nil))))))), rfl, rfl, rfl⟩) (Nat.zero_le _) ?_
    rintro j hj
    cases hs : V[j]? with
    | some v =>
      have hjl : j < V.length := (List.getElem?_eq_some_iff.1 hs).1
      have c2 : decide ((j : Int) < V.length) = true := decide_eq_true (by omega)
      have h2 := val_get hs
      have hU : uniqS (P ++ (atsV V).take (j + 1)) = addS (uniqS (P ++ (atsV V).take j)) v.at_ := by
        rw [← uniqS_snoc, List.append_assoc]
        congr 2
        rw [List.take_add_one, show (atsV V)[j]? = some v.at_ by unfold atsV; rw [List.getElem?_map, hs]; rfl]
        rfl
      have hUl : (uniqS (P ++ (atsV V).take j)).length ≤ 200000 := by
        have h1 := uniqS_len (P ++ (atsV V).take j)
        have h2 : ((atsV V).take j).length ≤ j := by rw [List.length_take]; omega
        rw [List.length_append] at h1
        omega
      generalize hM : uniqS (P ++ (atsV V).take j) = M at hU hUl ⊢
      generalize hM' : uniqS (P ++ (atsV V).take (j + 1)) = M' at hU
      have hC : PCalls Tryz.prog g 100 [.fs 2 (M.map stampC).length (M.map stampC), .agg (stampC v.at_)] (vb (decide (v.at_ ∈ M))) := by rw [List.length_map]; exact Contains_spec M v.at_ (by omega)
      have hx : exL [.own 0 23 2 (M.map stampC), .dead] [.os 0 0, .agg (stampC v.at_)] = [.fs 2 (M.map stampC).length (M.map stampC), .agg (stampC v.at_)] := by simp [exL, ex]
      by_cases hin : v.at_ ∈ M
      · rw [decide_eq_true hin] at hC
        rw [addS_in hin] at hU
        subst hU
        repeat' (first
         | ((with_reducible refine is_un ?_); refine awpL_callS rfl hx hC rfl rfl ?_)
         | refine stn [] ?_
         | ((with_reducible refine is_gd ?_); refine awpL_split rfl rfl (fun h => ?_) (fun h => ?_))
         | ((with_reducible refine is_awp ?_); refine awp_cond rfl (fun h => ?_) (fun h => ?_))
         | fail)
        exact ⟨j + 1, by rw [hM']; exact ⟨(.cons rfl rfl (.cons rfl rfl (.cons rfl rfl (.cons rfl rfl (.cons rfl rfl (.cons rfl rfl (.cons rfl rfl .nil))))))), rfl, rfl, rfl⟩, by omega, by omega⟩
      · rw [decide_eq_false hin] at hC
        rw [addS_new hin] at hU
        have hjj : M.map stampC ++ [stampC v.at_] = M'.map stampC := by rw [hU]; simp
        repeat' (first
         | ((with_reducible refine is_un ?_); (first | refine awpL_callS rfl hx hC rfl rfl ?_ | refine awpL_ev2 (ev_app (es' := M'.map stampC) rfl rfl rfl rfl rfl rfl rfl rfl rfl rfl rfl rfl rfl (by simp only [List.length_map, List.length_cons, List.length_nil, List.length_append, List.length_take]; omega) hjj rfl) rfl ?_))
         | refine stn [] ?_
         | ((with_reducible refine is_gd ?_); refine awpL_split rfl rfl (fun h => ?_) (fun h => ?_))
         | ((with_reducible refine is_awp ?_); refine awp_cond rfl (fun h => ?_) (fun h => ?_))
         | fail)
        exact ⟨j + 1, by rw [hM']; exact ⟨(.cons rfl rfl (.cons rfl rfl (.cons rfl rfl (.cons rfl rfl (.cons rfl rfl (.cons rfl rfl (.cons rfl rfl .nil))))))), rfl, rfl, rfl⟩, by omega, by omega⟩
    | none =>
      have hjl : V.length ≤ j := by simpa using hs
      have c2 : decide ((j : Int) < V.length) = false := decide_eq_false (by omega)
      have hD : P ++ (atsV V).take j = preS ls (i + 1) := by rw [List.take_of_length_le (by rw [atsV_len]; omega), hS]
      rw [hD]
      repeat' (first
       | refine stn [] ?_
       | ((with_reducible refine is_gd ?_); refine awpL_split rfl rfl (fun h => ?_) (fun h => ?_))
       | ((with_reducible refine is_awp ?_); refine awp_cond rfl (fun h => ?_) (fun h => ?_))
       | fail)
      exact ⟨i + 1, ⟨(.cons rfl rfl (.cons rfl rfl (.cons rfl rfl (.cons rfl rfl .nil)))), rfl, rfl, rfl⟩, by omega, by omega⟩
  | none =>
    have hge : ls.length ≤ i := by simpa using ht
    have c1 : decide ((i : Int) < ls.length) = false := decide_eq_false (by omega)
    have hD : preS ls i = ls.flatMap atsV := by unfold preS; rw [List.take_of_length_le hge]
    rw [hD] at hpl ⊢
    have hul := uniqS_len (ls.flatMap atsV)
    have hfin := fun (d : List Stamp) hp hs => stamps_sorted (l := ls.flatMap atsV) (m := m) (d := d) hp hs hm he
    generalize uniqS (ls.flatMap atsV) = M at hul hfin ⊢
    repeat' (first
     | refine stn [] ?_
     | ((with_reducible refine is_gd ?_); refine awpL_split rfl rfl (fun h => ?_) (fun h => ?_))
     | ((with_reducible refine is_awp ?_); refine awp_cond rfl (fun h => ?_) (fun h => ?_))
     | fail)
    refine awpL_sort (enc := encSt) (d := M) (lt := Go.Proofs.ltOf cmpSt) rfl rfl (fun _ => rfl) (fun x v hv => by simp [encSt] at hv; rcases hv with rfl | rfl <;> rfl) (callable Tryz.func101 rfl rfl) (fun blk cap w hH hb => sortStamps_calls _ blk cap w (by omega) hH hb) (fun _ w => sortStamps_none w) rfl fun d' hp hs => ?_
    have hd := hfin d' hp (hs.imp fun h => by rw [ltSt] at h; exact h)
    subst hd
    repeat' (first
     | refine stn [] ?_
     | ((with_reducible refine is_gd ?_); refine awpL_split rfl rfl (fun h => ?_) (fun h => ?_))
     | ((with_reducible refine is_awp ?_); refine awp_cond rfl (fun h => ?_) (fun h => ?_))
     | fail)
    refine retP rfl ?_
    simp [ex]
    exact fun _ _ => rfl
end Go.Proofs.YtnacjdaoiepbhaaGreatDoor
end
section
namespace Go.Proofs.YtnacjdaoiepbhaaGreatDoor
open Go.Ac Go.MapKept
attribute [local irreducible] awp awpL Ev Ev2 EvS thenQ blockQ retQ PCalls OCalls YieldOk IterC ICalls
def livingR (r : Replica) (note : Int) : Cell × Stamp × Int := match addedO r.ops note with
  | none => (zeroCell, ⟨0, 0⟩, 9)
  | some _ => match cell r.ops note with
    | none => (zeroCell, ⟨0, 0⟩, 26)
    | some c => match nextS r.seen r.dev with
      | none => (zeroCell, ⟨0, 0⟩, 27)
      | some s => (c, s, 0)
def livV (p : Cell × Stamp × Int) : AV := .tup [.agg (cellC p.1), .agg (stampC p.2.1), vi p.2.2]
theorem le_zeroL (e : Int) : Le (.tup [.agg zeroCellC, .agg [vi 0, vi 0], vi e]) (livV (zeroCell, ⟨0, 0⟩, e)) := Le.tup (.cons (Le.agg le_zeroCell) (.cons (Le.rfl' _) (.cons (Le.rfl' _) .nil)))
theorem living_cases (r : Replica) (note : Int) : (∃ e, e ≠ 0 ∧ livingR r note = (zeroCell, ⟨0, 0⟩, e) ∧ (∀ f n t, setR r note f n t = (zeroRep, e)) ∧ dropR r note = (zeroRep, e)) ∨
    (∃ a s, livingR r note = (cellOf r.ops note a, s, 0) ∧ (∀ f n t, setR r note f n t = withR r (setOpR s a.rec_ note f n t (atsV (valuesL r.ops note f)))) ∧ dropR r note = withR r (dropOpR s a.rec_ note (overAll r.ops note))) := by
  unfold livingR setR dropR
  cases ha : addedO r.ops note with
  | none => exact .inl ⟨9, by decide, rfl, fun _ _ _ => by cases nextS r.seen r.dev <;> rfl, by cases nextS r.seen r.dev <;> rfl⟩
  | some a =>
    cases hlv : lives r.ops note with
    | false =>
      rw [lives_cellN hlv]
      exact .inl ⟨26, by decide, rfl, fun _ _ _ => by cases nextS r.seen r.dev <;> rfl, by cases nextS r.seen r.dev <;> rfl⟩
    | true =>
      obtain ⟨b, hb, hc⟩ := lives_cell hlv
      rw [ha] at hb
      cases hb
      rw [hc]
      cases hn : nextS r.seen r.dev with
      | none => exact .inl ⟨27, by decide, rfl, fun _ _ _ => rfl, rfl⟩
      | some s => exact .inr ⟨a, s, rfl, fun _ _ _ => rfl, rfl⟩
structure FitG (r : Replica) : Prop where
  o : FitO r.ops
  s : r.seen.length ≤ 1000000
  i : Ids r.ops
  g : Good r.ops
theorem FitG.l {r : Replica} (h : FitG r) : r.ops.length ≤ 100000 := by have := h.o.1; omega
set_option maxRecDepth 8000 in
set_option maxHeartbeats 4000000 in
theorem living_spec {g : List (Nat × List AV)} (r : Replica) (note : Int) (h : FitG r) : PCalls Tryz.prog g 67 [.agg (repC r), vi note] (livV (livingR r note)) := by
  have hA := Added_spec (g := g) r note (by have := h.l; omega)
  rw [addedV] at hA
  have hC := Cell_spec (g := g) r note h.l h.o.2 h.g
  rw [cellV] at hC
  have hN := Next_spec (g := g) r.seen r.dev h.s
  have n1 : (!true) = false := rfl
  have n2 : (!false) = true := rfl
  refine pcalls' Tryz.func67 Tryz.ntmps67 rfl rfl rfl ?_
  unfold livingR
  cases ha : addedO r.ops note with
  | none =>
    rw [ha] at hA
    simp only [Option.getD_none, Option.isSome_none] at hA
    simp only
    repeat' (first
     | refine st [4, 5] ?_
     | ((with_reducible refine is_gd ?_); refine awpL_split rfl rfl (fun h => ?_) (fun h => ?_))
     | ((with_reducible refine isD_gd ?_); ((fail_if_success (refine isD_kn (c := true) rfl (by first | with_reducible rfl | with_reducible assumption) ?_)); (fail_if_success (refine isD_kn (c := false) rfl (by first | with_reducible rfl | with_reducible assumption) ?_)); refine awpD_split rfl (fun h => ?_) (fun h => ?_)))
     | ((with_reducible refine is_awp ?_); refine awp_cond rfl (fun h => ?_) (fun h => ?_))
     | fail)
    exact retLe rfl (le_zeroL _)
  | some a =>
  rw [ha] at hA
  simp only [Option.getD_some, Option.isSome_some] at hA
  cases hc : cell r.ops note with
  | none =>
    rw [hc] at hC
    simp only [Option.getD_none, Option.isSome_none] at hC
    simp only
    repeat' (first
     | refine st [4, 5] ?_
     | ((with_reducible refine is_gd ?_); refine awpL_split rfl rfl (fun h => ?_) (fun h => ?_))
     | ((with_reducible refine isD_gd ?_); ((fail_if_success (refine isD_kn (c := true) rfl (by first | with_reducible rfl | with_reducible assumption) ?_)); (fail_if_success (refine isD_kn (c := false) rfl (by first | with_reducible rfl | with_reducible assumption) ?_)); refine awpD_split rfl (fun h => ?_) (fun h => ?_)))
     | ((with_reducible refine is_awp ?_); refine awp_cond rfl (fun h => ?_) (fun h => ?_))
     | fail)
    exact retLe rfl (le_zeroL _)
  | some c =>
  rw [hc] at hC
  simp only [Option.getD_some, Option.isSome_some] at hC
  cases hn : nextS r.seen r.dev with
  | none =>
    rw [hn] at hN
    simp only [nextP, Option.getD_none, Option.isSome_none] at hN
    simp only
    repeat' (first
     | refine st [4, 5] ?_
     | ((with_reducible refine is_gd ?_); refine awpL_split rfl rfl (fun h => ?_) (fun h => ?_))
     | ((with_reducible refine isD_gd ?_); ((fail_if_success (refine isD_kn (c := true) rfl (by first | with_reducible rfl | with_reducible assumption) ?_)); (fail_if_success (refine isD_kn (c := false) rfl (by first | with_reducible rfl | with_reducible assumption) ?_)); refine awpD_split rfl (fun h => ?_) (fun h => ?_)))
     | ((with_reducible refine is_awp ?_); refine awp_cond rfl (fun h => ?_) (fun h => ?_))
     | fail)
    exact retLe rfl (le_zeroL _)
  | some s =>
    rw [hn] at hN
    simp only [nextP, Option.getD_some, Option.isSome_some] at hN
    simp only
    repeat' (first
     | refine st [4, 5] ?_
     | ((with_reducible refine is_gd ?_); refine awpL_split rfl rfl (fun h => ?_) (fun h => ?_))
     | ((with_reducible refine isD_gd ?_); ((fail_if_success (refine isD_kn (c := true) rfl (by first | with_reducible rfl | with_reducible assumption) ?_)); (fail_if_success (refine isD_kn (c := false) rfl (by first | with_reducible rfl | with_reducible assumption) ?_)); refine awpD_split rfl (fun h => ?_) (fun h => ?_)))
     | ((with_reducible refine is_awp ?_); refine awp_cond rfl (fun h => ?_) (fun h => ?_))
     | fail)
    exact retP rfl rfl
set_option maxRecDepth 8000 in
set_option maxHeartbeats 4000000 in
theorem Set_spec (r : Replica) (note f n : Int) (t : ByteArray) (h : FitG r) (hno : I64 note) : PCalls Tryz.prog GL 36 [.agg (repC r), vi note, vi f, vi n, vs t] (mergeV (setR r note f n t)) := by
  have hL := living_spec (g := GL) r note h
  rw [livV] at hL
  have hV := values_spec (g := GL) r note f h.l h.o.2 h.g
  have hvl := valuesL_len r.ops note f
  have hl := h.o.1
  have hSt : PCalls Tryz.prog GL 69 [.fs 1 1 [[encVals (valuesL r.ops note f)]]] (encStamps (atsV (valuesL r.ops note f))) := stamps_spec [valuesL r.ops note f] (by simp) (fun l hl => by simp only [List.mem_singleton] at hl; subst hl; omega) _ (ats_inc h.g note f) (fun s => by simp)
  refine pcalls' Tryz.func36 Tryz.ntmps36 rfl rfl rfl ?_
  rcases living_cases r note with ⟨e, he, h1, h2, _⟩ | ⟨a, s, h1, h2, _⟩
  · rw [h1] at hL
    rw [h2]
    have c1 : (!decide (e = 0)) = true := by simp [he]
    repeat' (first
     | refine st [10] ?_
     | ((with_reducible refine is_gd ?_); refine awpL_split rfl rfl (fun h => ?_) (fun h => ?_))
     | ((with_reducible refine isD_gd ?_); ((fail_if_success (refine isD_kn (c := true) rfl (by first | with_reducible rfl | with_reducible assumption) ?_)); (fail_if_success (refine isD_kn (c := false) rfl (by first | with_reducible rfl | with_reducible assumption) ?_)); refine awpD_split rfl (fun h => ?_) (fun h => ?_)))
     | ((with_reducible refine is_awp ?_); refine awp_cond rfl (fun h => ?_) (fun h => ?_))
     | fail)
    exact retLe rfl (le_zeroM _)
  · rw [h1] at hL
    rw [h2]
    have c1 : (!decide ((0 : Int) = 0)) = false := rfl
    have hW := with_spec r (setOpR s a.rec_ note f n t (atsV (valuesL r.ops note f))) h.s h.o.1 h.i hno
    rw [mergeV] at hW
    generalize withR r (setOpR s a.rec_ note f n t (atsV (valuesL r.ops note f))) = p at hW ⊢
    repeat' (first
     | refine st [10] ?_
     | ((with_reducible refine is_gd ?_); refine awpL_split rfl rfl (fun h => ?_) (fun h => ?_))
     | ((with_reducible refine isD_gd ?_); ((fail_if_success (refine isD_kn (c := true) rfl (by first | with_reducible rfl | with_reducible assumption) ?_)); (fail_if_success (refine isD_kn (c := false) rfl (by first | with_reducible rfl | with_reducible assumption) ?_)); refine awpD_split rfl (fun h => ?_) (fun h => ?_)))
     | ((with_reducible refine is_awp ?_); refine awp_cond rfl (fun h => ?_) (fun h => ?_))
     | fail)
    exact retP rfl rfl
end Go.Proofs.YtnacjdaoiepbhaaGreatDoor
end
section
namespace Go.Proofs.YtnacjdaoiepbhaaGreatDoor
open Go.Ac Go.MapKept
attribute [local irreducible] awp awpL Ev Ev2 EvS thenQ blockQ retQ PCalls OCalls YieldOk IterC ICalls
variable {g : List (Nat × List AV)}
def nextR (r : Replica) (note : Int) : Stamp × Op × Int := match addedO r.ops note with
  | none => (⟨0, 0⟩, zeroOp, 9)
  | some a => match lives r.ops note with
    | false => (⟨0, 0⟩, a, 26)
    | true => match nextS r.seen r.dev with
      | none => (⟨0, 0⟩, a, 27)
      | some s => (s, a, 0)
def nextV (p : Stamp × Op × Int) : AV := .tup [.agg (stampC p.1), .agg (opC p.2.1), vi p.2.2]
end Go.Proofs.YtnacjdaoiepbhaaGreatDoor
end
section
namespace Go.Proofs.YtnacjdaoiepbhaaGreatDoor
open Go.Ac Go.MapKept
attribute [local irreducible] awp awpL Ev Ev2 EvS thenQ blockQ retQ PCalls OCalls YieldOk IterC ICalls
variable {g : List (Nat × List AV)}
def inF (l : List Op) (note : Int) (x : Op) (f : Int) : Bool := (atsV (valuesL l note f)).any fun q => decide (q = x.at_)
end Go.Proofs.YtnacjdaoiepbhaaGreatDoor
end
section
namespace Go.Proofs.YtnacjdaoiepbhaaGreatDoor
open Go.Ac Go.MapKept
attribute [local irreducible] awp awpL Ev Ev2 EvS thenQ blockQ retQ PCalls OCalls YieldOk IterC
variable {g : List (Nat × List AV)}
end Go.Proofs.YtnacjdaoiepbhaaGreatDoor
end
section
namespace Go.Proofs.YtnacjdaoiepbhaaGreatDoor
open Go.Ac
attribute [local irreducible] awp awpL Ev Ev2 EvS thenQ blockQ retQ PCalls OCalls YieldOk IterC
variable {g : List (Nat × List AV)}
def valEq : List Value → List Value → Option Bool
  | [.int .i64 a, .int .i64 b, .int .i64 c, .string s], [.int .i64 a', .int .i64 b', .int .i64 c', .string s'] => some ((a == a' && b == b') && (c == c' && s.toList == s'.toList))
  | _, _ => none
def FitC (c : Cell) : Prop := c.text.length ≤ 100000 ∧ c.fro.length ≤ 100000 ∧ c.til.length ≤ 100000
def FitCs (l : List Cell) : Prop := l.length ≤ 100000 ∧ ∀ c ∈ l, FitC c
end Go.Proofs.YtnacjdaoiepbhaaGreatDoor
end
section
namespace Go.Proofs.YtnacjdaoiepbhaaGreatDoor
open Go.Ac Go.MapKept
attribute [local irreducible] awp awpL Ev Ev2 EvS thenQ blockQ retQ PCalls OCalls YieldOk IterC
variable {g : List (Nat × List AV)}
abbrev lastV (o : Option Val) : AV := .tup [.agg (valC (o.getD zeroVal)), vb o.isSome]
theorem last_val {l : List Val} {p : Val} (h : l.getLast? = some p) : 0 < l.length ∧ 0 ≤ (l.length : Int) - 1 ∧ (l.map valC)[((l.length : Int) - 1).toNat]? = some (valC p) := by
  rw [List.getLast?_eq_getElem?] at h
  have hpos : 0 < l.length := by
    cases l with
    | nil => simp at h
    | cons x r => simp
  refine ⟨hpos, by omega, ?_⟩
  rw [show ((l.length : Int) - 1).toNat = l.length - 1 by omega, List.getElem?_map, h]; rfl
theorem last_nil {l : List Val} (h : l.getLast? = none) : l.length = 0 := by simpa using h
end Go.Proofs.YtnacjdaoiepbhaaGreatDoor
end
section
namespace Go.Proofs.YtnacjdaoiepbhaaGreatDoor
open Go.Ac Go.MapKept
attribute [local irreducible] awp awpL Ev Ev2 EvS thenQ blockQ retQ PCalls OCalls YieldOk IterC ICalls
end Go.Proofs.YtnacjdaoiepbhaaGreatDoor
end
section
namespace Go.Proofs.YtnacjdaoiepbhaaGreatDoor
open Go.Ac Go.MapKept
attribute [local irreducible] awp awpL Ev Ev2 EvS thenQ blockQ retQ PCalls OCalls YieldOk IterC ICalls
def Held (l : List Op) : Prop := ∀ o ∈ l, (o.text.size : Int) ≤ 281474976710656 ∧ (o.note.text.size : Int) ≤ 281474976710656 ∧ (o.over.length : Int) ≤ 281474976710656
end Go.Proofs.YtnacjdaoiepbhaaGreatDoor
end
section
namespace Go.Ac
section
variable {P : Program} {td : TDs} [T : TOK P td] {G : Glo} {N : Nat} {S : SL} {L : List LB} {ty : TypeId} {x : AV}
theorem LF_get {F : Nat → Prop} {w : World} : ∀ {cs : List AV} {ys : List Value} {j : Nat} {x : AV}, LF F w cs ys → cs[j]? = some x → ∃ y, ys[j]? = some y ∧ RF F w x y
  | [], _, j, x, _, h => by simp at h
  | c :: r, ys, j, x, h, hj => by
    simp only [LF] at h
    obtain ⟨y, s, rfl, hx, _, h⟩ := h
    cases j with
    | zero => simp at hj; subst hj; exact ⟨y, rfl, hx⟩
    | succ j => obtain ⟨y', q1, q2⟩ := LF_get (j := j) h (by simpa using hj); exact ⟨y', by simpa using q1, q2⟩
theorem struct_desc {t : Nat} {d : TD} {fs : List (TypeId × Nat)} (ht : lk td t = some d) (hs : d.k = .struct fs) : ∃ fields : Array Field, P.underlying t = some (.struct fields) ∧ fs = fields.toList.map fun f => (f.type, f.offset) := by
  obtain ⟨i, u, z, h1, h2, h3, h4, h5, h6, h7⟩ := tok_parts (P := P) ht
  rw [hs] at h4
  cases u <;> simp only [tk, reduceCtorEq, TK.struct.injEq] at h4
  rename_i fields
  exact ⟨fields, h2, h4.symm⟩
theorem ev_fld_one {t : Nat} {d fd : TD} {fs : List (TypeId × Nat)} {f ft off : Nat} {u : Operand} {cs : List AV} (h : val G S u = some (.agg cs)) (ht : lk td t = some d) (hs : d.k = .struct fs) (hf : fs[f]? = some (ft, off))
    (hft : lk td ft = some fd) (hr : fd.k.row = false) (hx : cs[off]? = some x) : Ev P G N (.field t u f) ty S L x := by
  intro o ho _ cx a hc
  have e1 := val_R hc h
  simp only [R, RF] at e1
  obtain ⟨xs, e1, hl⟩ := e1
  obtain ⟨y, hy, hR⟩ := LF_get hl hx
  simp only [Array.getElem?_toList] at hy
  obtain ⟨fields, h2, rfl⟩ := struct_desc (P := P) ht hs
  simp only [List.getElem?_map, Array.getElem?_toList] at hf
  cases hq : fields[f]? with
  | none => simp [hq] at hf
  | some fl =>
    simp only [hq, Option.map_some, Option.some.injEq, Prod.mk.injEq] at hf
    obtain ⟨rfl, rfl⟩ := hf
    have hag := run_isAgg (P := P) hft cx.w
    rw [hr] at hag
    refine ⟨y, ?_, R.of_RF _ _ _ hR⟩
    simp [execOp, ho, e1, Instr.field, asAgg, run_underlying h2, Result.andThen, hq, part, hag, hy]
end
end Go.Ac
end
section
namespace Go.Proofs.YtnacjdaoiepbhaaGreatDoor
open Go.Ac Go.MapKept
attribute [local irreducible] awp awpL Ev Ev2 EvS thenQ blockQ retQ PCalls OCalls YieldOk IterC ICalls
def wBa : ByteArray := ⟨#[98, 97]⟩
def wMi : ByteArray := ⟨#[109, 105]⟩
def wPa : ByteArray := ⟨#[112, 97]⟩
def wN : Note := ⟨0, 0, 0, ⟨0, 9⟩, 0, wMi⟩
def wB0 : Note := ⟨17, 0, 0, ⟨0, 0⟩, 0, .empty⟩
def wO1 : Op := ⟨⟨1, 1⟩, 0, 3, ⟨17, 0, 0, ⟨0, 9⟩, 0, wMi⟩, 0, 0, .empty, []⟩
def wO2 : Op := ⟨⟨2, 1⟩, 1, 3, wB0, 0, 0, wBa, [⟨1, 1⟩]⟩
def wOt : Op := ⟨⟨2, 2⟩, 1, 3, wB0, 0, 0, wPa, [⟨1, 1⟩]⟩
def wDr : Op := ⟨⟨2, 2⟩, 2, 3, wB0, 0, 0, .empty, [⟨1, 1⟩]⟩
def wV (a b : Int) : List Int := [a, b, 0, 0, 0, 0, 0, 0, 0, 0, 0, 0, 0, 0, 0]
def wR0 : Replica := ⟨1, wV 0 0, []⟩
def wR1 : Replica := ⟨1, wV 1 0, [wO1]⟩
def wA : Replica := ⟨1, wV 2 0, [wO1, wO2]⟩
def wBo : Replica := ⟨1, wV 2 2, [wO1, wO2, wOt]⟩
def wKe : Replica := ⟨1, wV 2 2, [wO1, wO2, wDr]⟩
def wG : Replica := ⟨1, wV 2 0, [wO1, ⟨⟨2, 1⟩, 2, 3, wB0, 0, 0, .empty, [⟨1, 1⟩]⟩]⟩
def wC : Cell := (cell wBo.ops 17).getD zeroCell
def wD : Cell := (cell wKe.ops 17).getD zeroCell
theorem w1 : newR 1 = (wR0, 0) := by kernel_rfl
theorem w2 : newR 0 = (zeroRep, 1) := by kernel_rfl
theorem w3 : addR wR0 3 wN = (wR1, 17, 0) := by kernel_rfl
theorem w4 : setR wR1 17 0 0 wBa = (wA, 0) := by kernel_rfl
theorem w5 : dropR wR1 17 = (wG, 0) := by kernel_rfl
theorem w6 : see wA.seen ⟨2, 2⟩ = wV 2 2 := by kernel_rfl
def wV0 : Val := ⟨⟨2, 1⟩, 0, wBa⟩
def opG (o : Op) : Bool := decide (o.over.length ≤ 1000) && (decide (-9223372036854775808 ≤ o.note.id) && decide (o.note.id ≤ 9223372036854775807))
def repG (r : Replica) : Bool := decide (r.ops.length ≤ 1000) && (r.ops.all opG && decide (r.seen.length ≤ 1000))
theorem opG_ok {o : Op} (h : opG o = true) : o.over.length ≤ 100000 ∧ I64 o.note.id := by
  simp [opG] at h
  exact ⟨by omega, h.2⟩
theorem FitO.of {r : Replica} (h : repG r = true) : FitO r.ops ∧ r.seen.length ≤ 1000000 ∧ Ids r.ops := by
  simp only [repG, Bool.and_eq_true, decide_eq_true_eq, List.all_eq_true] at h
  exact ⟨⟨by omega, fun o ho => (opG_ok (h.2.1 o ho)).1⟩, by omega, fun o ho => (opG_ok (h.2.1 o ho)).2⟩
theorem FitG.of {r : Replica} (h : repG r = true) (h0 : repE r = 0) : FitG r := by
  obtain ⟨h1, h2, h3⟩ := FitO.of h
  exact ⟨h1, h2, h3, good_of h0⟩
theorem cell_fit {l : List Op} (hl : l.length ≤ 100000) {note : Int} {c : Cell} (h : cell l note = some c) : FitC c := by
  have hv : ∀ note f, (valuesL l note f).length ≤ 100000 := fun note f => by
    have := valuesL_len l note f
    omega
  obtain ⟨a, _, rfl, _⟩ := cell_inv h
  exact ⟨hv _ _, hv _ _, hv _ _⟩
end Go.Proofs.YtnacjdaoiepbhaaGreatDoor
end
section
namespace Go.Proofs.YtnacjdaoiepbhaaGreatDoor
open Go.Ac Go.MapKept
attribute [local irreducible] awp awpL Ev Ev2 EvS thenQ blockQ retQ PCalls OCalls YieldOk IterC ICalls
theorem rep_fit {r : Replica} (h : repE r = 0) : FitR r := by
  obtain ⟨_, h2, _, _, h3⟩ := repE_all h
  exact ⟨⟨by omega, fun o ho => by have := opE_over (repE_ops h o ho); omega⟩, by rw [h2, seenL_len]; omega⟩
end Go.Proofs.YtnacjdaoiepbhaaGreatDoor
end
section
namespace Go.Proofs.YtnacjdaoiepbhaaGreatDoor
open Go.Ac Go.MapKept
attribute [local irreducible] awp awpL Ev Ev2 EvS thenQ blockQ retQ PCalls OCalls YieldOk IterC ICalls
end Go.Proofs.YtnacjdaoiepbhaaGreatDoor
end
section
namespace Go.Proofs.YtnacjdaoiepbhaaGreatDoor
open Go.Ac Go.MapKept
attribute [local irreducible] awp awpL Ev Ev2 EvS thenQ blockQ retQ PCalls OCalls YieldOk IterC ICalls
structure Ask where
  r : Replica
  note : Int
  field : Int
  n : Int
  text : ByteArray
def askC (x : Ask) : List AV := [.v (.int .i64 x.r.dev), encIs x.r.seen, encOps x.r.ops, .v (.int .i64 x.note), .v (.int .i64 x.field), .v (.int .i64 x.n), .v (.string x.text)]
theorem zero_fit : FitR zeroRep := ⟨⟨by simp [zeroRep], fun o ho => by cases ho⟩, by simp [zeroRep]⟩
theorem withR_fit (r : Replica) (o : Op) : FitR (withR r o).1 := by
  by_cases h : repE (longerR r o) = 0
  · rw [withR_good h]; exact rep_fit h
  · rw [withR_err h]; exact zero_fit
theorem setR_fit (r : Replica) (note f n : Int) (t : ByteArray) : FitR (setR r note f n t).1 := by
  rcases living_cases r note with ⟨e, he, h1, h2, _⟩ | ⟨a, s, h1, h2, _⟩
  · rw [h2]; exact zero_fit
  · rw [h2]; exact withR_fit _ _
end Go.Proofs.YtnacjdaoiepbhaaGreatDoor
end
section
namespace Go.Proofs.YtnacjdaoiepbhaaGreatDoor
open Go.Ac Go.MapKept
attribute [local irreducible] awp awpL Ev Ev2 EvS thenQ blockQ retQ PCalls OCalls YieldOk IterC ICalls
end Go.Proofs.YtnacjdaoiepbhaaGreatDoor
end
section
namespace Go.Proofs.YtnacjdaoiepbhaaGreatDoor
open Go.Ac Go.MapKept
attribute [local irreducible] awp awpL Ev Ev2 EvS thenQ blockQ retQ PCalls OCalls YieldOk IterC ICalls
theorem living_next (r : Replica) (note : Int) : (∃ e, e ≠ 0 ∧ (∀ f n t, setR r note f n t = (zeroRep, e)) ∧ dropR r note = (zeroRep, e) ∧ (cell r.ops note = none → e = 9 ∨ e = 26)) ∨
    (∃ a s, nextS r.seen r.dev = some s ∧ addedO r.ops note = some a ∧ cell r.ops note = some (cellOf r.ops note a) ∧ (∀ f n t, setR r note f n t = withR r (setOpR s a.rec_ note f n t (atsV (valuesL r.ops note f)))) ∧ dropR r note = withR r (dropOpR s a.rec_ note (overAll r.ops note))) := by
  unfold setR dropR
  cases ha : addedO r.ops note with
  | none => exact .inl ⟨9, by decide, fun _ _ _ => by cases nextS r.seen r.dev <;> rfl, by cases nextS r.seen r.dev <;> rfl, fun _ => .inl rfl⟩
  | some a =>
    cases hlv : lives r.ops note with
    | false => exact .inl ⟨26, by decide, fun _ _ _ => by cases nextS r.seen r.dev <;> rfl, by cases nextS r.seen r.dev <;> rfl, fun _ => .inr rfl⟩
    | true =>
      obtain ⟨b, hb, hc⟩ := lives_cell hlv
      rw [ha] at hb
      cases hb
      cases hn : nextS r.seen r.dev with
      | none => exact .inl ⟨27, by decide, fun _ _ _ => rfl, rfl, fun h => by rw [hc] at h; cases h⟩
      | some s => exact .inr ⟨a, s, rfl, rfl, hc, fun _ _ _ => rfl, rfl⟩
end Go.Proofs.YtnacjdaoiepbhaaGreatDoor
end
section
namespace Go.Proofs.YtnacjdaoiepbhaaGreatDoor
open Go.Ac Go.MapKept
attribute [local irreducible] awp awpL Ev Ev2 EvS thenQ blockQ retQ PCalls OCalls YieldOk IterC ICalls
theorem rep_G {r : Replica} (h : repE r = 0) (hi : Ids r.ops) : FitG r := by
  obtain ⟨_, h2, _, _, h3⟩ := repE_all h
  exact ⟨⟨by omega, (rep_fit h).1.2⟩, by rw [h2, seenL_len]; omega, hi, good_of h⟩
theorem cell_ne {r : Replica} (hg : Good r.ops) {note : Int} {c : Cell} (h : cell r.ops note = some c) : c.text.length ≠ 0 ∧ c.fro.length ≠ 0 ∧ c.til.length ≠ 0 := by
  obtain ⟨a, ha, rfl, _⟩ := cell_inv h
  refine ⟨fun e => ?_, fun e => ?_, fun e => ?_⟩
  · exact values_ne hg ha (f := 0) (by decide) (List.eq_nil_of_length_eq_zero e)
  · exact values_ne hg ha (f := 1) (by decide) (List.eq_nil_of_length_eq_zero e)
  · exact values_ne hg ha (f := 2) (by decide) (List.eq_nil_of_length_eq_zero e)
theorem set_told {r : Replica} (h : FitG r) {note f n : Int} {t : ByteArray} (hno : I64 note) (he : (setR r note f n t).2 = 0) :
    ∃ a s, nextS r.seen r.dev = some s ∧ addedO r.ops note = some a ∧ (setR r note f n t).1 = longerR r (setOpR s a.rec_ note f n t (atsV (valuesL r.ops note f))) ∧ repE (longerR r (setOpR s a.rec_ note f n t (atsV (valuesL r.ops note f)))) = 0 ∧
      FitG (setR r note f n t).1 ∧ (cell r.ops note).isSome = true ∧ within f 0 2 = true ∧ valuesL (setR r note f n t).1.ops note f = [⟨s, n, t⟩] ∧ cell (setR r note f n t).1.ops note = some (cellOf (setR r note f n t).1.ops note a) := by
  rcases living_next r note with ⟨e, h0, h1, _, _⟩ | ⟨a, s, hn, ha, hc, h1, _⟩
  · rw [h1] at he; exact absurd he h0
  · rw [h1] at he ⊢
    obtain ⟨h2, h3⟩ := withR_ok he
    rw [h2]
    have hg : Good (r.ops ++ [setOpR s a.rec_ note f n t (atsV (valuesL r.ops note f))]) := good_of h3
    have ho : opE (setOpR s a.rec_ note f n t (atsV (valuesL r.ops note f))) = 0 := hg.2 _ (List.mem_append_right _ (List.mem_singleton_self _))
    refine ⟨a, s, hn, ha, rfl, h3, rep_G h3 (ids_snoc h.i hno), by rw [hc]; rfl, (setE_zero ho rfl).1, ?_, ?_⟩
    · exact set_values hg rfl rfl rfl
    · exact set_lives hg rfl rfl rfl ha
end Go.Proofs.YtnacjdaoiepbhaaGreatDoor
end
