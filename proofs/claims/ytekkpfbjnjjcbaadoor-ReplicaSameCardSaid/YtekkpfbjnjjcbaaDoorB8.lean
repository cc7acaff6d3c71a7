/- A logic of trees over the model's steps, and the contracts of the functions that the laws reach: part 8 of 10. -/
import Derived.Test.YtekkpfbjnjjcbaaDoorB7
section
set_option linter.unusedVariables false
set_option linter.unusedSimpArgs false
set_option linter.unusedSectionVars false
namespace Go.Proofs.YtekkpfbjnjjcbaaDoor
open Go.Ac Go.MapKept
attribute [local irreducible] awp awpL Ev Ev2 EvS thenQ blockQ retQ PCalls OCalls YieldOk IterC
set_option linter.unusedSimpArgs false
set_option linter.unusedVariables false
variable {g : List (Nat × List AV)}
def cellC (c : Cell) : List AV := vi c.rec_ :: (noteC c.note ++ [encVals c.text, encVals c.fro, encVals c.til])
abbrev zeroCellC : List AV := [vi 0, vi 0, vi 0, vi 0, vi 0, vi 0, vi 0, .v (.string .empty), nilS, nilS, nilS]
theorem le_zeroCell : LeA zeroCellC (cellC zeroCell) :=
  .cons (Le.rfl' _) (.cons (Le.rfl' _) (.cons (Le.rfl' _) (.cons (Le.rfl' _) (.cons (Le.rfl' _) (.cons (Le.rfl' _) (.cons (Le.rfl' _) (.cons (Le.rfl' _) (.cons (Le.nil 4) (.cons (Le.nil 4) (.cons (Le.nil 4) .nil))))))))))
def cellV (o : Option Cell) : AV := .tup [.agg (cellC (o.getD zeroCell)), vb o.isSome]
def puts (m : List (Stamp × Unit)) (l : List Stamp) : List (Stamp × Unit) := l.foldl (fun m s => aput m s ()) m
def dropStep (note : Int) (m : List (Stamp × Unit)) (d : Op) : List (Stamp × Unit) := if d.kind = 2 ∧ d.note.id = note then puts m d.over else m
def dropM (note : Int) (l : List Op) : List (Stamp × Unit) := l.foldl (dropStep note) []
theorem puts_get (l : List Stamp) : ∀ (m : List (Stamp × Unit)) (s : Stamp), (aget (puts m l) s).isSome = ((aget m s).isSome || l.any fun q => decide (q = s)) := by
  induction l with
  | nil => intro m s; simp [puts]
  | cons q r ih =>
    intro m s
    show (aget (puts (aput m q ()) r) s).isSome = _
    rw [ih, aget_put]
    by_cases h : q = s
    · simp [h]
    · simp [h]
theorem dropM_get (note : Int) (l : List Op) (f : Int) (s : Stamp) : (aget (dropM note l) s).isSome = overd l s 2 note f := by
  have : ∀ (l : List Op) (m : List (Stamp × Unit)), (aget (l.foldl (dropStep note) m) s).isSome = ((aget m s).isSome || overd l s 2 note f) := by
    intro l
    induction l with
    | nil => intro m; simp [overd]
    | cons d r ih =>
      intro m
      rw [List.foldl_cons, ih]
      unfold dropStep
      by_cases h : d.kind = 2 ∧ d.note.id = note
      · rw [if_pos h, puts_get]
        simp [overd, overO, h.1, h.2, Bool.or_assoc]
      · rw [if_neg h]
        have : overO 2 note f s d = false := by
          unfold overO
          by_cases h1 : d.kind = 2
          · have h2 : ¬ d.note.id = note := fun e => h ⟨h1, e⟩
            simp [h2]
          · simp [h1]
        simp [overd, this]
  simpa [dropM, aget] using this l []
theorem puts_nd (l : List Stamp) : ∀ (m : List (Stamp × Unit)), ANd m → ANd (puts m l) := by
  induction l with
  | nil => intro m h; exact h
  | cons q r ih => intro m h; exact ih _ (h.put _ _)
theorem dropM_nd (note : Int) (l : List Op) : ANd (dropM note l) := by
  unfold dropM
  have : ∀ (l : List Op) (m : List (Stamp × Unit)), ANd m → ANd (l.foldl (dropStep note) m) := by
    intro l
    induction l with
    | nil => intro m h; exact h
    | cons o r ih =>
      intro m h
      refine ih _ ?_
      unfold dropStep
      split
      · exact puts_nd _ _ h
      · exact h
  exact this l [] List.nodup_nil
def dks (m : List (Stamp × Unit)) : List Value := m.map fun p => stampV p.1
def dxs (m : List (Stamp × Unit)) : List AV := m.map fun _ => vb true
theorem dks_ok (m : List (Stamp × Unit)) : ∀ k ∈ dks m, isStampV k := by
  intro k hk
  obtain ⟨p, _, rfl⟩ := List.mem_map.1 hk
  exact stampV_ok _
theorem dks_nd {m : List (Stamp × Unit)} (h : ANd m) : (dks m).Nodup := h.kv stampV_inj
theorem d_look (m : List (Stamp × Unit)) (k : Stamp) : MLook (dks m) (dxs m) (stampV k) (vb false) (vb (aget m k).isSome) (aget m k).isSome := by
  have := look_data (kv := stampV) (va := fun _ : Unit => vb true) stampV_inj m k (vb false)
  cases h : aget m k with
  | none => rw [h] at this; exact this
  | some v => rw [h] at this; exact this
theorem d_put (m : List (Stamp × Unit)) (k : Stamp) : MPut (dks m) (dxs m) (stampV k) (vb true) (dks (aput m k ())) (dxs (aput m k ())) := put_data (kv := stampV) (va := fun _ : Unit => vb true) stampV_inj m k ()
abbrev dropK (note : Int) (l : List Op) (k : Nat) : List (Stamp × Unit) := dropM note (l.take k)
theorem dropK_succ {note : Int} {l : List Op} {k : Nat} {x : Op} (h : l[k]? = some x) : dropK note l (k + 1) = dropStep note (dropK note l k) x := by
  unfold dropK dropM
  rw [List.take_add_one, h, List.foldl_append]; rfl
theorem puts_succ (m : List (Stamp × Unit)) {l : List Stamp} {k : Nat} {x : Stamp} (h : l[k]? = some x) : puts m (l.take (k + 1)) = aput (puts m (l.take k)) x () := by
  unfold puts
  rw [List.take_add_one, h, List.foldl_append]; rfl
theorem cell_some {l : List Op} {note : Int} {o : Op} (h : addedO l note = some o) {f : Int} (hf : f = 0 ∨ f = 1 ∨ f = 2) (hs : saved l note f = true) : cell l note = some (cellOf l note o) := by
  unfold cell
  rw [h]
  simp only
  rw [if_pos]
  rcases hf with rfl | rfl | rfl <;> simp [hs]
theorem cell_none {l : List Op} {note : Int} {o : Op} (h : addedO l note = some o) (hs : ∀ f : Nat, f < 3 → saved l note f = false) : cell l note = none := by
  unfold cell
  rw [h]
  simp only
  have h0 := hs 0 (by omega)
  have h1 := hs 1 (by omega)
  have h2 := hs 2 (by omega)
  rw [if_neg]
  have e0 : saved l note 0 = false := h0
  have e1 : saved l note 1 = false := h1
  have e2 : saved l note 2 = false := h2
  simp [e0, e1, e2]
theorem saved_false {l : List Op} {note f : Int} (h : ∀ v ∈ valuesL l note f, overd l v.at_ 2 note f = true) : saved l note f = false := by
  unfold saved
  rw [List.any_eq_false]
  intro v hv
  simp [h v hv]
set_option maxRecDepth 8000 in
set_option maxHeartbeats 8000000 in
theorem Cell_spec (r : Replica) (note : Int) (hl : r.ops.length ≤ 100000) (ho : ∀ o ∈ r.ops, o.over.length ≤ 100000) (hg : Good r.ops) : PCalls Tryd.prog g 23 [.agg (repC r), vi note] (cellV (cell r.ops note)) := by
  have hA := Added_spec (g := g) r note (by omega)
  rw [addedV] at hA
  have hv0 := values_spec (g := g) r note 0 hl ho hg
  have hv1 := values_spec (g := g) r note 1 hl ho hg
  have hv2 := values_spec (g := g) r note 2 hl ho hg
  have n1 : (!true) = false := rfl
  have n2 : (!false) = true := rfl
  refine pcalls' Tryd.func23 Tryd.ntmps23 rfl rfl rfl ?_
  cases ha : addedO r.ops note with
  | none =>
    rw [ha] at hA
    simp only [Option.getD_none, Option.isSome_none] at hA
    repeat' (first
     | refine stn [4] ?_
     | ((with_reducible refine is_gd ?_); refine awpL_split rfl rfl (fun h => ?_) (fun h => ?_))
     | ((with_reducible refine is_awp ?_); refine awp_cond rfl (fun h => ?_) (fun h => ?_))
     | fail)
    refine retLe rfl ?_
    rw [show cell r.ops note = none by unfold cell; rw [ha]]
    exact Le.tup (.cons (Le.agg le_zeroCell) (.cons (Le.rfl' _) .nil))
  | some a =>
  rw [ha] at hA
  simp only [Option.getD_some, Option.isSome_some] at hA
  repeat' (first
   | ((with_reducible refine is_un ?_); refine awpL_ev2 (ev_mkmap (by (try simp only [List.length_nil, List.length_cons, Nat.reduceAdd]); (try rfl)) (by (try simp only [List.set_cons_zero, List.set_cons_succ, List.nil_append, List.cons_append, List.append_nil, cellsOf, List.take_zero, List.drop_zero, List.take_succ_cons, List.drop_succ_cons, Nat.zero_add, Nat.reduceAdd, List.drop_nil, List.map_cons, List.map_nil]); (try rfl))) rfl ?_)
   | refine stn [4] ?_
   | ((with_reducible refine is_gd ?_); refine awpL_split rfl rfl (fun h => ?_) (fun h => ?_))
   | ((with_reducible refine is_awp ?_); refine awp_cond rfl (fun h => ?_) (fun h => ?_))
   | fail)
  refine awp_for (α := Nat) 3 (fun k => [(1, vi note), (2, .fp (repC r)), (4, .lp 0 0), (6, .fp (opC a)), (8, .mp 2), (29, encOps r.ops), (30, vi r.ops.length), (31, vi k)]) (fun k => [.box zeroCellC, .dead, .map (dks (dropK note r.ops k)) (dxs (dropK note r.ops k))]) (fun k => k ≤ r.ops.length) (fun k => r.ops.length - k) 0
    ⟨(.cons rfl rfl (.cons rfl rfl (.cons rfl rfl (.cons rfl rfl (.cons rfl rfl (.cons rfl rfl (.cons rfl rfl (.cons rfl rfl .nil)))))))), rfl, rfl, rfl⟩ (Nat.zero_le _) ?_
  rintro k hk
  cases ht : r.ops[k]? with
  | some x =>
    have hlt : k < r.ops.length := (List.getElem?_eq_some_iff.1 ht).1
    have c1 : decide ((k : Int) < r.ops.length) = true := decide_eq_true (by omega)
    have h1 := op_get ht
    have hov := ho x (List.mem_of_getElem? ht)
    have hS := dropK_succ (note := note) ht
    rw [dropStep] at hS
    have hnd : ANd (dropK note r.ops k) := dropM_nd note (r.ops.take k)
    generalize hM : dropK note r.ops k = M at hnd hS ⊢
    generalize hM' : dropK note r.ops (k + 1) = M' at hS
    by_cases hk2 : x.kind = 2
    · have d1 : decide (x.kind = 2) = true := decide_eq_true hk2
      by_cases hid : x.note.id = note
      · have d2 : decide (x.note.id = note) = true := decide_eq_true hid
        rw [if_pos ⟨hk2, hid⟩] at hS
        repeat' (first
         | refine stn [4] ?_
         | ((with_reducible refine is_gd ?_); refine awpL_split rfl rfl (fun h => ?_) (fun h => ?_))
         | ((with_reducible refine is_awp ?_); refine awp_cond rfl (fun h => ?_) (fun h => ?_))
         | fail)
        refine awp_for (α := Nat) 3 (fun j => [(1, vi note), (2, .fp (repC r)), (4, .lp 0 0), (6, .fp (opC a)), (8, .mp 2), (29, encOps r.ops), (30, vi r.ops.length), (31, vi k), (46, encStamps x.over), (47, vi x.over.length), (48, vi j)]) (fun j => [.box zeroCellC, .dead, .map (dks (puts M (x.over.take j))) (dxs (puts M (x.over.take j)))]) (fun j => j ≤ x.over.length) (fun j => x.over.length - j) 0
          ⟨(.cons rfl rfl (.cons rfl rfl (.cons rfl rfl (.cons rfl rfl (.cons rfl rfl (.cons rfl rfl (.cons rfl rfl (.cons rfl rfl (.cons rfl rfl (.cons rfl rfl (.cons rfl rfl .nil))))))))))), rfl, rfl, rfl⟩ (Nat.zero_le _) ?_
        rintro j hj
        cases hs : x.over[j]? with
        | some s =>
          have hjl : j < x.over.length := (List.getElem?_eq_some_iff.1 hs).1
          have c2 : decide ((j : Int) < x.over.length) = true := decide_eq_true (by omega)
          have h2 := stamp_get hs
          have hnd2 := puts_nd (x.over.take j) M hnd
          have hput := d_put (puts M (x.over.take j)) s
          rw [← puts_succ M hs] at hput
          repeat' (first
           | ((with_reducible refine is_un ?_); refine awpL_evS (ev_mapUpd (L' := [.box zeroCellC, .dead, .map (dks (puts M (x.over.take (j + 1)))) (dxs (puts M (x.over.take (j + 1)))), .dead]) stampKey rfl rfl rfl (stampV_R s) rfl rfl rfl rfl (dks_ok _) (stampV_ok _) hput (dks_nd hnd2) rfl) ?_)
           | refine stn [4] ?_
           | ((with_reducible refine is_gd ?_); refine awpL_split rfl rfl (fun h => ?_) (fun h => ?_))
           | ((with_reducible refine is_awp ?_); refine awp_cond rfl (fun h => ?_) (fun h => ?_))
           | fail)
          exact ⟨j + 1, ⟨(.cons rfl rfl (.cons rfl rfl (.cons rfl rfl (.cons rfl rfl (.cons rfl rfl (.cons rfl rfl (.cons rfl rfl (.cons rfl rfl (.cons rfl rfl (.cons rfl rfl (.cons rfl rfl .nil))))))))))), rfl, rfl, rfl⟩, by omega, by omega⟩
        | none =>
          have hjl : x.over.length ≤ j := by simpa using hs
          have c2 : decide ((j : Int) < x.over.length) = false := decide_eq_false (by omega)
          have hD : puts M (x.over.take j) = M' := by rw [List.take_of_length_le hjl, hS]
          rw [hD]
          repeat' (first
           | refine stn [4] ?_
           | ((with_reducible refine is_gd ?_); refine awpL_split rfl rfl (fun h => ?_) (fun h => ?_))
           | ((with_reducible refine is_awp ?_); refine awp_cond rfl (fun h => ?_) (fun h => ?_))
           | fail)
          exact ⟨k + 1, by rw [hM']; exact ⟨(.cons rfl rfl (.cons rfl rfl (.cons rfl rfl (.cons rfl rfl (.cons rfl rfl (.cons rfl rfl (.cons rfl rfl (.cons rfl rfl .nil)))))))), rfl, rfl, rfl⟩, by omega, by omega⟩
      · have d2 : decide (x.note.id = note) = false := decide_eq_false hid
        rw [if_neg (fun h => hid h.2)] at hS
        subst hS
        repeat' (first
         | refine stn [4] ?_
         | ((with_reducible refine is_gd ?_); refine awpL_split rfl rfl (fun h => ?_) (fun h => ?_))
         | ((with_reducible refine is_awp ?_); refine awp_cond rfl (fun h => ?_) (fun h => ?_))
         | fail)
        exact ⟨k + 1, by rw [hM']; exact ⟨(.cons rfl rfl (.cons rfl rfl (.cons rfl rfl (.cons rfl rfl (.cons rfl rfl (.cons rfl rfl (.cons rfl rfl (.cons rfl rfl .nil)))))))), rfl, rfl, rfl⟩, by omega, by omega⟩
    · have d1 : decide (x.kind = 2) = false := decide_eq_false hk2
      rw [if_neg (fun h => hk2 h.1)] at hS
      subst hS
      repeat' (first
       | refine stn [4] ?_
       | ((with_reducible refine is_gd ?_); refine awpL_split rfl rfl (fun h => ?_) (fun h => ?_))
       | ((with_reducible refine is_awp ?_); refine awp_cond rfl (fun h => ?_) (fun h => ?_))
       | fail)
      exact ⟨k + 1, by rw [hM']; exact ⟨(.cons rfl rfl (.cons rfl rfl (.cons rfl rfl (.cons rfl rfl (.cons rfl rfl (.cons rfl rfl (.cons rfl rfl (.cons rfl rfl .nil)))))))), rfl, rfl, rfl⟩, by omega, by omega⟩
  | none =>
  have hge : r.ops.length ≤ k := by simpa using ht
  have c1 : decide ((k : Int) < r.ops.length) = false := decide_eq_false (by omega)
  have hD : dropK note r.ops k = dropM note r.ops := by unfold dropK; rw [List.take_of_length_le hge]
  rw [hD]
  have hnd := dropM_nd note r.ops
  have hget : ∀ f s, (aget (dropM note r.ops) s).isSome = overd r.ops s 2 note f := fun f s => dropM_get note r.ops f s
  generalize dropM note r.ops = D at hnd hget ⊢
  have hlen : ∀ f, (valuesL r.ops note f).length ≤ 100000 := fun f => by
    unfold valuesL
    rw [List.length_map]
    exact Nat.le_trans (List.length_filter_le ..) hl
  have z4 : zeroOf Tryd.prog 4 = some (.bool false) := by kernel_rfl
  repeat' (first
   | refine st [4] ?_
   | ((with_reducible refine is_gd ?_); refine awpL_split rfl rfl (fun h => ?_) (fun h => ?_))
   | ((with_reducible refine isD_gd ?_); ((fail_if_success (refine isD_kn (c := true) rfl (by first | with_reducible rfl | with_reducible assumption) ?_)); (fail_if_success (refine isD_kn (c := false) rfl (by first | with_reducible rfl | with_reducible assumption) ?_)); refine awpD_split rfl (fun h => ?_) (fun h => ?_)))
   | ((with_reducible refine is_awp ?_); refine awp_cond rfl (fun h => ?_) (fun h => ?_))
   | fail)
  refine awp_for (α := Nat) 4 (fun i => [(4, .lp 0 0), (8, .mp 2), (13, .lp 3 0), (76, .fs 1 3 [[encVals (valuesL r.ops note 0)], [encVals (valuesL r.ops note 1)], [encVals (valuesL r.ops note 2)]]), (77, vi 3), (78, vi i)]) (fun _ => [.box zeroCellC, .dead, .map (dks D) (dxs D), .box (cellC (cellOf r.ops note a))]) (fun i => i ≤ 3 ∧ ∀ f : Nat, f < i → saved r.ops note f = false) (fun i => 3 - i) 0
    ⟨(.cons rfl rfl (.cons rfl rfl (.cons rfl rfl (.cons rfl rfl (.cons rfl rfl (.cons rfl rfl .nil)))))), rfl, rfl, rfl⟩ ⟨by omega, fun f h => by omega⟩ ?_
  rintro i ⟨hi, hsv⟩
  by_cases hi3 : i < 3
  · have c2 : decide ((i : Int) < 3) = true := decide_eq_true (by omega)
    have g1 : 0 ≤ (i : Int) ∧ [[encVals (valuesL r.ops note 0)], [encVals (valuesL r.ops note 1)], [encVals (valuesL r.ops note 2)]][(i : Int).toNat]? = some [encVals (valuesL r.ops note i)] := by
      rcases (show i = 0 ∨ i = 1 ∨ i = 2 by omega) with rfl | rfl | rfl <;> exact ⟨by omega, rfl⟩
    have hli := hlen i
    have hgi := hget (i : Int)
    have hsf := saved_false (l := r.ops) (note := note) (f := (i : Int))
    have hss : ∀ v ∈ valuesL r.ops note i, overd r.ops v.at_ 2 note i = false → saved r.ops note i = true := fun v hv ho => by
      unfold saved; rw [List.any_eq_true]; exact ⟨v, hv, by rw [ho]; rfl⟩
    have hif : (i : Int) = 0 ∨ (i : Int) = 1 ∨ (i : Int) = 2 := by omega
    repeat' (first
     | refine stn [4] ?_
     | ((with_reducible refine is_gd ?_); refine awpL_split rfl rfl (fun h => ?_) (fun h => ?_))
     | ((with_reducible refine is_awp ?_); refine awp_cond rfl (fun h => ?_) (fun h => ?_))
     | fail)
    generalize valuesL r.ops note i = V at *
    refine awp_for (α := Nat) 4 (fun j => [(4, .lp 0 0), (8, .mp 2), (13, .lp 3 0), (76, .fs 1 3 [[encVals (valuesL r.ops note 0)], [encVals (valuesL r.ops note 1)], [encVals (valuesL r.ops note 2)]]), (77, vi 3), (78, vi i), (82, encVals V), (83, vi V.length), (84, vi j)]) (fun _ => [.box zeroCellC, .dead, .map (dks D) (dxs D), .box (cellC (cellOf r.ops note a))]) (fun j => j ≤ V.length ∧ ∀ v ∈ V.take j, overd r.ops v.at_ 2 note i = true) (fun j => V.length - j) 0
      ⟨(.cons rfl rfl (.cons rfl rfl (.cons rfl rfl (.cons rfl rfl (.cons rfl rfl (.cons rfl rfl (.cons rfl rfl (.cons rfl rfl (.cons rfl rfl .nil))))))))), rfl, rfl, rfl⟩ ⟨Nat.zero_le _, fun v h => by simp at h⟩ ?_
    rintro j ⟨hj, hall⟩
    cases hs : V[j]? with
    | some v =>
      have hjl : j < V.length := (List.getElem?_eq_some_iff.1 hs).1
      have c3 : decide ((j : Int) < V.length) = true := decide_eq_true (by omega)
      have h2 := val_get hs
      have hlook := d_look D v.at_
      rw [hgi] at hlook
      cases hov : overd r.ops v.at_ 2 note i with
      | true =>
        rw [hov] at hlook
        repeat' (first
         | ((with_reducible refine is_un ?_); refine awpL_ev (ev_lookup stampKey rfl rfl rfl (stampV_R v.at_) rfl rfl z4 rfl (dks_ok _) (stampV_ok _) hlook (dks_nd hnd) rfl) rfl ?_)
         | refine stn [4] ?_
         | ((with_reducible refine is_gd ?_); refine awpL_split rfl rfl (fun h => ?_) (fun h => ?_))
         | ((with_reducible refine is_awp ?_); refine awp_cond rfl (fun h => ?_) (fun h => ?_))
         | fail)
        exact ⟨j + 1, ⟨(.cons rfl rfl (.cons rfl rfl (.cons rfl rfl (.cons rfl rfl (.cons rfl rfl (.cons rfl rfl (.cons rfl rfl (.cons rfl rfl (.cons rfl rfl .nil))))))))), rfl, rfl, rfl⟩, ⟨by omega, fun w hw => by
          rw [List.take_add_one, hs] at hw
          rcases List.mem_append.1 hw with g | g
          · exact hall w g
          · simp only [Option.toList_some, List.mem_singleton] at g; subst g; exact hov⟩, by omega⟩
      | false =>
        rw [hov] at hlook
        rw [cell_some ha hif (hss v (List.mem_of_getElem? hs) hov)]
        repeat' (first
         | ((with_reducible refine is_un ?_); refine awpL_ev (ev_lookup stampKey rfl rfl rfl (stampV_R v.at_) rfl rfl z4 rfl (dks_ok _) (stampV_ok _) hlook (dks_nd hnd) rfl) rfl ?_)
         | refine stn [4] ?_
         | ((with_reducible refine is_gd ?_); refine awpL_split rfl rfl (fun h => ?_) (fun h => ?_))
         | ((with_reducible refine is_awp ?_); refine awp_cond rfl (fun h => ?_) (fun h => ?_))
         | fail)
        exact retP rfl rfl
    | none =>
      have hjl : V.length ≤ j := by simpa using hs
      have c3 : decide ((j : Int) < V.length) = false := decide_eq_false (by omega)
      rw [List.take_of_length_le hjl] at hall
      have hsi := hsf hall
      repeat' (first
       | refine stn [4] ?_
       | ((with_reducible refine is_gd ?_); refine awpL_split rfl rfl (fun h => ?_) (fun h => ?_))
       | ((with_reducible refine is_awp ?_); refine awp_cond rfl (fun h => ?_) (fun h => ?_))
       | fail)
      exact ⟨i + 1, ⟨(.cons rfl rfl (.cons rfl rfl (.cons rfl rfl (.cons rfl rfl (.cons rfl rfl (.cons rfl rfl .nil)))))), rfl, rfl, rfl⟩, ⟨by omega, fun f hf => by
        rcases Nat.lt_or_ge f i with h | h
        · exact hsv f h
        · have : f = i := by omega
          subst this; exact hsi⟩, by omega⟩
  · have c2 : decide ((i : Int) < 3) = false := decide_eq_false (by omega)
    have hi4 : i = 3 := by omega
    subst hi4
    rw [cell_none ha hsv]
    repeat' (first
     | refine stn [4] ?_
     | ((with_reducible refine is_gd ?_); refine awpL_split rfl rfl (fun h => ?_) (fun h => ?_))
     | ((with_reducible refine is_awp ?_); refine awp_cond rfl (fun h => ?_) (fun h => ?_))
     | fail)
    exact retLe rfl (Le.tup (.cons (Le.agg le_zeroCell) (.cons (Le.rfl' _) .nil)))
end Go.Proofs.YtekkpfbjnjjcbaaDoor
end
section
set_option linter.unusedVariables false
set_option linter.unusedSimpArgs false
set_option linter.unusedSectionVars false
namespace Go.Proofs.YtekkpfbjnjjcbaaDoor
open Go.Ac Go.MapKept
attribute [local irreducible] awp awpL Ev Ev2 EvS thenQ blockQ retQ PCalls OCalls YieldOk IterC
set_option linter.unusedSimpArgs false
set_option linter.unusedVariables false
variable {g : List (Nat × List AV)}
abbrev encCells (l : List Cell) : AV := .fs 11 l.length (l.map cellC)
abbrev cellsK (l : List Op) (rc : Int) (k : Nat) : List Cell := (l.take k).foldl (cellsStep l rc) []
theorem cellsK_succ {l : List Op} {rc : Int} {k : Nat} {x : Op} (h : l[k]? = some x) : cellsK l rc (k + 1) = cellsStep l rc (cellsK l rc k) x := by
  unfold cellsK
  rw [List.take_add_one, h, List.foldl_append]; rfl
theorem cellsStep_len (l : List Op) (rc : Int) (out : List Cell) (o : Op) : (cellsStep l rc out o).length ≤ out.length + 1 := by
  unfold cellsStep
  split
  · split
    · simp
    · omega
  · omega
theorem cellsK_len (l : List Op) (rc : Int) : ∀ k, (cellsK l rc k).length ≤ k := by
  intro k
  induction k with
  | zero => simp [cellsK]
  | succ k ih =>
    cases ht : l[k]? with
    | none =>
      have hge : l.length ≤ k := by simpa using ht
      have : cellsK l rc (k + 1) = cellsK l rc k := by
        unfold cellsK
        rw [List.take_of_length_le hge, List.take_of_length_le (by omega)]
      rw [this]; omega
    | some x =>
      rw [cellsK_succ ht]
      have := cellsStep_len l rc (cellsK l rc k) x
      omega
set_option maxRecDepth 8000 in
set_option maxHeartbeats 4000000 in
theorem Cells_spec (r : Replica) (rc : Int) (hl : r.ops.length ≤ 100000) (ho : ∀ o ∈ r.ops, o.over.length ≤ 100000) (hg : Good r.ops) : PCalls Tryd.prog g 10 [.agg (repC r), vi rc] (encCells (cells r.ops rc)) := by
  refine pcalls' Tryd.func10 Tryd.ntmps10 rfl rfl rfl ?_
  have n1 : (!true) = false := rfl
  have n2 : (!false) = true := rfl
  repeat' (first
   | refine stn [] ?_
   | ((with_reducible refine is_gd ?_); refine awpL_split rfl rfl (fun h => ?_) (fun h => ?_))
   | ((with_reducible refine is_awp ?_); refine awp_cond rfl (fun h => ?_) (fun h => ?_))
   | fail)
  refine awp_adopt (t := 5) (E := 41) (sz := 11) rfl rfl rfl ?_
  refine awp_for (α := Nat) 1 (fun k => [(1, vi rc), (2, .fp (repC r)), (5, .os 0 0), (11, encOps r.ops), (12, vi r.ops.length), (13, vi k)]) (fun k => [.own 0 41 11 ((cellsK r.ops rc k).map cellC)]) (fun k => k ≤ r.ops.length) (fun k => r.ops.length - k) 0
    ⟨(.cons rfl rfl (.cons rfl rfl (.cons rfl rfl (.cons rfl rfl (.cons rfl rfl (.cons rfl rfl .nil)))))), rfl, rfl, rfl⟩ (Nat.zero_le _) ?_
  rintro k hk
  have hcl := cellsK_len r.ops rc k
  cases ht : r.ops[k]? with
  | none =>
    have hge : r.ops.length ≤ k := by simpa using ht
    have c1 : decide ((k : Int) < r.ops.length) = false := decide_eq_false (by omega)
    have hD : cellsK r.ops rc k = cells r.ops rc := by unfold cellsK cells; rw [List.take_of_length_le hge]
    rw [hD]
    repeat' (first
     | refine stn [] ?_
     | ((with_reducible refine is_gd ?_); refine awpL_split rfl rfl (fun h => ?_) (fun h => ?_))
     | ((with_reducible refine is_awp ?_); refine awp_cond rfl (fun h => ?_) (fun h => ?_))
     | fail)
    refine retP rfl ?_
    simp [ex]
  | some x =>
    have hlt : k < r.ops.length := (List.getElem?_eq_some_iff.1 ht).1
    have c1 : decide ((k : Int) < r.ops.length) = true := decide_eq_true (by omega)
    have h1 := op_get ht
    have hC := Cell_spec (g := g) r x.note.id hl ho hg
    rw [cellV] at hC
    have hS := cellsK_succ (rc := rc) ht
    rw [cellsStep] at hS
    generalize hM : cellsK r.ops rc k = M at hS hcl ⊢
    generalize hM' : cellsK r.ops rc (k + 1) = M' at hS
    have hmb : (M.map cellC).length ≤ 100000 := by rw [List.length_map]; omega
    by_cases hk0 : x.kind = 0
    · have d1 : (!decide (x.kind = 0)) = false := by simp [hk0]
      by_cases hr : x.rec_ = rc
      · have d2 : (!decide (x.rec_ = rc)) = false := by simp [hr]
        rw [if_pos ⟨hk0, hr⟩] at hS
        cases hc : cell r.ops x.note.id with
        | none =>
          rw [hc] at hC hS
          simp only [Option.getD_none, Option.isSome_none] at hC
          simp only at hS
          subst hS
          repeat' (first
           | refine stn [] ?_
           | ((with_reducible refine is_gd ?_); refine awpL_split rfl rfl (fun h => ?_) (fun h => ?_))
           | ((with_reducible refine is_awp ?_); refine awp_cond rfl (fun h => ?_) (fun h => ?_))
           | fail)
          exact ⟨k + 1, by rw [hM']; exact ⟨(.cons rfl rfl (.cons rfl rfl (.cons rfl rfl (.cons rfl rfl (.cons rfl rfl (.cons rfl rfl .nil)))))), rfl, rfl, rfl⟩, by omega, by omega⟩
        | some c =>
          rw [hc] at hC hS
          simp only [Option.getD_some, Option.isSome_some] at hC
          simp only at hS
          have hj : M.map cellC ++ [cellC c] = M'.map cellC := by rw [hS]; simp
          repeat' (first
           | ((with_reducible refine is_un ?_); refine awpL_ev2 (ev_app (es' := M'.map cellC) rfl rfl rfl rfl rfl rfl rfl rfl rfl rfl rfl rfl rfl (by simp only [List.length_map, List.length_cons, List.length_nil, List.length_append, List.length_take]; omega) hj rfl) rfl ?_)
           | refine stn [] ?_
           | ((with_reducible refine is_gd ?_); refine awpL_split rfl rfl (fun h => ?_) (fun h => ?_))
           | ((with_reducible refine is_awp ?_); refine awp_cond rfl (fun h => ?_) (fun h => ?_))
           | fail)
          exact ⟨k + 1, by rw [hM']; exact ⟨(.cons rfl rfl (.cons rfl rfl (.cons rfl rfl (.cons rfl rfl (.cons rfl rfl (.cons rfl rfl .nil)))))), rfl, rfl, rfl⟩, by omega, by omega⟩
      · have d2 : (!decide (x.rec_ = rc)) = true := by simp [hr]
        rw [if_neg (fun h => hr h.2)] at hS
        subst hS
        repeat' (first
         | refine stn [] ?_
         | ((with_reducible refine is_gd ?_); refine awpL_split rfl rfl (fun h => ?_) (fun h => ?_))
         | ((with_reducible refine is_awp ?_); refine awp_cond rfl (fun h => ?_) (fun h => ?_))
         | fail)
        exact ⟨k + 1, by rw [hM']; exact ⟨(.cons rfl rfl (.cons rfl rfl (.cons rfl rfl (.cons rfl rfl (.cons rfl rfl (.cons rfl rfl .nil)))))), rfl, rfl, rfl⟩, by omega, by omega⟩
    · have d1 : (!decide (x.kind = 0)) = true := by simp [hk0]
      rw [if_neg (fun h => hk0 h.1)] at hS
      subst hS
      repeat' (first
       | refine stn [] ?_
       | ((with_reducible refine is_gd ?_); refine awpL_split rfl rfl (fun h => ?_) (fun h => ?_))
       | ((with_reducible refine is_awp ?_); refine awp_cond rfl (fun h => ?_) (fun h => ?_))
       | fail)
      exact ⟨k + 1, by rw [hM']; exact ⟨(.cons rfl rfl (.cons rfl rfl (.cons rfl rfl (.cons rfl rfl (.cons rfl rfl (.cons rfl rfl .nil)))))), rfl, rfl, rfl⟩, by omega, by omega⟩
end Go.Proofs.YtekkpfbjnjjcbaaDoor
end
section
set_option linter.unusedVariables false
set_option linter.unusedSimpArgs false
set_option linter.unusedSectionVars false
namespace Go.Proofs.YtekkpfbjnjjcbaaDoor
open Go.Ac Go.MapKept
attribute [local irreducible] awp awpL Ev Ev2 EvS thenQ blockQ retQ PCalls OCalls YieldOk IterC
set_option linter.unusedSimpArgs false
set_option linter.unusedVariables false
variable {g : List (Nat × List AV)}
def FitO (l : List Op) : Prop := l.length ≤ 10000 ∧ ∀ o ∈ l, o.over.length ≤ 100000
end Go.Proofs.YtekkpfbjnjjcbaaDoor
end
section
set_option linter.unusedVariables false
set_option linter.unusedSimpArgs false
set_option linter.unusedSectionVars false
namespace Go.Proofs.YtekkpfbjnjjcbaaDoor
open Go.Ac Go.MapKept
attribute [local irreducible] awp awpL Ev Ev2 EvS thenQ blockQ retQ PCalls OCalls YieldOk IterC
set_option linter.unusedSimpArgs false
set_option linter.unusedVariables false
variable {g : List (Nat × List AV)}
theorem lives_cell {l : List Op} {note : Int} (h : lives l note = true) : ∃ a, addedO l note = some a ∧ cell l note = some (cellOf l note a) := by
  have := cell_lives (l := l) (note := note)
  rw [h] at this
  obtain ⟨c, hc⟩ := Option.isSome_iff_exists.1 this
  obtain ⟨a, h1, h2, _⟩ := cell_inv hc
  exact ⟨a, h1, by rw [hc, h2]⟩
theorem lives_cellN {l : List Op} {note : Int} (h : lives l note = false) : cell l note = none := by
  have := cell_lives (l := l) (note := note)
  rw [h] at this
  simpa using this
end Go.Proofs.YtekkpfbjnjjcbaaDoor
end
section
set_option linter.unusedVariables false
set_option linter.unusedSimpArgs false
set_option linter.unusedSectionVars false
namespace Go.Proofs.YtekkpfbjnjjcbaaDoor
open Go.RowKit Go.Shelf Go.Lib Go.Sort
set_option maxHeartbeats 2000000 in
theorem zStamp (a b c d : Int) (W : World) : Calls Tryd.prog 60 #[.agg #[.int .i64 a, .int .i64 b], .agg #[.int .i64 c, .int .i64 d]] W fun e w' => e = .returned (.int .i64 (if (decide (a < c) || (decide (a = c) && decide (b < d))) = true then -1 else 1)) ∧ ∃ q os', w' = grow (W.drewN q) os' := by
  have hL := zLess a b c d
  generalize (decide (a < c) || (decide (a = c) && decide (b < d))) = r at hL ⊢
  cases r with
  | true =>
    go_enter Tryd.func60, Tryd.ntmps60
    go_wp2_with (go_at_call 34; refine (hL _).mono ?_; rintro e w' ⟨rfl, q, os', hw'⟩; rw [hw'])
    go_ret
    exact ⟨rfl, q, _, grow3 _ _ _ _ _⟩
  | false =>
    go_enter Tryd.func60, Tryd.ntmps60
    go_wp2_with (go_at_call 34; refine (hL _).mono ?_; rintro e w' ⟨rfl, q, os', hw'⟩; rw [hw'])
    go_ret
    exact ⟨rfl, q, _, grow3 _ _ _ _ _⟩
def sortStamps_ren : Go.Shelf.Ren := ⟨fun | 6 => 59 | 15 => 66 | 14 => 68 | 28 => 78 | 29 => 79 | 20 => 80 | 21 => 81 | 22 => 82 | 23 => 83 | 24 => 84 | 25 => 85 | 26 => 86 | 27 => 87 | 46 => 95 | 47 => 91 | 48 => 92 | 49 => 96 | 50 => 97 | 57 => 101 | n => n, fun | 22 => 50 | 24 => 49 | 25 => 105 | 3 => 3 | 39 => 112 | 0 => 0 | 53 => 125 | 55 => 127 | 4 => 4 | 46 => 119 | 45 => 118 | 50 => 74 | 5 => 5 | 9 => 9 | 66 => 137 | 70 => 141 | 76 => 151 | 77 => 152 | n => n, fun n => n⟩
theorem sortStamps : Go.Proofs.SlLaysF0.n6 Tryd.prog sortStamps_ren := {
  mixed := by kernel_rfl
  f6 := ⟨ "slices.SortFunc[[]langdoc/api.Stamp,langdoc/api.Stamp]", by kernel_rfl, Tryd.func59.trans (congrArg some (by kernel_rfl))⟩
  f14 := ⟨ "slices.pdqsortCmpFunc[langdoc/api.Stamp]", by kernel_rfl, Tryd.func68.trans (congrArg some (by kernel_rfl))⟩
  f15 := Tryd.func66.trans (congrArg some (by kernel_rfl))
  f20 := ⟨ "slices.insertionSortCmpFunc[langdoc/api.Stamp]", by kernel_rfl, Tryd.func80.trans (congrArg some (by kernel_rfl))⟩
  f21 := ⟨ "slices.heapSortCmpFunc[langdoc/api.Stamp]", by kernel_rfl, Tryd.func81.trans (congrArg some (by kernel_rfl))⟩
  f22 := ⟨ "slices.breakPatternsCmpFunc[langdoc/api.Stamp]", by kernel_rfl, Tryd.func82.trans (congrArg some (by kernel_rfl))⟩
  f23 := ⟨ "slices.choosePivotCmpFunc[langdoc/api.Stamp]", by kernel_rfl, Tryd.func83.trans (congrArg some (by kernel_rfl))⟩
  f24 := ⟨ "slices.reverseRangeCmpFunc[langdoc/api.Stamp]", by kernel_rfl, Tryd.func84.trans (congrArg some (by kernel_rfl))⟩
  f25 := ⟨ "slices.partialInsertionSortCmpFunc[langdoc/api.Stamp]", by kernel_rfl, Tryd.func85.trans (congrArg some (by kernel_rfl))⟩
  f26 := ⟨ "slices.partitionEqualCmpFunc[langdoc/api.Stamp]", by kernel_rfl, Tryd.func86.trans (congrArg some (by kernel_rfl))⟩
  f27 := ⟨ "slices.partitionCmpFunc[langdoc/api.Stamp]", by kernel_rfl, Tryd.func87.trans (congrArg some (by kernel_rfl))⟩
  f28 := Tryd.func78.trans (congrArg some (by kernel_rfl))
  f29 := Tryd.func79.trans (congrArg some (by kernel_rfl))
  f46 := ⟨ "slices.siftDownCmpFunc[langdoc/api.Stamp]", by kernel_rfl, Tryd.func95.trans (congrArg some (by kernel_rfl))⟩
  f47 := Tryd.func91.trans (congrArg some (by kernel_rfl))
  f48 := Tryd.func92.trans (congrArg some (by kernel_rfl))
  f49 := ⟨ "slices.medianAdjacentCmpFunc[langdoc/api.Stamp]", by kernel_rfl, Tryd.func96.trans (congrArg some (by kernel_rfl))⟩
  f50 := ⟨ "slices.medianCmpFunc[langdoc/api.Stamp]", by kernel_rfl, Tryd.func97.trans (congrArg some (by kernel_rfl))⟩
  f57 := ⟨ "slices.order2CmpFunc[langdoc/api.Stamp]", by kernel_rfl, Tryd.func101.trans (congrArg some (by kernel_rfl))⟩
  t0 := Tryd.underlying0
  a0 := Tryd.isAgg0
  z0 := Tryd.sizeOf0
  v0 := Tryd.zeroValue0
  t3 := Tryd.underlying3
  a3 := Tryd.isAgg3
  z3 := Tryd.sizeOf3
  v3 := Tryd.zeroValue3
  t4 := Tryd.underlying4
  a4 := Tryd.isAgg4
  z4 := Tryd.sizeOf4
  v4 := Tryd.zeroValue4
  t5 := Tryd.underlying5
  a5 := Tryd.isAgg5
  z5 := Tryd.sizeOf5
  v5 := Tryd.zeroValue5
  t9 := Tryd.underlying9
  a9 := Tryd.isAgg9
  z9 := Tryd.sizeOf9
  v9 := Tryd.zeroValue9
  t22 := Tryd.underlying50
  a22 := Tryd.isAgg50
  z22 := Tryd.sizeOf50
  v22 := Tryd.zeroValue50
  t25 := Tryd.underlying105
  a25 := Tryd.isAgg105
  z25 := Tryd.sizeOf105
  v25 := Tryd.zeroValue105
  t39 := Tryd.underlying112
  a39 := Tryd.isAgg112
  z39 := Tryd.sizeOf112
  v39 := Tryd.zeroValue112
  t45 := Tryd.underlying118
  a45 := Tryd.isAgg118
  z45 := Tryd.sizeOf118
  v45 := Tryd.zeroValue118
  t46 := Tryd.underlying119
  a46 := Tryd.isAgg119
  z46 := Tryd.sizeOf119
  v46 := Tryd.zeroValue119
  t50 := Tryd.underlying74
  a50 := Tryd.isAgg74
  z50 := Tryd.sizeOf74
  v50 := Tryd.zeroValue74
  t53 := Tryd.underlying125
  a53 := Tryd.isAgg125
  z53 := Tryd.sizeOf125
  v53 := Tryd.zeroValue125
  t55 := Tryd.underlying127
  a55 := Tryd.isAgg127
  z55 := Tryd.sizeOf127
  v55 := Tryd.zeroValue127
  t66 := Tryd.underlying137
  a66 := Tryd.isAgg137
  z66 := Tryd.sizeOf137
  v66 := Tryd.zeroValue137
  t70 := Tryd.underlying141
  a70 := Tryd.isAgg141
  z70 := Tryd.sizeOf141
  v70 := Tryd.zeroValue141
  t76 := Tryd.underlying151
  a76 := Tryd.isAgg151
  z76 := Tryd.sizeOf151
  v76 := Tryd.zeroValue151
  t77 := Tryd.underlying152
  a77 := Tryd.isAgg152
  z77 := Tryd.sizeOf152
  v77 := Tryd.zeroValue152 }
def encSt (s : Stamp) : List Value := [.int .i64 s.count, .int .i64 s.dev]
def cmpSt (a b : Stamp) : Int := if less a b = true then -1 else 1
theorem ltSt (a b : Stamp) : ltOf cmpSt a b = less a b := by
  unfold ltOf cmpSt
  cases less a b <;> simp
theorem swoSt : SWO (ltOf cmpSt) where
  irrefl x := by rw [ltSt]; exact less_irr _
  trans x y z h1 h2 := by rw [ltSt] at *; exact less_trans h1 h2
  ntrans x y z h1 h2 := by
    rw [ltSt] at *
    rcases nless_iff.1 h1 with h | h
    · exact less_asym (le_less (nless_iff.2 (nless_iff.1 h2)) h)
    · rw [← h] at *; exact h2
theorem laysSt (blk off size : Nat) (w : World) : CmpLays Tryd.prog 60 #[] encSt 2 cmpSt blk off size w :=
  fun _ _ _ _ x y => zStamp x.count x.dev y.count y.dev _
theorem sortStamps_calls (d : List Stamp) (blk cap : Nat) (w : World) (hsz : d.length ≤ 1000000) (hH : HoldsK encSt 2 w blk 0 d.toArray) (hb : blk < w.heap.size) :
    Calls Tryd.prog 59 #[.slice (some ⟨blk, 0, none⟩) d.toArray.size cap, .func (.func 60) #[] #[]] w fun e w' => e = .returned (.tuple #[]) ∧ ∃ d' n os, PermIn 0 d.toArray.size d.toArray d' ∧ SortedIn (ltOf cmpSt) 0 d.toArray.size d' ∧ w' = sortWorldK encSt 2 w blk 0 n d' os :=
  AnyQ.slices_SortFunc sortStamps 2 Tryd.isAgg49 Tryd.sizeOf49 encSt (fun _ => rfl) (fun x v hv => by simp [encSt] at hv; rcases hv with rfl | rfl <;> rfl) cmpSt swoSt 60 #[] blk 0 cap d.toArray w
    (enters_of Tryd.func60 (by kernel_rfl) rfl) (laysSt blk 0 d.toArray.size w) hH hb (by simp; omega)
theorem sortStamps_none (w : World) : Calls Tryd.prog 59 #[.slice none 0 0, .func (.func 60) #[] #[]] w fun e w' => e = .returned (.tuple #[]) ∧ ∃ n os, w' = Go.Sort.grow (Go.Sort.ahead w n) os :=
  (AnyF.slices_SortFunc_none (P := Tryd.prog) (ρ := sortStamps_ren) sortStamps none 0 (.func (.func 60) #[] #[]) w).mono fun _ _ ⟨h1, h2⟩ => ⟨h1, 0, #[], by rw [h2]; simp [Go.Sort.grow]⟩
end Go.Proofs.YtekkpfbjnjjcbaaDoor
end
section
set_option linter.unusedVariables false
set_option linter.unusedSimpArgs false
set_option linter.unusedSectionVars false
namespace Go.Proofs.YtekkpfbjnjjcbaaDoor
open Go.Ac Go.MapKept
attribute [local irreducible] awp awpL Ev Ev2 EvS thenQ blockQ retQ PCalls OCalls YieldOk IterC
set_option linter.unusedSimpArgs false
set_option linter.unusedVariables false
variable {g : List (Nat × List AV)}
def ixFrom (s : Stamp) : List Stamp → Nat → Int
  | [], _ => -1
  | x :: r, k => if x = s then (k : Int) else ixFrom s r (k + 1)
theorem ixFrom_ge (s : Stamp) : ∀ (l : List Stamp) (k : Nat), decide (0 ≤ ixFrom s l k) = decide (s ∈ l)
  | [], k => by simp [ixFrom]
  | x :: r, k => by
    have ih := ixFrom_ge s r (k + 1)
    unfold ixFrom
    by_cases h : x = s
    · subst h; simp
    · rw [if_neg h, ih]
      have : ¬ s = x := fun e => h e.symm
      simp [this]
theorem drop_at {α : Type} {l : List α} {k : Nat} {x : α} (h : l[k]? = some x) : l.drop k = x :: l.drop (k + 1) := by
  have hlt := (List.getElem?_eq_some_iff.1 h).1
  rw [List.drop_eq_getElem_cons hlt]
  congr 1
  rw [List.getElem?_eq_getElem hlt] at h
  exact Option.some.inj h
set_option maxHeartbeats 1000000 in
theorem Index_spec (l : List Stamp) (s : Stamp) (hl : l.length ≤ 1000000) : PCalls Tryd.prog g 67 [encStamps l, .agg (stampC s)] (vi (ixFrom s l 0)) := by
  refine pcalls' Tryd.func67 Tryd.ntmps67 rfl rfl rfl ?_
  repeat' (first
   | refine stn [] ?_
   | ((with_reducible refine is_gd ?_); refine awpL_split rfl rfl (fun h => ?_) (fun h => ?_))
   | ((with_reducible refine is_awp ?_); refine awp_cond rfl (fun h => ?_) (fun h => ?_))
   | fail)
  refine awp_for (α := Nat) 0 (fun k => [(0, encStamps l), (3, .fp (stampC s)), (7, vi l.length), (8, vi k)]) (fun _ => []) (fun k => k ≤ l.length ∧ ixFrom s l 0 = ixFrom s (l.drop k) k) (fun k => l.length - k) 0
    ⟨(.cons rfl rfl (.cons rfl rfl (.cons rfl rfl (.cons rfl rfl .nil)))), rfl, rfl, rfl⟩ ⟨Nat.zero_le _, rfl⟩ ?_
  rintro k ⟨hk, hf⟩
  cases ht : l[k]? with
  | none =>
    have hge : l.length ≤ k := by simpa using ht
    have c1 : decide ((k : Int) < l.length) = false := decide_eq_false (by omega)
    rw [List.drop_of_length_le hge] at hf
    repeat' (first
     | refine stn [] ?_
     | ((with_reducible refine is_gd ?_); refine awpL_split rfl rfl (fun h => ?_) (fun h => ?_))
     | ((with_reducible refine is_awp ?_); refine awp_cond rfl (fun h => ?_) (fun h => ?_))
     | fail)
    refine retP rfl ?_
    rw [hf]; rfl
  | some x =>
    have hlt : k < l.length := (List.getElem?_eq_some_iff.1 ht).1
    have c1 : decide ((k : Int) < l.length) = true := decide_eq_true (by omega)
    have h1 := stamp_get ht
    rw [drop_at ht, ixFrom] at hf
    by_cases he : x = s
    · have e1 : (s.count == x.count && s.dev == x.dev) = true := by rw [he]; simp
      rw [if_pos he] at hf
      repeat' (first
       | ((with_reducible refine isD_un ?_); refine awpD_un (as_ev (fun _ => ev_eqA (b := true) stampEq_T (by kernel_rfl) rfl rfl rfl rfl (by rw [← e1]; rfl)) rfl rfl) (by (try simp only [List.nil_append, List.cons_append]); (try rfl)) ?_)
       | ((with_reducible refine isD_gd ?_); refine awpD_gd rfl rfl (by first | with_reducible rfl | with_reducible assumption) (as_ev (fun _ => ev_eqA (b := true) stampEq_T (by kernel_rfl) rfl rfl rfl rfl (by rw [← e1]; rfl)) rfl rfl) (by (try simp only [List.nil_append, List.cons_append]); (try rfl)) ?_)
       | refine st [] ?_
       | ((with_reducible refine is_gd ?_); refine awpL_split rfl rfl (fun h => ?_) (fun h => ?_))
       | ((with_reducible refine isD_gd ?_); ((fail_if_success (refine isD_kn (c := true) rfl (by first | with_reducible rfl | with_reducible assumption) ?_)); (fail_if_success (refine isD_kn (c := false) rfl (by first | with_reducible rfl | with_reducible assumption) ?_)); refine awpD_split rfl (fun h => ?_) (fun h => ?_)))
       | ((with_reducible refine is_awp ?_); refine awp_cond rfl (fun h => ?_) (fun h => ?_))
       | fail)
      refine retP rfl ?_
      rw [hf]; rfl
    · have e1 : (s.count == x.count && s.dev == x.dev) = false := by
        cases hc : (s.count == x.count && s.dev == x.dev) with
        | false => rfl
        | true => exact absurd (stamp_ext (by simpa using hc)).symm he
      rw [if_neg he] at hf
      repeat' (first
       | ((with_reducible refine isD_un ?_); refine awpD_un (as_ev (fun _ => ev_eqA (b := false) stampEq_T (by kernel_rfl) rfl rfl rfl rfl (by rw [← e1]; rfl)) rfl rfl) (by (try simp only [List.nil_append, List.cons_append]); (try rfl)) ?_)
       | ((with_reducible refine isD_gd ?_); refine awpD_gd rfl rfl (by first | with_reducible rfl | with_reducible assumption) (as_ev (fun _ => ev_eqA (b := false) stampEq_T (by kernel_rfl) rfl rfl rfl rfl (by rw [← e1]; rfl)) rfl rfl) (by (try simp only [List.nil_append, List.cons_append]); (try rfl)) ?_)
       | refine st [] ?_
       | ((with_reducible refine is_gd ?_); refine awpL_split rfl rfl (fun h => ?_) (fun h => ?_))
       | ((with_reducible refine isD_gd ?_); ((fail_if_success (refine isD_kn (c := true) rfl (by first | with_reducible rfl | with_reducible assumption) ?_)); (fail_if_success (refine isD_kn (c := false) rfl (by first | with_reducible rfl | with_reducible assumption) ?_)); refine awpD_split rfl (fun h => ?_) (fun h => ?_)))
       | ((with_reducible refine is_awp ?_); refine awp_cond rfl (fun h => ?_) (fun h => ?_))
       | fail)
      exact ⟨k + 1, ⟨(.cons rfl rfl (.cons rfl rfl (.cons rfl rfl (.cons rfl rfl .nil)))), rfl, rfl, rfl⟩, ⟨by omega, hf⟩, by omega⟩
theorem Contains_spec (l : List Stamp) (s : Stamp) (hl : l.length ≤ 1000000) : PCalls Tryd.prog g 58 [encStamps l, .agg (stampC s)] (vb (decide (s ∈ l))) := by
  have hI := Index_spec (g := g) l s hl
  have hg := ixFrom_ge s l 0
  refine pcalls' Tryd.func58 Tryd.ntmps58 rfl rfl rfl ?_
  repeat' (first
   | refine stn [] ?_
   | ((with_reducible refine is_gd ?_); refine awpL_split rfl rfl (fun h => ?_) (fun h => ?_))
   | ((with_reducible refine is_awp ?_); refine awp_cond rfl (fun h => ?_) (fun h => ?_))
   | fail)
  refine retP rfl ?_
  rw [← hg]; rfl
abbrev preS (ls : List (List Val)) (i : Nat) : List Stamp := (ls.take i).flatMap atsV
theorem preS_succ {ls : List (List Val)} {i : Nat} {V : List Val} (h : ls[i]? = some V) : preS ls (i + 1) = preS ls i ++ atsV V := by
  unfold preS
  rw [List.take_add_one, h, Option.toList_some, List.flatMap_append]
  simp
theorem preS_len {ls : List (List Val)} {n : Nat} (hv : ∀ l ∈ ls, l.length ≤ n) : ∀ i, (preS ls i).length ≤ i * n := by
  intro i
  induction i with
  | zero => simp [preS]
  | succ i ih =>
    cases h : ls[i]? with
    | none =>
      have hge : ls.length ≤ i := by simpa using h
      have : preS ls (i + 1) = preS ls i := by unfold preS; rw [List.take_of_length_le hge, List.take_of_length_le (by omega)]
      rw [this, Nat.add_mul]; omega
    | some V =>
      rw [preS_succ h, List.length_append, atsV_len, Nat.add_mul]
      have := hv V (List.mem_of_getElem? h)
      omega
set_option maxRecDepth 4000 in
set_option maxHeartbeats 4000000 in
theorem stamps_spec (ls : List (List Val)) (hn : ls.length ≤ 10) (hv : ∀ l ∈ ls, l.length ≤ 10000) (m : List Stamp) (hm : IncS m) (he : ∀ s, s ∈ m ↔ s ∈ ls.flatMap atsV) : PCalls Tryd.prog g 43 [.fs 1 ls.length (ls.map fun l => [encVals l])] (encStamps m) := by
  have n1 : (!true) = false := rfl
  have n2 : (!false) = true := rfl
  refine pcalls' Tryd.func43 Tryd.ntmps43 rfl rfl rfl ?_
  repeat' (first
   | refine stn [] ?_
   | ((with_reducible refine is_gd ?_); refine awpL_split rfl rfl (fun h => ?_) (fun h => ?_))
   | ((with_reducible refine is_awp ?_); refine awp_cond rfl (fun h => ?_) (fun h => ?_))
   | fail)
  refine awp_adopt (t := 3) (E := 49) (sz := 2) rfl rfl rfl ?_
  refine awp_for (α := Nat) 1 (fun i => [(3, .os 0 0), (8, .fs 1 ls.length (ls.map fun l => [encVals l])), (9, vi ls.length), (10, vi i)]) (fun i => [.own 0 49 2 ((uniqS (preS ls i)).map stampC)]) (fun i => i ≤ ls.length) (fun i => ls.length - i) 0
    ⟨(.cons rfl rfl (.cons rfl rfl (.cons rfl rfl (.cons rfl rfl .nil)))), rfl, rfl, rfl⟩ (Nat.zero_le _) ?_
  rintro i hi
  have hpl := preS_len hv i
  have hpl2 : i * 10000 ≤ 100000 := by omega
  cases ht : ls[i]? with
  | some V =>
    have hlt : i < ls.length := (List.getElem?_eq_some_iff.1 ht).1
    have c1 : decide ((i : Int) < ls.length) = true := decide_eq_true (by omega)
    have g1 : 0 ≤ (i : Int) ∧ (ls.map fun l => [encVals l])[(i : Int).toNat]? = some [encVals V] := ⟨by omega, by simp [ht]⟩
    have hVl := hv V (List.mem_of_getElem? ht)
    have hS := preS_succ ht
    generalize hP : preS ls i = P at hS hpl ⊢
    repeat' (first
     | refine stn [] ?_
     | ((with_reducible refine is_gd ?_); refine awpL_split rfl rfl (fun h => ?_) (fun h => ?_))
     | ((with_reducible refine is_awp ?_); refine awp_cond rfl (fun h => ?_) (fun h => ?_))
     | fail)
    refine awp_for (α := Nat) 1 (fun j => [(3, .os 0 0), (8, .fs 1 ls.length (ls.map fun l => [encVals l])), (9, vi ls.length), (10, vi i), (14, encVals V), (15, vi V.length), (16, vi j)]) (fun j => [.own 0 49 2 ((uniqS (P ++ (atsV V).take j)).map stampC)]) (fun j => j ≤ V.length) (fun j => V.length - j) 0
      (by simp only [List.take_zero, List.append_nil]; exact ⟨(.cons rfl rfl (.cons rfl rfl (.cons rfl rfl (.cons rfl rfl (.cons rfl rfl (.cons rfl rfl (.cons rfl rfl .nil))))))), rfl, rfl, rfl⟩) (Nat.zero_le _) ?_
    rintro j hj
    cases hs : V[j]? with
    | some v =>
      have hjl : j < V.length := (List.getElem?_eq_some_iff.1 hs).1
      have c2 : decide ((j : Int) < V.length) = true := decide_eq_true (by omega)
      have h2 := val_get hs
      have hU : uniqS (P ++ (atsV V).take (j + 1)) = addS (uniqS (P ++ (atsV V).take j)) v.at_ := by
        rw [← uniqS_snoc, List.append_assoc]
        congr 2
        rw [List.take_add_one, show (atsV V)[j]? = some v.at_ by unfold atsV; rw [List.getElem?_map, hs]; rfl]
        rfl
      have hUl : (uniqS (P ++ (atsV V).take j)).length ≤ 200000 := by
        have h1 := uniqS_len (P ++ (atsV V).take j)
        have h2 : ((atsV V).take j).length ≤ j := by rw [List.length_take]; omega
        rw [List.length_append] at h1
        omega
      generalize hM : uniqS (P ++ (atsV V).take j) = M at hU hUl ⊢
      generalize hM' : uniqS (P ++ (atsV V).take (j + 1)) = M' at hU
      have hC : PCalls Tryd.prog g 58 [.fs 2 (M.map stampC).length (M.map stampC), .agg (stampC v.at_)] (vb (decide (v.at_ ∈ M))) := by rw [List.length_map]; exact Contains_spec M v.at_ (by omega)
      have hx : exL [.own 0 49 2 (M.map stampC), .dead] [.os 0 0, .agg (stampC v.at_)] = [.fs 2 (M.map stampC).length (M.map stampC), .agg (stampC v.at_)] := by simp [exL, ex]
      by_cases hin : v.at_ ∈ M
      · rw [decide_eq_true hin] at hC
        rw [addS_in hin] at hU
        subst hU
        repeat' (first
         | ((with_reducible refine is_un ?_); refine awpL_callS rfl hx hC rfl rfl ?_)
         | refine stn [] ?_
         | ((with_reducible refine is_gd ?_); refine awpL_split rfl rfl (fun h => ?_) (fun h => ?_))
         | ((with_reducible refine is_awp ?_); refine awp_cond rfl (fun h => ?_) (fun h => ?_))
         | fail)
        exact ⟨j + 1, by rw [hM']; exact ⟨(.cons rfl rfl (.cons rfl rfl (.cons rfl rfl (.cons rfl rfl (.cons rfl rfl (.cons rfl rfl (.cons rfl rfl .nil))))))), rfl, rfl, rfl⟩, by omega, by omega⟩
      · rw [decide_eq_false hin] at hC
        rw [addS_new hin] at hU
        have hjj : M.map stampC ++ [stampC v.at_] = M'.map stampC := by rw [hU]; simp
        repeat' (first
         | ((with_reducible refine is_un ?_); (first | refine awpL_callS rfl hx hC rfl rfl ?_ | refine awpL_ev2 (ev_app (es' := M'.map stampC) rfl rfl rfl rfl rfl rfl rfl rfl rfl rfl rfl rfl rfl (by simp only [List.length_map, List.length_cons, List.length_nil, List.length_append, List.length_take]; omega) hjj rfl) rfl ?_))
         | refine stn [] ?_
         | ((with_reducible refine is_gd ?_); refine awpL_split rfl rfl (fun h => ?_) (fun h => ?_))
         | ((with_reducible refine is_awp ?_); refine awp_cond rfl (fun h => ?_) (fun h => ?_))
         | fail)
        exact ⟨j + 1, by rw [hM']; exact ⟨(.cons rfl rfl (.cons rfl rfl (.cons rfl rfl (.cons rfl rfl (.cons rfl rfl (.cons rfl rfl (.cons rfl rfl .nil))))))), rfl, rfl, rfl⟩, by omega, by omega⟩
    | none =>
      have hjl : V.length ≤ j := by simpa using hs
      have c2 : decide ((j : Int) < V.length) = false := decide_eq_false (by omega)
      have hD : P ++ (atsV V).take j = preS ls (i + 1) := by rw [List.take_of_length_le (by rw [atsV_len]; omega), hS]
      rw [hD]
      repeat' (first
       | refine stn [] ?_
       | ((with_reducible refine is_gd ?_); refine awpL_split rfl rfl (fun h => ?_) (fun h => ?_))
       | ((with_reducible refine is_awp ?_); refine awp_cond rfl (fun h => ?_) (fun h => ?_))
       | fail)
      exact ⟨i + 1, ⟨(.cons rfl rfl (.cons rfl rfl (.cons rfl rfl (.cons rfl rfl .nil)))), rfl, rfl, rfl⟩, by omega, by omega⟩
  | none =>
    have hge : ls.length ≤ i := by simpa using ht
    have c1 : decide ((i : Int) < ls.length) = false := decide_eq_false (by omega)
    have hD : preS ls i = ls.flatMap atsV := by unfold preS; rw [List.take_of_length_le hge]
    rw [hD] at hpl ⊢
    have hul := uniqS_len (ls.flatMap atsV)
    have hfin := fun (d : List Stamp) hp hs => stamps_sorted (l := ls.flatMap atsV) (m := m) (d := d) hp hs hm he
    generalize uniqS (ls.flatMap atsV) = M at hul hfin ⊢
    repeat' (first
     | refine stn [] ?_
     | ((with_reducible refine is_gd ?_); refine awpL_split rfl rfl (fun h => ?_) (fun h => ?_))
     | ((with_reducible refine is_awp ?_); refine awp_cond rfl (fun h => ?_) (fun h => ?_))
     | fail)
    refine awpL_sort (enc := encSt) (d := M) (lt := Go.Proofs.ltOf cmpSt) rfl rfl (fun _ => rfl) (fun x v hv => by simp [encSt] at hv; rcases hv with rfl | rfl <;> rfl) (callable Tryd.func59 rfl rfl) (fun blk cap w hH hb => sortStamps_calls _ blk cap w (by omega) hH hb) (fun _ w => sortStamps_none w) rfl fun d' hp hs => ?_
    have hd := hfin d' hp (hs.imp fun h => by rw [ltSt] at h; exact h)
    subst hd
    repeat' (first
     | refine stn [] ?_
     | ((with_reducible refine is_gd ?_); refine awpL_split rfl rfl (fun h => ?_) (fun h => ?_))
     | ((with_reducible refine is_awp ?_); refine awp_cond rfl (fun h => ?_) (fun h => ?_))
     | fail)
    refine retP rfl ?_
    simp [ex]
    exact fun _ _ => rfl
end Go.Proofs.YtekkpfbjnjjcbaaDoor
end
