/- A logic of trees over the model's steps, and the contracts of the functions that the laws reach: part 9 of 10. -/
import Derived.Test.YtifpafbmfedpkaaDoorB8
section
set_option linter.unusedVariables false
set_option linter.unusedSimpArgs false
set_option linter.unusedSectionVars false
namespace Go.Proofs.YtifpafbmfedpkaaDoor
open Go.Ac Go.MapKept
attribute [local irreducible] awp awpL Ev Ev2 EvS thenQ blockQ retQ PCalls OCalls YieldOk IterC ICalls
set_option linter.unusedSimpArgs false
set_option linter.unusedVariables false
def lastS (pre : List Op) : Stamp := match pre.getLast? with
  | some p => p.at_
  | none => ⟨0, 0⟩
abbrev chkL (pre : List Op) : List LB := [.map (aks (addedM pre)) (axs (addedM pre)), .map (wks (writesM pre)) (wxs (writesM pre)), .box [.mp 0, .mp 1, vi (lastS pre).count, vi (lastS pre).dev], .dead]
theorem ord_last {pre : List Op} {o : Op} (h : opE o = 0) : (match pre.getLast? with | some p => less p.at_ o.at_ | none => true) = less (lastS pre) o.at_ := by
  unfold lastS
  cases pre.getLast? with
  | some p => rfl
  | none =>
    have := right_dev (opE_right h)
    simp [less]; omega
theorem lastS_snoc (pre : List Op) (o : Op) : lastS (pre ++ [o]) = o.at_ := by simp [lastS]
theorem rec_get {pre : List Op} (hp : Good pre) (o : Op) : (match addedO pre o.note.id with | some a => decide (a.rec_ = o.rec_) | none => false) = ((aget (addedM pre) o.note.id).isSome && decide ((aget (addedM pre) o.note.id).getD 0 = o.rec_)) := by
  rw [get_added hp]
  cases addedO pre o.note.id with
  | none => rfl
  | some a => simp
theorem fld_get {j : Nat} (h : j < 3) : 0 ≤ (j : Int) ∧ (j : Int) < (3 : Nat) ∧ [vi 0, vi 1, vi 2][(j : Int).toNat]? = some (vi j) := by
  have : j = 0 ∨ j = 1 ∨ j = 2 := by omega
  rcases this with rfl | rfl | rfl <;> exact ⟨by omega, by omega, rfl⟩
theorem wr_upd {o : Op} {m : List (WK × Unit)} {j : Nat} (hj : j < 3) : wrK o m (j + 1) = if writes o o.note.id j then aput (wrK o m j) ⟨o.at_, o.note.id, j⟩ () else wrK o m j := wrK_succ o m j hj
set_option maxRecDepth 8000 in
set_option maxHeartbeats 8000000 in
theorem one_spec (pre : List Op) (o : Op) (hp : Good pre) (hid : I64 o.note.id) : ICalls Tryd.prog (Glo.of GL) 48 [.lp 2 0, .agg (opC o)] (chkL pre) (chkL (if oneE pre o = 0 then pre ++ [o] else pre)) (vi (oneE pre o)) := by
  have hC := Op_spec (g := GL) GL_utf o hid
  refine icalls Tryd.func48 rfl Tryd.ntmps48 rfl rfl rfl rfl rfl rfl ?_
  have n1 : (!true) = false := rfl
  have n2 : (!false) = true := rfl
  by_cases hE : opE o = 0
  case neg =>
    have c0 : (!decide (opE o = 0)) = true := by simp [hE]
    rw [oneE_bad hE, if_neg hE]
    refine runn [0] ?_
    exact retI rfl ⟨rfl, rfl⟩
  case pos =>
  have c0 : (!decide (opE o = 0)) = false := by simp [hE]
  have hL := Less_spec (g := GL) (lastS pre) o.at_
  have hord := ord_last (pre := pre) hE
  cases ha : less (lastS pre) o.at_ with
  | false =>
    rw [ha] at hL hord
    rw [oneE_10 hE hord, if_neg (by omega)]
    refine run [0] ?_
    exact retI rfl ⟨rfl, rfl⟩
  | true =>
  rw [ha] at hL hord
  have hrec := rec_get hp o
  have hlook := a_look (addedM pre) o.note.id
  have hand := aks_nd (addedM_nd pre)
  have hwnd := wks_nd (writesM_nd pre)
  have hwr : ∀ s n f, (aget (writesM pre) ⟨s, n, f⟩).isSome = writer pre s n f := get_writes pre
  have h16 := opE_over hE
  have z3 : zeroOf Tryd.prog 3 = some (.int .i64 0) := by kernel_rfl
  have z4 : zeroOf Tryd.prog 4 = some (.bool false) := by kernel_rfl
  refine run [0] ?_
  have rest : o.kind ≠ 0 → ∀ b, ((aget (addedM pre) o.note.id).isSome && decide ((aget (addedM pre) o.note.id).getD 0 = o.rec_)) = b → (match addedO pre o.note.id with | some a => decide (a.rec_ = o.rec_) | none => false) = b := fun _ b h => hrec.trans h
  by_cases hbad : o.kind ≠ 0 ∧ ((aget (addedM pre) o.note.id).isSome && decide ((aget (addedM pre) o.note.id).getD 0 = o.rec_)) = false
  case pos =>
    obtain ⟨hk, hb⟩ := hbad
    have d0 : (!decide (o.kind = 0)) = true := by simp [hk]
    rw [oneE_9 hE hord hk (hrec.trans hb), if_neg (by omega)]
    cases hs : (aget (addedM pre) o.note.id).isSome with
    | false =>
      rw [hs] at hlook
      repeat' (first
       | ((with_reducible refine isD_un ?_); refine awpD_un (as_pure rfl (by repeat' (first | exact Msk.nil | apply Msk.base | apply Msk.vis rfl | apply Msk.hid rfl)) (ev_lookup intKey rfl rfl rfl (intV_R _) rfl rfl z3 rfl (aks_ok _) (intV_ok _) hlook hand rfl) rfl rfl rfl) (by (try simp only [List.nil_append, List.cons_append]); (try rfl)) ?_)
       | refine st [0] ?_
       | fail)
      exact retI rfl ⟨rfl, rfl⟩
    | true =>
      rw [hs, Bool.true_and] at hb
      rw [hs] at hlook
      have d1 : (!decide ((aget (addedM pre) o.note.id).getD 0 = o.rec_)) = true := by rw [hb]; rfl
      repeat' (first
       | ((with_reducible refine isD_un ?_); refine awpD_un (as_pure rfl (by repeat' (first | exact Msk.nil | apply Msk.base | apply Msk.vis rfl | apply Msk.hid rfl)) (ev_lookup intKey rfl rfl rfl (intV_R _) rfl rfl z3 rfl (aks_ok _) (intV_ok _) hlook hand rfl) rfl rfl rfl) (by (try simp only [List.nil_append, List.cons_append]); (try rfl)) ?_)
       | refine st [0] ?_
       | fail)
      exact retI rfl ⟨rfl, rfl⟩
  case neg =>
  have hgood : o.kind ≠ 0 → (aget (addedM pre) o.note.id).isSome = true ∧ (aget (addedM pre) o.note.id).getD 0 = o.rec_ := fun hk => by
    cases hb : ((aget (addedM pre) o.note.id).isSome && decide ((aget (addedM pre) o.note.id).getD 0 = o.rec_)) with
    | false => exact absurd ⟨hk, hb⟩ hbad
    | true => simpa using hb
  refine awp_cut 5 [(0, .lp 2 0), (3, .fp (opC o))] (chkL pre ++ [.pin]) ?_ ?_
  · by_cases hk : o.kind = 0
    · have d0 : (!decide (o.kind = 0)) = false := by simp [hk]
      refine runn [0] ?_
      exact ⟨(.cons rfl rfl (.cons rfl rfl .nil)), rfl, rfl, rfl⟩
    · have d0 : (!decide (o.kind = 0)) = true := by simp [hk]
      obtain ⟨g1, g2⟩ := hgood hk
      rw [g1] at hlook
      have d1 : (!decide ((aget (addedM pre) o.note.id).getD 0 = o.rec_)) = false := by simp [g2]
      repeat' (first
       | ((with_reducible refine isD_un ?_); refine awpD_un (as_pure rfl (by repeat' (first | exact Msk.nil | apply Msk.base | apply Msk.vis rfl | apply Msk.hid rfl)) (ev_lookup intKey rfl rfl rfl (intV_R _) rfl rfl z3 rfl (aks_ok _) (intV_ok _) hlook hand rfl) rfl rfl rfl) (by (try simp only [List.nil_append, List.cons_append]); (try rfl)) ?_)
       | refine st [0] ?_
       | fail)
      exact ⟨(.cons rfl rfl (.cons rfl rfl .nil)), rfl, rfl, rfl⟩
  have hone : oneE pre o = if o.over.all (overOk pre o) = true then 0 else 27 := by
    by_cases hk : o.kind = 0
    · have h0 : o.over = [] := by
        have : wanted (decide (o.over.length = 0)) = 0 := by
          have h := hE
          unfold opE at h
          rw [if_neg (by simp [opE_right hE]), if_pos hk] at h
          split at h
          · omega
          · exact (firstE3' _ _ _ h).2.2
        unfold wanted at this
        split at this
        · rename_i q; simpa using q
        · omega
      rw [oneE_add hE hord hk, h0]; rfl
    · obtain ⟨g1, g2⟩ := hgood hk
      have hb : (match addedO pre o.note.id with | some a => decide (a.rec_ = o.rec_) | none => false) = true := hrec.trans (by rw [g1, g2]; simp)
      cases hc : o.over.all (overOk pre o) with
      | true => rw [oneE_0 hE hord hk hb hc]; rfl
      | false => rw [oneE_27 hE hord hk hb hc]; rfl
  repeat' (first
   | refine stn [0] ?_
   | ((with_reducible refine is_awp ?_); refine awp_cond rfl (fun h => ?_) (fun h => ?_))
   | fail)
  refine awp_cutBP 5 (o.over.all (overOk pre o) = true) [(0, .lp 2 0), (3, .fp (opC o))] (chkL pre ++ [.pin]) ?_ ?_
  · refine awp_for (α := Nat) 5 (fun k => [(0, .lp 2 0), (3, .fp (opC o)), (51, encStamps o.over), (52, vi o.over.length), (53, vi k)]) (fun _ => chkL pre ++ [.pin]) (fun k => k ≤ o.over.length ∧ o.over.all (overOk pre o) = (o.over.drop k).all (overOk pre o)) (fun k => o.over.length - k) 0
      ⟨(.cons rfl rfl (.cons rfl rfl (.cons rfl rfl (.cons rfl rfl (.cons rfl rfl .nil))))), rfl, rfl, rfl⟩ ⟨Nat.zero_le _, rfl⟩ ?_
    rintro k ⟨hkl, hall⟩
    cases ht : o.over[k]? with
    | none =>
      have hge : o.over.length ≤ k := by simpa using ht
      have c1 : decide ((k : Int) < o.over.length) = false := decide_eq_false (by omega)
      rw [List.drop_of_length_le hge] at hall
      refine runn [0] ?_
      exact ⟨hall, ⟨(.cons rfl rfl (.cons rfl rfl .nil)), rfl, rfl, rfl⟩⟩
    | some t =>
      have hltk : k < o.over.length := (List.getElem?_eq_some_iff.1 ht).1
      have c1 : decide ((k : Int) < o.over.length) = true := decide_eq_true (by omega)
      have g3 := stamp_get ht
      rw [all_drop _ _ k t ht] at hall
      repeat' (first
       | refine stn [0] ?_
       | ((with_reducible refine is_awp ?_); refine awp_cond rfl (fun h => ?_) (fun h => ?_))
       | fail)
      refine awp_cutB 5 [(0, .lp 2 0), (3, .fp (opC o)), (51, encStamps o.over), (52, vi o.over.length), (53, vi k), (10, vb (overOk pre o t))] (chkL pre ++ [.pin]) ?_ ?_
      · refine awp_for (α := Nat) 5 (fun j => [(0, .lp 2 0), (3, .fp (opC o)), (51, encStamps o.over), (52, vi o.over.length), (53, vi k), (9, .fp (stampC t)), (57, .agg [vi 0, vi 1, vi 2]), (58, vi j), (10, vb (anyK (okF pre o t) j))]) (fun _ => chkL pre ++ [.pin]) (fun j => j ≤ 3) (fun j => 3 - j) 0
          ⟨(.cons rfl rfl (.cons rfl rfl (.cons rfl rfl (.cons rfl rfl (.cons rfl rfl (.cons rfl rfl (.cons rfl rfl (.cons rfl rfl (.cons rfl rfl .nil))))))))), rfl, rfl, rfl⟩ (by omega) ?_
        intro j hj
        by_cases hj3 : j = 3
        · subst hj3
          have c2 : decide (((3 : Nat) : Int) < 3) = false := rfl
          refine runn [0] ?_
          exact ⟨(.cons rfl rfl (.cons rfl rfl (.cons rfl rfl (.cons rfl rfl (.cons rfl rfl (.cons rfl rfl .nil)))))), rfl, rfl, rfl⟩
        · have c2 : decide ((j : Int) < 3) = true := decide_eq_true (by omega)
          have hfj := fld_get (j := j) (by omega)
          have hS := anyK_succ (okF pre o t) (j := j) (by omega)
          have hw := w_look (writesM pre) ⟨t, o.note.id, j⟩
          rw [hwr] at hw
          cases hacc : anyK (okF pre o t) j with
          | true =>
            rw [hacc, Bool.true_or] at hS
            repeat' (first
             | ((with_reducible refine is_un ?_); refine awpL_ev (ev_index_arr rfl rfl rfl rfl rfl rfl rfl hfj) rfl ?_)
             | ((with_reducible refine is_draw ?_); refine awp_drawT 25 (by simp only [List.take_succ_cons, List.take_zero, List.take_nil]; rfl) (by simp only [List.drop_succ_cons, List.drop_zero, List.drop_nil]; rfl) (by kernel_rfl) rfl rfl rfl rfl (by repeat' (first | exact Strip.nil | apply Strip.keep rfl | apply Strip.drop rfl)) ?_)
             | refine st [0] ?_
             | fail)
            exact ⟨j + 1, ⟨(.cons rfl rfl (.cons rfl rfl (.cons rfl rfl (.cons rfl rfl (.cons rfl rfl (.cons rfl rfl (.cons rfl rfl (.cons rfl rfl (.cons rfl (by rw [hS]; rfl) .nil))))))))), rfl, rfl, rfl⟩, by omega, by omega⟩
          | false =>
            rw [hacc, Bool.false_or] at hS
            by_cases k2 : o.kind = 2
            · have e1 : decide (o.kind = 2) = true := decide_eq_true k2
              rw [okF, e1, Bool.true_or, Bool.true_and] at hS
              repeat' (first
               | ((with_reducible refine is_un ?_); refine awpL_ev (ev_index_arr rfl rfl rfl rfl rfl rfl rfl hfj) rfl ?_)
               | ((with_reducible refine isD_un ?_); refine awpD_un (as_pure rfl (by repeat' (first | exact Msk.nil | apply Msk.base | apply Msk.vis rfl | apply Msk.hid rfl)) (ev_lookup wkKey rfl rfl rfl (wkV_R _ _ _) rfl rfl z4 rfl (wks_ok _) (wkV_ok _) hw hwnd rfl) rfl rfl rfl) (by (try simp only [List.nil_append, List.cons_append]); (try rfl)) ?_)
               | ((with_reducible refine isD_gd ?_); refine awpD_gd rfl rfl (by first | with_reducible rfl | with_reducible assumption) (as_pure rfl (by repeat' (first | exact Msk.nil | apply Msk.base | apply Msk.vis rfl | apply Msk.hid rfl)) (ev_lookup wkKey rfl rfl rfl (wkV_R _ _ _) rfl rfl z4 rfl (wks_ok _) (wkV_ok _) hw hwnd rfl) rfl rfl rfl) (by (try simp only [List.nil_append, List.cons_append]); (try rfl)) ?_)
               | ((with_reducible refine is_draw ?_); refine awp_drawT 25 (by simp only [List.take_succ_cons, List.take_zero, List.take_nil]; rfl) (by simp only [List.drop_succ_cons, List.drop_zero, List.drop_nil]; rfl) (by kernel_rfl) rfl rfl rfl rfl (by repeat' (first | exact Strip.nil | apply Strip.keep rfl | apply Strip.drop rfl)) ?_)
               | refine st [0] ?_
               | fail)
              exact ⟨j + 1, ⟨(.cons rfl rfl (.cons rfl rfl (.cons rfl rfl (.cons rfl rfl (.cons rfl rfl (.cons rfl rfl (.cons rfl rfl (.cons rfl rfl (.cons rfl (by rw [hS]; rfl) .nil))))))))), rfl, rfl, rfl⟩, by omega, by omega⟩
            · have e1 : decide (o.kind = 2) = false := decide_eq_false k2
              by_cases k3 : (j : Int) = o.set
              · have e2 : decide ((j : Int) = o.set) = true := decide_eq_true k3
                rw [okF, e1, e2, Bool.false_or, Bool.true_and] at hS
                repeat' (first
                 | ((with_reducible refine is_un ?_); refine awpL_ev (ev_index_arr rfl rfl rfl rfl rfl rfl rfl hfj) rfl ?_)
                 | ((with_reducible refine isD_un ?_); refine awpD_un (as_pure rfl (by repeat' (first | exact Msk.nil | apply Msk.base | apply Msk.vis rfl | apply Msk.hid rfl)) (ev_lookup wkKey rfl rfl rfl (wkV_R _ _ _) rfl rfl z4 rfl (wks_ok _) (wkV_ok _) hw hwnd rfl) rfl rfl rfl) (by (try simp only [List.nil_append, List.cons_append]); (try rfl)) ?_)
                 | ((with_reducible refine isD_gd ?_); refine awpD_gd rfl rfl (by first | with_reducible rfl | with_reducible assumption) (as_pure rfl (by repeat' (first | exact Msk.nil | apply Msk.base | apply Msk.vis rfl | apply Msk.hid rfl)) (ev_lookup wkKey rfl rfl rfl (wkV_R _ _ _) rfl rfl z4 rfl (wks_ok _) (wkV_ok _) hw hwnd rfl) rfl rfl rfl) (by (try simp only [List.nil_append, List.cons_append]); (try rfl)) ?_)
                 | ((with_reducible refine is_draw ?_); refine awp_drawT 25 (by simp only [List.take_succ_cons, List.take_zero, List.take_nil]; rfl) (by simp only [List.drop_succ_cons, List.drop_zero, List.drop_nil]; rfl) (by kernel_rfl) rfl rfl rfl rfl (by repeat' (first | exact Strip.nil | apply Strip.keep rfl | apply Strip.drop rfl)) ?_)
                 | refine st [0] ?_
                 | fail)
                exact ⟨j + 1, ⟨(.cons rfl rfl (.cons rfl rfl (.cons rfl rfl (.cons rfl rfl (.cons rfl rfl (.cons rfl rfl (.cons rfl rfl (.cons rfl rfl (.cons rfl (by rw [hS]; rfl) .nil))))))))), rfl, rfl, rfl⟩, by omega, by omega⟩
              · have e2 : decide ((j : Int) = o.set) = false := decide_eq_false k3
                rw [okF, e1, e2, Bool.false_or, Bool.false_and] at hS
                repeat' (first
                 | ((with_reducible refine is_un ?_); refine awpL_ev (ev_index_arr rfl rfl rfl rfl rfl rfl rfl hfj) rfl ?_)
                 | ((with_reducible refine is_draw ?_); refine awp_drawT 25 (by simp only [List.take_succ_cons, List.take_zero, List.take_nil]; rfl) (by simp only [List.drop_succ_cons, List.drop_zero, List.drop_nil]; rfl) (by kernel_rfl) rfl rfl rfl rfl (by repeat' (first | exact Strip.nil | apply Strip.keep rfl | apply Strip.drop rfl)) ?_)
                 | refine st [0] ?_
                 | fail)
                exact ⟨j + 1, ⟨(.cons rfl rfl (.cons rfl rfl (.cons rfl rfl (.cons rfl rfl (.cons rfl rfl (.cons rfl rfl (.cons rfl rfl (.cons rfl rfl (.cons rfl (by rw [hS]; rfl) .nil))))))))), rfl, rfl, rfl⟩, by omega, by omega⟩
      · cases hov : overOk pre o t with
        | true =>
          rw [hov, Bool.true_and] at hall
          refine runn [0] ?_
          exact ⟨k + 1, ⟨(.cons rfl rfl (.cons rfl rfl (.cons rfl rfl (.cons rfl rfl (.cons rfl rfl .nil))))), rfl, rfl, rfl⟩, ⟨by omega, hall⟩, by omega⟩
        | false =>
          rw [hov, Bool.false_and] at hall
          rw [hone, if_neg (by rw [hall]; simp), if_neg (by omega)]
          refine runn [0] ?_
          exact retI rfl ⟨rfl, rfl⟩
  intro hall
  rw [hone, if_pos hall, if_pos rfl]
  refine runn [0] ?_
  refine awp_cut 5 [(0, .lp 2 0), (3, .fp (opC o))] [.map (aks (addedM (pre ++ [o]))) (axs (addedM (pre ++ [o]))), .map (wks (writesM pre)) (wxs (writesM pre)), .box [.mp 0, .mp 1, vi o.at_.count, vi o.at_.dev], .dead, .pin] ?_ ?_
  · rw [addedM_snoc, addM]
    by_cases hk : o.kind = 0
    · have d0 : decide (o.kind = 0) = true := decide_eq_true hk
      rw [if_pos hk]
      have hput := a_put (addedM pre) o.note.id o.rec_
      repeat' (first
       | ((with_reducible refine is_un ?_); refine awpL_evS (ev_mapUpd (L' := [.map (aks (aput (addedM pre) o.note.id o.rec_)) (axs (aput (addedM pre) o.note.id o.rec_)), .map (wks (writesM pre)) (wxs (writesM pre)), .box [.mp 0, .mp 1, vi o.at_.count, vi o.at_.dev], .dead, .pin]) intKey rfl rfl rfl (intV_R _) rfl rfl rfl rfl (aks_ok _) (intV_ok _) hput hand rfl) ?_)
       | ((with_reducible refine is_draw ?_); refine awp_drawT 9 (by simp only [List.take_succ_cons, List.take_zero, List.take_nil]; rfl) (by simp only [List.drop_succ_cons, List.drop_zero, List.drop_nil]; rfl) (by kernel_rfl) rfl rfl rfl rfl (by repeat' (first | exact Strip.nil | apply Strip.keep rfl | apply Strip.drop rfl)) ?_)
       | refine st [0] ?_
       | fail)
      exact ⟨(.cons rfl rfl (.cons rfl rfl .nil)), rfl, rfl, rfl⟩
    · have d0 : decide (o.kind = 0) = false := decide_eq_false hk
      rw [if_neg hk]
      refine runn [0] ?_
      exact ⟨(.cons rfl rfl (.cons rfl rfl .nil)), rfl, rfl, rfl⟩
  generalize hA : addedM (pre ++ [o]) = A at *
  repeat' (first
   | refine stn [0] ?_
   | ((with_reducible refine is_awp ?_); refine awp_cond rfl (fun h => ?_) (fun h => ?_))
   | fail)
  refine awp_for (α := Nat) 5 (fun j => [(0, .lp 2 0), (3, .fp (opC o)), (107, .agg [vi 0, vi 1, vi 2]), (108, vi j)]) (fun j => [.map (aks A) (axs A), .map (wks (wrK o (writesM pre) j)) (wxs (wrK o (writesM pre) j)), .box [.mp 0, .mp 1, vi o.at_.count, vi o.at_.dev], .dead, .pin]) (fun j => j ≤ 3) (fun j => 3 - j) 0
    ⟨(.cons rfl rfl (.cons rfl rfl (.cons rfl rfl (.cons rfl rfl .nil)))), rfl, rfl, rfl⟩ (by omega) ?_
  intro j hj
  by_cases hj3 : j = 3
  · subst hj3
    have c2 : decide (((3 : Nat) : Int) < 3) = false := rfl
    refine runn [0] ?_
    refine retI rfl ⟨rfl, ?_⟩
    simp only [chkL, hA, writesM_snoc, lastS_snoc]; rfl
  · have c2 : decide ((j : Int) < 3) = true := decide_eq_true (by omega)
    have hfj := fld_get (j := j) (by omega)
    have hW := Writes_spec (g := GL) o o.note.id j
    have hS := wr_upd (o := o) (m := writesM pre) (j := j) (by omega)
    have hnd2 := wks_nd (wrK_nd (o := o) (writesM_nd pre) j)
    cases hw : writes o o.note.id j with
    | false =>
      rw [hw] at hW hS
      rw [if_neg (by simp)] at hS
      repeat' (first
       | ((with_reducible refine is_un ?_); refine awpL_ev (ev_index_arr rfl rfl rfl rfl rfl rfl rfl hfj) rfl ?_)
       | refine stn [0] ?_
       | fail)
      exact ⟨j + 1, ⟨(.cons rfl rfl (.cons rfl rfl (.cons rfl rfl (.cons rfl rfl .nil)))), by rw [hS]; rfl, rfl, rfl⟩, by omega, by omega⟩
    | true =>
      rw [hw] at hW hS
      rw [if_pos rfl] at hS
      have hput := w_put (wrK o (writesM pre) j) ⟨o.at_, o.note.id, j⟩
      rw [← hS] at hput
      repeat' (first
       | ((with_reducible refine is_un ?_); (first | refine awpL_ev (ev_index_arr rfl rfl rfl rfl rfl rfl rfl hfj) rfl ?_ | refine awpL_evS (ev_mapUpd (L' := [.map (aks A) (axs A), .map (wks (wrK o (writesM pre) (j + 1))) (wxs (wrK o (writesM pre) (j + 1))), .box [.mp 0, .mp 1, vi o.at_.count, vi o.at_.dev], .dead, .pin]) wkKey rfl rfl rfl (wkV_R _ _ _) rfl rfl rfl rfl (wks_ok _) (wkV_ok _) hput hnd2 rfl) ?_))
       | ((with_reducible refine is_draw ?_); refine awp_drawT 11 (by simp only [List.take_succ_cons, List.take_zero, List.take_nil]; rfl) (by simp only [List.drop_succ_cons, List.drop_zero, List.drop_nil]; rfl) (by kernel_rfl) rfl rfl rfl rfl (by repeat' (first | exact Strip.nil | apply Strip.keep rfl | apply Strip.drop rfl)) ?_)
       | refine st [0] ?_
       | fail)
      exact ⟨j + 1, ⟨(.cons rfl rfl (.cons rfl rfl (.cons rfl rfl (.cons rfl rfl .nil)))), rfl, rfl, rfl⟩, by omega, by omega⟩
end Go.Proofs.YtifpafbmfedpkaaDoor
end
section
set_option linter.unusedVariables false
set_option linter.unusedSimpArgs false
set_option linter.unusedSectionVars false
namespace Go.Proofs.YtifpafbmfedpkaaDoor
open Go.Ac Go.MapKept
attribute [local irreducible] awp awpL Ev Ev2 EvS thenQ blockQ retQ PCalls OCalls YieldOk IterC ICalls
set_option linter.unusedSimpArgs false
set_option linter.unusedVariables false
theorem JoinP_nn {g : List (Nat × List AV)} : PCalls Tryd.prog g 39 [nilS, nilS] (encIs (seenL [])) := by
  have := (Join_nn (g := g)).toP
  rw [List.length_map] at this
  exact this
theorem SeeP {g : List (Nat × List AV)} (v : List Int) (s : Stamp) (hv : v.length ≤ 1000000) : PCalls Tryd.prog g 43 [encIs v, .agg (stampC s)] (encIs (see v s)) := by
  have := (See_spec (g := g) v s hv).toP
  rw [List.length_map] at this
  exact this
set_option maxRecDepth 4000 in
set_option maxHeartbeats 4000000 in
theorem Check_spec (r : Replica) (hs : r.seen.length ≤ 1000000) (hid : Ids r.ops) : PCalls Tryd.prog GL 30 [.agg (repC r)] (vi (repE r)) := by
  refine pcalls' Tryd.func30 Tryd.ntmps30 rfl rfl rfl ?_
  have n1 : (!true) = false := rfl
  have n2 : (!false) = true := rfl
  by_cases h1 : r.dev < 1
  · have c1 : decide (r.dev < 1) = true := decide_eq_true h1
    refine runn [3] ?_
    refine retP rfl ?_
    rw [repE, if_pos (by simp [within]; omega)]; rfl
  have c1 : decide (r.dev < 1) = false := decide_eq_false h1
  by_cases h2 : 15 < r.dev
  · have c2 : decide (15 < r.dev) = true := decide_eq_true h2
    refine runn [3] ?_
    refine retP rfl ?_
    rw [repE, if_pos (by simp [within]; omega)]; rfl
  have c2 : decide (15 < r.dev) = false := decide_eq_false h2
  have hw : ¬ within r.dev 1 15 = false := by simp [within]; omega
  by_cases h4 : 400 < r.ops.length
  · have c3 : decide ((400 : Int) < r.ops.length) = true := decide_eq_true (by omega)
    refine runn [3] ?_
    refine retP rfl ?_
    rw [repE, if_neg hw, if_pos h4]; rfl
  have c3 : decide ((400 : Int) < r.ops.length) = false := decide_eq_false (by omega)
  have hE : repE r = if allE [] r.ops ≠ 0 then allE [] r.ops else if r.seen ≠ seenL r.ops then 1 else 0 := by rw [repE, if_neg hw, if_neg h4]
  rw [hE]
  have hJ := JoinP_nn (g := GL)
  repeat' (first
   | ((with_reducible refine is_un ?_); refine awpL_ev2 (ev_mkmap (by (try simp only [List.length_nil, List.length_cons, Nat.reduceAdd]); (try rfl)) (by (try simp only [List.set_cons_zero, List.set_cons_succ, List.nil_append, List.cons_append, List.append_nil, cellsOf, List.take_zero, List.drop_zero, List.take_succ_cons, List.drop_succ_cons, Nat.zero_add, Nat.reduceAdd, List.drop_nil, List.map_cons, List.map_nil]); (try rfl))) rfl ?_)
   | refine stn [3] ?_
   | ((with_reducible refine is_awp ?_); refine awp_cond rfl (fun h => ?_) (fun h => ?_))
   | fail)
  refine awp_for (α := Nat) 3 (fun k => [(1, .fp (repC r)), (3, .lp 2 0), (4, encIs (seenL (r.ops.take k))), (25, encOps r.ops), (26, vi r.ops.length), (27, vi k)])
    (fun k => [.map (aks (addedM (r.ops.take k))) (axs (addedM (r.ops.take k))), .map (wks (writesM (r.ops.take k))) (wxs (writesM (r.ops.take k))), .box [.mp 0, .mp 1, vi (lastS (r.ops.take k)).count, vi (lastS (r.ops.take k)).dev]])
    (fun k => k ≤ r.ops.length ∧ allE [] r.ops = allE (r.ops.take k) (r.ops.drop k) ∧ Good (r.ops.take k)) (fun k => r.ops.length - k) 0
    ⟨(.cons rfl rfl (.cons rfl rfl (.cons rfl rfl (.cons rfl rfl (.cons rfl rfl (.cons rfl rfl .nil)))))), rfl, rfl, rfl⟩ ⟨Nat.zero_le _, rfl, Good.nil⟩ ?_
  rintro k ⟨hk, hf, hg⟩
  cases ht : r.ops[k]? with
  | none =>
    have hge : r.ops.length ≤ k := by simpa using ht
    have c4 : decide ((k : Int) < r.ops.length) = false := decide_eq_false (by omega)
    rw [List.drop_of_length_le hge, allE_nil] at hf
    have hQ := eqInts_spec (g := GL) r.seen (seenL (r.ops.take k)) hs (by rw [seenL_len]; omega)
    rw [hf, if_neg (by simp)]
    have hte : r.ops.take k = r.ops := List.take_of_length_le hge
    by_cases he : r.seen = seenL r.ops
    · have he2 : decide (r.seen = seenL (r.ops.take k)) = true := by rw [hte]; exact decide_eq_true he
      rw [he2] at hQ
      rw [if_neg (by simpa using he)]
      refine runn [3] ?_
      exact retP rfl rfl
    · have he2 : decide (r.seen = seenL (r.ops.take k)) = false := by rw [hte]; exact decide_eq_false he
      rw [he2] at hQ
      rw [if_pos he]
      refine runn [3] ?_
      exact retP rfl rfl
  | some o =>
    have hlt : k < r.ops.length := (List.getElem?_eq_some_iff.1 ht).1
    have c4 : decide ((k : Int) < r.ops.length) = true := decide_eq_true (by omega)
    have g1 := op_get ht
    have hO := one_spec (r.ops.take k) o hg (hid o (List.mem_of_getElem? ht))
    have hS := SeeP (g := GL) (seenL (r.ops.take k)) o.at_ (by rw [seenL_len]; omega)
    rw [drop_get ht] at hf
    by_cases he : oneE (r.ops.take k) o = 0
    · have c5 : (!decide (oneE (r.ops.take k) o = 0)) = false := by simp [he]
      rw [allE_ok he, ← take_snoc ht] at hf
      rw [if_pos he, ← take_snoc ht] at hO
      rw [← seenL_snoc, ← take_snoc ht] at hS
      repeat' (first
       | ((with_reducible refine is_un ?_); refine awpL_icall rfl hO rfl ?_)
       | refine stn [3] ?_
       | fail)
      exact ⟨k + 1, ⟨(.cons rfl rfl (.cons rfl rfl (.cons rfl rfl (.cons rfl rfl (.cons rfl rfl (.cons rfl rfl .nil)))))), rfl, rfl, rfl⟩, ⟨by omega, hf, by rw [take_snoc ht]; exact hg.snoc he⟩, by omega⟩
    · have c5 : (!decide (oneE (r.ops.take k) o = 0)) = true := by simp [he]
      rw [allE_bad he] at hf
      rw [if_neg he] at hO
      repeat' (first
       | ((with_reducible refine is_un ?_); refine awpL_icall rfl hO rfl ?_)
       | refine stn [3] ?_
       | fail)
      refine retP rfl ?_
      rw [hf, if_pos he]; rfl
end Go.Proofs.YtifpafbmfedpkaaDoor
end
section
set_option linter.unusedVariables false
set_option linter.unusedSimpArgs false
set_option linter.unusedSectionVars false
namespace Go.Proofs.YtifpafbmfedpkaaDoor
open Go.Ac Go.MapKept
attribute [local irreducible] awp awpL Ev Ev2 EvS thenQ blockQ retQ PCalls OCalls YieldOk IterC ICalls
set_option linter.unusedSimpArgs false
set_option linter.unusedVariables false
variable {g : List (Nat × List AV)}
set_option maxRecDepth 4000 in
set_option maxHeartbeats 4000000 in
theorem rPut_spec (l : List Op) (o : Op) (hl : l.length ≤ 100000) : PCalls Tryd.prog g 45 [encOps l, .agg (opC o)] (encOps (put l o)) := by
  refine pcalls' Tryd.func45 Tryd.ntmps45 rfl rfl rfl ?_
  repeat' (first
   | refine stn [] ?_
   | ((with_reducible refine is_awp ?_); refine awp_cond rfl (fun h => ?_) (fun h => ?_))
   | fail)
  refine awp_cutBP 0 True [(0, encOps l), (3, .fp (opC o)), (5, vi (putIx l o l.length))] [] ?_ ?_
  · refine awp_for (α := Nat) 0 (fun k => [(0, encOps l), (3, .fp (opC o)), (5, vi k)]) (fun _ => []) (fun k => k ≤ l.length ∧ putIx l o l.length = putIx l o k) (fun k => k) l.length
      ⟨(.cons rfl rfl (.cons rfl rfl (.cons rfl rfl .nil))), rfl, rfl, rfl⟩ ⟨Nat.le_refl _, rfl⟩ ?_
    rintro k ⟨hk, hf⟩
    cases k with
    | zero =>
      have c1 : decide ((0 : Int) < ((0 : Nat) : Int)) = false := rfl
      rw [putIx] at hf
      refine run [] ?_
      exact ⟨trivial, ⟨(.cons rfl rfl (.cons rfl rfl (.cons rfl (by rw [hf]; rfl) .nil))), rfl, rfl, rfl⟩⟩
    | succ k =>
      have c1 : decide ((0 : Int) < ((k + 1 : Nat) : Int)) = true := decide_eq_true (by omega)
      obtain ⟨x, hx⟩ : ∃ x, l[k]? = some x := ⟨_, List.getElem?_eq_getElem (by omega)⟩
      have g1 : 0 ≤ ((k + 1 : Nat) : Int) - 1 ∧ (l.map opC)[(((k + 1 : Nat) : Int) - 1).toNat]? = some (opC x) := ⟨by omega, by rw [show (((k + 1 : Nat) : Int) - 1).toNat = k by omega]; simp [hx]⟩
      have hL := rLess_spec (g := g) o.at_ x.at_
      have he : ((k + 1 : Nat) : Int) - 1 = ((k : Nat) : Int) := by omega
      have hb : -9223372036854775808 ≤ ((k + 1 : Nat) : Int) - 1 ∧ ((k + 1 : Nat) : Int) - 1 ≤ 9223372036854775807 := by omega
      rw [putIx, hx] at hf
      cases hlt : less o.at_ x.at_ with
      | true =>
        rw [hlt] at hL
        simp only [hlt, if_true] at hf
        refine run [] ?_
        exact ⟨k, ⟨(.cons rfl rfl (.cons rfl rfl (.cons rfl (by rw [← he]; rfl) .nil))), rfl, rfl, rfl⟩, ⟨by omega, hf⟩, by omega⟩
      | false =>
        rw [hlt] at hL
        simp only [hlt, Bool.false_eq_true, if_false] at hf
        refine run [] ?_
        exact ⟨trivial, ⟨(.cons rfl rfl (.cons rfl rfl (.cons rfl (by rw [hf]; rfl) .nil))), rfl, rfl, rfl⟩⟩
  intro _
  have hle := putIx_le l o l.length
  have hS : put l o = l.take (putIx l o l.length) ++ [o] ++ l.drop (putIx l o l.length) := rfl
  have hlen := put_length l o
  generalize put l o = m at *
  generalize putIx l o l.length = k at *
  have b0 : (0 : Int) ≤ 0 ∧ (0 : Int) ≤ (k : Int) ∧ (k : Int) ≤ (l.length : Nat) := by omega
  have m0 : ((k : Int) - 0).toNat = (l.take k).length := by rw [List.length_take]; omega
  have f0 : ((l.map opC).drop (0 : Int).toNat).take (l.take k).length = (l.take k).map opC := by simp [List.map_take]
  have b2 : (0 : Int) ≤ (k : Int) ∧ (k : Int) ≤ ((l.length : Nat) : Int) ∧ ((l.length : Nat) : Int) ≤ (l.length : Nat) := by omega
  have m2 : (((l.length : Nat) : Int) - (k : Int)).toNat = (l.drop k).length := by rw [List.length_drop]; omega
  have f2 : ((l.map opC).drop (k : Int).toNat).take (l.drop k).length = (l.drop k).map opC := by simp [List.map_drop, List.take_of_length_le]
  have j1 : ([] : List (List AV)) ++ (l.take k).map opC = (l.take k).map opC := rfl
  have j2 : (l.take k).map opC ++ [opC o] = (l.take k ++ [o]).map opC := by simp
  have j3 : (l.take k ++ [o]).map opC ++ (l.drop k).map opC = m.map opC := by rw [hS]; simp
  have hl1 : (l.take k).length ≤ 100000 := by rw [List.length_take]; omega
  have hl2 : (l.drop k).length ≤ 100000 := by rw [List.length_drop]; omega
  repeat' (first
   | refine awpD_nw rfl (by repeat' (first | exact Msk.nil | apply Msk.base | apply Msk.vis rfl | apply Msk.hid rfl)) (ev_bslice_o (t := 23) (n := 0) (es := []) rfl rfl rfl rfl rfl rfl rfl rfl rfl rfl rfl (by (try simp only [List.length_nil, List.length_cons, Nat.reduceAdd]); (try rfl)) (by (try simp only [List.set_cons_zero, List.set_cons_succ, List.nil_append, List.cons_append, List.append_nil, cellsOf, List.take_zero, List.drop_zero, List.take_succ_cons, List.drop_succ_cons, Nat.zero_add, Nat.reduceAdd, List.drop_nil, List.map_cons, List.map_nil]); (try rfl))) rfl rfl rfl rfl rfl (by (try simp only [List.set_cons_zero, List.set_cons_succ, List.nil_append, List.cons_append, List.append_nil, cellsOf, List.take_zero, List.drop_zero, List.take_succ_cons, List.drop_succ_cons, Nat.zero_add, Nat.reduceAdd, List.drop_nil, List.map_cons, List.map_nil]); (try rfl)) (by (try simp only [List.nil_append, List.cons_append]); (try rfl)) ?_
   | refine awpD_up (kk := 0) rfl (by repeat' (first | exact Msk.nil | apply Msk.base | apply Msk.vis rfl | apply Msk.hid rfl)) rfl rfl rfl rfl (ev_app (es' := (l.take k).map opC) (L' := [.own 1 52 15 ((l.take k).map opC)]) rfl rfl rfl rfl rfl rfl rfl rfl rfl rfl rfl rfl rfl (by simp only [List.length_map, List.length_cons, List.length_nil, List.length_append, List.length_take]; omega) j1 rfl) rfl rfl rfl rfl rfl rfl (by (try simp only [List.nil_append, List.cons_append]); (try rfl)) ?_
   | refine awpD_up (kk := 0) rfl (by repeat' (first | exact Msk.nil | apply Msk.base | apply Msk.vis rfl | apply Msk.hid rfl)) rfl rfl rfl rfl (ev_app (es' := (l.take k ++ [o]).map opC) (L' := [.own 2 52 15 ((l.take k ++ [o]).map opC)]) rfl rfl rfl rfl rfl rfl rfl rfl rfl rfl rfl rfl rfl (by simp only [List.length_map, List.length_cons, List.length_nil, List.length_append, List.length_take]; omega) j2 rfl) rfl rfl rfl rfl rfl rfl (by (try simp only [List.nil_append, List.cons_append]); (try rfl)) ?_
   | refine awpD_up (kk := 0) rfl (by repeat' (first | exact Msk.nil | apply Msk.base | apply Msk.vis rfl | apply Msk.hid rfl)) rfl rfl rfl rfl (ev_app (es' := m.map opC) (L' := [.own 3 52 15 (m.map opC)]) rfl rfl rfl rfl rfl rfl rfl rfl rfl rfl rfl rfl rfl (by simp only [List.length_map, List.length_cons, List.length_nil, List.length_append, List.length_take]; omega) j3 rfl) rfl rfl rfl rfl rfl rfl (by (try simp only [List.nil_append, List.cons_append]); (try rfl)) ?_
   | ((with_reducible refine isD_un ?_); (first | refine awpD_un (as_ev (fun _ => ev_slice_fs rfl rfl rfl rfl rfl rfl rfl b0 m0 f0) rfl rfl) (by (try simp only [List.nil_append, List.cons_append]); (try rfl)) ?_ | refine awpD_un (as_ev (fun _ => ev_slice_fs rfl rfl rfl rfl rfl rfl rfl b2 m2 f2) rfl rfl) (by (try simp only [List.nil_append, List.cons_append]); (try rfl)) ?_))
   | refine st [] ?_
   | fail)
  refine retP rfl ?_
  simp [ex]
end Go.Proofs.YtifpafbmfedpkaaDoor
end
section
set_option linter.unusedVariables false
set_option linter.unusedSimpArgs false
set_option linter.unusedSectionVars false
namespace Go.Proofs.YtifpafbmfedpkaaDoor
open Go.Ac Go.MapKept
attribute [local irreducible] awp awpL Ev Ev2 EvS thenQ blockQ retQ PCalls OCalls YieldOk IterC ICalls
set_option linter.unusedSimpArgs false
set_option linter.unusedVariables false
variable {g : List (Nat × List AV)}
theorem rJoinP_nn : PCalls Tryd.prog g 61 [nilS, nilS] (encIs (seenL [])) := by
  have := (rJoin_nn (g := g)).toP
  rw [List.length_map] at this
  exact this
theorem rSeeP (v : List Int) (s : Stamp) (hv : v.length ≤ 1000000) : PCalls Tryd.prog g 62 [encIs v, .agg (stampC s)] (encIs (see v s)) := by
  have := (rSee_spec (g := g) v s hv).toP
  rw [List.length_map] at this
  exact this
set_option maxHeartbeats 1000000 in
theorem rVec_spec (l : List Op) (hl : l.length ≤ 100000) : PCalls Tryd.prog g 46 [encOps l] (encIs (seenL l)) := by
  have hJ := rJoinP_nn (g := g)
  refine pcalls' Tryd.func46 Tryd.ntmps46 rfl rfl rfl ?_
  repeat' (first
   | refine stn [] ?_
   | ((with_reducible refine is_awp ?_); refine awp_cond rfl (fun h => ?_) (fun h => ?_))
   | fail)
  refine awp_for (α := Nat) 0 (fun k => [(0, encOps l), (3, encIs (seenL (l.take k))), (4, vi k)]) (fun _ => []) (fun k => k ≤ l.length) (fun k => l.length - k) 0
    ⟨(.cons rfl rfl (.cons rfl rfl (.cons rfl rfl .nil))), rfl, rfl, rfl⟩ (Nat.zero_le _) ?_
  intro k hk
  cases ht : l[k]? with
  | none =>
    have hge : l.length ≤ k := by simpa using ht
    have c1 : decide ((k : Int) < l.length) = false := decide_eq_false (by omega)
    refine runn [] ?_
    refine retP rfl ?_
    rw [List.take_of_length_le hge]; rfl
  | some x =>
    have hlt : k < l.length := (List.getElem?_eq_some_iff.1 ht).1
    have c1 : decide ((k : Int) < l.length) = true := decide_eq_true (by omega)
    have g1 := op_get ht
    have hS := rSeeP (g := g) (seenL (l.take k)) x.at_ (by rw [seenL_len]; omega)
    rw [← seenL_snoc, ← take_snoc ht] at hS
    refine runn [] ?_
    exact ⟨k + 1, ⟨(.cons rfl rfl (.cons rfl rfl (.cons rfl rfl .nil))), rfl, rfl, rfl⟩, by omega, by omega⟩
def backwards (l : List Op) : List Op := l.reverse
set_option maxHeartbeats 1000000 in
theorem backwards_spec (l : List Op) (hl : l.length ≤ 100000) : PCalls Tryd.prog g 29 [encOps l] (encOps (backwards l)) := by
  refine pcalls' Tryd.func29 Tryd.ntmps29 rfl rfl rfl ?_
  repeat' (first
   | ((with_reducible refine is_un ?_); refine awpL_ev2 (ev_bslice_o (t := 23) (n := 0) (es := []) rfl rfl rfl rfl rfl rfl rfl rfl rfl rfl rfl (by (try simp only [List.length_nil, List.length_cons, Nat.reduceAdd]); (try rfl)) (by (try simp only [List.set_cons_zero, List.set_cons_succ, List.nil_append, List.cons_append, List.append_nil, cellsOf, List.take_zero, List.drop_zero, List.take_succ_cons, List.drop_succ_cons, Nat.zero_add, Nat.reduceAdd, List.drop_nil, List.map_cons, List.map_nil]); (try rfl))) rfl ?_)
   | refine stn [] ?_
   | ((with_reducible refine is_awp ?_); refine awp_cond rfl (fun h => ?_) (fun h => ?_))
   | fail)
  refine awp_for (α := Nat) 1 (fun k => [(0, encOps l), (3, .os 0 0), (4, vi ((l.length : Int) - 1 - k))]) (fun k => [.own 0 52 15 ((l.reverse.take k).map opC)]) (fun k => k ≤ l.length) (fun k => l.length - k) 0
    ⟨.cons rfl rfl (.cons rfl rfl (.cons rfl (by rw [show (l.length : Int) - 1 - ((0 : Nat) : Int) = (l.length : Int) - 1 by omega]; rfl) .nil)), rfl, rfl, rfl⟩ (Nat.zero_le _) ?_
  intro k hk
  by_cases he : k = l.length
  · have c1 : decide ((0 : Int) ≤ (l.length : Int) - 1 - k) = false := decide_eq_false (by omega)
    have hr : l.reverse.take k = l.reverse := List.take_of_length_le (by rw [List.length_reverse]; omega)
    refine runn [] ?_
    refine retP rfl ?_
    simp [ex, backwards, hr]
  · have c1 : decide ((0 : Int) ≤ (l.length : Int) - 1 - k) = true := decide_eq_true (by omega)
    obtain ⟨x, hx⟩ : ∃ x, l.reverse[k]? = some x := ⟨_, List.getElem?_eq_getElem (by rw [List.length_reverse]; omega)⟩
    have hx2 : l[l.length - 1 - k]? = some x := by rw [List.getElem?_reverse (by omega)] at hx; exact hx
    have g1 : 0 ≤ (l.length : Int) - 1 - k ∧ (l.map opC)[((l.length : Int) - 1 - k).toNat]? = some (opC x) := ⟨by omega, by rw [show ((l.length : Int) - 1 - k).toNat = l.length - 1 - k by omega]; simp [hx2]⟩
    have hj := take_map opC l.reverse k x hx
    have hlen : (l.reverse.take k).length ≤ 100000 := by rw [List.length_take, List.length_reverse]; omega
    have hb : -9223372036854775808 ≤ (l.length : Int) - 1 - k - 1 ∧ (l.length : Int) - 1 - k - 1 ≤ 9223372036854775807 := by omega
    have hsub : (l.length : Int) - 1 - k - 1 = (l.length : Int) - 1 - ((k + 1 : Nat) : Int) := by omega
    repeat' (first
     | ((with_reducible refine is_un ?_); (first | refine awpL_ev (ev_subE rfl rfl hb hsub) rfl ?_ | refine awpL_ev2 (ev_app (es' := (l.reverse.take (k + 1)).map opC) (L' := [.own 1 52 15 ((l.reverse.take (k + 1)).map opC)]) rfl rfl rfl rfl rfl rfl rfl rfl rfl rfl rfl rfl rfl (by simp only [List.length_map, List.length_cons, List.length_nil, List.length_append, List.length_take]; omega) hj rfl) rfl ?_))
     | refine stn [] ?_
     | fail)
    exact ⟨k + 1, ⟨(.cons rfl rfl (.cons rfl rfl (.cons rfl rfl .nil))), rfl, rfl, rfl⟩, by omega, by omega⟩
def half (a b : Replica) : Bool := b.ops.all fun o => !(covers a.seen o.at_ && !has a.ops o)
set_option maxHeartbeats 2000000 in
theorem half_spec (a b : Replica) (ha : FitR a) (hb : FitR b) : PCalls Tryd.prog g 50 [.agg (repC a), .agg (repC b)] (vb (half a b)) := by
  refine pcalls' Tryd.func50 Tryd.ntmps50 rfl rfl rfl ?_
  have hl1 := hb.1.1
  repeat' (first
   | refine stn [] ?_
   | ((with_reducible refine is_awp ?_); refine awp_cond rfl (fun h => ?_) (fun h => ?_))
   | fail)
  refine awp_for (α := Nat) 0 (fun k => [(2, .fp (repC a)), (3, .fp (repC b)), (5, vi k)]) (fun _ => []) (fun k => k ≤ b.ops.length ∧ half a b = (b.ops.drop k).all fun o => !(covers a.seen o.at_ && !has a.ops o)) (fun k => b.ops.length - k) 0
    ⟨(.cons rfl rfl (.cons rfl rfl (.cons rfl rfl .nil))), rfl, rfl, rfl⟩ ⟨Nat.zero_le _, rfl⟩ ?_
  rintro k ⟨hk, hf⟩
  cases ht : b.ops[k]? with
  | none =>
    have hge : b.ops.length ≤ k := by simpa using ht
    have c1 : decide ((k : Int) < b.ops.length) = false := decide_eq_false (by omega)
    rw [List.drop_of_length_le hge] at hf
    refine runn [] ?_
    refine retP rfl ?_
    rw [hf]; rfl
  | some x =>
    have hlt : k < b.ops.length := (List.getElem?_eq_some_iff.1 ht).1
    have c1 : decide ((k : Int) < b.ops.length) = true := decide_eq_true (by omega)
    have g1 := op_get ht
    have h2 := rCovers_spec (g := g) a.seen x.at_ (by have := ha.2; omega)
    have h3 := Has_spec (g := g) a.ops x ha.1 (hb.1.get ht)
    have n1 : (!true) = false := rfl
    have n2 : (!false) = true := rfl
    rw [all_drop _ _ k x ht] at hf
    cases hc : covers a.seen x.at_ with
    | false =>
      rw [hc] at h2 hf
      refine run [] ?_
      exact ⟨k + 1, ⟨(.cons rfl rfl (.cons rfl rfl (.cons rfl rfl .nil))), rfl, rfl, rfl⟩, ⟨by omega, hf⟩, by omega⟩
    | true =>
      rw [hc] at h2 hf
      cases hh : has a.ops x with
      | true =>
        rw [hh] at h3 hf
        refine run [] ?_
        exact ⟨k + 1, ⟨(.cons rfl rfl (.cons rfl rfl (.cons rfl rfl .nil))), rfl, rfl, rfl⟩, ⟨by omega, hf⟩, by omega⟩
      | false =>
        rw [hh] at h3 hf
        refine run [] ?_
        refine retP rfl ?_
        rw [hf]; rfl
theorem Consistent_spec (a b : Replica) (ha : FitR a) (hb : FitR b) : PCalls Tryd.prog g 32 [.agg (repC a), .agg (repC b)] (vb (half a b && half b a)) := by
  have h1 := half_spec (g := g) a b ha hb
  have h2 := half_spec (g := g) b a hb ha
  refine pcalls' Tryd.func32 Tryd.ntmps32 rfl rfl rfl ?_
  repeat' (first
   | refine stn [] ?_
   | ((with_reducible refine is_gd ?_); refine awpL_split rfl rfl (fun h => ?_) (fun h => ?_))
   | fail)
  all_goals refine retP rfl ?_
  all_goals clear h1 h2
  all_goals simp_all [ex]
end Go.Proofs.YtifpafbmfedpkaaDoor
end
section
set_option linter.unusedVariables false
set_option linter.unusedSimpArgs false
set_option linter.unusedSectionVars false
namespace Go.Proofs.YtifpafbmfedpkaaDoor
def zeroRep : Replica := ⟨0, [], []⟩
def joined (r : Replica) (m : List Op) : Replica := ⟨r.dev, seenL m, m⟩
def merge (r : Replica) (l : List Op) : Replica × Int := match unite r.ops l with
  | none => (zeroRep, 8)
  | some m => if repE (joined r m) = 0 then (joined r m, 0) else (zeroRep, repE (joined r m))
def sync (a b : Replica) : Replica × Replica × Int :=
  if (merge a b.ops).2 ≠ 0 then (a, b, (merge a b.ops).2) else if (merge b a.ops).2 ≠ 0 then (a, b, (merge b a.ops).2) else ((merge a b.ops).1, (merge b a.ops).1, 0)
theorem unite_nil (out : List Op) : unite out [] = some out := by rw [unite]
theorem unite_clash {out r : List Op} {o : Op} (h : clash out o = true) : unite out (o :: r) = none := by rw [unite, if_pos h]
theorem unite_has {out r : List Op} {o : Op} (h : clash out o = false) (h2 : has out o = true) : unite out (o :: r) = unite out r := by rw [unite, if_neg (by simp [h]), if_pos h2]
theorem unite_put {out r : List Op} {o : Op} (h : clash out o = false) (h2 : has out o = false) : unite out (o :: r) = unite (put out o) r := by rw [unite, if_neg (by simp [h]), if_neg (by simp [h2])]
theorem merge_none {r : Replica} {l : List Op} (h : unite r.ops l = none) : merge r l = (zeroRep, 8) := by rw [merge, h]
theorem merge_ok {r : Replica} {l m : List Op} (h : unite r.ops l = some m) (h2 : repE (joined r m) = 0) : merge r l = (joined r m, 0) := by rw [merge, h]; exact if_pos h2
theorem merge_bad {r : Replica} {l m : List Op} (h : unite r.ops l = some m) (h2 : repE (joined r m) ≠ 0) : merge r l = (zeroRep, repE (joined r m)) := by rw [merge, h]; exact if_neg h2
theorem merge_inv {r : Replica} {l : List Op} (h : (merge r l).2 = 0) : ∃ m, unite r.ops l = some m ∧ repE (joined r m) = 0 ∧ (merge r l).1 = joined r m := by
  cases hu : unite r.ops l with
  | none => rw [merge_none hu] at h; simp at h
  | some m =>
    by_cases hr : repE (joined r m) = 0
    · exact ⟨m, rfl, hr, by rw [merge_ok hu hr]⟩
    · rw [merge_bad hu hr] at h; exact absurd h hr
end Go.Proofs.YtifpafbmfedpkaaDoor
namespace Go.Proofs.YtifpafbmfedpkaaDoor
def gbad (out : List Op) (o : Op) : Bool := match out.getLast? with
  | some p => decide (p.at_ = o.at_) && !decide (p = o)
  | none => false
def gstep (out : List Op) (o : Op) : List Op := match out.getLast? with
  | some p => if p.at_ = o.at_ then out else out ++ [o]
  | none => out ++ [o]
theorem gather_cons (out r : List Op) (o : Op) : gather out (o :: r) = if gbad out o = true then none else gather (gstep out o) r := by
  rw [gather, gbad, gstep]
  cases out.getLast? with
  | none => simp
  | some p =>
    by_cases h1 : p.at_ = o.at_
    · by_cases h2 : p = o
      · simp [h2]
      · simp [h1, h2]
    · simp [h1]
def outK (t : List Op) (i : Nat) : List Op := (t.take i).foldl gstep []
theorem outK_succ {t : List Op} {i : Nat} {o : Op} (h : t[i]? = some o) : outK t (i + 1) = gstep (outK t i) o := by
  unfold outK
  rw [List.take_add_one, h, List.foldl_append]; rfl
theorem gstep_len (out : List Op) (o : Op) : (gstep out o).length ≤ out.length + 1 := by
  unfold gstep
  split
  · split <;> simp
  · simp
theorem gstep_mem {out : List Op} {o p : Op} (h : p ∈ gstep out o) : p ∈ out ∨ p = o := by
  unfold gstep at h
  split at h
  · split at h
    · exact .inl h
    · simpa using h
  · simpa using h
theorem outK_ok (t : List Op) : ∀ i, (outK t i).length ≤ i ∧ ∀ o ∈ outK t i, o ∈ t := by
  intro i
  induction i with
  | zero => exact ⟨Nat.le_refl _, fun o h => by simp [outK] at h⟩
  | succ i ih =>
    cases ht : t[i]? with
    | none =>
      have hge : t.length ≤ i := by simpa using ht
      have e : outK t (i + 1) = outK t i := by
        unfold outK
        rw [List.take_of_length_le hge, List.take_of_length_le (by omega)]
      rw [e]; exact ⟨by omega, ih.2⟩
    | some o =>
      rw [outK_succ ht]
      refine ⟨by have := gstep_len (outK t i) o; omega, fun p hp => ?_⟩
      rcases gstep_mem hp with h | rfl
      · exact ih.2 p h
      · exact List.mem_of_getElem? ht
def okK (t : List Op) (i : Nat) : Prop := gather [] t = gather (outK t i) (t.drop i)
theorem okK_zero (t : List Op) : okK t 0 := rfl
theorem okK_bad {t : List Op} {i : Nat} {o : Op} (h : okK t i) (ht : t[i]? = some o) (hb : gbad (outK t i) o = true) : gather [] t = none := by
  obtain ⟨hlt, rfl⟩ := List.getElem?_eq_some_iff.1 ht
  rw [h, List.drop_eq_getElem_cons hlt, gather_cons, if_pos hb]
theorem okK_succ {t : List Op} {i : Nat} {o : Op} (h : okK t i) (ht : t[i]? = some o) (hb : gbad (outK t i) o = false) : okK t (i + 1) := by
  unfold okK at h ⊢
  have e := outK_succ ht
  obtain ⟨hlt, rfl⟩ := List.getElem?_eq_some_iff.1 ht
  rw [e, h, List.drop_eq_getElem_cons hlt, gather_cons, if_neg (by simp [hb])]
theorem okK_end {t : List Op} (h : okK t t.length) : gather [] t = some (outK t t.length) := by
  rw [h, List.drop_of_length_le (Nat.le_refl _), gather]
theorem gbad_none {out : List Op} {o : Op} (h : out.getLast? = none) : gbad out o = false ∧ gstep out o = out ++ [o] := by simp [gbad, gstep, h]
theorem gbad_ne {out : List Op} {o p : Op} (h : out.getLast? = some p) (he : p.at_ ≠ o.at_) : gbad out o = false ∧ gstep out o = out ++ [o] := by simp [gbad, gstep, h, he]
theorem gbad_eq {out : List Op} {o p : Op} (h : out.getLast? = some p) (he : p.at_ = o.at_) : gbad out o = (!decide (p = o)) ∧ gstep out o = out := by simp [gbad, gstep, h, he]
end Go.Proofs.YtifpafbmfedpkaaDoor
end
