/- A logic of trees over the model's steps, and the contracts of the functions that the laws reach: part 8 of 14. -/
import Derived.Test.YtekkpfbjnjjcbaaGreatDoorB7
import Derived.Lib.SliceRun
section
set_option linter.unusedVariables false
set_option linter.unusedSimpArgs false
set_option linter.unusedSectionVars false
namespace Go.Proofs.YtekkpfbjnjjcbaaGreatDoor
open Go.Ac Go.MapKept
attribute [local irreducible] awp awpL Ev Ev2 EvS thenQ blockQ retQ PCalls OCalls YieldOk IterC ICalls
set_option linter.unusedSimpArgs false
set_option linter.unusedVariables false
def lastS (pre : List Op) : Stamp := match pre.getLast? with
  | some p => p.at_
  | none => ⟨0, 0⟩
abbrev chkL (pre : List Op) : List LB := [.map (aks (addedM pre)) (axs (addedM pre)), .map (wks (writesM pre)) (wxs (writesM pre)), .box [.mp 0, .mp 1, vi (lastS pre).count, vi (lastS pre).dev], .dead]
theorem ord_last {pre : List Op} {o : Op} (h : opE o = 0) : (match pre.getLast? with | some p => less p.at_ o.at_ | none => true) = less (lastS pre) o.at_ := by
  unfold lastS
  cases pre.getLast? with
  | some p => rfl
  | none =>
    have := right_dev (opE_right h)
    simp [less]; omega
theorem lastS_snoc (pre : List Op) (o : Op) : lastS (pre ++ [o]) = o.at_ := by simp [lastS]
theorem rec_get {pre : List Op} (hp : Good pre) (o : Op) : (match addedO pre o.note.id with | some a => decide (a.rec_ = o.rec_) | none => false) = ((aget (addedM pre) o.note.id).isSome && decide ((aget (addedM pre) o.note.id).getD 0 = o.rec_)) := by
  rw [get_added hp]
  cases addedO pre o.note.id with
  | none => rfl
  | some a => simp
theorem fld_get {j : Nat} (h : j < 3) : 0 ≤ (j : Int) ∧ (j : Int) < (3 : Nat) ∧ [vi 0, vi 1, vi 2][(j : Int).toNat]? = some (vi j) := by
  have : j = 0 ∨ j = 1 ∨ j = 2 := by omega
  rcases this with rfl | rfl | rfl <;> exact ⟨by omega, by omega, rfl⟩
theorem wr_upd {o : Op} {m : List (WK × Unit)} {j : Nat} (hj : j < 3) : wrK o m (j + 1) = if writes o o.note.id j then aput (wrK o m j) ⟨o.at_, o.note.id, j⟩ () else wrK o m j := wrK_succ o m j hj
set_option maxRecDepth 8000 in
set_option maxHeartbeats 8000000 in
theorem one_spec (pre : List Op) (o : Op) (hp : Good pre) (hid : I64 o.note.id) : ICalls Tryz.prog (Glo.of GL) 40 [.lp 2 0, .agg (opC o)] (chkL pre) (chkL (if oneE pre o = 0 then pre ++ [o] else pre)) (vi (oneE pre o)) := by
  have hC := Op_spec (g := GL) GL_utf o hid
  refine icalls Tryz.func40 rfl Tryz.ntmps40 rfl rfl rfl rfl rfl rfl ?_
  have n1 : (!true) = false := rfl
  have n2 : (!false) = true := rfl
  by_cases hE : opE o = 0
  case neg =>
    have c0 : (!decide (opE o = 0)) = true := by simp [hE]
    rw [oneE_bad hE, if_neg hE]
    refine runn [0] ?_
    exact retI rfl ⟨rfl, rfl⟩
  case pos =>
  have c0 : (!decide (opE o = 0)) = false := by simp [hE]
  have hL := Less_spec (g := GL) (lastS pre) o.at_
  have hord := ord_last (pre := pre) hE
  cases ha : less (lastS pre) o.at_ with
  | false =>
    rw [ha] at hL hord
    rw [oneE_10 hE hord, if_neg (by omega)]
    refine run [0] ?_
    exact retI rfl ⟨rfl, rfl⟩
  | true =>
  rw [ha] at hL hord
  have hrec := rec_get hp o
  have hlook := a_look (addedM pre) o.note.id
  have hand := aks_nd (addedM_nd pre)
  have hwnd := wks_nd (writesM_nd pre)
  have hwr : ∀ s n f, (aget (writesM pre) ⟨s, n, f⟩).isSome = writer pre s n f := get_writes pre
  have h16 := opE_over hE
  have z3 : zeroOf Tryz.prog 3 = some (.int .i64 0) := by kernel_rfl
  have z4 : zeroOf Tryz.prog 4 = some (.bool false) := by kernel_rfl
  refine run [0] ?_
  have rest : o.kind ≠ 0 → ∀ b, ((aget (addedM pre) o.note.id).isSome && decide ((aget (addedM pre) o.note.id).getD 0 = o.rec_)) = b → (match addedO pre o.note.id with | some a => decide (a.rec_ = o.rec_) | none => false) = b := fun _ b h => hrec.trans h
  by_cases hbad : o.kind ≠ 0 ∧ ((aget (addedM pre) o.note.id).isSome && decide ((aget (addedM pre) o.note.id).getD 0 = o.rec_)) = false
  case pos =>
    obtain ⟨hk, hb⟩ := hbad
    have d0 : (!decide (o.kind = 0)) = true := by simp [hk]
    rw [oneE_9 hE hord hk (hrec.trans hb), if_neg (by omega)]
    cases hs : (aget (addedM pre) o.note.id).isSome with
    | false =>
      rw [hs] at hlook
      repeat' (first
       | ((with_reducible refine isD_un ?_); refine awpD_un (as_pure rfl (by repeat' (first | exact Msk.nil | apply Msk.base | apply Msk.vis rfl | apply Msk.hid rfl)) (ev_lookup intKey rfl rfl rfl (intV_R _) rfl rfl z3 rfl (aks_ok _) (intV_ok _) hlook hand rfl) rfl rfl rfl) (by (try simp only [List.nil_append, List.cons_append]); (try rfl)) ?_)
       | refine st [0] ?_
       | fail)
      exact retI rfl ⟨rfl, rfl⟩
    | true =>
      rw [hs, Bool.true_and] at hb
      rw [hs] at hlook
      have d1 : (!decide ((aget (addedM pre) o.note.id).getD 0 = o.rec_)) = true := by rw [hb]; rfl
      repeat' (first
       | ((with_reducible refine isD_un ?_); refine awpD_un (as_pure rfl (by repeat' (first | exact Msk.nil | apply Msk.base | apply Msk.vis rfl | apply Msk.hid rfl)) (ev_lookup intKey rfl rfl rfl (intV_R _) rfl rfl z3 rfl (aks_ok _) (intV_ok _) hlook hand rfl) rfl rfl rfl) (by (try simp only [List.nil_append, List.cons_append]); (try rfl)) ?_)
       | refine st [0] ?_
       | fail)
      exact retI rfl ⟨rfl, rfl⟩
  case neg =>
  have hgood : o.kind ≠ 0 → (aget (addedM pre) o.note.id).isSome = true ∧ (aget (addedM pre) o.note.id).getD 0 = o.rec_ := fun hk => by
    cases hb : ((aget (addedM pre) o.note.id).isSome && decide ((aget (addedM pre) o.note.id).getD 0 = o.rec_)) with
    | false => exact absurd ⟨hk, hb⟩ hbad
    | true => simpa using hb
  refine awp_cut 5 [(0, .lp 2 0), (3, .fp (opC o))] (chkL pre ++ [.pin]) ?_ ?_
  · by_cases hk : o.kind = 0
    · have d0 : (!decide (o.kind = 0)) = false := by simp [hk]
      refine runn [0] ?_
      exact ⟨(.cons rfl rfl (.cons rfl rfl .nil)), rfl, rfl, rfl⟩
    · have d0 : (!decide (o.kind = 0)) = true := by simp [hk]
      obtain ⟨g1, g2⟩ := hgood hk
      rw [g1] at hlook
      have d1 : (!decide ((aget (addedM pre) o.note.id).getD 0 = o.rec_)) = false := by simp [g2]
      repeat' (first
       | ((with_reducible refine isD_un ?_); refine awpD_un (as_pure rfl (by repeat' (first | exact Msk.nil | apply Msk.base | apply Msk.vis rfl | apply Msk.hid rfl)) (ev_lookup intKey rfl rfl rfl (intV_R _) rfl rfl z3 rfl (aks_ok _) (intV_ok _) hlook hand rfl) rfl rfl rfl) (by (try simp only [List.nil_append, List.cons_append]); (try rfl)) ?_)
       | refine st [0] ?_
       | fail)
      exact ⟨(.cons rfl rfl (.cons rfl rfl .nil)), rfl, rfl, rfl⟩
  have hone : oneE pre o = if o.over.all (overOk pre o) = true then 0 else 27 := by
    by_cases hk : o.kind = 0
    · have h0 : o.over = [] := by
        have : wanted (decide (o.over.length = 0)) = 0 := by
          have h := hE
          unfold opE at h
          rw [if_neg (by simp [opE_right hE]), if_pos hk] at h
          split at h
          · omega
          · exact (firstE3' _ _ _ h).2.2
        unfold wanted at this
        split at this
        · rename_i q; simpa using q
        · omega
      rw [oneE_add hE hord hk, h0]; rfl
    · obtain ⟨g1, g2⟩ := hgood hk
      have hb : (match addedO pre o.note.id with | some a => decide (a.rec_ = o.rec_) | none => false) = true := hrec.trans (by rw [g1, g2]; simp)
      cases hc : o.over.all (overOk pre o) with
      | true => rw [oneE_0 hE hord hk hb hc]; rfl
      | false => rw [oneE_27 hE hord hk hb hc]; rfl
  repeat' (first
   | refine stn [0] ?_
   | ((with_reducible refine is_awp ?_); refine awp_cond rfl (fun h => ?_) (fun h => ?_))
   | fail)
  refine awp_cutBP 5 (o.over.all (overOk pre o) = true) [(0, .lp 2 0), (3, .fp (opC o))] (chkL pre ++ [.pin]) ?_ ?_
  · refine awp_for (α := Nat) 5 (fun k => [(0, .lp 2 0), (3, .fp (opC o)), (51, encStamps o.over), (52, vi o.over.length), (53, vi k)]) (fun _ => chkL pre ++ [.pin]) (fun k => k ≤ o.over.length ∧ o.over.all (overOk pre o) = (o.over.drop k).all (overOk pre o)) (fun k => o.over.length - k) 0
      ⟨(.cons rfl rfl (.cons rfl rfl (.cons rfl rfl (.cons rfl rfl (.cons rfl rfl .nil))))), rfl, rfl, rfl⟩ ⟨Nat.zero_le _, rfl⟩ ?_
    rintro k ⟨hkl, hall⟩
    cases ht : o.over[k]? with
    | none =>
      have hge : o.over.length ≤ k := by simpa using ht
      have c1 : decide ((k : Int) < o.over.length) = false := decide_eq_false (by omega)
      rw [List.drop_of_length_le hge] at hall
      refine runn [0] ?_
      exact ⟨hall, ⟨(.cons rfl rfl (.cons rfl rfl .nil)), rfl, rfl, rfl⟩⟩
    | some t =>
      have hltk : k < o.over.length := (List.getElem?_eq_some_iff.1 ht).1
      have c1 : decide ((k : Int) < o.over.length) = true := decide_eq_true (by omega)
      have g3 := stamp_get ht
      rw [all_drop _ _ k t ht] at hall
      repeat' (first
       | refine stn [0] ?_
       | ((with_reducible refine is_awp ?_); refine awp_cond rfl (fun h => ?_) (fun h => ?_))
       | fail)
      refine awp_cutB 5 [(0, .lp 2 0), (3, .fp (opC o)), (51, encStamps o.over), (52, vi o.over.length), (53, vi k), (10, vb (overOk pre o t))] (chkL pre ++ [.pin]) ?_ ?_
      · refine awp_for (α := Nat) 5 (fun j => [(0, .lp 2 0), (3, .fp (opC o)), (51, encStamps o.over), (52, vi o.over.length), (53, vi k), (9, .fp (stampC t)), (57, .agg [vi 0, vi 1, vi 2]), (58, vi j), (10, vb (anyK (okF pre o t) j))]) (fun _ => chkL pre ++ [.pin]) (fun j => j ≤ 3) (fun j => 3 - j) 0
          ⟨(.cons rfl rfl (.cons rfl rfl (.cons rfl rfl (.cons rfl rfl (.cons rfl rfl (.cons rfl rfl (.cons rfl rfl (.cons rfl rfl (.cons rfl rfl .nil))))))))), rfl, rfl, rfl⟩ (by omega) ?_
        intro j hj
        by_cases hj3 : j = 3
        · subst hj3
          have c2 : decide (((3 : Nat) : Int) < 3) = false := rfl
          refine runn [0] ?_
          exact ⟨(.cons rfl rfl (.cons rfl rfl (.cons rfl rfl (.cons rfl rfl (.cons rfl rfl (.cons rfl rfl .nil)))))), rfl, rfl, rfl⟩
        · have c2 : decide ((j : Int) < 3) = true := decide_eq_true (by omega)
          have hfj := fld_get (j := j) (by omega)
          have hS := anyK_succ (okF pre o t) (j := j) (by omega)
          have hw := w_look (writesM pre) ⟨t, o.note.id, j⟩
          rw [hwr] at hw
          cases hacc : anyK (okF pre o t) j with
          | true =>
            rw [hacc, Bool.true_or] at hS
            repeat' (first
             | ((with_reducible refine is_un ?_); refine awpL_ev (ev_index_arr rfl rfl rfl rfl rfl rfl rfl hfj) rfl ?_)
             | ((with_reducible refine is_draw ?_); refine awp_drawT 25 (by simp only [List.take_succ_cons, List.take_zero, List.take_nil]; rfl) (by simp only [List.drop_succ_cons, List.drop_zero, List.drop_nil]; rfl) (by kernel_rfl) rfl rfl rfl rfl (by repeat' (first | exact Strip.nil | apply Strip.keep rfl | apply Strip.drop rfl)) ?_)
             | refine st [0] ?_
             | fail)
            exact ⟨j + 1, ⟨(.cons rfl rfl (.cons rfl rfl (.cons rfl rfl (.cons rfl rfl (.cons rfl rfl (.cons rfl rfl (.cons rfl rfl (.cons rfl rfl (.cons rfl (by rw [hS]; rfl) .nil))))))))), rfl, rfl, rfl⟩, by omega, by omega⟩
          | false =>
            rw [hacc, Bool.false_or] at hS
            by_cases k2 : o.kind = 2
            · have e1 : decide (o.kind = 2) = true := decide_eq_true k2
              rw [okF, e1, Bool.true_or, Bool.true_and] at hS
              repeat' (first
               | ((with_reducible refine is_un ?_); refine awpL_ev (ev_index_arr rfl rfl rfl rfl rfl rfl rfl hfj) rfl ?_)
               | ((with_reducible refine isD_un ?_); refine awpD_un (as_pure rfl (by repeat' (first | exact Msk.nil | apply Msk.base | apply Msk.vis rfl | apply Msk.hid rfl)) (ev_lookup wkKey rfl rfl rfl (wkV_R _ _ _) rfl rfl z4 rfl (wks_ok _) (wkV_ok _) hw hwnd rfl) rfl rfl rfl) (by (try simp only [List.nil_append, List.cons_append]); (try rfl)) ?_)
               | ((with_reducible refine isD_gd ?_); refine awpD_gd rfl rfl (by first | with_reducible rfl | with_reducible assumption) (as_pure rfl (by repeat' (first | exact Msk.nil | apply Msk.base | apply Msk.vis rfl | apply Msk.hid rfl)) (ev_lookup wkKey rfl rfl rfl (wkV_R _ _ _) rfl rfl z4 rfl (wks_ok _) (wkV_ok _) hw hwnd rfl) rfl rfl rfl) (by (try simp only [List.nil_append, List.cons_append]); (try rfl)) ?_)
               | ((with_reducible refine is_draw ?_); refine awp_drawT 25 (by simp only [List.take_succ_cons, List.take_zero, List.take_nil]; rfl) (by simp only [List.drop_succ_cons, List.drop_zero, List.drop_nil]; rfl) (by kernel_rfl) rfl rfl rfl rfl (by repeat' (first | exact Strip.nil | apply Strip.keep rfl | apply Strip.drop rfl)) ?_)
               | refine st [0] ?_
               | fail)
              exact ⟨j + 1, ⟨(.cons rfl rfl (.cons rfl rfl (.cons rfl rfl (.cons rfl rfl (.cons rfl rfl (.cons rfl rfl (.cons rfl rfl (.cons rfl rfl (.cons rfl (by rw [hS]; rfl) .nil))))))))), rfl, rfl, rfl⟩, by omega, by omega⟩
            · have e1 : decide (o.kind = 2) = false := decide_eq_false k2
              by_cases k3 : (j : Int) = o.set
              · have e2 : decide ((j : Int) = o.set) = true := decide_eq_true k3
                rw [okF, e1, e2, Bool.false_or, Bool.true_and] at hS
                repeat' (first
                 | ((with_reducible refine is_un ?_); refine awpL_ev (ev_index_arr rfl rfl rfl rfl rfl rfl rfl hfj) rfl ?_)
                 | ((with_reducible refine isD_un ?_); refine awpD_un (as_pure rfl (by repeat' (first | exact Msk.nil | apply Msk.base | apply Msk.vis rfl | apply Msk.hid rfl)) (ev_lookup wkKey rfl rfl rfl (wkV_R _ _ _) rfl rfl z4 rfl (wks_ok _) (wkV_ok _) hw hwnd rfl) rfl rfl rfl) (by (try simp only [List.nil_append, List.cons_append]); (try rfl)) ?_)
                 | ((with_reducible refine isD_gd ?_); refine awpD_gd rfl rfl (by first | with_reducible rfl | with_reducible assumption) (as_pure rfl (by repeat' (first | exact Msk.nil | apply Msk.base | apply Msk.vis rfl | apply Msk.hid rfl)) (ev_lookup wkKey rfl rfl rfl (wkV_R _ _ _) rfl rfl z4 rfl (wks_ok _) (wkV_ok _) hw hwnd rfl) rfl rfl rfl) (by (try simp only [List.nil_append, List.cons_append]); (try rfl)) ?_)
                 | ((with_reducible refine is_draw ?_); refine awp_drawT 25 (by simp only [List.take_succ_cons, List.take_zero, List.take_nil]; rfl) (by simp only [List.drop_succ_cons, List.drop_zero, List.drop_nil]; rfl) (by kernel_rfl) rfl rfl rfl rfl (by repeat' (first | exact Strip.nil | apply Strip.keep rfl | apply Strip.drop rfl)) ?_)
                 | refine st [0] ?_
                 | fail)
                exact ⟨j + 1, ⟨(.cons rfl rfl (.cons rfl rfl (.cons rfl rfl (.cons rfl rfl (.cons rfl rfl (.cons rfl rfl (.cons rfl rfl (.cons rfl rfl (.cons rfl (by rw [hS]; rfl) .nil))))))))), rfl, rfl, rfl⟩, by omega, by omega⟩
              · have e2 : decide ((j : Int) = o.set) = false := decide_eq_false k3
                rw [okF, e1, e2, Bool.false_or, Bool.false_and] at hS
                repeat' (first
                 | ((with_reducible refine is_un ?_); refine awpL_ev (ev_index_arr rfl rfl rfl rfl rfl rfl rfl hfj) rfl ?_)
                 | ((with_reducible refine is_draw ?_); refine awp_drawT 25 (by simp only [List.take_succ_cons, List.take_zero, List.take_nil]; rfl) (by simp only [List.drop_succ_cons, List.drop_zero, List.drop_nil]; rfl) (by kernel_rfl) rfl rfl rfl rfl (by repeat' (first | exact Strip.nil | apply Strip.keep rfl | apply Strip.drop rfl)) ?_)
                 | refine st [0] ?_
                 | fail)
                exact ⟨j + 1, ⟨(.cons rfl rfl (.cons rfl rfl (.cons rfl rfl (.cons rfl rfl (.cons rfl rfl (.cons rfl rfl (.cons rfl rfl (.cons rfl rfl (.cons rfl (by rw [hS]; rfl) .nil))))))))), rfl, rfl, rfl⟩, by omega, by omega⟩
      · cases hov : overOk pre o t with
        | true =>
          rw [hov, Bool.true_and] at hall
          refine runn [0] ?_
          exact ⟨k + 1, ⟨(.cons rfl rfl (.cons rfl rfl (.cons rfl rfl (.cons rfl rfl (.cons rfl rfl .nil))))), rfl, rfl, rfl⟩, ⟨by omega, hall⟩, by omega⟩
        | false =>
          rw [hov, Bool.false_and] at hall
          rw [hone, if_neg (by rw [hall]; simp), if_neg (by omega)]
          refine runn [0] ?_
          exact retI rfl ⟨rfl, rfl⟩
  intro hall
  rw [hone, if_pos hall, if_pos rfl]
  refine runn [0] ?_
  refine awp_cut 5 [(0, .lp 2 0), (3, .fp (opC o))] [.map (aks (addedM (pre ++ [o]))) (axs (addedM (pre ++ [o]))), .map (wks (writesM pre)) (wxs (writesM pre)), .box [.mp 0, .mp 1, vi o.at_.count, vi o.at_.dev], .dead, .pin] ?_ ?_
  · rw [addedM_snoc, addM]
    by_cases hk : o.kind = 0
    · have d0 : decide (o.kind = 0) = true := decide_eq_true hk
      rw [if_pos hk]
      have hput := a_put (addedM pre) o.note.id o.rec_
      repeat' (first
       | ((with_reducible refine is_un ?_); refine awpL_evS (ev_mapUpd (L' := [.map (aks (aput (addedM pre) o.note.id o.rec_)) (axs (aput (addedM pre) o.note.id o.rec_)), .map (wks (writesM pre)) (wxs (writesM pre)), .box [.mp 0, .mp 1, vi o.at_.count, vi o.at_.dev], .dead, .pin]) intKey rfl rfl rfl (intV_R _) rfl rfl rfl rfl (aks_ok _) (intV_ok _) hput hand rfl) ?_)
       | ((with_reducible refine is_draw ?_); refine awp_drawT 9 (by simp only [List.take_succ_cons, List.take_zero, List.take_nil]; rfl) (by simp only [List.drop_succ_cons, List.drop_zero, List.drop_nil]; rfl) (by kernel_rfl) rfl rfl rfl rfl (by repeat' (first | exact Strip.nil | apply Strip.keep rfl | apply Strip.drop rfl)) ?_)
       | refine st [0] ?_
       | fail)
      exact ⟨(.cons rfl rfl (.cons rfl rfl .nil)), rfl, rfl, rfl⟩
    · have d0 : decide (o.kind = 0) = false := decide_eq_false hk
      rw [if_neg hk]
      refine runn [0] ?_
      exact ⟨(.cons rfl rfl (.cons rfl rfl .nil)), rfl, rfl, rfl⟩
  generalize hA : addedM (pre ++ [o]) = A at *
  repeat' (first
   | refine stn [0] ?_
   | ((with_reducible refine is_awp ?_); refine awp_cond rfl (fun h => ?_) (fun h => ?_))
   | fail)
  refine awp_for (α := Nat) 5 (fun j => [(0, .lp 2 0), (3, .fp (opC o)), (107, .agg [vi 0, vi 1, vi 2]), (108, vi j)]) (fun j => [.map (aks A) (axs A), .map (wks (wrK o (writesM pre) j)) (wxs (wrK o (writesM pre) j)), .box [.mp 0, .mp 1, vi o.at_.count, vi o.at_.dev], .dead, .pin]) (fun j => j ≤ 3) (fun j => 3 - j) 0
    ⟨(.cons rfl rfl (.cons rfl rfl (.cons rfl rfl (.cons rfl rfl .nil)))), rfl, rfl, rfl⟩ (by omega) ?_
  intro j hj
  by_cases hj3 : j = 3
  · subst hj3
    have c2 : decide (((3 : Nat) : Int) < 3) = false := rfl
    refine runn [0] ?_
    refine retI rfl ⟨rfl, ?_⟩
    simp only [chkL, hA, writesM_snoc, lastS_snoc]; rfl
  · have c2 : decide ((j : Int) < 3) = true := decide_eq_true (by omega)
    have hfj := fld_get (j := j) (by omega)
    have hW := Writes_spec (g := GL) o o.note.id j
    have hS := wr_upd (o := o) (m := writesM pre) (j := j) (by omega)
    have hnd2 := wks_nd (wrK_nd (o := o) (writesM_nd pre) j)
    cases hw : writes o o.note.id j with
    | false =>
      rw [hw] at hW hS
      rw [if_neg (by simp)] at hS
      repeat' (first
       | ((with_reducible refine is_un ?_); refine awpL_ev (ev_index_arr rfl rfl rfl rfl rfl rfl rfl hfj) rfl ?_)
       | refine stn [0] ?_
       | fail)
      exact ⟨j + 1, ⟨(.cons rfl rfl (.cons rfl rfl (.cons rfl rfl (.cons rfl rfl .nil)))), by rw [hS]; rfl, rfl, rfl⟩, by omega, by omega⟩
    | true =>
      rw [hw] at hW hS
      rw [if_pos rfl] at hS
      have hput := w_put (wrK o (writesM pre) j) ⟨o.at_, o.note.id, j⟩
      rw [← hS] at hput
      repeat' (first
       | ((with_reducible refine is_un ?_); (first | refine awpL_ev (ev_index_arr rfl rfl rfl rfl rfl rfl rfl hfj) rfl ?_ | refine awpL_evS (ev_mapUpd (L' := [.map (aks A) (axs A), .map (wks (wrK o (writesM pre) (j + 1))) (wxs (wrK o (writesM pre) (j + 1))), .box [.mp 0, .mp 1, vi o.at_.count, vi o.at_.dev], .dead, .pin]) wkKey rfl rfl rfl (wkV_R _ _ _) rfl rfl rfl rfl (wks_ok _) (wkV_ok _) hput hnd2 rfl) ?_))
       | ((with_reducible refine is_draw ?_); refine awp_drawT 11 (by simp only [List.take_succ_cons, List.take_zero, List.take_nil]; rfl) (by simp only [List.drop_succ_cons, List.drop_zero, List.drop_nil]; rfl) (by kernel_rfl) rfl rfl rfl rfl (by repeat' (first | exact Strip.nil | apply Strip.keep rfl | apply Strip.drop rfl)) ?_)
       | refine st [0] ?_
       | fail)
      exact ⟨j + 1, ⟨(.cons rfl rfl (.cons rfl rfl (.cons rfl rfl (.cons rfl rfl .nil)))), rfl, rfl, rfl⟩, by omega, by omega⟩
end Go.Proofs.YtekkpfbjnjjcbaaGreatDoor
end
section
set_option linter.unusedVariables false
set_option linter.unusedSimpArgs false
set_option linter.unusedSectionVars false
namespace Go.Proofs.YtekkpfbjnjjcbaaGreatDoor
open Go.Ac Go.MapKept
attribute [local irreducible] awp awpL Ev Ev2 EvS thenQ blockQ retQ PCalls OCalls YieldOk IterC ICalls
set_option linter.unusedSimpArgs false
set_option linter.unusedVariables false
theorem JoinP_nn {g : List (Nat × List AV)} : PCalls Tryz.prog g 39 [nilS, nilS] (encIs (seenL [])) := by
  have := (Join_nn (g := g)).toP
  rw [List.length_map] at this
  exact this
theorem SeeP {g : List (Nat × List AV)} (v : List Int) (s : Stamp) (hv : v.length ≤ 1000000) : PCalls Tryz.prog g 37 [encIs v, .agg (stampC s)] (encIs (see v s)) := by
  have := (See_spec (g := g) v s hv).toP
  rw [List.length_map] at this
  exact this
set_option maxRecDepth 4000 in
set_option maxHeartbeats 4000000 in
theorem Check_spec (r : Replica) (hs : r.seen.length ≤ 1000000) (hid : Ids r.ops) : PCalls Tryz.prog GL 13 [.agg (repC r)] (vi (repE r)) := by
  refine pcalls' Tryz.func13 Tryz.ntmps13 rfl rfl rfl ?_
  have n1 : (!true) = false := rfl
  have n2 : (!false) = true := rfl
  by_cases h1 : r.dev < 1
  · have c1 : decide (r.dev < 1) = true := decide_eq_true h1
    refine runn [3] ?_
    refine retP rfl ?_
    rw [repE, if_pos (by simp [within]; omega)]; rfl
  have c1 : decide (r.dev < 1) = false := decide_eq_false h1
  by_cases h2 : 15 < r.dev
  · have c2 : decide (15 < r.dev) = true := decide_eq_true h2
    refine runn [3] ?_
    refine retP rfl ?_
    rw [repE, if_pos (by simp [within]; omega)]; rfl
  have c2 : decide (15 < r.dev) = false := decide_eq_false h2
  have hw : ¬ within r.dev 1 15 = false := by simp [within]; omega
  by_cases h4 : 400 < r.ops.length
  · have c3 : decide ((400 : Int) < r.ops.length) = true := decide_eq_true (by omega)
    refine runn [3] ?_
    refine retP rfl ?_
    rw [repE, if_neg hw, if_pos h4]; rfl
  have c3 : decide ((400 : Int) < r.ops.length) = false := decide_eq_false (by omega)
  have hE : repE r = if allE [] r.ops ≠ 0 then allE [] r.ops else if r.seen ≠ seenL r.ops then 1 else 0 := by rw [repE, if_neg hw, if_neg h4]
  rw [hE]
  have hJ := JoinP_nn (g := GL)
  repeat' (first
   | ((with_reducible refine is_un ?_); refine awpL_ev2 (ev_mkmap (by (try simp only [List.length_nil, List.length_cons, Nat.reduceAdd]); (try rfl)) (by (try simp only [List.set_cons_zero, List.set_cons_succ, List.nil_append, List.cons_append, List.append_nil, cellsOf, List.take_zero, List.drop_zero, List.take_succ_cons, List.drop_succ_cons, Nat.zero_add, Nat.reduceAdd, List.drop_nil, List.map_cons, List.map_nil]); (try rfl))) rfl ?_)
   | refine stn [3] ?_
   | ((with_reducible refine is_awp ?_); refine awp_cond rfl (fun h => ?_) (fun h => ?_))
   | fail)
  refine awp_for (α := Nat) 3 (fun k => [(1, .fp (repC r)), (3, .lp 2 0), (4, encIs (seenL (r.ops.take k))), (25, encOps r.ops), (26, vi r.ops.length), (27, vi k)])
    (fun k => [.map (aks (addedM (r.ops.take k))) (axs (addedM (r.ops.take k))), .map (wks (writesM (r.ops.take k))) (wxs (writesM (r.ops.take k))), .box [.mp 0, .mp 1, vi (lastS (r.ops.take k)).count, vi (lastS (r.ops.take k)).dev]])
    (fun k => k ≤ r.ops.length ∧ allE [] r.ops = allE (r.ops.take k) (r.ops.drop k) ∧ Good (r.ops.take k)) (fun k => r.ops.length - k) 0
    ⟨(.cons rfl rfl (.cons rfl rfl (.cons rfl rfl (.cons rfl rfl (.cons rfl rfl (.cons rfl rfl .nil)))))), rfl, rfl, rfl⟩ ⟨Nat.zero_le _, rfl, Good.nil⟩ ?_
  rintro k ⟨hk, hf, hg⟩
  cases ht : r.ops[k]? with
  | none =>
    have hge : r.ops.length ≤ k := by simpa using ht
    have c4 : decide ((k : Int) < r.ops.length) = false := decide_eq_false (by omega)
    rw [List.drop_of_length_le hge, allE_nil] at hf
    have hQ := eqInts_spec (g := GL) r.seen (seenL (r.ops.take k)) hs (by rw [seenL_len]; omega)
    rw [hf, if_neg (by simp)]
    have hte : r.ops.take k = r.ops := List.take_of_length_le hge
    by_cases he : r.seen = seenL r.ops
    · have he2 : decide (r.seen = seenL (r.ops.take k)) = true := by rw [hte]; exact decide_eq_true he
      rw [he2] at hQ
      rw [if_neg (by simpa using he)]
      refine runn [3] ?_
      exact retP rfl rfl
    · have he2 : decide (r.seen = seenL (r.ops.take k)) = false := by rw [hte]; exact decide_eq_false he
      rw [he2] at hQ
      rw [if_pos he]
      refine runn [3] ?_
      exact retP rfl rfl
  | some o =>
    have hlt : k < r.ops.length := (List.getElem?_eq_some_iff.1 ht).1
    have c4 : decide ((k : Int) < r.ops.length) = true := decide_eq_true (by omega)
    have g1 := op_get ht
    have hO := one_spec (r.ops.take k) o hg (hid o (List.mem_of_getElem? ht))
    have hS := SeeP (g := GL) (seenL (r.ops.take k)) o.at_ (by rw [seenL_len]; omega)
    rw [drop_get ht] at hf
    by_cases he : oneE (r.ops.take k) o = 0
    · have c5 : (!decide (oneE (r.ops.take k) o = 0)) = false := by simp [he]
      rw [allE_ok he, ← take_snoc ht] at hf
      rw [if_pos he, ← take_snoc ht] at hO
      rw [← seenL_snoc, ← take_snoc ht] at hS
      repeat' (first
       | ((with_reducible refine is_un ?_); refine awpL_icall rfl hO rfl ?_)
       | refine stn [3] ?_
       | fail)
      exact ⟨k + 1, ⟨(.cons rfl rfl (.cons rfl rfl (.cons rfl rfl (.cons rfl rfl (.cons rfl rfl (.cons rfl rfl .nil)))))), rfl, rfl, rfl⟩, ⟨by omega, hf, by rw [take_snoc ht]; exact hg.snoc he⟩, by omega⟩
    · have c5 : (!decide (oneE (r.ops.take k) o = 0)) = true := by simp [he]
      rw [allE_bad he] at hf
      rw [if_neg he] at hO
      repeat' (first
       | ((with_reducible refine is_un ?_); refine awpL_icall rfl hO rfl ?_)
       | refine stn [3] ?_
       | fail)
      refine retP rfl ?_
      rw [hf, if_pos he]; rfl
end Go.Proofs.YtekkpfbjnjjcbaaGreatDoor
end
section
set_option linter.unusedVariables false
set_option linter.unusedSimpArgs false
set_option linter.unusedSectionVars false
namespace Go.Proofs.YtekkpfbjnjjcbaaGreatDoor
open Go.Ac Go.MapKept
attribute [local irreducible] awp awpL Ev Ev2 EvS thenQ blockQ retQ PCalls OCalls YieldOk IterC ICalls
set_option linter.unusedSimpArgs false
set_option linter.unusedVariables false
variable {g : List (Nat × List AV)}
end Go.Proofs.YtekkpfbjnjjcbaaGreatDoor
end
section
set_option linter.unusedVariables false
set_option linter.unusedSimpArgs false
set_option linter.unusedSectionVars false
namespace Go.Proofs.YtekkpfbjnjjcbaaGreatDoor
open Go.Ac Go.MapKept
attribute [local irreducible] awp awpL Ev Ev2 EvS thenQ blockQ retQ PCalls OCalls YieldOk IterC ICalls
set_option linter.unusedSimpArgs false
set_option linter.unusedVariables false
variable {g : List (Nat × List AV)}
theorem rSeeP (v : List Int) (s : Stamp) (hv : v.length ≤ 1000000) : PCalls Tryz.prog g 83 [encIs v, .agg (stampC s)] (encIs (see v s)) := by
  have := (rSee_spec (g := g) v s hv).toP
  rw [List.length_map] at this
  exact this
def backwards (l : List Op) : List Op := l.reverse
def half (a b : Replica) : Bool := b.ops.all fun o => !(covers a.seen o.at_ && !has a.ops o)
end Go.Proofs.YtekkpfbjnjjcbaaGreatDoor
end
section
set_option linter.unusedVariables false
set_option linter.unusedSimpArgs false
set_option linter.unusedSectionVars false
namespace Go.Proofs.YtekkpfbjnjjcbaaGreatDoor
open Go.Ac Go.MapKept
attribute [local irreducible] awp awpL Ev Ev2 EvS thenQ blockQ retQ PCalls OCalls YieldOk IterC ICalls
set_option linter.unusedSimpArgs false
set_option linter.unusedVariables false
variable {g : List (Nat × List AV)}
def mergeV (p : Replica × Int) : AV := .tup [.agg (repC p.1), vi p.2]
abbrev zeroRepC : List AV := [vi 0, nilS, nilS]
theorem le_zeroRep : LeA zeroRepC (repC zeroRep) := .cons (Le.rfl' _) (.cons (Le.nil 1) (.cons (Le.nil 15) .nil))
theorem le_zeroM (e : Int) : Le (.tup [.agg zeroRepC, vi e]) (mergeV (zeroRep, e)) := Le.tup (.cons (Le.agg le_zeroRep) (.cons (Le.rfl' _) .nil))
structure FitM (a b : List Op) : Prop where
  len : a.length + b.length ≤ 1000
  ov : ∀ o, o ∈ a ∨ o ∈ b → o.over.length ≤ 100000
  id : ∀ o, o ∈ a ∨ o ∈ b → I64 o.note.id
theorem FitM.fit {a b : List Op} (h : FitM a b) {m : List Op} (hl : m.length ≤ a.length + b.length) (hm : ∀ o ∈ m, o ∈ a ∨ o ∈ b) : Fit m := ⟨by have := h.len; omega, fun o ho => h.ov o (hm o ho)⟩
theorem FitM.ids {a b : List Op} (h : FitM a b) {m : List Op} (hm : ∀ o ∈ m, o ∈ a ∨ o ∈ b) : Ids m := fun o ho => h.id o (hm o ho)
def syncV (p : Replica × Replica × Int) : AV := .tup [.agg (repC p.1), .agg (repC p.2.1), vi p.2.2]
end Go.Proofs.YtekkpfbjnjjcbaaGreatDoor
end
section
set_option linter.unusedVariables false
set_option linter.unusedSimpArgs false
set_option linter.unusedSectionVars false
namespace Go.Proofs.YtekkpfbjnjjcbaaGreatDoor
open Go.Ac Go.MapKept
attribute [local irreducible] awp awpL Ev Ev2 EvS thenQ blockQ retQ PCalls OCalls YieldOk IterC ICalls
set_option linter.unusedSimpArgs false
set_option linter.unusedVariables false
theorem FitM.r {a b : List Op} (h : FitM a b) : Fit a := h.fit (by omega) fun o ho => .inl ho
theorem FitM.l {a b : List Op} (h : FitM a b) : Fit b := h.fit (by omega) fun o ho => .inr ho
end Go.Proofs.YtekkpfbjnjjcbaaGreatDoor
end
section
set_option linter.unusedVariables false
set_option linter.unusedSimpArgs false
set_option linter.unusedSectionVars false
namespace Go.Proofs.YtekkpfbjnjjcbaaGreatDoor
open Go.Ac Go.MapKept
attribute [local irreducible] awp awpL Ev Ev2 EvS thenQ blockQ retQ PCalls OCalls YieldOk IterC ICalls
set_option linter.unusedSimpArgs false
set_option linter.unusedVariables false
def agree (a b : Replica) : Bool := decide (behind a.ops b.ops = 0) && decide (behind b.ops a.ops = 0)
end Go.Proofs.YtekkpfbjnjjcbaaGreatDoor
end
section
set_option linter.unusedVariables false
set_option linter.unusedSimpArgs false
set_option linter.unusedSectionVars false
namespace Go.Proofs.YtekkpfbjnjjcbaaGreatDoor
open Go.Ac Go.MapKept
attribute [local irreducible] awp awpL Ev Ev2 EvS thenQ blockQ retQ PCalls OCalls YieldOk IterC ICalls
set_option linter.unusedSimpArgs false
set_option linter.unusedVariables false
def tBa : ByteArray := ⟨#[98, 97]⟩
def tMi : ByteArray := ⟨#[109, 105]⟩
def tPa : ByteArray := ⟨#[112, 97]⟩
def opA : Op := addOp 1 1 tBa
def opB : Op := addOp 1 2 tMi
def opP : Op := addOp 1 3 tPa
def opD : Op := addOp 1 1 tPa
def opS : Op := ⟨⟨3, 3⟩, 1, 1, ⟨19, 0, 0, ⟨0, 0⟩, 0, .empty⟩, 0, 0, ⟨#[120]⟩, [⟨1, 3⟩]⟩
def vec (a b c : Int) : List Int := [a, b, c, 0, 0, 0, 0, 0, 0, 0, 0, 0, 0, 0, 0]
def rA : Replica := ⟨1, vec 1 0 0, [opA]⟩
def rB : Replica := ⟨2, vec 0 1 0, [opB]⟩
def rC : Replica := ⟨3, vec 0 0 3, [opP, opS]⟩
def rX : Replica := ⟨1, vec 1 1 0, [opA, opB]⟩
def rY : Replica := ⟨2, vec 1 1 0, [opA, opB]⟩
def rV : Replica := ⟨2, vec 1 1 3, [opA, opB, opP, opS]⟩
def rZ : Replica := ⟨3, vec 1 1 3, [opA, opB, opP, opS]⟩
theorem m1 : merge (start 1) [opA] = (rA, 0) := by kernel_rfl
theorem m2 : merge (start 2) [opB] = (rB, 0) := by kernel_rfl
theorem m3 : merge (start 1) [opS] = (zeroRep, 9) := by kernel_rfl
theorem m4 : merge (start 3) [opS, opP] = (rC, 0) := by kernel_rfl
theorem s1 : sync rA rB = (rX, rY, 0) := by kernel_rfl
theorem s2 : sync rY rC = (rV, rZ, 0) := by kernel_rfl
theorem g1 : agree rX rY = true := by kernel_rfl
theorem g2 : agree rA rB = false := by kernel_rfl
theorem g3 : behind rA.ops rB.ops = 1 := by kernel_rfl
theorem g4 : (missing rZ.ops rA.seen 2).length = 2 := by kernel_rfl
theorem g5 : (missing rZ.ops rA.seen 9).length = 3 := by kernel_rfl
def opF (o : Op) : Bool := decide (o.over.length ≤ 1000) && (decide (-9223372036854775808 ≤ o.note.id) && decide (o.note.id ≤ 9223372036854775807))
def fitB (a b : List Op) : Bool := decide (a.length + b.length ≤ 1000) && (a.all opF && b.all opF)
theorem opF_ov {o : Op} (h : opF o = true) : o.over.length ≤ 100000 ∧ I64 o.note.id := by
  simp [opF] at h
  exact ⟨by omega, h.2⟩
theorem FitM.of {a b : List Op} (h : fitB a b = true) : FitM a b := by
  simp only [fitB, Bool.and_eq_true, decide_eq_true_eq, List.all_eq_true] at h
  refine ⟨h.1, fun o ho => (opF_ov (ho.elim (h.2.1 o) (h.2.2 o))).1, fun o ho => (opF_ov (ho.elim (h.2.1 o) (h.2.2 o))).2⟩
theorem Inc.of {l : List Op} (h : (decide (l.Pairwise fun a b => less a.at_ b.at_ = true)) = true) : Inc l := (of_decide_eq_true h : l.Pairwise fun a b => less a.at_ b.at_ = true)
def fitRB (r : Replica) : Bool := decide (r.ops.length ≤ 1000) && (r.ops.all opF && decide (r.seen.length ≤ 1000))
theorem FitR.of {r : Replica} (h : fitRB r = true) : FitR r := by
  simp only [fitRB, Bool.and_eq_true, decide_eq_true_eq, List.all_eq_true] at h
  exact ⟨⟨by omega, fun o ho => (opF_ov (h.2.1 o ho)).1⟩, by omega⟩
end Go.Proofs.YtekkpfbjnjjcbaaGreatDoor
end
section
set_option linter.unusedVariables false
set_option linter.unusedSimpArgs false
set_option linter.unusedSectionVars false
namespace Go.Proofs.YtekkpfbjnjjcbaaGreatDoor
open Go.Ac Go.MapKept
attribute [local irreducible] awp awpL Ev Ev2 EvS thenQ blockQ retQ PCalls OCalls YieldOk IterC ICalls
set_option linter.unusedSimpArgs false
set_option linter.unusedVariables false
theorem light_rep {r : Replica} (h : light r = true) : repE r = 0 ∧ r.ops.length ≤ 16 ∧ r.seen.length ≤ 100 := by
  simp only [light, Bool.and_eq_true, decide_eq_true_eq] at h
  exact ⟨h.2.2, h.1, h.2.1⟩
theorem rep_op {r : Replica} (h : repE r = 0) : ∀ o ∈ r.ops, opE o = 0 := by
  intro o ho
  obtain ⟨k, hk⟩ := List.getElem?_of_mem ho
  exact oneE_opE (allE_split r.ops [] (repE_all h).1 k o hk)
theorem light_fit {r : Replica} (h : light r = true) : FitR r := by
  obtain ⟨h1, h2, h3⟩ := light_rep h
  exact ⟨⟨by omega, fun o ho => by have := opE_over (rep_op h1 o ho); omega⟩, by omega⟩
theorem miss_mem (seen : List Int) (most : Int) : ∀ (l out : List Op) (o : Op), o ∈ l.foldl (missStep seen most) out → o ∈ out ∨ o ∈ l
  | [], out, o, h => .inl h
  | x :: r, out, o, h => by
    rw [List.foldl_cons] at h
    rcases miss_mem seen most r _ o h with h | h
    · unfold missStep at h
      split at h
      · rcases List.mem_append.1 h with h | h
        · exact .inl h
        · simp only [List.mem_singleton] at h; subst h; exact .inr (List.mem_cons_self ..)
      · exact .inl h
    · exact .inr (List.mem_cons_of_mem _ h)
theorem missing_mem {l : List Op} {seen : List Int} {most : Int} {o : Op} (h : o ∈ missing l seen most) : o ∈ l := by
  rcases miss_mem seen most l [] o h with h | h
  · cases h
  · exact h
end Go.Proofs.YtekkpfbjnjjcbaaGreatDoor
end
section
set_option linter.unusedVariables false
set_option linter.unusedSimpArgs false
set_option linter.unusedSectionVars false
namespace Go.Proofs.YtekkpfbjnjjcbaaGreatDoor
theorem missing_take (seen : List Int) (most : Int) (l : List Op) : missing l seen most = (l.filter fun o => !covers seen o.at_).take most.toNat := by
  have H : ∀ (l out : List Op), l.foldl (missStep seen most) out = out ++ (l.filter fun o => !covers seen o.at_).take (most - out.length).toNat := by
    intro l
    induction l with
    | nil => intro out; simp
    | cons o r ih =>
      intro out
      rw [List.foldl_cons]
      by_cases hm : (out.length : Int) < most
      · cases hc : covers seen o.at_ with
        | true =>
          have : missStep seen most out o = out := by unfold missStep; rw [if_neg (by simp [hc])]
          rw [this, ih, List.filter_cons_of_neg (by simp [hc])]
        | false =>
          have : missStep seen most out o = out ++ [o] := by unfold missStep; rw [if_pos ⟨hm, hc⟩]
          rw [this, ih, List.filter_cons_of_pos (by simp [hc])]
          have e : (most - (out.length : Int)).toNat = (most - ((out ++ [o]).length : Int)).toNat + 1 := by simp; omega
          rw [e, List.take_succ_cons]; simp
      · rw [miss_full seen most r _ (by have : missStep seen most out o = out := by unfold missStep; rw [if_neg (by omega)]
                                        rw [this]; omega)]
        have : missStep seen most out o = out := by unfold missStep; rw [if_neg (by omega)]
        rw [this, show (most - (out.length : Int)).toNat = 0 by omega]; simp
  have := H l []
  simpa [missing] using this
theorem num_see {v : List Int} (hl : v.length = 15) (hn : ∀ x ∈ v, 0 ≤ x) {s : Stamp} (hs : right s = true) (i : Nat) : num (see v s) i = if i = (s.dev - 1).toNat then max (num v i) s.count else num v i := by
  rw [see, if_pos hs, join_self hl hn]
  have hd : (s.dev - 1).toNat < 15 := by simp only [right, Bool.and_eq_true, decide_eq_true_eq] at hs; omega
  have h0 := num_nonneg v (s.dev - 1).toNat
  unfold num at *
  rw [List.getElem?_set]
  by_cases h : (s.dev - 1).toNat = i
  · subst h
    rw [if_pos rfl, if_pos (by omega), if_pos rfl]
    simp only [Option.getD_some]; omega
  · rw [if_neg h, if_neg (fun e => h e.symm)]
theorem covers_seenL {l : List Op} (hr : ∀ o ∈ l, right o.at_ = true) {s : Stamp} (hs : right s = true) : covers (seenL l) s = true ↔ ∃ o ∈ l, o.at_.dev = s.dev ∧ s.count ≤ o.at_.count := by
  have H : ∀ (n : Nat) (l : List Op), l.length = n → (∀ o ∈ l, right o.at_ = true) → (s.count ≤ num (seenL l) (s.dev - 1).toNat ↔ ∃ o ∈ l, o.at_.dev = s.dev ∧ s.count ≤ o.at_.count) := by
    intro n
    have hc : 1 ≤ s.count ∧ 1 ≤ s.dev := by simp only [right, Bool.and_eq_true, decide_eq_true_eq] at hs; omega
    induction n with
    | zero =>
      intro l hl _
      have : l = [] := List.eq_nil_of_length_eq_zero hl
      subst this
      rw [seenL_nil]
      constructor
      · intro h
        exfalso
        have : num (List.replicate 15 0) (s.dev - 1).toNat = 0 := by
          unfold num
          rw [List.getElem?_replicate]
          split <;> simp
        omega
      · rintro ⟨o, ho, _⟩; cases ho
    | succ n ih =>
      intro l hl hr
      have hne : l ≠ [] := by intro e; rw [e] at hl; cases hl
      obtain ⟨q, o, rfl⟩ : ∃ q o, l = q ++ [o] := ⟨_, _, (List.dropLast_concat_getLast hne).symm⟩
      have ho := hr o (List.mem_append_right _ (List.mem_singleton_self _))
      have hI := ih q (by simp at hl; exact hl) fun p hp => hr p (List.mem_append_left _ hp)
      rw [seenL_snoc, num_see (seenL_len q) (seenL_nonneg q) ho]
      have hod : 1 ≤ o.at_.dev := by simp only [right, Bool.and_eq_true, decide_eq_true_eq] at ho; omega
      constructor
      · intro h
        split at h
        · rename_i he
          rcases Int.le_total s.count o.at_.count with g | g
          · exact ⟨o, List.mem_append_right _ (List.mem_singleton_self _), by omega, g⟩
          · by_cases g2 : s.count ≤ o.at_.count
            · exact ⟨o, List.mem_append_right _ (List.mem_singleton_self _), by omega, g2⟩
            · obtain ⟨p, hp, h2⟩ := hI.1 (by omega)
              exact ⟨p, List.mem_append_left _ hp, h2⟩
        · obtain ⟨p, hp, h2⟩ := hI.1 h
          exact ⟨p, List.mem_append_left _ hp, h2⟩
      · rintro ⟨p, hp, h1, h2⟩
        rcases List.mem_append.1 hp with hp | hp
        · have := hI.2 ⟨p, hp, h1, h2⟩
          split <;> omega
        · simp only [List.mem_singleton] at hp; subst hp
          rw [if_pos (by omega)]; omega
  have := H _ l rfl hr
  unfold covers
  rw [hs]
  simpa using this
theorem nodup_len {l m : List Op} (hl : l.Nodup) (h : ∀ o ∈ l, o ∈ m) : l.length ≤ m.length := by
  induction l generalizing m with
  | nil => simp
  | cons o r ih =>
    obtain ⟨h1, h2⟩ := List.nodup_cons.1 hl
    have ho := h o (List.mem_cons_self ..)
    have := ih (m := m.erase o) h2 fun p hp => (List.mem_erase_of_ne (fun (e : p = o) => h1 (by rw [← e]; exact hp))).2 (h p (List.mem_cons_of_mem _ hp))
    rw [List.length_erase_of_mem ho] at this
    have : 0 < m.length := List.length_pos_of_mem ho
    simp only [List.length_cons]; omega
theorem Inc.nodup {l : List Op} (h : Inc l) : l.Nodup := h.imp fun g e => by rw [e, less_irr] at g; cases g
structure Cons (x y : Replica) : Prop where
  rx : repE x = 0
  ry : repE y = 0
  hx : ∀ o ∈ y.ops, covers x.seen o.at_ = true → o ∈ x.ops
  hy : ∀ o ∈ x.ops, covers y.seen o.at_ = true → o ∈ y.ops
theorem half_iff {a b : Replica} : half a b = true ↔ ∀ o ∈ b.ops, covers a.seen o.at_ = true → o ∈ a.ops := by
  unfold half
  rw [List.all_eq_true]
  constructor
  · intro h o ho hc
    have := h o ho
    rw [hc] at this
    exact has_iff.1 (by simpa using this)
  · intro h o ho
    cases hc : covers a.seen o.at_ with
    | false => rfl
    | true => rw [has_iff.2 (h o ho hc)]; rfl
theorem Cons.symm {x y : Replica} (h : Cons x y) : Cons y x := ⟨h.ry, h.rx, h.hy, h.hx⟩
theorem rep_right {r : Replica} (h : repE r = 0) {o : Op} (ho : o ∈ r.ops) : right o.at_ = true := opE_right (repE_ops h o ho)
theorem rep_covers {r : Replica} (h : repE r = 0) {o : Op} (ho : o ∈ r.ops) : covers r.seen o.at_ = true := by
  rw [(repE_all h).2.1]
  exact (covers_seenL (fun p hp => rep_right h hp) (rep_right h ho)).2 ⟨o, ho, rfl, Int.le_refl _⟩
theorem Cons.cov {x y : Replica} (h : Cons x y) {o : Op} (ho : o ∈ y.ops) : covers x.seen o.at_ = has x.ops o := by
  cases hc : covers x.seen o.at_ with
  | true => rw [has_iff.2 (h.hx o ho hc)]
  | false =>
    cases hh : has x.ops o with
    | false => rfl
    | true => rw [rep_covers h.rx (has_iff.1 hh)] at hc; cases hc
def news (x y : List Op) : List Op := y.filter fun o => !has x o
theorem mem_news {x y : List Op} {o : Op} : o ∈ news x y ↔ o ∈ y ∧ o ∉ x := by
  unfold news
  rw [List.mem_filter]
  simp [← has_iff]
theorem Inc.news {x y : List Op} (h : Inc y) : Inc (news x y) := h.filter _
theorem news_behind (x y : List Op) : (news x y).length = behind x y := by
  unfold news behind; rw [List.countP_eq_length_filter]
theorem Cons.missing {x y : Replica} (h : Cons x y) (n : Int) : missing y.ops x.seen n = (news x.ops y.ops).take n.toNat := by
  rw [missing_take]
  congr 1
  unfold news
  exact List.filter_congr fun o ho => by rw [h.cov ho]
theorem Inc.sub {l m : List Op} (h : Inc m) (hs : l.Sublist m) : Inc l := List.Pairwise.sublist hs h
theorem Cons.part {x y : Replica} (h : Cons x y) {n : Int} (hn : 1 ≤ n) (hlen : x.ops.length + y.ops.length ≤ 400) :
    (merge x (Go.Proofs.YtekkpfbjnjjcbaaGreatDoor.missing y.ops x.seen n)).2 = 0 ∧ Cons (merge x (Go.Proofs.YtekkpfbjnjjcbaaGreatDoor.missing y.ops x.seen n)).1 y ∧
    (∀ o, o ∈ (merge x (Go.Proofs.YtekkpfbjnjjcbaaGreatDoor.missing y.ops x.seen n)).1.ops ↔ o ∈ x.ops ∨ o ∈ Go.Proofs.YtekkpfbjnjjcbaaGreatDoor.missing y.ops x.seen n) ∧
    behind (merge x (Go.Proofs.YtekkpfbjnjjcbaaGreatDoor.missing y.ops x.seen n)).1.ops y.ops ≤ behind x.ops y.ops - 1 ∧
    behind y.ops (merge x (Go.Proofs.YtekkpfbjnjjcbaaGreatDoor.missing y.ops x.seen n)).1.ops = behind y.ops x.ops ∧ (merge x (Go.Proofs.YtekkpfbjnjjcbaaGreatDoor.missing y.ops x.seen n)).1.dev = x.dev := by
  rw [h.missing]
  have hix := repE_inc h.rx
  have hiy := repE_inc h.ry
  have hin := hiy.news (x := x.ops)
  generalize hT : (news x.ops y.ops).take n.toNat = T
  have hTm : ∀ o ∈ T, o ∈ y.ops ∧ o ∉ x.ops := fun o ho => mem_news.1 (List.mem_of_mem_take (hT ▸ ho))
  obtain ⟨m, hu⟩ : ∃ m, unite x.ops T = some m := by
    have hU := unite_U T x.ops hix
    cases hu : unite x.ops T with
    | some m => exact ⟨m, rfl⟩
    | none =>
      rw [hu] at hU
      obtain ⟨a, b, ha, hb, e, hne⟩ := hU
      exfalso
      have key : ∀ a b : Op, a ∈ x.ops → b ∈ y.ops → a.at_ = b.at_ → a = b := by
        intro a b ha hb e
        have := rep_covers h.ry hb
        rw [← e] at this
        exact hiy.uniq (h.hy a ha this) hb e
      rcases ha with ha | ha
      · rcases hb with hb | hb
        · exact hne (hix.uniq ha hb e)
        · exact hne (key a b ha (hTm b hb).1 e)
      · rcases hb with hb | hb
        · exact hne (key b a hb (hTm a ha).1 e.symm).symm
        · exact hne (hiy.uniq (hTm a ha).1 (hTm b hb).1 e)
  have hU := unite_U T x.ops hix
  rw [hu] at hU
  obtain ⟨him, hm⟩ := hU
  have hml := unite_len T x.ops m hu
  have hTl : T.length ≤ y.ops.length := by
    rw [← hT, List.length_take]
    have : (news x.ops y.ops).length ≤ y.ops.length := List.length_filter_le ..
    omega
  obtain ⟨ax, sx, dx1, dx2, lx⟩ := repE_all h.rx
  obtain ⟨ay, sy, dy1, dy2, ly⟩ := repE_all h.ry
  have hTdown : ∀ o ∈ T, ∀ p ∈ y.ops, less p.at_ o.at_ = true → p ∈ m := by
    intro o ho p hp hlt
    by_cases hpx : p ∈ x.ops
    · exact (hm p).2 (.inl hpx)
    · refine (hm p).2 (.inr ?_)
      have hpn := mem_news.2 ⟨hp, hpx⟩
      rw [← List.take_append_drop n.toNat (news x.ops y.ops), hT] at hpn
      rcases List.mem_append.1 hpn with g | g
      · exact g
      · have hin2 := hin
        rw [← List.take_append_drop n.toNat (news x.ops y.ops), hT] at hin2
        have := (List.pairwise_append.1 hin2).2.2 o ho p g
        rw [less_asym this] at hlt; cases hlt
  have hall : allE [] m = 0 := allE_of him fun o ho => by
    rcases (hm o).1 ho with g | g
    · exact ⟨x.ops, ax, g, fun p hp _ => (hm p).2 (.inl hp)⟩
    · exact ⟨y.ops, ay, (hTm o g).1, hTdown o g⟩
  have hrep : repE (joined x m) = 0 := by
    unfold repE joined
    rw [if_neg (by simp [within]; omega), if_neg (by simp only; omega), if_neg (by simpa using hall), if_neg (by simp)]
  rw [merge_ok hu hrep]
  have hrm : ∀ o ∈ m, right o.at_ = true := fun o ho => rep_right hrep ho
  have hcons : Cons (joined x m) y := by
    refine ⟨hrep, h.ry, fun o ho hc => ?_, fun o ho hc => ?_⟩
    · have hro := rep_right h.ry ho
      obtain ⟨p, hp, hd, hle⟩ := (covers_seenL hrm hro).1 hc
      rcases (hm p).1 hp with g | g
      · refine (hm o).2 (.inl (h.hx o ho ?_))
        rw [sx]
        exact (covers_seenL (fun q hq => rep_right h.rx hq) hro).2 ⟨p, g, hd, hle⟩
      · have hpy := (hTm p g).1
        rcases less_tri o.at_ p.at_ with q | q | q
        · exact hTdown p g o ho q
        · rw [hiy.uniq ho hpy q]; exact hp
        · simp [less] at q; omega
    · rcases (hm o).1 ho with g | g
      · exact h.hy o g hc
      · exact (hTm o g).1
  refine ⟨rfl, hcons, hm, ?_, ?_, rfl⟩
  · rw [← news_behind, ← news_behind]
    have e : news (joined x m).ops y.ops = (news x.ops y.ops).drop n.toNat := by
      refine Inc.ext hiy.news (hin.sub (List.drop_sublist ..)) fun o => ?_
      rw [mem_news]
      constructor
      · rintro ⟨h1, h2⟩
        have hx : o ∉ x.ops := fun g => h2 ((hm o).2 (.inl g))
        have hpn := mem_news.2 ⟨h1, hx⟩
        rw [← List.take_append_drop n.toNat (news x.ops y.ops), hT] at hpn
        rcases List.mem_append.1 hpn with g | g
        · exact absurd ((hm o).2 (.inr g)) h2
        · exact g
      · intro g
        obtain ⟨h1, h2⟩ := mem_news.1 (List.mem_of_mem_drop g)
        refine ⟨h1, fun h3 => ?_⟩
        rcases (hm o).1 h3 with g2 | g2
        · exact h2 g2
        · have hin2 := hin
          rw [← List.take_append_drop n.toNat (news x.ops y.ops), hT] at hin2
          exact less_ne ((List.pairwise_append.1 hin2).2.2 o g2 o g) rfl
    rw [e, List.length_drop]; omega
  · rw [← news_behind, ← news_behind]
    have e : news y.ops (joined x m).ops = news y.ops x.ops := by
      refine Inc.ext (Inc.news him) (Inc.news hix) fun o => ?_
      rw [mem_news, mem_news]
      constructor
      · rintro ⟨h1, h2⟩
        rcases (hm o).1 h1 with g | g
        · exact ⟨g, h2⟩
        · exact absurd (hTm o g).1 h2
      · rintro ⟨h1, h2⟩
        exact ⟨(hm o).2 (.inl h1), h2⟩
    rw [e]
theorem behind_le (a b : List Op) : behind a b ≤ b.length := List.countP_le_length
structure Rounds (a b x y : Replica) (i : Nat) : Prop where
  c : Cons x y
  ax : ∀ o ∈ a.ops, o ∈ x.ops
  xab : ∀ o ∈ x.ops, o ∈ a.ops ∨ o ∈ b.ops
  bY : ∀ o ∈ b.ops, o ∈ y.ops
  yab : ∀ o ∈ y.ops, o ∈ a.ops ∨ o ∈ b.ops
  bx : behind x.ops y.ops ≤ 16 - i
  bY2 : behind y.ops x.ops ≤ 16 - i
theorem Rounds.len {a b x y : Replica} {i : Nat} (h : Rounds a b x y i) : x.ops.length ≤ a.ops.length + b.ops.length ∧ y.ops.length ≤ a.ops.length + b.ops.length := by
  have h1 := nodup_len (m := a.ops ++ b.ops) (repE_inc h.c.rx).nodup fun o ho => List.mem_append.2 (h.xab o ho)
  have h2 := nodup_len (m := a.ops ++ b.ops) (repE_inc h.c.ry).nodup fun o ho => List.mem_append.2 (h.yab o ho)
  rw [List.length_append] at h1 h2
  exact ⟨h1, h2⟩
theorem Rounds.zero {a b : Replica} (ha : light a = true) (hb : light b = true) (h1 : half a b = true) (h2 : half b a = true) : Rounds a b a b 0 := by
  obtain ⟨a1, a2, _⟩ := light_rep ha
  obtain ⟨b1, b2, _⟩ := light_rep hb
  refine ⟨⟨a1, b1, half_iff.1 h1, half_iff.1 h2⟩, fun _ h => h, fun _ h => .inl h, fun _ h => h, fun _ h => .inr h, ?_, ?_⟩
  · have := behind_le a.ops b.ops; omega
  · have := behind_le b.ops a.ops; omega
theorem Rounds.left {a b x y : Replica} {i : Nat} (h : Rounds a b x y i) (hl : a.ops.length + b.ops.length ≤ 32) {n : Int} (hn : 1 ≤ n) :
    (merge x (missing y.ops x.seen n)).2 = 0 ∧ Rounds a b (merge x (missing y.ops x.seen n)).1 y i ∧ behind (merge x (missing y.ops x.seen n)).1.ops y.ops ≤ 16 - (i + 1) := by
  have hlen := h.len
  obtain ⟨p1, p2, p3, p4, p5, _⟩ := h.c.part hn (by omega)
  have h1 := h.bx
  have h2 := h.bY2
  refine ⟨p1, ⟨p2, fun o ho => (p3 o).2 (.inl (h.ax o ho)), fun o ho => ?_, h.bY, h.yab, by omega, by omega⟩, by omega⟩
  rcases (p3 o).1 ho with g | g
  · exact h.xab o g
  · exact h.yab o (missing_mem g)
theorem Rounds.right {a b x y : Replica} {i : Nat} (h : Rounds a b x y i) (hb : behind x.ops y.ops ≤ 16 - (i + 1)) (hl : a.ops.length + b.ops.length ≤ 32) {n : Int} (hn : 1 ≤ n) :
    (merge y (missing x.ops y.seen n)).2 = 0 ∧ Rounds a b x (merge y (missing x.ops y.seen n)).1 (i + 1) := by
  have hlen := h.len
  obtain ⟨p1, p2, p3, p4, p5, _⟩ := h.c.symm.part hn (by omega)
  have h1 := h.bY2
  refine ⟨p1, ⟨p2.symm, h.ax, h.xab, fun o ho => (p3 o).2 (.inl (h.bY o ho)), fun o ho => ?_, by omega, by omega⟩⟩
  rcases (p3 o).1 ho with g | g
  · exact h.yab o g
  · exact h.xab o (missing_mem g)
end Go.Proofs.YtekkpfbjnjjcbaaGreatDoor
end
section
set_option linter.unusedVariables false
set_option linter.unusedSimpArgs false
set_option linter.unusedSectionVars false
namespace Go.Proofs.YtekkpfbjnjjcbaaGreatDoor
open Go.Ac
theorem good_of {r : Replica} (h : repE r = 0) : Good r.ops := ⟨repE_inc h, repE_ops h⟩
theorem overd_snoc (l : List Op) (o : Op) (s : Stamp) (k note f : Int) : overd (l ++ [o]) s k note f = (overd l s k note f || overO k note f s o) := by simp [overd]
theorem overO_mem {k note f : Int} {s : Stamp} {o : Op} (h : overO k note f s o = true) : o.kind = k ∧ o.note.id = note ∧ s ∈ o.over := by
  unfold overO at h
  simp only [Bool.and_eq_true, decide_eq_true_eq, List.any_eq_true] at h
  obtain ⟨h1, h2, _, q, h3, h4⟩ := h
  exact ⟨h1, h2, h4 ▸ h3⟩
theorem overd_mem {l : List Op} {k note f : Int} {s : Stamp} (h : overd l s k note f = true) : ∃ o ∈ l, o.kind = k ∧ o.note.id = note ∧ s ∈ o.over := by
  unfold overd at h
  rw [List.any_eq_true] at h
  obtain ⟨o, ho, h⟩ := h
  exact ⟨o, ho, overO_mem h⟩
theorem overd_new {l : List Op} (hg : ∀ o ∈ l, opE o = 0) {s : Stamp} (h : ∀ o ∈ l, less o.at_ s = true) (k note f : Int) : overd l s k note f = false := by
  cases hc : overd l s k note f with
  | false => rfl
  | true =>
    obtain ⟨o, ho, _, _, hs⟩ := overd_mem hc
    have h1 := over_less (hg o ho) _ hs
    have h2 := less_asym (h o ho)
    rw [h1] at h2; cases h2
theorem mem_values {l : List Op} {note f : Int} {v : Val} (h : v ∈ valuesL l note f) : ∃ o ∈ l, writes o note f = true ∧ overd l o.at_ 1 note f = false ∧ v = valueOf o f ∧ v.at_ = o.at_ := by
  obtain ⟨o, ho, rfl⟩ := List.mem_map.1 h
  obtain ⟨h1, h2⟩ := List.mem_filter.1 ho
  simp only [keepV, Bool.and_eq_true, Bool.not_eq_true'] at h2
  exact ⟨o, h1, h2.1, h2.2, rfl, valueOf_at (writes_wrt h2.1)⟩
theorem added_snoc {l : List Op} {o a : Op} {note : Int} (h : addedO l note = some a) : addedO (l ++ [o]) note = some a := by
  unfold addedO at *
  rw [find_snoc, h]; rfl
theorem saved_iff {l : List Op} {note f : Int} : saved l note f = true ↔ ∃ v ∈ valuesL l note f, overd l v.at_ 2 note f = false := by
  unfold saved
  rw [List.any_eq_true]
  constructor
  · rintro ⟨v, h1, h2⟩; exact ⟨v, h1, by simpa using h2⟩
  · rintro ⟨v, h1, h2⟩; exact ⟨v, h1, by rw [h2]; rfl⟩
theorem lives_of {l : List Op} {note f : Int} {a : Op} (ha : addedO l note = some a) (hf : within f 0 2 = true) (h : saved l note f = true) : cell l note = some (cellOf l note a) := by
  unfold cell
  rw [ha]
  simp only
  rw [if_pos]
  simp only [within, Bool.and_eq_true, decide_eq_true_eq] at hf
  rcases (show f = 0 ∨ f = 1 ∨ f = 2 by omega) with rfl | rfl | rfl <;> simp [h]
theorem cell_lives {l : List Op} {note : Int} : (cell l note).isSome = lives l note := by
  unfold cell lives
  cases addedO l note with
  | none => rfl
  | some a => simp only [Option.isSome_some, Bool.true_and]; split <;> simp_all
theorem setE_zero {o : Op} (h : opE o = 0) (hk : o.kind = 1) : within o.set 0 2 = true ∧ (o.set = 0 → o.n = 0) ∧ (o.set ≠ 0 → o.text = .empty) := by
  unfold opE at h
  rw [if_neg (by simp [opE_right h]), if_neg (by omega), if_pos hk] at h
  split at h
  · omega
  · obtain ⟨_, h2, _⟩ := firstE3' _ _ _ h
    unfold setE at h2
    split at h2
    · rename_i h0
      split at h2
      · omega
      · rename_i hn
        exact ⟨by simp [within, h0], fun _ => by omega, fun h => absurd h0 h⟩
    · rename_i h0
      split at h2
      · rename_i h1
        split at h2
        · omega
        · split at h2
          · omega
          · rename_i ht
            refine ⟨?_, fun h => absurd h h0, fun _ => Decidable.of_not_not ht⟩
            simp only [within, Bool.and_eq_true, decide_eq_true_eq]
            omega
      · omega
theorem set_values {l : List Op} {o : Op} (hg : Good (l ++ [o])) (hk : o.kind = 1) {note : Int} (hn : o.note.id = note) (hov : o.over = atsV (valuesL l note o.set)) : valuesL (l ++ [o]) note o.set = [⟨o.at_, o.n, o.text⟩] := by
  obtain ⟨hi, ha⟩ := hg
  obtain ⟨i1, _, i3⟩ := List.pairwise_append.1 hi
  have hlt : ∀ p ∈ l, less p.at_ o.at_ = true := fun p hp => i3 p hp o (List.mem_singleton_self _)
  have hal : ∀ p ∈ l, opE p = 0 := fun p hp => ha p (List.mem_append_left _ hp)
  have ho := ha o (List.mem_append_right _ (List.mem_singleton_self _))
  obtain ⟨hf, h0, h1⟩ := setE_zero ho hk
  have hw : writes o note o.set = true := by simp [writes, wrt, hf, hk, hn]
  have hq : l.filter (keepV (l ++ [o]) note o.set) = [] := by
    rw [List.filter_eq_nil_iff]
    intro p hp hc
    simp only [keepV, Bool.and_eq_true, Bool.not_eq_true', overd_snoc, Bool.or_eq_false_iff] at hc
    obtain ⟨hwp, hc1, hc2⟩ := hc
    have hkp : p ∈ l.filter (keepV l note o.set) := List.mem_filter.2 ⟨hp, by simp [keepV, hwp, hc1]⟩
    have hm : p.at_ ∈ o.over := by
      rw [hov]
      refine List.mem_map.2 ⟨valueOf p o.set, List.mem_map.2 ⟨p, hkp, rfl⟩, valueOf_at (writes_wrt hwp)⟩
    have : overO 1 note o.set p.at_ o = true := by
      unfold overO
      simp only [hk, hn, decide_true, Bool.true_and, Bool.or_true, List.any_eq_true, decide_eq_true_eq]
      exact ⟨p.at_, hm, rfl⟩
    rw [this] at hc2; cases hc2
  have hk2 : keepV (l ++ [o]) note o.set o = true := by
    unfold keepV
    rw [hw, overd_snoc, overd_new hal hlt]
    have : overO 1 note o.set o.at_ o = false := by
      cases hc : overO 1 note o.set o.at_ o with
      | false => rfl
      | true =>
        have := over_less ho _ (overO_mem hc).2.2
        rw [less_irr] at this; cases this
    rw [this]; rfl
  unfold valuesL
  rw [List.filter_append, hq, List.nil_append, List.filter_cons_of_pos hk2, List.filter_nil, List.map_singleton]
  congr 1
  unfold valueOf
  rw [if_neg (by simp [writes_wrt hw])]
  have hk0 : ¬ o.kind = 0 := by omega
  by_cases hs : o.set = 0
  · simp only [if_pos hs, if_neg hk0, h0 hs]
  · simp only [if_neg hs, if_neg hk0, h1 hs]
theorem set_lives {l : List Op} {o a : Op} (hg : Good (l ++ [o])) (hk : o.kind = 1) {note : Int} (hn : o.note.id = note) (hov : o.over = atsV (valuesL l note o.set)) (hadd : addedO l note = some a) : cell (l ++ [o]) note = some (cellOf (l ++ [o]) note a) := by
  have hv := set_values hg hk hn hov
  obtain ⟨hi, ha⟩ := hg
  obtain ⟨_, _, i3⟩ := List.pairwise_append.1 hi
  have hlt : ∀ p ∈ l, less p.at_ o.at_ = true := fun p hp => i3 p hp o (List.mem_singleton_self _)
  have hal : ∀ p ∈ l, opE p = 0 := fun p hp => ha p (List.mem_append_left _ hp)
  have ho := ha o (List.mem_append_right _ (List.mem_singleton_self _))
  refine lives_of (added_snoc hadd) (setE_zero ho hk).1 (saved_iff.2 ⟨⟨o.at_, o.n, o.text⟩, by rw [hv]; exact List.mem_singleton_self _, ?_⟩)
  rw [overd_snoc, overd_new hal hlt]
  cases hc : overO 2 note o.set o.at_ o with
  | false => rfl
  | true =>
    have := (overO_mem hc).1
    omega
theorem wrt_drop {o : Op} (hk : o.kind = 2) (f : Int) : wrt o f = false := by simp [wrt, hk]
theorem drop_values {l : List Op} {o : Op} (hk : o.kind = 2) (note f : Int) : valuesL (l ++ [o]) note f = valuesL l note f := by
  have h1 : keepV (l ++ [o]) note f o = false := by simp [keepV, writes, wrt_drop hk]
  have h2 : ∀ p, keepV (l ++ [o]) note f p = keepV l note f p := fun p => by
    unfold keepV
    rw [overd_snoc]
    have : overO 1 note f p.at_ o = false := by
      cases hc : overO 1 note f p.at_ o with
      | false => rfl
      | true => have := (overO_mem hc).1; omega
    rw [this, Bool.or_false]
  unfold valuesL
  rw [List.filter_append, List.filter_cons_of_neg (by simp [h1]), List.filter_nil, List.append_nil]
  congr 1
  exact List.filter_congr fun p _ => h2 p
theorem overAll_mem {l : List Op} {note : Int} {f : Int} (hf : within f 0 2 = true) {v : Val} (h : v ∈ valuesL l note f) : v.at_ ∈ overAll l note := by
  obtain ⟨o, ho, _, _, _, hat⟩ := mem_values h
  unfold overAll
  refine List.mem_map.2 ⟨o, List.mem_filter.2 ⟨ho, ?_⟩, hat.symm⟩
  rw [List.any_eq_true]
  simp only [within, Bool.and_eq_true, decide_eq_true_eq] at hf
  refine ⟨f, ?_, ?_⟩
  · rcases (show f = 0 ∨ f = 1 ∨ f = 2 by omega) with rfl | rfl | rfl <;> simp
  · rw [List.contains_iff_mem, ← hat]
    exact List.mem_map.2 ⟨v, h, rfl⟩
theorem drop_dead {l : List Op} {o : Op} (hk : o.kind = 2) {note : Int} (hn : o.note.id = note) (hov : o.over = overAll l note) : cell (l ++ [o]) note = none := by
  have hs : ∀ f, within f 0 2 = true → saved (l ++ [o]) note f = false := by
    intro f hf
    cases hc : saved (l ++ [o]) note f with
    | false => rfl
    | true =>
      obtain ⟨v, h1, h2⟩ := saved_iff.1 hc
      rw [drop_values hk] at h1
      have hm := overAll_mem hf h1
      rw [overd_snoc, Bool.or_eq_false_iff] at h2
      have : overO 2 note f v.at_ o = true := by
        unfold overO
        simp only [hk, hn, decide_true, Bool.true_and, Bool.true_or, List.any_eq_true, decide_eq_true_eq]
        exact ⟨v.at_, hov ▸ hm, rfl⟩
      rw [this] at h2; cases h2.2
  unfold cell
  cases addedO (l ++ [o]) note with
  | none => rfl
  | some a => simp only; rw [if_neg (by simp [hs 0 (by decide), hs 1 (by decide), hs 2 (by decide)])]
theorem idOf_mono {a b : Stamp} (ha : right a = true) (hb : right b = true) (h : less a b = true) : idOf a < idOf b := by
  rcases a with ⟨a1, a2⟩
  rcases b with ⟨b1, b2⟩
  rw [idOf, idOf, if_pos ha, if_pos hb]
  simp only [right, less, Bool.and_eq_true, Bool.or_eq_true, decide_eq_true_eq] at ha hb h ⊢
  omega
def cellsF (l : List Op) (rc : Int) (o : Op) : Option Cell := if o.kind = 0 ∧ o.rec_ = rc then cell l o.note.id else none
theorem cells_map (l : List Op) (rc : Int) : cells l rc = l.filterMap (cellsF l rc) := by
  have H : ∀ (k : List Op) (out : List Cell), k.foldl (cellsStep l rc) out = out ++ k.filterMap (cellsF l rc) := by
    intro k
    induction k with
    | nil => intro out; simp
    | cons o r ih =>
      intro out
      rw [List.foldl_cons, ih]
      have hst : cellsStep l rc out o = out ++ (cellsF l rc o).toList := by
        unfold cellsStep cellsF
        split
        · cases cell l o.note.id with
          | none => simp
          | some c => simp
        · simp
      rw [hst, List.append_assoc]
      congr 1
      cases h : cellsF l rc o with
      | none => rw [List.filterMap_cons_none h]; rfl
      | some c => rw [List.filterMap_cons_some h]; rfl
  have := H l []
  simpa [cells] using this
theorem cell_inv {l : List Op} {note : Int} {c : Cell} (h : cell l note = some c) : ∃ a, addedO l note = some a ∧ c = cellOf l note a ∧ c.note.id = note ∧ c.rec_ = a.rec_ := by
  unfold cell at h
  cases ha : addedO l note with
  | none => rw [ha] at h; cases h
  | some a =>
    rw [ha] at h
    simp only at h
    split at h
    · cases h
      have := List.find?_some ha
      simp only [Bool.and_eq_true, decide_eq_true_eq] at this
      exact ⟨a, rfl, rfl, this.2, rfl⟩
    · cases h
theorem cells_mem {l : List Op} (hg : Good l) {rc : Int} {c : Cell} : c ∈ cells l rc ↔ cell l c.note.id = some c ∧ c.rec_ = rc := by
  rw [cells_map, List.mem_filterMap]
  constructor
  · rintro ⟨o, ho, h⟩
    unfold cellsF at h
    split at h
    · rename_i hc
      obtain ⟨a, ha, he, hid, hr⟩ := cell_inv h
      have := addedO_mem hg ho hc.1 rfl
      rw [ha] at this
      cases this
      exact ⟨by rw [hid]; exact h, by rw [hr]; exact hc.2⟩
    · cases h
  · rintro ⟨h, hr⟩
    obtain ⟨a, ha, he, hid, hr2⟩ := cell_inv h
    have h1 := List.mem_of_find?_eq_some ha
    have h2 := List.find?_some ha
    simp only [Bool.and_eq_true, decide_eq_true_eq] at h2
    refine ⟨a, h1, ?_⟩
    unfold cellsF
    rw [if_pos ⟨h2.1, by rw [← hr2]; exact hr⟩, h2.2]
    exact h
theorem cells_inc {l : List Op} (hg : Good l) (rc : Int) : (cells l rc).Pairwise fun a b => a.note.id < b.note.id := by
  rw [cells_map, List.pairwise_filterMap]
  refine List.Pairwise.imp_of_mem ?_ hg.1
  intro a b ha hb hlt x hx y hy
  unfold cellsF at hx hy
  split at hx
  · split at hy
    · rename_i h1 h2
      obtain ⟨_, _, _, e1, _⟩ := cell_inv hx
      obtain ⟨_, _, _, e2, _⟩ := cell_inv hy
      rw [e1, e2, opE_id (hg.2 a ha) h1.1, opE_id (hg.2 b hb) h2.1]
      exact idOf_mono (opE_right (hg.2 a ha)) (opE_right (hg.2 b hb)) hlt
    · cases hy
  · cases hx
end Go.Proofs.YtekkpfbjnjjcbaaGreatDoor
end
section
set_option linter.unusedVariables false
set_option linter.unusedSimpArgs false
set_option linter.unusedSectionVars false
namespace Go.Proofs.YtekkpfbjnjjcbaaGreatDoor
open Go.Ac
def current (c : Cell) : Note :=
  { c.note with
    text := match c.text.getLast? with | some v => v.text | none => c.note.text
    span := ⟨match c.fro.getLast? with | some v => v.n | none => c.note.span.fro, match c.til.getLast? with | some v => v.n | none => c.note.span.til⟩ }
theorem vec_ext {a b : List Int} (ha : a.length = 15) (hb : b.length = 15) (na : ∀ x ∈ a, 0 ≤ x) (nb : ∀ x ∈ b, 0 ≤ x) (h : ∀ i, i < 15 → num a i = num b i) : a = b := by
  apply List.ext_getElem?
  intro i
  by_cases hi : i < 15
  · have h1 := h i hi
    have e1 : a[i]? = some a[i] := List.getElem?_eq_getElem (by omega)
    have e2 : b[i]? = some b[i] := List.getElem?_eq_getElem (by omega)
    have p1 := na a[i] (List.getElem_mem _)
    have p2 := nb b[i] (List.getElem_mem _)
    unfold num at h1
    rw [e1, e2] at h1 ⊢
    simp only [Option.getD_some] at h1
    congr 1
    omega
  · rw [List.getElem?_eq_none (by omega), List.getElem?_eq_none (by omega)]
theorem num_joined (a b : List Int) {i : Nat} (hi : i < 15) : num (join a b) i = max (num a i) (num b i) := by
  have h1 := num_nonneg a i
  have : (join a b)[i]? = some (max (num a i) (num b i)) := by
    unfold join
    rw [List.getElem?_map, List.getElem?_range hi]; rfl
  unfold num at *
  rw [this]
  simp only [Option.getD_some]
  omega
theorem join_sees {v : List Int} (hl : v.length = 15) (hn : ∀ x ∈ v, 0 ≤ x) {s t : Stamp} (hs : right s = true) (ht : right t = true) : join (see v s) (see v t) = see (see v s) t := by
  refine vec_ext (join_len _ _) (see_len _ _) (join_nonneg _ _) (see_nonneg _ _) fun i hi => ?_
  rw [num_joined _ _ hi, num_see (see_len v s) (see_nonneg v s) ht, num_see hl hn hs, num_see hl hn ht]
  have h0 := num_nonneg v i
  split <;> split <;> omega
theorem join_sees' {v : List Int} (hl : v.length = 15) (hn : ∀ x ∈ v, 0 ≤ x) {s t : Stamp} (hs : right s = true) (ht : right t = true) : join (see v s) (see v t) = see (see v t) s := by
  refine vec_ext (join_len _ _) (see_len _ _) (join_nonneg _ _) (see_nonneg _ _) fun i hi => ?_
  rw [num_joined _ _ hi, num_see (see_len v t) (see_nonneg v t) hs, num_see hl hn hs, num_see hl hn ht]
  have h0 := num_nonneg v i
  split <;> split <;> omega
def two (a b : Op) : List Op := if less b.at_ a.at_ then [b, a] else [a, b]
def bothR (r : Replica) (a b : Op) : Replica := ⟨r.dev, join (see r.seen a.at_) (see r.seen b.at_), r.ops ++ two a b⟩
theorem bothR_right {r : Replica} {a b : Op} {dev : Int} (hr : repE r = 0) (ha : repE (longerR r a) = 0) (hb : repE (longerR ⟨dev, r.seen, r.ops⟩ b) = 0) (hne : a.at_ ≠ b.at_) (hlen : r.ops.length ≤ 390) : repE (bothR r a b) = 0 := by
  obtain ⟨a1, a2, d1, d2, _⟩ := repE_all hr
  obtain ⟨la, _, _, _, _⟩ := repE_all ha
  obtain ⟨lb, _, _, _, _⟩ := repE_all hb
  have pa := longerR_less ha
  have pb := longerR_less hb
  have oa : opE a = 0 := repE_ops ha a (List.mem_append_right _ (List.mem_singleton_self _))
  have ob : opE b = 0 := repE_ops hb b (List.mem_append_right _ (List.mem_singleton_self _))
  have hv : r.seen.length = 15 := by rw [a2]; exact seenL_len _
  have hn : ∀ x ∈ r.seen, 0 ≤ x := by rw [a2]; exact seenL_nonneg _
  have hi := repE_inc hr
  have hinc : Inc (r.ops ++ two a b) := by
    refine List.pairwise_append.2 ⟨hi, ?_, fun p hp q hq => ?_⟩
    · unfold two
      split
      · rename_i h; exact List.pairwise_cons.2 ⟨fun q hq => by simp only [List.mem_singleton] at hq; subst hq; exact h, List.pairwise_singleton _ _⟩
      · rename_i h
        refine List.pairwise_cons.2 ⟨fun q hq => ?_, List.pairwise_singleton _ _⟩
        simp only [List.mem_singleton] at hq; subst hq
        rcases less_tri a.at_ q.at_ with g | g | g
        · exact g
        · exact absurd g hne
        · exact absurd g h
    · unfold two at hq
      split at hq <;> simp only [List.mem_cons, List.not_mem_nil, or_false] at hq <;> rcases hq with rfl | rfl
      · exact pb p hp
      · exact pa p hp
      · exact pa p hp
      · exact pb p hp
  have hmem : ∀ o, o ∈ r.ops ++ two a b ↔ o ∈ r.ops ∨ o = a ∨ o = b := fun o => by
    rw [List.mem_append]
    unfold two
    split <;> simp only [List.mem_cons, List.not_mem_nil, or_false]
    · constructor
      · rintro (h | h | h) <;> simp [h]
      · rintro (h | h | h) <;> simp [h]
  have hall : allE [] (r.ops ++ two a b) = 0 := by
    refine allE_of hinc fun o ho => ?_
    rcases (hmem o).1 ho with h | rfl | rfl
    · exact ⟨r.ops, a1, h, fun p hp _ => (hmem p).2 (.inl hp)⟩
    · exact ⟨r.ops ++ [o], la, List.mem_append_right _ (List.mem_singleton_self _), fun p hp hl => by
        rcases List.mem_append.1 hp with g | g
        · exact (hmem p).2 (.inl g)
        · simp only [List.mem_singleton] at g; subst g; exact ho⟩
    · exact ⟨r.ops ++ [o], lb, List.mem_append_right _ (List.mem_singleton_self _), fun p hp hl => by
        rcases List.mem_append.1 hp with g | g
        · exact (hmem p).2 (.inl g)
        · simp only [List.mem_singleton] at g; subst g; exact ho⟩
  have hseen : join (see r.seen a.at_) (see r.seen b.at_) = seenL (r.ops ++ two a b) := by
    unfold two
    split
    · rw [show r.ops ++ [b, a] = (r.ops ++ [b]) ++ [a] by simp, seenL_snoc, seenL_snoc, ← a2]
      exact join_sees' hv hn (opE_right oa) (opE_right ob)
    · rw [show r.ops ++ [a, b] = (r.ops ++ [a]) ++ [b] by simp, seenL_snoc, seenL_snoc, ← a2]
      exact join_sees hv hn (opE_right oa) (opE_right ob)
  have hl2 : (two a b).length = 2 := by unfold two; split <;> rfl
  unfold repE bothR
  rw [if_neg (by simp [within]; omega), if_neg (by simp only [List.length_append]; omega), if_neg (by simpa using hall), if_neg (by simpa using hseen)]
theorem both_saved {r : Replica} {a b c : Op} {note : Int} (hb0 : repE (bothR r a b) = 0) (ka : a.kind = 2) (kb : b.kind = 1) (na : a.note.id = note) (nb : b.note.id = note) (oa : a.over = overAll r.ops note) (ob : b.over = atsV (valuesL r.ops note b.set)) (hlt : ∀ p ∈ r.ops, less p.at_ b.at_ = true) (hadd : addedO r.ops note = some c) :
    valuesL (bothR r a b).ops note b.set = [⟨b.at_, b.n, b.text⟩] ∧ cell (bothR r a b).ops note = some (cellOf (bothR r a b).ops note c) := by
  have hg := good_of hb0
  unfold bothR two at hg ⊢
  simp only at hg ⊢
  by_cases hl : less b.at_ a.at_ = true
  · rw [if_pos hl] at hg ⊢
    rw [show r.ops ++ [b, a] = (r.ops ++ [b]) ++ [a] by simp] at hg ⊢
    have hg1 : Good (r.ops ++ [b]) := ⟨(List.pairwise_append.1 hg.1).1, fun o ho => hg.2 o (List.mem_append_left _ ho)⟩
    have hv := set_values hg1 kb nb ob
    have hv2 : valuesL ((r.ops ++ [b]) ++ [a]) note b.set = [⟨b.at_, b.n, b.text⟩] := by rw [drop_values ka]; exact hv
    refine ⟨hv2, lives_of (added_snoc (added_snoc hadd)) (setE_zero (hg1.2 b (List.mem_append_right _ (List.mem_singleton_self _))) kb).1 (saved_iff.2 ⟨⟨b.at_, b.n, b.text⟩, by rw [hv2]; exact List.mem_singleton_self _, ?_⟩)⟩
    have hal : ∀ p ∈ r.ops, opE p = 0 := fun p hp => hg1.2 p (List.mem_append_left _ hp)
    rw [overd_snoc, overd_snoc, overd_new hal hlt]
    have h1 : overO 2 note b.set b.at_ b = false := by
      cases hc : overO 2 note b.set b.at_ b with
      | false => rfl
      | true => have := (overO_mem hc).1; omega
    have h2 : overO 2 note b.set b.at_ a = false := by
      cases hc : overO 2 note b.set b.at_ a with
      | false => rfl
      | true =>
        have hm := (overO_mem hc).2.2
        rw [oa] at hm
        obtain ⟨o, ho, e⟩ := List.mem_map.1 hm
        have := hlt o (List.mem_filter.1 ho).1
        rw [e, less_irr] at this; cases this
    rw [h1, h2]; rfl
  · rw [if_neg hl] at hg ⊢
    rw [show r.ops ++ [a, b] = (r.ops ++ [a]) ++ [b] by simp] at hg ⊢
    have ob2 : b.over = atsV (valuesL (r.ops ++ [a]) note b.set) := by rw [drop_values ka]; exact ob
    exact ⟨set_values hg kb nb ob2, set_lives hg kb nb ob2 (added_snoc hadd)⟩
end Go.Proofs.YtekkpfbjnjjcbaaGreatDoor
end
section
set_option linter.unusedVariables false
set_option linter.unusedSimpArgs false
set_option linter.unusedSectionVars false
namespace Go.Proofs.YtekkpfbjnjjcbaaGreatDoor
open Go.Ac
def IncS (l : List Stamp) : Prop := l.Pairwise fun a b => less a b = true
theorem IncS.ext : ∀ {l m : List Stamp}, IncS l → IncS m → (∀ o, o ∈ l ↔ o ∈ m) → l = m
  | [], [], _, _, _ => rfl
  | [], y :: s, _, _, h => by have := (h y).2 (List.mem_cons_self ..); cases this
  | x :: r, [], _, _, h => by have := (h x).1 (List.mem_cons_self ..); cases this
  | x :: r, y :: s, hl, hm, h => by
    obtain ⟨l1, l2⟩ := List.pairwise_cons.1 hl
    obtain ⟨m1, m2⟩ := List.pairwise_cons.1 hm
    have hxy : x = y := by
      rcases List.mem_cons.1 ((h x).1 (List.mem_cons_self ..)) with e | hx
      · exact e
      · rcases List.mem_cons.1 ((h y).2 (List.mem_cons_self ..)) with e | hy
        · exact e.symm
        · have := less_asym (l1 _ hy); rw [m1 _ hx] at this; cases this
    subst hxy
    have : r = s := by
      refine IncS.ext l2 m2 fun o => ⟨fun ho => ?_, fun ho => ?_⟩
      · rcases List.mem_cons.1 ((h o).1 (List.mem_cons_of_mem _ ho)) with e | g
        · subst e; exact absurd rfl (less_ne (l1 _ ho))
        · exact g
      · rcases List.mem_cons.1 ((h o).2 (List.mem_cons_of_mem _ ho)) with e | g
        · subst e; exact absurd rfl (less_ne (m1 _ ho))
        · exact g
    rw [this]
def addS (out : List Stamp) (s : Stamp) : List Stamp := if s ∈ out then out else out ++ [s]
def uniqS (l : List Stamp) : List Stamp := l.foldl addS []
theorem uniqS_snoc (l : List Stamp) (s : Stamp) : uniqS (l ++ [s]) = addS (uniqS l) s := by simp [uniqS]
theorem addS_in {out : List Stamp} {s : Stamp} (h : s ∈ out) : addS out s = out := if_pos h
theorem addS_new {out : List Stamp} {s : Stamp} (h : s ∉ out) : addS out s = out ++ [s] := if_neg h
theorem mem_addS {out : List Stamp} {s q : Stamp} : q ∈ addS out s ↔ q ∈ out ∨ q = s := by
  unfold addS
  split
  · rename_i h
    constructor
    · exact .inl
    · rintro (g | rfl)
      · exact g
      · exact h
  · simp
theorem uniq_all (l : List Stamp) : ∀ out : List Stamp, out.Nodup → (l.foldl addS out).Nodup ∧ (l.foldl addS out).length ≤ out.length + l.length ∧ ∀ q, q ∈ l.foldl addS out ↔ q ∈ out ∨ q ∈ l := by
  induction l with
  | nil => intro out h; exact ⟨h, by simp, fun q => by simp⟩
  | cons s r ih =>
    intro out h
    have hn : (addS out s).Nodup := by
      unfold addS
      split
      · exact h
      · rename_i hs
        rw [List.nodup_append]
        exact ⟨h, by simp, fun a ha b hb => by simp only [List.mem_singleton] at hb; subst hb; intro e; exact hs (e ▸ ha)⟩
    have hl : (addS out s).length ≤ out.length + 1 := by unfold addS; split <;> simp
    obtain ⟨h1, h2, h3⟩ := ih (addS out s) hn
    refine ⟨h1, by simp only [List.foldl_cons, List.length_cons]; omega, fun q => ?_⟩
    rw [List.foldl_cons, h3, mem_addS, List.mem_cons, or_assoc]
theorem uniqS_nd (l : List Stamp) : (uniqS l).Nodup := (uniq_all l [] List.nodup_nil).1
theorem uniqS_len (l : List Stamp) : (uniqS l).length ≤ l.length := by simpa [uniqS] using (uniq_all l [] List.nodup_nil).2.1
theorem mem_uniqS {l : List Stamp} {s : Stamp} : s ∈ uniqS l ↔ s ∈ l := by simpa [uniqS] using (uniq_all l [] List.nodup_nil).2.2 s
theorem stamps_sorted {l m d : List Stamp} (hp : d.Perm (uniqS l)) (hs : d.Pairwise fun a b => less b a = false) (hm : IncS m) (he : ∀ s, s ∈ m ↔ s ∈ l) : d = m := by
  refine IncS.ext ?_ hm fun s => by rw [hp.mem_iff, mem_uniqS, he]
  have hnd : d.Nodup := hp.nodup_iff.2 (uniqS_nd l)
  exact (List.Pairwise.and hs hnd).imp fun {a b} h => by
    rcases nless_iff.1 h.1 with g | g
    · exact g
    · exact absurd g h.2
theorem ats_eq {l : List Op} {note f : Int} : atsV (valuesL l note f) = (l.filter (keepV l note f)).map (·.at_) := by
  unfold atsV valuesL
  rw [List.map_map]
  refine List.map_congr_left fun o ho => ?_
  have h2 := (List.mem_filter.1 ho).2
  simp only [keepV, Bool.and_eq_true] at h2
  exact valueOf_at (writes_wrt h2.1)
theorem Inc.ats {l : List Op} (h : Inc l) : IncS (l.map (·.at_)) := List.pairwise_map.2 h
theorem ats_inc {l : List Op} (hg : Good l) (note f : Int) : IncS (atsV (valuesL l note f)) := by
  rw [ats_eq]
  exact Inc.ats (hg.1.sublist List.filter_sublist)
theorem overAll_inc {l : List Op} (hg : Good l) (note : Int) : IncS (overAll l note) := Inc.ats (hg.1.sublist List.filter_sublist)
theorem overAll_iff {l : List Op} {note : Int} {s : Stamp} : s ∈ overAll l note ↔ s ∈ atsV (valuesL l note 0) ++ (atsV (valuesL l note 1) ++ atsV (valuesL l note 2)) := by
  constructor
  · intro h
    obtain ⟨o, ho, rfl⟩ := List.mem_map.1 h
    have h2 := (List.mem_filter.1 ho).2
    simpa [List.any_cons, or_assoc] using h2
  · intro h
    simp only [List.mem_append] at h
    rcases h with h | h | h
    · obtain ⟨v, hv, rfl⟩ := List.mem_map.1 h; exact overAll_mem (f := 0) (by decide) hv
    · obtain ⟨v, hv, rfl⟩ := List.mem_map.1 h; exact overAll_mem (f := 1) (by decide) hv
    · obtain ⟨v, hv, rfl⟩ := List.mem_map.1 h; exact overAll_mem (f := 2) (by decide) hv
end Go.Proofs.YtekkpfbjnjjcbaaGreatDoor
end
section
set_option linter.unusedVariables false
set_option linter.unusedSimpArgs false
set_option linter.unusedSectionVars false
namespace Go.Proofs.YtekkpfbjnjjcbaaGreatDoor
open Go.Ac
abbrev valsK (l : List Op) (note f : Int) (k : Nat) : List Val := ((l.take k).filter (keepV l note f)).map (valueOf · f)
theorem valsK_yes {l : List Op} {note f : Int} {k : Nat} {x : Op} (h : l[k]? = some x) (hk : keepV l note f x = true) : valsK l note f (k + 1) = valsK l note f k ++ [valueOf x f] := by
  unfold valsK
  rw [List.take_add_one, h, Option.toList_some, List.filter_append, List.filter_cons_of_pos hk, List.filter_nil, List.map_append]; rfl
theorem valsK_no {l : List Op} {note f : Int} {k : Nat} {x : Op} (h : l[k]? = some x) (hk : keepV l note f x = false) : valsK l note f (k + 1) = valsK l note f k := by
  unfold valsK
  rw [List.take_add_one, h, Option.toList_some, List.filter_append, List.filter_cons_of_neg (by simp [hk]), List.filter_nil, List.append_nil]
theorem valsK_len (l : List Op) (note f : Int) (k : Nat) : (valsK l note f k).length ≤ l.length := by
  unfold valsK
  rw [List.length_map]
  have := List.length_filter_le (keepV l note f) (l.take k)
  rw [List.length_take] at this
  omega
theorem valuesL_len (l : List Op) (note f : Int) : (valuesL l note f).length ≤ l.length := by
  unfold valuesL
  rw [List.length_map]
  exact List.length_filter_le ..
def inAll (l : List Op) (note : Int) (o : Op) : Bool := ([0, 1, 2] : List Int).any fun f => (atsV (valuesL l note f)).contains o.at_
abbrev ovK (l : List Op) (note : Int) (k : Nat) : List Stamp := ((l.take k).filter (inAll l note)).map (·.at_)
theorem ovK_yes {l : List Op} {note : Int} {k : Nat} {x : Op} (h : l[k]? = some x) (hk : inAll l note x = true) : ovK l note (k + 1) = ovK l note k ++ [x.at_] := by
  unfold ovK
  rw [List.take_add_one, h, Option.toList_some, List.filter_append, List.filter_cons_of_pos hk, List.filter_nil, List.map_append]; rfl
theorem ovK_no {l : List Op} {note : Int} {k : Nat} {x : Op} (h : l[k]? = some x) (hk : inAll l note x = false) : ovK l note (k + 1) = ovK l note k := by
  unfold ovK
  rw [List.take_add_one, h, Option.toList_some, List.filter_append, List.filter_cons_of_neg (by simp [hk]), List.filter_nil, List.append_nil]
theorem ovK_len (l : List Op) (note : Int) (k : Nat) : (ovK l note k).length ≤ l.length := by
  unfold ovK
  rw [List.length_map]
  have := List.length_filter_le (inAll l note) (l.take k)
  rw [List.length_take] at this
  omega
theorem atsV_len (l : List Val) : (atsV l).length = l.length := List.length_map ..
def sizeF (n : Int) (o : Op) : Int := n + 20 + (o.text.size : Int) + (o.note.text.size : Int) + (o.over.length : Int)
def sizeL (l : List Op) : Int := l.foldl sizeF 0
theorem sizeL_snoc (l : List Op) (o : Op) : sizeL (l ++ [o]) = sizeF (sizeL l) o := by simp [sizeL]
def fewR (r : Replica) : Bool := decide (r.seen.length ≤ 100) && (decide (r.ops.length ≤ 420) && decide (sizeL r.ops ≤ 30000))
end Go.Proofs.YtekkpfbjnjjcbaaGreatDoor
end
section
set_option linter.unusedVariables false
set_option linter.unusedSimpArgs false
set_option linter.unusedSectionVars false
namespace Go.Ac
set_option linter.unusedSectionVars false
set_option linter.unusedVariables false
set_option linter.unusedSimpArgs false
section
variable {P : Program} {td : TDs} [T : TOK P td] {G : Glo} {N : Nat} {Q : AQ} {S Sb D : SL} {L : List LB} {ops : Array Oper} {rest : List Oper}
  {op : Op} {ty : TypeId} {pos : String} {af : Array Edge} {d i : Nat} {x : AV} {nb : Nat} {W : DW}
theorem run_callF {f : FuncId} (hf : Callable P f) {o : Oper} {p : Operand} {us : Array Operand} {ats : Array TypeId} (ho : o.op = .call { callee := .value p, args := us, argTypes := ats }) (a : Act) (w : World) (hp : a.eval p = .func (.func f) #[] #[]) :
    (execOp a.eval o).run P w = .ok (.enter f (us.map a.eval)) w := by
  obtain ⟨fn, h1, h2, h3⟩ := hf
  have h3' : ¬ fn.name = "runtime.NumGoroutine" := by simpa using h3
  have h2' : ¬ fn.body = none := by intro e; rw [e] at h2; cases h2
  simp [execOp, ho, resolve, hp, Deferred.ofValue, invoke, callFunc, h1, h2', h3']
theorem fn_R {cx : Cx} {a : Act} (hc : Cn G N S L cx a) {p : Operand} {f : FuncId} (hp : val G S p = some (.fn f [] [])) : a.eval p = .func (.func f) #[] #[] := by
  have h := val_R hc hp
  simp only [R, TR] at h
  obtain ⟨xs, ys, h, e1, e2⟩ := h
  have hx : xs = #[] := by simpa using e1
  have hy : ys = #[] := by simpa using e2
  rw [h, hx, hy]
theorem pev_callF {f : FuncId} {p : Operand} {us : Array Operand} {ats : Array TypeId} {args : List AV} {r : AV} (hp : val G S p = some (.fn f [] [])) (hargs : vals G S us.toList = some args) (hF : args.all isF = true) (h : PCalls P G.g f args r) :
    PEv P G N (.call { callee := .value p, args := us, argTypes := ats }) ty S L r L := by
  intro o ho ht cx a hc K Q hK
  have ha := TF_of_TR hF (vals_R hc hargs)
  refine wpIn_of_run (by rw [ho]; rfl) ?_
  rw [run_callF h.1 (o := o) ho a cx.w (fn_R hc hp), Oper.uponIn_enter]
  refine ⟨fun h => by simp at h, CallsIn.mono (h.2 cx.F cx.w (us.map a.eval) hc.st.bare (by simpa using ha)) ?_⟩
  rintro e w' ⟨y, F', rfl, hr, st', ex⟩
  exact hK y { cx with F := F', w := w' } (R.of_RF _ _ _ hr) (hc.st.after ex st')
theorem awpL_callF {f : FuncId} {p : Operand} {us : Array Operand} {ats : Array TypeId} {args : List AV} {r : AV} (hp : val G S p = some (.fn f [] [])) (hargs : vals G S us.toList = some args) (hF : args.all isF = true) (h : PCalls P G.g f args r) (hd : Nat.blt d N = true)
    (k : awpL P G N ops rest Q ((d, r) :: S) L) : awpL P G N ops (⟨some d, .call { callee := .value p, args := us, argTypes := ats }, ty, pos, af, none⟩ :: rest) Q S L := by
  intro cx a hc
  refine wpListIn_plain rfl fun K hK => ?_
  refine pev_callF hp hargs hF h _ rfl rfl cx a hc _ _ fun y cx' hx hst => ?_
  exact hK _ _ (wpListIn_mono (fun e a w q => q.trans hst.ext) _ _ _ (k cx' _ ((hst.cn hc).put hd hx)))
end
end Go.Ac
end
section
set_option linter.unusedVariables false
set_option linter.unusedSimpArgs false
set_option linter.unusedSectionVars false
namespace Go.Ac
set_option linter.unusedSectionVars false
set_option linter.unusedVariables false
set_option linter.unusedSimpArgs false
section
variable {P : Program} {td : TDs} [T : TOK P td] {G : Glo} {N : Nat} {Q : AQ} {S : SL} {L : List LB} {ops : Array Oper} {rest : List Oper}
  {ty : TypeId} {pos : String} {af : Array Edge} {d : Nat}
theorem awpL_eqnil {t t' e sz n : Nat} {dd : TD} {u : Operand} {es : List (List AV)} (hu : val G S u = some (.fs sz n es)) (ht : lk td t = some dd) (hs : dd.k = .slice e) (hd : Nat.blt d N = true)
    (k0 : n = 0 → awpL P G N ops rest Q ((d, .v (.bool true)) :: S) L) (k1 : awpL P G N ops rest Q ((d, .v (.bool false)) :: S) L) :
    awpL P G N ops (⟨some d, .binOp .eql t u (.const (.slice none 0 0)) t', ty, pos, af, none⟩ :: rest) Q S L := by
  intro cx a hc
  have e1 := val_R hc hu
  simp only [R, RF] at e1
  obtain ⟨hlen, ad, cap, e1, hcap, hmem⟩ := e1
  have hsd := slice_desc (P := P) ht hs
  have hrun : (execOp a.eval ⟨some d, .binOp .eql t u (.const (.slice none 0 0)) t', ty, pos, af, none⟩).run P cx.w = .ok (.value (.bool ad.isNone)) cx.w := by
    have c0 : a.eval (.const (.slice none 0 0)) = .slice none 0 0 := rfl
    have := Go.Lib.run_eql_slice_nil (P := P) cx.w t e ad n cap 0 0 hsd
    simp only [execOp, e1, c0, Sem.run_bind]
    simp [eqGuard, Result.andThen_ok, Sem.run_pure, this]
  refine wpListIn_plain rfl fun K hK => wpIn_of_run rfl ?_
  rw [hrun, Oper.uponIn_value]
  cases had : ad with
  | none =>
    have hn : n = 0 := Decidable.byContradiction fun h => by
      obtain ⟨b, off, h1, _⟩ := hmem h
      rw [had] at h1; cases h1
    exact hK _ _ (k0 hn cx _ (hc.put hd (by simp only [R]; rfl)))
  | some x => exact hK _ _ (k1 cx _ (hc.put hd (by simp only [R]; rfl)))
end
end Go.Ac
namespace Go.Ac
set_option linter.unusedSectionVars false
section
variable {P : Program} {td : TDs} [T : TOK P td] {G : Glo} {N : Nat} {Q : AQ} {S Sb D D' : SL} {L : List LB} {rest : List Oper} {C : SL → List LB → Prop}
  {ty : TypeId} {pos : String} {af : Array Edge} {d nb : Nat} {W : DW}
theorem awp_retA {t E sz : Nat} (hg : get S t = some (.v (.slice none 0 0))) (h : Q .ret ((t, .os L.length 0) :: S) (L ++ [.own 0 E sz []])) : awp P G N .ret Q S L :=
  awp_adopt (E := E) (sz := sz) hg rfl rfl (awp_ret h)
theorem pev_ocall {f : FuncId} {us : Array Operand} {ats : Array TypeId} {args : List AV} {E sz k : Nat} {es : List (List AV)} {L' : List LB} (hargs : vals G S us.toList = some args) (hF : args.all isF = true) (h : OCalls P G.g f args E sz es) (hk : L.length = k) (hL : L ++ [.own 0 E sz es] = L') :
    PEv P G N (.call { callee := .value (.func f), args := us, argTypes := ats }) ty S L (.os k 0) L' := by
  subst hk hL
  intro o ho ht cx a hc K Q hK
  have ha := TF_of_TR hF (vals_R hc hargs)
  refine wpIn_of_run (by rw [ho]; rfl) ?_
  rw [run_call h.1 (o := o) ho a cx.w, Oper.uponIn_enter]
  refine ⟨fun h => by simp at h, CallsIn.mono (h.2 cx.F cx.w (us.map a.eval) hc.st.bare (by simpa using ha)) ?_⟩
  rintro e w' ⟨y, c', rfl, hr, st', ex, rfl, hφ⟩
  obtain ⟨c2, hst, hR, hw⟩ := hc.st.afterO hr st' ex hφ
  rw [← hw]
  exact hK y c2 hR hst
theorem awpD_oc {M : List LB} {f : FuncId} {us : Array Operand} {ats : Array TypeId} {args : List AV} {E sz k : Nat} {es : List (List AV)} {L' : List LB} {T' : TL} (hq : W.sq = false) (hM : Msk af.toList nb W.L W.T M) (hargs : vals G (pvS af D Sb) us.toList = some args) (hF : args.all isF = true) (h : OCalls P G.g f args E sz es)
    (hk : M.length = k) (hx : noid (okid (M ++ [.own 0 E sz es]) nb) (.os k 0) = true) (hT : addT af.toList D.length W.T ++ [(D.length, [D.length])] = T') (hL : W.L ++ [.own 0 E sz es] = L') (hD : D ++ [(d, .os k 0)] = D')
    (kk : awpD P G N C Sb nb rest D' ⟨L', T', D.length :: W.Z, false⟩) :
    awpD P G N C Sb nb (⟨some d, .call { callee := .value (.func f), args := us, argTypes := ats }, ty, pos, af, none⟩ :: rest) D W := by
  subst hD hk hL hT
  exact .step (r := (d, .os M.length 0, .op (some (W.L.length, .own 0 E sz es)))) (.new rfl rfl hq hM.eq (pev_ocall hargs hF h rfl rfl) hx rfl) kk
end
end Go.Ac
end
