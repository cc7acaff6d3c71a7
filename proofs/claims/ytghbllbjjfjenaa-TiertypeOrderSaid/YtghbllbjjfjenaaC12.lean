/- The laws Check, Asks, Above, Finds. -/
import Derived.Test.YtghbllbjjfjenaaC11
namespace Go.Proofs.Ytghbllbjjfjenaa
open Go.Ab
attribute [local irreducible] awp awpL Ev Ev2 EvS thenQ blockQ retQ PCalls OCalls awpD
set_option linter.unusedSimpArgs false
set_option linter.unusedVariables false

theorem pathFrom_le {l : List Tier} (hd : Down l) : ∀ (n : Nat) (i : Int), ∀ x ∈ pathFrom l n i, x ≤ i
  | 0, i, x, hx => by simp [pathFrom] at hx
  | n + 1, i, x, hx => by
    rw [pathFrom] at hx
    split at hx
    · simp at hx
    · cases ht : l[i.toNat]? with
      | none => rw [ht] at hx; simp at hx
      | some t =>
        rw [ht] at hx
        simp only [List.mem_cons] at hx
        rcases hx with rfl | hx
        · omega
        · have h1 := pathFrom_le hd n t.parent x hx
          have h2 := hd _ _ ht
          omega
theorem kids_eq {l : List Tier} (hd : Down l) (i : Int) : kids l i = rkids l i := by
  have key : ∀ (r : List Tier) (k : Nat), (∀ (j : Nat) (t : Tier), r[j]? = some t → t.parent < i) → kidsFrom i k r = [] := by
    intro r
    induction r with
    | nil => intro _ _; rfl
    | cons t r ih =>
      intro k h
      have h0 := h 0 t rfl
      rw [kidsFrom, if_neg (by omega)]
      exact ih (k + 1) (fun j u hu => h (j + 1) u hu)
  unfold kids rkids
  by_cases h0 : i < 0
  · simp [h0]
  · by_cases h1 : (l.length : Int) ≤ i
    · simp only [h0, h1, or_true, if_true, if_false]
      refine (key l 0 fun j t ht => ?_).symm
      have := hd j t ht
      have := (List.getElem?_eq_some_iff.1 ht).1
      omega
    · simp [h0, h1]
theorem above_eq {l : List Tier} (hd : Down l) (i j : Int) : above l i j = rabove l i j := by
  unfold above rabove
  by_cases h0 : i < 0 ∨ (l.length : Int) ≤ i
  · have : path l i = [] := pathFrom_stop h0
    rw [this]; simp [anyFrom]
  · obtain ⟨t, ht⟩ : ∃ t, l[i.toNat]? = some t := ⟨l[i.toNat]'(by omega), by simp⟩
    have hp : path l i = i :: pathFrom l l.length t.parent := pathFrom_step hd (by omega) ht (by omega)
    rw [hp]
    by_cases hij : i = j
    · subst hij
      simp only [if_true, List.drop_succ_cons, List.drop_zero]
      symm
      rw [anyFrom, List.any_eq_false]
      intro x hx
      have h1 := pathFrom_le hd _ _ x hx
      have h2 := hd _ _ ht
      simp; omega
    · simp [hij, anyFrom]

theorem law_Check (l : List Tier) (hfit : Fit l) : PCalls Try.prog [] 3 [encTs l] (vb true) := by
  have A := awake_spec
  have K1 := Check_spec l
  have K2 := rCheck_spec l hfit
  have c1 : decide (check l = check l) = true := by simp
  refine pcalls' Try.func3 Try.ntmps3 rfl rfl rfl ?_
  repeat' (first
    | (with_reducible refine is_un ?_; first
      | (with_reducible refine is_move ?_; (first | refine awpL_ev (ev_move rfl) rfl ?_))
      | (with_reducible refine is_bin ?_; (first | refine awpL_ev (ev_add rfl rfl (by omega)) rfl ?_ | refine awpL_ev (ev_sub rfl rfl (by omega)) rfl ?_ | refine awpL_ev (ev_bin rfl rfl rfl) rfl ?_ | refine awpL_ev (ev_eq_bool rfl rfl rfl rfl) rfl ?_))
      | (with_reducible refine is_fa ?_; (first | refine awpL_ev (ev_fa_fp rfl rfl rfl rfl rfl rfl) rfl ?_ | refine awpL_ev (ev_fa_lp rfl rfl rfl rfl rfl rfl) rfl ?_ | refine awpL_ev (ev_fa_ep rfl rfl rfl rfl rfl rfl) rfl ?_))
      | (with_reducible refine is_load ?_; (first | refine awpL_ev (ev_load_agg rfl rfl rfl rfl) rfl ?_ | refine awpL_ev (ev_load_sub rfl rfl rfl rfl rfl) rfl ?_ | refine awpL_ev (ev_load_one rfl rfl rfl rfl) rfl ?_ | refine awpL_ev (ev_ll_agg rfl rfl rfl rfl rfl rfl rfl) rfl ?_ | refine awpL_ev (ev_ll_lag rfl rfl rfl rfl rfl rfl) rfl ?_ | refine awpL_ev (ev_ll_one rfl rfl rfl rfl rfl) rfl ?_ | refine awpL_ev (ev_el_one rfl rfl rfl rfl (by with_reducible assumption) rfl) rfl ?_))
      | (with_reducible refine is_pick ?_; (first | refine awpL_ev (ev_pick_t rfl (by first | with_reducible rfl | with_reducible assumption) rfl) rfl ?_ | refine awpL_ev (ev_pick_f rfl (by first | with_reducible rfl | with_reducible assumption) rfl) rfl ?_))
      | (with_reducible refine is_assign ?_; (first | refine awpL_ev (ev_assign rfl) rfl ?_))
      | (with_reducible refine is_call ?_; (first | refine awpL_call rfl rfl A rfl ?_ | refine awpL_call rfl rfl K1 rfl ?_ | refine awpL_call rfl rfl K2 rfl ?_ | refine awpL_ev (ev_len rfl rfl rfl rfl rfl) rfl ?_ | refine awpL_ev (ev_len_os rfl rfl rfl rfl rfl) rfl ?_))
      | refine awpL_ev (ev_not rfl) rfl ?_
      | refine awpL_ev (ev_ia_fs rfl rfl rfl rfl rfl rfl (by with_reducible assumption)) rfl ?_
      | refine awpL_ev (ev_ia_os rfl rfl rfl rfl rfl rfl rfl (by with_reducible assumption)) rfl ?_
      | refine awpL_ev (ev_extract rfl rfl) rfl ?_
      | refine awpL_ev (ev_index_str rfl rfl rfl rfl (by with_reducible assumption)) rfl ?_
      | refine awpL_ev (ev_build rfl rfl rfl rfl rfl rfl rfl) rfl ?_
      | refine awpL_ev (ev_build_lag rfl rfl rfl rfl rfl rfl) rfl ?_
      | refine awpL_ev (ev_slice_fs rfl rfl rfl rfl rfl rfl rfl (by with_reducible assumption) rfl rfl) rfl ?_
      | refine awpL_ev2 (ev_bslice_in rfl rfl rfl rfl rfl rfl rfl rfl rfl rfl rfl rfl (by (try simp only [List.map_cons, List.map_nil, cellsOf]); (try rfl))) rfl ?_
      | refine awpL_ev2 (ev_stb rfl rfl rfl rfl rfl rfl rfl) rfl ?_
      | refine awpL_ev2 (ev_alloc rfl rfl (by (try simp only [List.length_nil, List.length_cons, Nat.reduceAdd]); (try rfl)) (by (try simp only [List.set_cons_zero, List.set_cons_succ, List.nil_append, List.cons_append, List.append_nil, cellsOf, List.take_zero, List.drop_zero, List.take_succ_cons, List.drop_succ_cons, Nat.zero_add, Nat.reduceAdd, List.drop_nil, List.map_cons, List.map_nil]); (try rfl))) rfl ?_
      | refine awpL_ev2 (ev_box rfl rfl (by (try simp only [List.length_nil, List.length_cons, Nat.reduceAdd]); (try rfl)) (by (try simp only [List.set_cons_zero, List.set_cons_succ, List.nil_append, List.cons_append, List.append_nil, cellsOf, List.take_zero, List.drop_zero, List.take_succ_cons, List.drop_succ_cons, Nat.zero_add, Nat.reduceAdd, List.drop_nil, List.map_cons, List.map_nil]); (try rfl))) rfl ?_
      | refine awpL_evS (ev_st_lp rfl rfl rfl rfl rfl rfl rfl (by (try simp only [List.set_cons_zero, List.set_cons_succ, List.nil_append, List.cons_append, List.append_nil, cellsOf, List.take_zero, List.drop_zero, List.take_succ_cons, List.drop_succ_cons, Nat.zero_add, Nat.reduceAdd, List.drop_nil, List.map_cons, List.map_nil]); (try rfl))) ?_)
    | (with_reducible refine is_gd ?_; (first | refine awpL_run rfl rfl rfl (by first | with_reducible rfl | with_reducible assumption) ?_ | refine awpL_passT rfl rfl rfl rfl (by first | with_reducible rfl | with_reducible assumption) ?_ | refine awpL_passF rfl rfl rfl rfl (by first | with_reducible rfl | with_reducible assumption) ?_ | refine awpL_passU rfl rfl rfl rfl ?_ | refine awpL_split rfl rfl (fun h => ?_) (fun h => ?_)))
    | (with_reducible refine is_nil ?_; refine awpL_nil ?_)
    | (with_reducible refine is_then ?_; (first | refine thenQ_n ?_ | refine thenQ_r ?_ | refine thenQ_e ?_))
    | (with_reducible refine is_block ?_; (first | refine blockQ_n ?_ | refine blockQ_r ?_ | refine blockQ_e ?_ | refine blockQ_o rfl ?_))
    | (with_reducible refine is_awp ?_; (first | refine awp_seq ?_ | refine awp_ret ?_ | refine awp_skip ?_ | refine awp_exit ?_ | refine awp_label ?_ | refine awp_block ?_ | refine awp_region ?_ | refine awp_cond_t rfl (by first | with_reducible rfl | with_reducible assumption) ?_ | refine awp_cond_f rfl (by first | with_reducible rfl | with_reducible assumption) ?_ | refine awp_cond rfl (fun h => ?_) (fun h => ?_))))
  all_goals refine retP rfl ?_
  all_goals rfl

theorem law_Asks (l : List Tier) (i : Int) (hfit : Fit l) : PCalls Try.prog [] 4 [encTs l, vi i] (vb true) := by
  have A := awake_spec
  have K2 := rCheck_spec l hfit
  by_cases hc : check l = 0
  · have c0 : (!decide (check l = 0)) = false := by simpa using hc
    have hl := check_len hc
    have hd := check_down hc
    have B1 := Aligned_spec l i
    have B2 := rAligned_spec l i
    have B3 := Kids_spec l i (by omega)
    have B4 := rKids_spec l i (by omega)
    have B5 := Path_spec l i (by omega) hd
    have B6 := rPath_spec l i (by omega) hd
    rw [kids_eq hd] at B3
    have h5 : (path l i).length ≤ 1000000 := by have := path_len l l.length i; unfold path; omega
    have h3 : (rkids l i).length ≤ 1000000 := by
      have key : ∀ (r : List Tier) (k : Nat), (kidsFrom i k r).length ≤ r.length := by
        intro r
        induction r with
        | nil => intro _; exact Nat.le_refl _
        | cons t r ih => intro k; rw [kidsFrom]; have := ih (k + 1); split <;> simp <;> omega
      unfold rkids; split
      · simp
      · have := key l 0; omega
    have B7 := same_spec (rkids l i) (rkids l i) h3
    have B8 := same_spec (path l i) (path l i) h5
    rw [show decide (rkids l i = rkids l i) = true by simp] at B7
    rw [show decide (path l i = path l i) = true by simp] at B8
    generalize alignedAt l i = q at B1 B2
    have c1 : decide (q = q) = true := by simp
    have c1' : (q == q) = true := by simp
    refine pcalls' Try.func4 Try.ntmps4 rfl rfl rfl ?_
    repeat' (first
      | (with_reducible refine is_un ?_; first
        | (with_reducible refine is_move ?_; (first | refine awpL_ev (ev_move rfl) rfl ?_))
        | (with_reducible refine is_bin ?_; (first | refine awpL_ev (ev_add rfl rfl (by omega)) rfl ?_ | refine awpL_ev (ev_sub rfl rfl (by omega)) rfl ?_ | refine awpL_ev (ev_bin rfl rfl rfl) rfl ?_ | refine awpL_ev (ev_eq_bool rfl rfl rfl rfl) rfl ?_))
        | (with_reducible refine is_fa ?_; (first | refine awpL_ev (ev_fa_fp rfl rfl rfl rfl rfl rfl) rfl ?_ | refine awpL_ev (ev_fa_lp rfl rfl rfl rfl rfl rfl) rfl ?_ | refine awpL_ev (ev_fa_ep rfl rfl rfl rfl rfl rfl) rfl ?_))
        | (with_reducible refine is_load ?_; (first | refine awpL_ev (ev_load_agg rfl rfl rfl rfl) rfl ?_ | refine awpL_ev (ev_load_sub rfl rfl rfl rfl rfl) rfl ?_ | refine awpL_ev (ev_load_one rfl rfl rfl rfl) rfl ?_ | refine awpL_ev (ev_ll_agg rfl rfl rfl rfl rfl rfl rfl) rfl ?_ | refine awpL_ev (ev_ll_lag rfl rfl rfl rfl rfl rfl) rfl ?_ | refine awpL_ev (ev_ll_one rfl rfl rfl rfl rfl) rfl ?_ | refine awpL_ev (ev_el_one rfl rfl rfl rfl (by with_reducible assumption) rfl) rfl ?_))
        | (with_reducible refine is_pick ?_; (first | refine awpL_ev (ev_pick_t rfl (by first | with_reducible rfl | with_reducible assumption) rfl) rfl ?_ | refine awpL_ev (ev_pick_f rfl (by first | with_reducible rfl | with_reducible assumption) rfl) rfl ?_))
        | (with_reducible refine is_assign ?_; (first | refine awpL_ev (ev_assign rfl) rfl ?_))
        | (with_reducible refine is_call ?_; (first | refine awpL_call rfl rfl A rfl ?_ | refine awpL_call rfl rfl K2 rfl ?_ | refine awpL_call rfl rfl B1 rfl ?_ | refine awpL_call rfl rfl B2 rfl ?_ | refine awpL_call rfl rfl B3 rfl ?_ | refine awpL_call rfl rfl B4 rfl ?_ | refine awpL_call rfl rfl B5 rfl ?_ | refine awpL_call rfl rfl B6 rfl ?_ | refine awpL_call rfl rfl B7 rfl ?_ | refine awpL_call rfl rfl B8 rfl ?_ | refine awpL_ev (ev_len rfl rfl rfl rfl rfl) rfl ?_ | refine awpL_ev (ev_len_os rfl rfl rfl rfl rfl) rfl ?_))
        | refine awpL_ev (ev_not rfl) rfl ?_
        | refine awpL_ev (ev_ia_fs rfl rfl rfl rfl rfl rfl (by with_reducible assumption)) rfl ?_
        | refine awpL_ev (ev_ia_os rfl rfl rfl rfl rfl rfl rfl (by with_reducible assumption)) rfl ?_
        | refine awpL_ev (ev_extract rfl rfl) rfl ?_
        | refine awpL_ev (ev_index_str rfl rfl rfl rfl (by with_reducible assumption)) rfl ?_
        | refine awpL_ev (ev_build rfl rfl rfl rfl rfl rfl rfl) rfl ?_
        | refine awpL_ev (ev_build_lag rfl rfl rfl rfl rfl rfl) rfl ?_
        | refine awpL_ev (ev_slice_fs rfl rfl rfl rfl rfl rfl rfl (by with_reducible assumption) rfl rfl) rfl ?_
        | refine awpL_ev2 (ev_bslice_in rfl rfl rfl rfl rfl rfl rfl rfl rfl rfl rfl rfl (by (try simp only [List.map_cons, List.map_nil, cellsOf]); (try rfl))) rfl ?_
        | refine awpL_ev2 (ev_stb rfl rfl rfl rfl rfl rfl rfl) rfl ?_
        | refine awpL_ev2 (ev_alloc rfl rfl (by (try simp only [List.length_nil, List.length_cons, Nat.reduceAdd]); (try rfl)) (by (try simp only [List.set_cons_zero, List.set_cons_succ, List.nil_append, List.cons_append, List.append_nil, cellsOf, List.take_zero, List.drop_zero, List.take_succ_cons, List.drop_succ_cons, Nat.zero_add, Nat.reduceAdd, List.drop_nil, List.map_cons, List.map_nil]); (try rfl))) rfl ?_
        | refine awpL_ev2 (ev_box rfl rfl (by (try simp only [List.length_nil, List.length_cons, Nat.reduceAdd]); (try rfl)) (by (try simp only [List.set_cons_zero, List.set_cons_succ, List.nil_append, List.cons_append, List.append_nil, cellsOf, List.take_zero, List.drop_zero, List.take_succ_cons, List.drop_succ_cons, Nat.zero_add, Nat.reduceAdd, List.drop_nil, List.map_cons, List.map_nil]); (try rfl))) rfl ?_
        | refine awpL_evS (ev_st_lp rfl rfl rfl rfl rfl rfl rfl (by (try simp only [List.set_cons_zero, List.set_cons_succ, List.nil_append, List.cons_append, List.append_nil, cellsOf, List.take_zero, List.drop_zero, List.take_succ_cons, List.drop_succ_cons, Nat.zero_add, Nat.reduceAdd, List.drop_nil, List.map_cons, List.map_nil]); (try rfl))) ?_)
      | (with_reducible refine is_gd ?_; (first | refine awpL_run rfl rfl rfl (by first | with_reducible rfl | with_reducible assumption) ?_ | refine awpL_passT rfl rfl rfl rfl (by first | with_reducible rfl | with_reducible assumption) ?_ | refine awpL_passF rfl rfl rfl rfl (by first | with_reducible rfl | with_reducible assumption) ?_ | refine awpL_passU rfl rfl rfl rfl ?_ | refine awpL_split rfl rfl (fun h => ?_) (fun h => ?_)))
      | (with_reducible refine is_nil ?_; refine awpL_nil ?_)
      | (with_reducible refine is_then ?_; (first | refine thenQ_n ?_ | refine thenQ_r ?_ | refine thenQ_e ?_))
      | (with_reducible refine is_block ?_; (first | refine blockQ_n ?_ | refine blockQ_r ?_ | refine blockQ_e ?_ | refine blockQ_o rfl ?_))
      | (with_reducible refine is_awp ?_; (first | refine awp_seq ?_ | refine awp_ret ?_ | refine awp_skip ?_ | refine awp_exit ?_ | refine awp_label ?_ | refine awp_block ?_ | refine awp_region ?_ | refine awp_cond_t rfl (by first | with_reducible rfl | with_reducible assumption) ?_ | refine awp_cond_f rfl (by first | with_reducible rfl | with_reducible assumption) ?_ | refine awp_cond rfl (fun h => ?_) (fun h => ?_))))
    all_goals refine retP rfl ?_
    all_goals rfl
  · have c0 : (!decide (check l = 0)) = true := by simpa using hc
    refine pcalls' Try.func4 Try.ntmps4 rfl rfl rfl ?_
    repeat' (first
      | (with_reducible refine is_un ?_; first
        | (with_reducible refine is_move ?_; (first | refine awpL_ev (ev_move rfl) rfl ?_))
        | (with_reducible refine is_bin ?_; (first | refine awpL_ev (ev_add rfl rfl (by omega)) rfl ?_ | refine awpL_ev (ev_sub rfl rfl (by omega)) rfl ?_ | refine awpL_ev (ev_bin rfl rfl rfl) rfl ?_ | refine awpL_ev (ev_eq_bool rfl rfl rfl rfl) rfl ?_))
        | (with_reducible refine is_fa ?_; (first | refine awpL_ev (ev_fa_fp rfl rfl rfl rfl rfl rfl) rfl ?_ | refine awpL_ev (ev_fa_lp rfl rfl rfl rfl rfl rfl) rfl ?_ | refine awpL_ev (ev_fa_ep rfl rfl rfl rfl rfl rfl) rfl ?_))
        | (with_reducible refine is_load ?_; (first | refine awpL_ev (ev_load_agg rfl rfl rfl rfl) rfl ?_ | refine awpL_ev (ev_load_sub rfl rfl rfl rfl rfl) rfl ?_ | refine awpL_ev (ev_load_one rfl rfl rfl rfl) rfl ?_ | refine awpL_ev (ev_ll_agg rfl rfl rfl rfl rfl rfl rfl) rfl ?_ | refine awpL_ev (ev_ll_lag rfl rfl rfl rfl rfl rfl) rfl ?_ | refine awpL_ev (ev_ll_one rfl rfl rfl rfl rfl) rfl ?_ | refine awpL_ev (ev_el_one rfl rfl rfl rfl (by with_reducible assumption) rfl) rfl ?_))
        | (with_reducible refine is_pick ?_; (first | refine awpL_ev (ev_pick_t rfl (by first | with_reducible rfl | with_reducible assumption) rfl) rfl ?_ | refine awpL_ev (ev_pick_f rfl (by first | with_reducible rfl | with_reducible assumption) rfl) rfl ?_))
        | (with_reducible refine is_assign ?_; (first | refine awpL_ev (ev_assign rfl) rfl ?_))
        | (with_reducible refine is_call ?_; (first | refine awpL_call rfl rfl A rfl ?_ | refine awpL_call rfl rfl K2 rfl ?_ | refine awpL_ev (ev_len rfl rfl rfl rfl rfl) rfl ?_ | refine awpL_ev (ev_len_os rfl rfl rfl rfl rfl) rfl ?_))
        | refine awpL_ev (ev_not rfl) rfl ?_
        | refine awpL_ev (ev_ia_fs rfl rfl rfl rfl rfl rfl (by with_reducible assumption)) rfl ?_
        | refine awpL_ev (ev_ia_os rfl rfl rfl rfl rfl rfl rfl (by with_reducible assumption)) rfl ?_
        | refine awpL_ev (ev_extract rfl rfl) rfl ?_
        | refine awpL_ev (ev_index_str rfl rfl rfl rfl (by with_reducible assumption)) rfl ?_
        | refine awpL_ev (ev_build rfl rfl rfl rfl rfl rfl rfl) rfl ?_
        | refine awpL_ev (ev_build_lag rfl rfl rfl rfl rfl rfl) rfl ?_
        | refine awpL_ev (ev_slice_fs rfl rfl rfl rfl rfl rfl rfl (by with_reducible assumption) rfl rfl) rfl ?_
        | refine awpL_ev2 (ev_bslice_in rfl rfl rfl rfl rfl rfl rfl rfl rfl rfl rfl rfl (by (try simp only [List.map_cons, List.map_nil, cellsOf]); (try rfl))) rfl ?_
        | refine awpL_ev2 (ev_stb rfl rfl rfl rfl rfl rfl rfl) rfl ?_
        | refine awpL_ev2 (ev_alloc rfl rfl (by (try simp only [List.length_nil, List.length_cons, Nat.reduceAdd]); (try rfl)) (by (try simp only [List.set_cons_zero, List.set_cons_succ, List.nil_append, List.cons_append, List.append_nil, cellsOf, List.take_zero, List.drop_zero, List.take_succ_cons, List.drop_succ_cons, Nat.zero_add, Nat.reduceAdd, List.drop_nil, List.map_cons, List.map_nil]); (try rfl))) rfl ?_
        | refine awpL_ev2 (ev_box rfl rfl (by (try simp only [List.length_nil, List.length_cons, Nat.reduceAdd]); (try rfl)) (by (try simp only [List.set_cons_zero, List.set_cons_succ, List.nil_append, List.cons_append, List.append_nil, cellsOf, List.take_zero, List.drop_zero, List.take_succ_cons, List.drop_succ_cons, Nat.zero_add, Nat.reduceAdd, List.drop_nil, List.map_cons, List.map_nil]); (try rfl))) rfl ?_
        | refine awpL_evS (ev_st_lp rfl rfl rfl rfl rfl rfl rfl (by (try simp only [List.set_cons_zero, List.set_cons_succ, List.nil_append, List.cons_append, List.append_nil, cellsOf, List.take_zero, List.drop_zero, List.take_succ_cons, List.drop_succ_cons, Nat.zero_add, Nat.reduceAdd, List.drop_nil, List.map_cons, List.map_nil]); (try rfl))) ?_)
      | (with_reducible refine is_gd ?_; (first | refine awpL_run rfl rfl rfl (by first | with_reducible rfl | with_reducible assumption) ?_ | refine awpL_passT rfl rfl rfl rfl (by first | with_reducible rfl | with_reducible assumption) ?_ | refine awpL_passF rfl rfl rfl rfl (by first | with_reducible rfl | with_reducible assumption) ?_ | refine awpL_passU rfl rfl rfl rfl ?_ | refine awpL_split rfl rfl (fun h => ?_) (fun h => ?_)))
      | (with_reducible refine is_nil ?_; refine awpL_nil ?_)
      | (with_reducible refine is_then ?_; (first | refine thenQ_n ?_ | refine thenQ_r ?_ | refine thenQ_e ?_))
      | (with_reducible refine is_block ?_; (first | refine blockQ_n ?_ | refine blockQ_r ?_ | refine blockQ_e ?_ | refine blockQ_o rfl ?_))
      | (with_reducible refine is_awp ?_; (first | refine awp_seq ?_ | refine awp_ret ?_ | refine awp_skip ?_ | refine awp_exit ?_ | refine awp_label ?_ | refine awp_block ?_ | refine awp_region ?_ | refine awp_cond_t rfl (by first | with_reducible rfl | with_reducible assumption) ?_ | refine awp_cond_f rfl (by first | with_reducible rfl | with_reducible assumption) ?_ | refine awp_cond rfl (fun h => ?_) (fun h => ?_))))
    all_goals refine retP rfl ?_
    all_goals rfl

theorem law_Above (l : List Tier) (i j : Int) (hfit : Fit l) : PCalls Try.prog [] 5 [encTs l, vi i, vi j] (vb true) := by
  have A := awake_spec
  have K2 := rCheck_spec l hfit
  by_cases hc : check l = 0
  · have c0 : (!decide (check l = 0)) = false := by simpa using hc
    have hl := check_len hc
    have hd := check_down hc
    have B1 := Above_spec l i j (by omega) hd
    have B2 := rAbove_spec l i j (by omega) hd
    rw [above_eq hd] at B1
    have c1 : (rabove l i j == rabove l i j) = true := by simp
    refine pcalls' Try.func5 Try.ntmps5 rfl rfl rfl ?_
    repeat' (first
      | (with_reducible refine is_un ?_; first
        | (with_reducible refine is_move ?_; (first | refine awpL_ev (ev_move rfl) rfl ?_))
        | (with_reducible refine is_bin ?_; (first | refine awpL_ev (ev_add rfl rfl (by omega)) rfl ?_ | refine awpL_ev (ev_sub rfl rfl (by omega)) rfl ?_ | refine awpL_ev (ev_bin rfl rfl rfl) rfl ?_ | refine awpL_ev (ev_eq_bool rfl rfl rfl rfl) rfl ?_))
        | (with_reducible refine is_fa ?_; (first | refine awpL_ev (ev_fa_fp rfl rfl rfl rfl rfl rfl) rfl ?_ | refine awpL_ev (ev_fa_lp rfl rfl rfl rfl rfl rfl) rfl ?_ | refine awpL_ev (ev_fa_ep rfl rfl rfl rfl rfl rfl) rfl ?_))
        | (with_reducible refine is_load ?_; (first | refine awpL_ev (ev_load_agg rfl rfl rfl rfl) rfl ?_ | refine awpL_ev (ev_load_sub rfl rfl rfl rfl rfl) rfl ?_ | refine awpL_ev (ev_load_one rfl rfl rfl rfl) rfl ?_ | refine awpL_ev (ev_ll_agg rfl rfl rfl rfl rfl rfl rfl) rfl ?_ | refine awpL_ev (ev_ll_lag rfl rfl rfl rfl rfl rfl) rfl ?_ | refine awpL_ev (ev_ll_one rfl rfl rfl rfl rfl) rfl ?_ | refine awpL_ev (ev_el_one rfl rfl rfl rfl (by with_reducible assumption) rfl) rfl ?_))
        | (with_reducible refine is_pick ?_; (first | refine awpL_ev (ev_pick_t rfl (by first | with_reducible rfl | with_reducible assumption) rfl) rfl ?_ | refine awpL_ev (ev_pick_f rfl (by first | with_reducible rfl | with_reducible assumption) rfl) rfl ?_))
        | (with_reducible refine is_assign ?_; (first | refine awpL_ev (ev_assign rfl) rfl ?_))
        | (with_reducible refine is_call ?_; (first | refine awpL_call rfl rfl A rfl ?_ | refine awpL_call rfl rfl K2 rfl ?_ | refine awpL_call rfl rfl B1 rfl ?_ | refine awpL_call rfl rfl B2 rfl ?_ | refine awpL_ev (ev_len rfl rfl rfl rfl rfl) rfl ?_ | refine awpL_ev (ev_len_os rfl rfl rfl rfl rfl) rfl ?_))
        | refine awpL_ev (ev_not rfl) rfl ?_
        | refine awpL_ev (ev_ia_fs rfl rfl rfl rfl rfl rfl (by with_reducible assumption)) rfl ?_
        | refine awpL_ev (ev_ia_os rfl rfl rfl rfl rfl rfl rfl (by with_reducible assumption)) rfl ?_
        | refine awpL_ev (ev_extract rfl rfl) rfl ?_
        | refine awpL_ev (ev_index_str rfl rfl rfl rfl (by with_reducible assumption)) rfl ?_
        | refine awpL_ev (ev_build rfl rfl rfl rfl rfl rfl rfl) rfl ?_
        | refine awpL_ev (ev_build_lag rfl rfl rfl rfl rfl rfl) rfl ?_
        | refine awpL_ev (ev_slice_fs rfl rfl rfl rfl rfl rfl rfl (by with_reducible assumption) rfl rfl) rfl ?_
        | refine awpL_ev2 (ev_bslice_in rfl rfl rfl rfl rfl rfl rfl rfl rfl rfl rfl rfl (by (try simp only [List.map_cons, List.map_nil, cellsOf]); (try rfl))) rfl ?_
        | refine awpL_ev2 (ev_stb rfl rfl rfl rfl rfl rfl rfl) rfl ?_
        | refine awpL_ev2 (ev_alloc rfl rfl (by (try simp only [List.length_nil, List.length_cons, Nat.reduceAdd]); (try rfl)) (by (try simp only [List.set_cons_zero, List.set_cons_succ, List.nil_append, List.cons_append, List.append_nil, cellsOf, List.take_zero, List.drop_zero, List.take_succ_cons, List.drop_succ_cons, Nat.zero_add, Nat.reduceAdd, List.drop_nil, List.map_cons, List.map_nil]); (try rfl))) rfl ?_
        | refine awpL_ev2 (ev_box rfl rfl (by (try simp only [List.length_nil, List.length_cons, Nat.reduceAdd]); (try rfl)) (by (try simp only [List.set_cons_zero, List.set_cons_succ, List.nil_append, List.cons_append, List.append_nil, cellsOf, List.take_zero, List.drop_zero, List.take_succ_cons, List.drop_succ_cons, Nat.zero_add, Nat.reduceAdd, List.drop_nil, List.map_cons, List.map_nil]); (try rfl))) rfl ?_
        | refine awpL_evS (ev_st_lp rfl rfl rfl rfl rfl rfl rfl (by (try simp only [List.set_cons_zero, List.set_cons_succ, List.nil_append, List.cons_append, List.append_nil, cellsOf, List.take_zero, List.drop_zero, List.take_succ_cons, List.drop_succ_cons, Nat.zero_add, Nat.reduceAdd, List.drop_nil, List.map_cons, List.map_nil]); (try rfl))) ?_)
      | (with_reducible refine is_gd ?_; (first | refine awpL_run rfl rfl rfl (by first | with_reducible rfl | with_reducible assumption) ?_ | refine awpL_passT rfl rfl rfl rfl (by first | with_reducible rfl | with_reducible assumption) ?_ | refine awpL_passF rfl rfl rfl rfl (by first | with_reducible rfl | with_reducible assumption) ?_ | refine awpL_passU rfl rfl rfl rfl ?_ | refine awpL_split rfl rfl (fun h => ?_) (fun h => ?_)))
      | (with_reducible refine is_nil ?_; refine awpL_nil ?_)
      | (with_reducible refine is_then ?_; (first | refine thenQ_n ?_ | refine thenQ_r ?_ | refine thenQ_e ?_))
      | (with_reducible refine is_block ?_; (first | refine blockQ_n ?_ | refine blockQ_r ?_ | refine blockQ_e ?_ | refine blockQ_o rfl ?_))
      | (with_reducible refine is_awp ?_; (first | refine awp_seq ?_ | refine awp_ret ?_ | refine awp_skip ?_ | refine awp_exit ?_ | refine awp_label ?_ | refine awp_block ?_ | refine awp_region ?_ | refine awp_cond_t rfl (by first | with_reducible rfl | with_reducible assumption) ?_ | refine awp_cond_f rfl (by first | with_reducible rfl | with_reducible assumption) ?_ | refine awp_cond rfl (fun h => ?_) (fun h => ?_))))
    all_goals refine retP rfl ?_
    all_goals rfl
  · have c0 : (!decide (check l = 0)) = true := by simpa using hc
    refine pcalls' Try.func5 Try.ntmps5 rfl rfl rfl ?_
    repeat' (first
      | (with_reducible refine is_un ?_; first
        | (with_reducible refine is_move ?_; (first | refine awpL_ev (ev_move rfl) rfl ?_))
        | (with_reducible refine is_bin ?_; (first | refine awpL_ev (ev_add rfl rfl (by omega)) rfl ?_ | refine awpL_ev (ev_sub rfl rfl (by omega)) rfl ?_ | refine awpL_ev (ev_bin rfl rfl rfl) rfl ?_ | refine awpL_ev (ev_eq_bool rfl rfl rfl rfl) rfl ?_))
        | (with_reducible refine is_fa ?_; (first | refine awpL_ev (ev_fa_fp rfl rfl rfl rfl rfl rfl) rfl ?_ | refine awpL_ev (ev_fa_lp rfl rfl rfl rfl rfl rfl) rfl ?_ | refine awpL_ev (ev_fa_ep rfl rfl rfl rfl rfl rfl) rfl ?_))
        | (with_reducible refine is_load ?_; (first | refine awpL_ev (ev_load_agg rfl rfl rfl rfl) rfl ?_ | refine awpL_ev (ev_load_sub rfl rfl rfl rfl rfl) rfl ?_ | refine awpL_ev (ev_load_one rfl rfl rfl rfl) rfl ?_ | refine awpL_ev (ev_ll_agg rfl rfl rfl rfl rfl rfl rfl) rfl ?_ | refine awpL_ev (ev_ll_lag rfl rfl rfl rfl rfl rfl) rfl ?_ | refine awpL_ev (ev_ll_one rfl rfl rfl rfl rfl) rfl ?_ | refine awpL_ev (ev_el_one rfl rfl rfl rfl (by with_reducible assumption) rfl) rfl ?_))
        | (with_reducible refine is_pick ?_; (first | refine awpL_ev (ev_pick_t rfl (by first | with_reducible rfl | with_reducible assumption) rfl) rfl ?_ | refine awpL_ev (ev_pick_f rfl (by first | with_reducible rfl | with_reducible assumption) rfl) rfl ?_))
        | (with_reducible refine is_assign ?_; (first | refine awpL_ev (ev_assign rfl) rfl ?_))
        | (with_reducible refine is_call ?_; (first | refine awpL_call rfl rfl A rfl ?_ | refine awpL_call rfl rfl K2 rfl ?_ | refine awpL_ev (ev_len rfl rfl rfl rfl rfl) rfl ?_ | refine awpL_ev (ev_len_os rfl rfl rfl rfl rfl) rfl ?_))
        | refine awpL_ev (ev_not rfl) rfl ?_
        | refine awpL_ev (ev_ia_fs rfl rfl rfl rfl rfl rfl (by with_reducible assumption)) rfl ?_
        | refine awpL_ev (ev_ia_os rfl rfl rfl rfl rfl rfl rfl (by with_reducible assumption)) rfl ?_
        | refine awpL_ev (ev_extract rfl rfl) rfl ?_
        | refine awpL_ev (ev_index_str rfl rfl rfl rfl (by with_reducible assumption)) rfl ?_
        | refine awpL_ev (ev_build rfl rfl rfl rfl rfl rfl rfl) rfl ?_
        | refine awpL_ev (ev_build_lag rfl rfl rfl rfl rfl rfl) rfl ?_
        | refine awpL_ev (ev_slice_fs rfl rfl rfl rfl rfl rfl rfl (by with_reducible assumption) rfl rfl) rfl ?_
        | refine awpL_ev2 (ev_bslice_in rfl rfl rfl rfl rfl rfl rfl rfl rfl rfl rfl rfl (by (try simp only [List.map_cons, List.map_nil, cellsOf]); (try rfl))) rfl ?_
        | refine awpL_ev2 (ev_stb rfl rfl rfl rfl rfl rfl rfl) rfl ?_
        | refine awpL_ev2 (ev_alloc rfl rfl (by (try simp only [List.length_nil, List.length_cons, Nat.reduceAdd]); (try rfl)) (by (try simp only [List.set_cons_zero, List.set_cons_succ, List.nil_append, List.cons_append, List.append_nil, cellsOf, List.take_zero, List.drop_zero, List.take_succ_cons, List.drop_succ_cons, Nat.zero_add, Nat.reduceAdd, List.drop_nil, List.map_cons, List.map_nil]); (try rfl))) rfl ?_
        | refine awpL_ev2 (ev_box rfl rfl (by (try simp only [List.length_nil, List.length_cons, Nat.reduceAdd]); (try rfl)) (by (try simp only [List.set_cons_zero, List.set_cons_succ, List.nil_append, List.cons_append, List.append_nil, cellsOf, List.take_zero, List.drop_zero, List.take_succ_cons, List.drop_succ_cons, Nat.zero_add, Nat.reduceAdd, List.drop_nil, List.map_cons, List.map_nil]); (try rfl))) rfl ?_
        | refine awpL_evS (ev_st_lp rfl rfl rfl rfl rfl rfl rfl (by (try simp only [List.set_cons_zero, List.set_cons_succ, List.nil_append, List.cons_append, List.append_nil, cellsOf, List.take_zero, List.drop_zero, List.take_succ_cons, List.drop_succ_cons, Nat.zero_add, Nat.reduceAdd, List.drop_nil, List.map_cons, List.map_nil]); (try rfl))) ?_)
      | (with_reducible refine is_gd ?_; (first | refine awpL_run rfl rfl rfl (by first | with_reducible rfl | with_reducible assumption) ?_ | refine awpL_passT rfl rfl rfl rfl (by first | with_reducible rfl | with_reducible assumption) ?_ | refine awpL_passF rfl rfl rfl rfl (by first | with_reducible rfl | with_reducible assumption) ?_ | refine awpL_passU rfl rfl rfl rfl ?_ | refine awpL_split rfl rfl (fun h => ?_) (fun h => ?_)))
      | (with_reducible refine is_nil ?_; refine awpL_nil ?_)
      | (with_reducible refine is_then ?_; (first | refine thenQ_n ?_ | refine thenQ_r ?_ | refine thenQ_e ?_))
      | (with_reducible refine is_block ?_; (first | refine blockQ_n ?_ | refine blockQ_r ?_ | refine blockQ_e ?_ | refine blockQ_o rfl ?_))
      | (with_reducible refine is_awp ?_; (first | refine awp_seq ?_ | refine awp_ret ?_ | refine awp_skip ?_ | refine awp_exit ?_ | refine awp_label ?_ | refine awp_block ?_ | refine awp_region ?_ | refine awp_cond_t rfl (by first | with_reducible rfl | with_reducible assumption) ?_ | refine awp_cond_f rfl (by first | with_reducible rfl | with_reducible assumption) ?_ | refine awp_cond rfl (fun h => ?_) (fun h => ?_))))
    all_goals refine retP rfl ?_
    all_goals rfl

theorem law_Finds (l : List Tier) (role : Int) (name : ByteArray) (hfit : Fit l) : PCalls Try.prog [] 6 [encTs l, vi role, vs name] (vb true) := by
  have A := awake_spec
  have K2 := rCheck_spec l hfit
  by_cases hc : check l = 0
  · have c0 : (!decide (check l = 0)) = false := by simpa using hc
    have hl := check_len hc
    have B1 := role_spec l role (by omega)
    have B2 := rrole_spec l role (by omega)
    have B3 := find_spec l name (by omega)
    have B4 := rfind_spec l name (by omega)
    have c1 : decide (roleOf l role = roleOf l role) = true := by simp
    have c2 : decide (find l name = find l name) = true := by simp
    refine pcalls' Try.func6 Try.ntmps6 rfl rfl rfl ?_
    repeat' (first
      | (with_reducible refine is_un ?_; first
        | (with_reducible refine is_move ?_; (first | refine awpL_ev (ev_move rfl) rfl ?_))
        | (with_reducible refine is_bin ?_; (first | refine awpL_ev (ev_add rfl rfl (by omega)) rfl ?_ | refine awpL_ev (ev_sub rfl rfl (by omega)) rfl ?_ | refine awpL_ev (ev_bin rfl rfl rfl) rfl ?_ | refine awpL_ev (ev_eq_bool rfl rfl rfl rfl) rfl ?_))
        | (with_reducible refine is_fa ?_; (first | refine awpL_ev (ev_fa_fp rfl rfl rfl rfl rfl rfl) rfl ?_ | refine awpL_ev (ev_fa_lp rfl rfl rfl rfl rfl rfl) rfl ?_ | refine awpL_ev (ev_fa_ep rfl rfl rfl rfl rfl rfl) rfl ?_))
        | (with_reducible refine is_load ?_; (first | refine awpL_ev (ev_load_agg rfl rfl rfl rfl) rfl ?_ | refine awpL_ev (ev_load_sub rfl rfl rfl rfl rfl) rfl ?_ | refine awpL_ev (ev_load_one rfl rfl rfl rfl) rfl ?_ | refine awpL_ev (ev_ll_agg rfl rfl rfl rfl rfl rfl rfl) rfl ?_ | refine awpL_ev (ev_ll_lag rfl rfl rfl rfl rfl rfl) rfl ?_ | refine awpL_ev (ev_ll_one rfl rfl rfl rfl rfl) rfl ?_ | refine awpL_ev (ev_el_one rfl rfl rfl rfl (by with_reducible assumption) rfl) rfl ?_))
        | (with_reducible refine is_pick ?_; (first | refine awpL_ev (ev_pick_t rfl (by first | with_reducible rfl | with_reducible assumption) rfl) rfl ?_ | refine awpL_ev (ev_pick_f rfl (by first | with_reducible rfl | with_reducible assumption) rfl) rfl ?_))
        | (with_reducible refine is_assign ?_; (first | refine awpL_ev (ev_assign rfl) rfl ?_))
        | (with_reducible refine is_call ?_; (first | refine awpL_call rfl rfl A rfl ?_ | refine awpL_call rfl rfl K2 rfl ?_ | refine awpL_call rfl rfl B1 rfl ?_ | refine awpL_call rfl rfl B2 rfl ?_ | refine awpL_call rfl rfl B3 rfl ?_ | refine awpL_call rfl rfl B4 rfl ?_ | refine awpL_ev (ev_len rfl rfl rfl rfl rfl) rfl ?_ | refine awpL_ev (ev_len_os rfl rfl rfl rfl rfl) rfl ?_))
        | refine awpL_ev (ev_not rfl) rfl ?_
        | refine awpL_ev (ev_ia_fs rfl rfl rfl rfl rfl rfl (by with_reducible assumption)) rfl ?_
        | refine awpL_ev (ev_ia_os rfl rfl rfl rfl rfl rfl rfl (by with_reducible assumption)) rfl ?_
        | refine awpL_ev (ev_extract rfl rfl) rfl ?_
        | refine awpL_ev (ev_index_str rfl rfl rfl rfl (by with_reducible assumption)) rfl ?_
        | refine awpL_ev (ev_build rfl rfl rfl rfl rfl rfl rfl) rfl ?_
        | refine awpL_ev (ev_build_lag rfl rfl rfl rfl rfl rfl) rfl ?_
        | refine awpL_ev (ev_slice_fs rfl rfl rfl rfl rfl rfl rfl (by with_reducible assumption) rfl rfl) rfl ?_
        | refine awpL_ev2 (ev_bslice_in rfl rfl rfl rfl rfl rfl rfl rfl rfl rfl rfl rfl (by (try simp only [List.map_cons, List.map_nil, cellsOf]); (try rfl))) rfl ?_
        | refine awpL_ev2 (ev_stb rfl rfl rfl rfl rfl rfl rfl) rfl ?_
        | refine awpL_ev2 (ev_alloc rfl rfl (by (try simp only [List.length_nil, List.length_cons, Nat.reduceAdd]); (try rfl)) (by (try simp only [List.set_cons_zero, List.set_cons_succ, List.nil_append, List.cons_append, List.append_nil, cellsOf, List.take_zero, List.drop_zero, List.take_succ_cons, List.drop_succ_cons, Nat.zero_add, Nat.reduceAdd, List.drop_nil, List.map_cons, List.map_nil]); (try rfl))) rfl ?_
        | refine awpL_ev2 (ev_box rfl rfl (by (try simp only [List.length_nil, List.length_cons, Nat.reduceAdd]); (try rfl)) (by (try simp only [List.set_cons_zero, List.set_cons_succ, List.nil_append, List.cons_append, List.append_nil, cellsOf, List.take_zero, List.drop_zero, List.take_succ_cons, List.drop_succ_cons, Nat.zero_add, Nat.reduceAdd, List.drop_nil, List.map_cons, List.map_nil]); (try rfl))) rfl ?_
        | refine awpL_evS (ev_st_lp rfl rfl rfl rfl rfl rfl rfl (by (try simp only [List.set_cons_zero, List.set_cons_succ, List.nil_append, List.cons_append, List.append_nil, cellsOf, List.take_zero, List.drop_zero, List.take_succ_cons, List.drop_succ_cons, Nat.zero_add, Nat.reduceAdd, List.drop_nil, List.map_cons, List.map_nil]); (try rfl))) ?_)
      | (with_reducible refine is_gd ?_; (first | refine awpL_run rfl rfl rfl (by first | with_reducible rfl | with_reducible assumption) ?_ | refine awpL_passT rfl rfl rfl rfl (by first | with_reducible rfl | with_reducible assumption) ?_ | refine awpL_passF rfl rfl rfl rfl (by first | with_reducible rfl | with_reducible assumption) ?_ | refine awpL_passU rfl rfl rfl rfl ?_ | refine awpL_split rfl rfl (fun h => ?_) (fun h => ?_)))
      | (with_reducible refine is_nil ?_; refine awpL_nil ?_)
      | (with_reducible refine is_then ?_; (first | refine thenQ_n ?_ | refine thenQ_r ?_ | refine thenQ_e ?_))
      | (with_reducible refine is_block ?_; (first | refine blockQ_n ?_ | refine blockQ_r ?_ | refine blockQ_e ?_ | refine blockQ_o rfl ?_))
      | (with_reducible refine is_awp ?_; (first | refine awp_seq ?_ | refine awp_ret ?_ | refine awp_skip ?_ | refine awp_exit ?_ | refine awp_label ?_ | refine awp_block ?_ | refine awp_region ?_ | refine awp_cond_t rfl (by first | with_reducible rfl | with_reducible assumption) ?_ | refine awp_cond_f rfl (by first | with_reducible rfl | with_reducible assumption) ?_ | refine awp_cond rfl (fun h => ?_) (fun h => ?_))))
    all_goals refine retP rfl ?_
    all_goals rfl
  · have c0 : (!decide (check l = 0)) = true := by simpa using hc
    refine pcalls' Try.func6 Try.ntmps6 rfl rfl rfl ?_
    repeat' (first
      | (with_reducible refine is_un ?_; first
        | (with_reducible refine is_move ?_; (first | refine awpL_ev (ev_move rfl) rfl ?_))
        | (with_reducible refine is_bin ?_; (first | refine awpL_ev (ev_add rfl rfl (by omega)) rfl ?_ | refine awpL_ev (ev_sub rfl rfl (by omega)) rfl ?_ | refine awpL_ev (ev_bin rfl rfl rfl) rfl ?_ | refine awpL_ev (ev_eq_bool rfl rfl rfl rfl) rfl ?_))
        | (with_reducible refine is_fa ?_; (first | refine awpL_ev (ev_fa_fp rfl rfl rfl rfl rfl rfl) rfl ?_ | refine awpL_ev (ev_fa_lp rfl rfl rfl rfl rfl rfl) rfl ?_ | refine awpL_ev (ev_fa_ep rfl rfl rfl rfl rfl rfl) rfl ?_))
        | (with_reducible refine is_load ?_; (first | refine awpL_ev (ev_load_agg rfl rfl rfl rfl) rfl ?_ | refine awpL_ev (ev_load_sub rfl rfl rfl rfl rfl) rfl ?_ | refine awpL_ev (ev_load_one rfl rfl rfl rfl) rfl ?_ | refine awpL_ev (ev_ll_agg rfl rfl rfl rfl rfl rfl rfl) rfl ?_ | refine awpL_ev (ev_ll_lag rfl rfl rfl rfl rfl rfl) rfl ?_ | refine awpL_ev (ev_ll_one rfl rfl rfl rfl rfl) rfl ?_ | refine awpL_ev (ev_el_one rfl rfl rfl rfl (by with_reducible assumption) rfl) rfl ?_))
        | (with_reducible refine is_pick ?_; (first | refine awpL_ev (ev_pick_t rfl (by first | with_reducible rfl | with_reducible assumption) rfl) rfl ?_ | refine awpL_ev (ev_pick_f rfl (by first | with_reducible rfl | with_reducible assumption) rfl) rfl ?_))
        | (with_reducible refine is_assign ?_; (first | refine awpL_ev (ev_assign rfl) rfl ?_))
        | (with_reducible refine is_call ?_; (first | refine awpL_call rfl rfl A rfl ?_ | refine awpL_call rfl rfl K2 rfl ?_ | refine awpL_ev (ev_len rfl rfl rfl rfl rfl) rfl ?_ | refine awpL_ev (ev_len_os rfl rfl rfl rfl rfl) rfl ?_))
        | refine awpL_ev (ev_not rfl) rfl ?_
        | refine awpL_ev (ev_ia_fs rfl rfl rfl rfl rfl rfl (by with_reducible assumption)) rfl ?_
        | refine awpL_ev (ev_ia_os rfl rfl rfl rfl rfl rfl rfl (by with_reducible assumption)) rfl ?_
        | refine awpL_ev (ev_extract rfl rfl) rfl ?_
        | refine awpL_ev (ev_index_str rfl rfl rfl rfl (by with_reducible assumption)) rfl ?_
        | refine awpL_ev (ev_build rfl rfl rfl rfl rfl rfl rfl) rfl ?_
        | refine awpL_ev (ev_build_lag rfl rfl rfl rfl rfl rfl) rfl ?_
        | refine awpL_ev (ev_slice_fs rfl rfl rfl rfl rfl rfl rfl (by with_reducible assumption) rfl rfl) rfl ?_
        | refine awpL_ev2 (ev_bslice_in rfl rfl rfl rfl rfl rfl rfl rfl rfl rfl rfl rfl (by (try simp only [List.map_cons, List.map_nil, cellsOf]); (try rfl))) rfl ?_
        | refine awpL_ev2 (ev_stb rfl rfl rfl rfl rfl rfl rfl) rfl ?_
        | refine awpL_ev2 (ev_alloc rfl rfl (by (try simp only [List.length_nil, List.length_cons, Nat.reduceAdd]); (try rfl)) (by (try simp only [List.set_cons_zero, List.set_cons_succ, List.nil_append, List.cons_append, List.append_nil, cellsOf, List.take_zero, List.drop_zero, List.take_succ_cons, List.drop_succ_cons, Nat.zero_add, Nat.reduceAdd, List.drop_nil, List.map_cons, List.map_nil]); (try rfl))) rfl ?_
        | refine awpL_ev2 (ev_box rfl rfl (by (try simp only [List.length_nil, List.length_cons, Nat.reduceAdd]); (try rfl)) (by (try simp only [List.set_cons_zero, List.set_cons_succ, List.nil_append, List.cons_append, List.append_nil, cellsOf, List.take_zero, List.drop_zero, List.take_succ_cons, List.drop_succ_cons, Nat.zero_add, Nat.reduceAdd, List.drop_nil, List.map_cons, List.map_nil]); (try rfl))) rfl ?_
        | refine awpL_evS (ev_st_lp rfl rfl rfl rfl rfl rfl rfl (by (try simp only [List.set_cons_zero, List.set_cons_succ, List.nil_append, List.cons_append, List.append_nil, cellsOf, List.take_zero, List.drop_zero, List.take_succ_cons, List.drop_succ_cons, Nat.zero_add, Nat.reduceAdd, List.drop_nil, List.map_cons, List.map_nil]); (try rfl))) ?_)
      | (with_reducible refine is_gd ?_; (first | refine awpL_run rfl rfl rfl (by first | with_reducible rfl | with_reducible assumption) ?_ | refine awpL_passT rfl rfl rfl rfl (by first | with_reducible rfl | with_reducible assumption) ?_ | refine awpL_passF rfl rfl rfl rfl (by first | with_reducible rfl | with_reducible assumption) ?_ | refine awpL_passU rfl rfl rfl rfl ?_ | refine awpL_split rfl rfl (fun h => ?_) (fun h => ?_)))
      | (with_reducible refine is_nil ?_; refine awpL_nil ?_)
      | (with_reducible refine is_then ?_; (first | refine thenQ_n ?_ | refine thenQ_r ?_ | refine thenQ_e ?_))
      | (with_reducible refine is_block ?_; (first | refine blockQ_n ?_ | refine blockQ_r ?_ | refine blockQ_e ?_ | refine blockQ_o rfl ?_))
      | (with_reducible refine is_awp ?_; (first | refine awp_seq ?_ | refine awp_ret ?_ | refine awp_skip ?_ | refine awp_exit ?_ | refine awp_label ?_ | refine awp_block ?_ | refine awp_region ?_ | refine awp_cond_t rfl (by first | with_reducible rfl | with_reducible assumption) ?_ | refine awp_cond_f rfl (by first | with_reducible rfl | with_reducible assumption) ?_ | refine awp_cond rfl (fun h => ?_) (fun h => ?_))))
    all_goals refine retP rfl ?_
    all_goals rfl
end Go.Proofs.Ytghbllbjjfjenaa
