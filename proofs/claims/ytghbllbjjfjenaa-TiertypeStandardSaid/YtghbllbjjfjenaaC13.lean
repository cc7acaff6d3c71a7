/- The law Standard. -/
import Derived.Test.YtghbllbjjfjenaaC12
namespace Go.Proofs.Ytghbllbjjfjenaa
open Go.Ab
attribute [local irreducible] awp awpL Ev Ev2 EvS thenQ blockQ retQ PCalls OCalls awpD
set_option linter.unusedSimpArgs false
set_option linter.unusedVariables false

theorem role_std : ∀ k : Nat, 1 ≤ k → k ≤ 5 → roleOf std k = k - 1 := by
  intro k h1 h5
  match k, h1, h5 with
  | 1, _, _ => rfl
  | 2, _, _ => rfl
  | 3, _, _ => rfl
  | 4, _, _ => rfl
  | 5, _, _ => rfl
  | k + 6, _, h => omega

theorem law_Standard : PCalls Try.prog [] 7 [] (vb true) := by
  have A := awake_spec
  have B1 := Standard_spec
  have B2 := rStandard_spec
  have B3 := rsame_spec std std (by decide)
  rw [show decide (std = std) = true by simp] at B3
  refine pcalls' Try.func7 Try.ntmps7 rfl rfl rfl ?_
  repeat' (first
    | (with_reducible refine is_un ?_; first
      | (with_reducible refine is_move ?_; (first | refine awpL_ev (ev_move rfl) rfl ?_))
      | (with_reducible refine is_bin ?_; (first | refine awpL_ev (ev_add rfl rfl (by omega)) rfl ?_ | refine awpL_ev (ev_sub rfl rfl (by omega)) rfl ?_ | refine awpL_ev (ev_bin rfl rfl rfl) rfl ?_ | refine awpL_ev (ev_eq_bool rfl rfl rfl rfl) rfl ?_))
      | (with_reducible refine is_fa ?_; (first | refine awpL_ev (ev_fa_fp rfl rfl rfl rfl rfl rfl) rfl ?_ | refine awpL_ev (ev_fa_lp rfl rfl rfl rfl rfl rfl) rfl ?_ | refine awpL_ev (ev_fa_ep rfl rfl rfl rfl rfl rfl) rfl ?_))
      | (with_reducible refine is_load ?_; (first | refine awpL_ev (ev_load_agg rfl rfl rfl rfl) rfl ?_ | refine awpL_ev (ev_load_sub rfl rfl rfl rfl rfl) rfl ?_ | refine awpL_ev (ev_load_one rfl rfl rfl rfl) rfl ?_ | refine awpL_ev (ev_ll_agg rfl rfl rfl rfl rfl rfl rfl) rfl ?_ | refine awpL_ev (ev_ll_lag rfl rfl rfl rfl rfl rfl) rfl ?_ | refine awpL_ev (ev_ll_one rfl rfl rfl rfl rfl) rfl ?_ | refine awpL_ev (ev_el_one rfl rfl rfl rfl (by with_reducible assumption) rfl) rfl ?_))
      | (with_reducible refine is_pick ?_; (first | refine awpL_ev (ev_pick_t rfl (by first | with_reducible rfl | with_reducible assumption) rfl) rfl ?_ | refine awpL_ev (ev_pick_f rfl (by first | with_reducible rfl | with_reducible assumption) rfl) rfl ?_))
      | (with_reducible refine is_assign ?_; (first | refine awpL_ev (ev_assign rfl) rfl ?_))
      | (with_reducible refine is_call ?_; (first | refine awpL_call rfl rfl B1 rfl ?_ | refine awpL_ev (ev_len rfl rfl rfl rfl rfl) rfl ?_ | refine awpL_ev (ev_len_os rfl rfl rfl rfl rfl) rfl ?_))
      | refine awpL_ev (ev_not rfl) rfl ?_
      | refine awpL_ev (ev_ia_fs rfl rfl rfl rfl rfl rfl (by with_reducible assumption)) rfl ?_
      | refine awpL_ev (ev_ia_os rfl rfl rfl rfl rfl rfl rfl (by with_reducible assumption)) rfl ?_
      | refine awpL_ev (ev_extract rfl rfl) rfl ?_
      | refine awpL_ev (ev_index_str rfl rfl rfl rfl (by with_reducible assumption)) rfl ?_
      | refine awpL_ev (ev_build rfl rfl rfl rfl rfl rfl rfl) rfl ?_
      | refine awpL_ev (ev_build_lag rfl rfl rfl rfl rfl rfl) rfl ?_
      | refine awpL_ev (ev_slice_fs rfl rfl rfl rfl rfl rfl rfl (by with_reducible assumption) rfl rfl) rfl ?_
      | refine awpL_ev2 (ev_bslice_in rfl rfl rfl rfl rfl rfl rfl rfl rfl rfl rfl rfl (by (try simp only [List.map_cons, List.map_nil, cellsOf]); (try rfl))) rfl ?_
      | refine awpL_ev2 (ev_stb rfl rfl rfl rfl rfl rfl rfl) rfl ?_
      | refine awpL_ev2 (ev_alloc rfl rfl (by (try simp only [List.length_nil, List.length_cons, Nat.reduceAdd]); (try rfl)) (by (try simp only [List.set_cons_zero, List.set_cons_succ, List.nil_append, List.cons_append, List.append_nil, cellsOf, List.take_zero, List.drop_zero, List.take_succ_cons, List.drop_succ_cons, Nat.zero_add, Nat.reduceAdd, List.drop_nil, List.map_cons, List.map_nil]); (try rfl))) rfl ?_
      | refine awpL_ev2 (ev_box rfl rfl (by (try simp only [List.length_nil, List.length_cons, Nat.reduceAdd]); (try rfl)) (by (try simp only [List.set_cons_zero, List.set_cons_succ, List.nil_append, List.cons_append, List.append_nil, cellsOf, List.take_zero, List.drop_zero, List.take_succ_cons, List.drop_succ_cons, Nat.zero_add, Nat.reduceAdd, List.drop_nil, List.map_cons, List.map_nil]); (try rfl))) rfl ?_
      | refine awpL_evS (ev_st_lp rfl rfl rfl rfl rfl rfl rfl (by (try simp only [List.set_cons_zero, List.set_cons_succ, List.nil_append, List.cons_append, List.append_nil, cellsOf, List.take_zero, List.drop_zero, List.take_succ_cons, List.drop_succ_cons, Nat.zero_add, Nat.reduceAdd, List.drop_nil, List.map_cons, List.map_nil]); (try rfl))) ?_)
    | (with_reducible refine is_gd ?_; (first | refine awpL_run rfl rfl rfl (by first | with_reducible rfl | with_reducible assumption) ?_ | refine awpL_passT rfl rfl rfl rfl (by first | with_reducible rfl | with_reducible assumption) ?_ | refine awpL_passF rfl rfl rfl rfl (by first | with_reducible rfl | with_reducible assumption) ?_ | refine awpL_passU rfl rfl rfl rfl ?_ | refine awpL_split rfl rfl (fun h => ?_) (fun h => ?_)))
    | (with_reducible refine is_nil ?_; refine awpL_nil ?_)
    | (with_reducible refine is_then ?_; (first | refine thenQ_n ?_ | refine thenQ_r ?_ | refine thenQ_e ?_))
    | (with_reducible refine is_block ?_; (first | refine blockQ_n ?_ | refine blockQ_r ?_ | refine blockQ_e ?_ | refine blockQ_o rfl ?_))
    | (with_reducible refine is_awp ?_; (first | refine awp_seq ?_ | refine awp_ret ?_ | refine awp_skip ?_ | refine awp_exit ?_ | refine awp_label ?_ | refine awp_block ?_ | refine awp_region ?_ | refine awp_cond_t rfl (by first | with_reducible rfl | with_reducible assumption) ?_ | refine awp_cond_f rfl (by first | with_reducible rfl | with_reducible assumption) ?_ | refine awp_cond rfl (fun h => ?_) (fun h => ?_))))
  refine awp_for (α := Nat) 0 (fun k => [(1, encTs std), (2, vi k)]) (fun _ => []) (fun k => 1 ≤ k ∧ k ≤ 6) (fun k => 6 - k) 1
    ⟨(.cons rfl rfl (.cons rfl rfl .nil)), rfl, rfl, rfl⟩ ⟨Nat.le_refl _, by omega⟩ ?_
  rintro k ⟨h1, h6⟩
  by_cases hk : k ≤ 5
  · have c1 : decide ((k : Int) ≤ 5) = true := by simp; omega
    have B := role_spec std k (by decide)
    rw [role_std k h1 hk] at B
    have c2 : (!decide ((k : Int) - 1 = k - 1)) = false := by simp
    repeat' (first
      | (with_reducible refine is_un ?_; first
        | (with_reducible refine is_move ?_; (first | refine awpL_ev (ev_move rfl) rfl ?_))
        | (with_reducible refine is_bin ?_; (first | refine awpL_ev (ev_add rfl rfl (by omega)) rfl ?_ | refine awpL_ev (ev_sub rfl rfl (by omega)) rfl ?_ | refine awpL_ev (ev_bin rfl rfl rfl) rfl ?_ | refine awpL_ev (ev_eq_bool rfl rfl rfl rfl) rfl ?_))
        | (with_reducible refine is_fa ?_; (first | refine awpL_ev (ev_fa_fp rfl rfl rfl rfl rfl rfl) rfl ?_ | refine awpL_ev (ev_fa_lp rfl rfl rfl rfl rfl rfl) rfl ?_ | refine awpL_ev (ev_fa_ep rfl rfl rfl rfl rfl rfl) rfl ?_))
        | (with_reducible refine is_load ?_; (first | refine awpL_ev (ev_load_agg rfl rfl rfl rfl) rfl ?_ | refine awpL_ev (ev_load_sub rfl rfl rfl rfl rfl) rfl ?_ | refine awpL_ev (ev_load_one rfl rfl rfl rfl) rfl ?_ | refine awpL_ev (ev_ll_agg rfl rfl rfl rfl rfl rfl rfl) rfl ?_ | refine awpL_ev (ev_ll_lag rfl rfl rfl rfl rfl rfl) rfl ?_ | refine awpL_ev (ev_ll_one rfl rfl rfl rfl rfl) rfl ?_ | refine awpL_ev (ev_el_one rfl rfl rfl rfl (by with_reducible assumption) rfl) rfl ?_))
        | (with_reducible refine is_pick ?_; (first | refine awpL_ev (ev_pick_t rfl (by first | with_reducible rfl | with_reducible assumption) rfl) rfl ?_ | refine awpL_ev (ev_pick_f rfl (by first | with_reducible rfl | with_reducible assumption) rfl) rfl ?_))
        | (with_reducible refine is_assign ?_; (first | refine awpL_ev (ev_assign rfl) rfl ?_))
        | (with_reducible refine is_call ?_; (first | refine awpL_call rfl rfl B rfl ?_ | refine awpL_ev (ev_len rfl rfl rfl rfl rfl) rfl ?_ | refine awpL_ev (ev_len_os rfl rfl rfl rfl rfl) rfl ?_))
        | refine awpL_ev (ev_not rfl) rfl ?_
        | refine awpL_ev (ev_ia_fs rfl rfl rfl rfl rfl rfl (by with_reducible assumption)) rfl ?_
        | refine awpL_ev (ev_ia_os rfl rfl rfl rfl rfl rfl rfl (by with_reducible assumption)) rfl ?_
        | refine awpL_ev (ev_extract rfl rfl) rfl ?_
        | refine awpL_ev (ev_index_str rfl rfl rfl rfl (by with_reducible assumption)) rfl ?_
        | refine awpL_ev (ev_build rfl rfl rfl rfl rfl rfl rfl) rfl ?_
        | refine awpL_ev (ev_build_lag rfl rfl rfl rfl rfl rfl) rfl ?_
        | refine awpL_ev (ev_slice_fs rfl rfl rfl rfl rfl rfl rfl (by with_reducible assumption) rfl rfl) rfl ?_
        | refine awpL_ev2 (ev_bslice_in rfl rfl rfl rfl rfl rfl rfl rfl rfl rfl rfl rfl (by (try simp only [List.map_cons, List.map_nil, cellsOf]); (try rfl))) rfl ?_
        | refine awpL_ev2 (ev_stb rfl rfl rfl rfl rfl rfl rfl) rfl ?_
        | refine awpL_ev2 (ev_alloc rfl rfl (by (try simp only [List.length_nil, List.length_cons, Nat.reduceAdd]); (try rfl)) (by (try simp only [List.set_cons_zero, List.set_cons_succ, List.nil_append, List.cons_append, List.append_nil, cellsOf, List.take_zero, List.drop_zero, List.take_succ_cons, List.drop_succ_cons, Nat.zero_add, Nat.reduceAdd, List.drop_nil, List.map_cons, List.map_nil]); (try rfl))) rfl ?_
        | refine awpL_ev2 (ev_box rfl rfl (by (try simp only [List.length_nil, List.length_cons, Nat.reduceAdd]); (try rfl)) (by (try simp only [List.set_cons_zero, List.set_cons_succ, List.nil_append, List.cons_append, List.append_nil, cellsOf, List.take_zero, List.drop_zero, List.take_succ_cons, List.drop_succ_cons, Nat.zero_add, Nat.reduceAdd, List.drop_nil, List.map_cons, List.map_nil]); (try rfl))) rfl ?_
        | refine awpL_evS (ev_st_lp rfl rfl rfl rfl rfl rfl rfl (by (try simp only [List.set_cons_zero, List.set_cons_succ, List.nil_append, List.cons_append, List.append_nil, cellsOf, List.take_zero, List.drop_zero, List.take_succ_cons, List.drop_succ_cons, Nat.zero_add, Nat.reduceAdd, List.drop_nil, List.map_cons, List.map_nil]); (try rfl))) ?_)
      | (with_reducible refine is_gd ?_; (first | refine awpL_run rfl rfl rfl (by first | with_reducible rfl | with_reducible assumption) ?_ | refine awpL_passT rfl rfl rfl rfl (by first | with_reducible rfl | with_reducible assumption) ?_ | refine awpL_passF rfl rfl rfl rfl (by first | with_reducible rfl | with_reducible assumption) ?_ | refine awpL_passU rfl rfl rfl rfl ?_ | refine awpL_split rfl rfl (fun h => ?_) (fun h => ?_)))
      | (with_reducible refine is_nil ?_; refine awpL_nil ?_)
      | (with_reducible refine is_then ?_; (first | refine thenQ_n ?_ | refine thenQ_r ?_ | refine thenQ_e ?_))
      | (with_reducible refine is_block ?_; (first | refine blockQ_n ?_ | refine blockQ_r ?_ | refine blockQ_e ?_ | refine blockQ_o rfl ?_))
      | (with_reducible refine is_awp ?_; (first | refine awp_seq ?_ | refine awp_ret ?_ | refine awp_skip ?_ | refine awp_exit ?_ | refine awp_label ?_ | refine awp_block ?_ | refine awp_region ?_ | refine awp_cond_t rfl (by first | with_reducible rfl | with_reducible assumption) ?_ | refine awp_cond_f rfl (by first | with_reducible rfl | with_reducible assumption) ?_ | refine awp_cond rfl (fun h => ?_) (fun h => ?_))))
    exact ⟨k + 1, ⟨(.cons rfl rfl (.cons rfl rfl .nil)), rfl, rfl, rfl⟩, ⟨by omega, by omega⟩, by omega⟩
  · have c1 : decide ((k : Int) ≤ 5) = false := by simp; omega
    repeat' (first
      | (with_reducible refine is_un ?_; first
        | (with_reducible refine is_move ?_; (first | refine awpL_ev (ev_move rfl) rfl ?_))
        | (with_reducible refine is_bin ?_; (first | refine awpL_ev (ev_add rfl rfl (by omega)) rfl ?_ | refine awpL_ev (ev_sub rfl rfl (by omega)) rfl ?_ | refine awpL_ev (ev_bin rfl rfl rfl) rfl ?_ | refine awpL_ev (ev_eq_bool rfl rfl rfl rfl) rfl ?_))
        | (with_reducible refine is_fa ?_; (first | refine awpL_ev (ev_fa_fp rfl rfl rfl rfl rfl rfl) rfl ?_ | refine awpL_ev (ev_fa_lp rfl rfl rfl rfl rfl rfl) rfl ?_ | refine awpL_ev (ev_fa_ep rfl rfl rfl rfl rfl rfl) rfl ?_))
        | (with_reducible refine is_load ?_; (first | refine awpL_ev (ev_load_agg rfl rfl rfl rfl) rfl ?_ | refine awpL_ev (ev_load_sub rfl rfl rfl rfl rfl) rfl ?_ | refine awpL_ev (ev_load_one rfl rfl rfl rfl) rfl ?_ | refine awpL_ev (ev_ll_agg rfl rfl rfl rfl rfl rfl rfl) rfl ?_ | refine awpL_ev (ev_ll_lag rfl rfl rfl rfl rfl rfl) rfl ?_ | refine awpL_ev (ev_ll_one rfl rfl rfl rfl rfl) rfl ?_ | refine awpL_ev (ev_el_one rfl rfl rfl rfl (by with_reducible assumption) rfl) rfl ?_))
        | (with_reducible refine is_pick ?_; (first | refine awpL_ev (ev_pick_t rfl (by first | with_reducible rfl | with_reducible assumption) rfl) rfl ?_ | refine awpL_ev (ev_pick_f rfl (by first | with_reducible rfl | with_reducible assumption) rfl) rfl ?_))
        | (with_reducible refine is_assign ?_; (first | refine awpL_ev (ev_assign rfl) rfl ?_))
        | (with_reducible refine is_call ?_; (first | refine awpL_call rfl rfl A rfl ?_ | refine awpL_call rfl rfl B2 rfl ?_ | refine awpL_call rfl rfl B3 rfl ?_ | refine awpL_ev (ev_len rfl rfl rfl rfl rfl) rfl ?_ | refine awpL_ev (ev_len_os rfl rfl rfl rfl rfl) rfl ?_))
        | refine awpL_ev (ev_not rfl) rfl ?_
        | refine awpL_ev (ev_ia_fs rfl rfl rfl rfl rfl rfl (by with_reducible assumption)) rfl ?_
        | refine awpL_ev (ev_ia_os rfl rfl rfl rfl rfl rfl rfl (by with_reducible assumption)) rfl ?_
        | refine awpL_ev (ev_extract rfl rfl) rfl ?_
        | refine awpL_ev (ev_index_str rfl rfl rfl rfl (by with_reducible assumption)) rfl ?_
        | refine awpL_ev (ev_build rfl rfl rfl rfl rfl rfl rfl) rfl ?_
        | refine awpL_ev (ev_build_lag rfl rfl rfl rfl rfl rfl) rfl ?_
        | refine awpL_ev (ev_slice_fs rfl rfl rfl rfl rfl rfl rfl (by with_reducible assumption) rfl rfl) rfl ?_
        | refine awpL_ev2 (ev_bslice_in rfl rfl rfl rfl rfl rfl rfl rfl rfl rfl rfl rfl (by (try simp only [List.map_cons, List.map_nil, cellsOf]); (try rfl))) rfl ?_
        | refine awpL_ev2 (ev_stb rfl rfl rfl rfl rfl rfl rfl) rfl ?_
        | refine awpL_ev2 (ev_alloc rfl rfl (by (try simp only [List.length_nil, List.length_cons, Nat.reduceAdd]); (try rfl)) (by (try simp only [List.set_cons_zero, List.set_cons_succ, List.nil_append, List.cons_append, List.append_nil, cellsOf, List.take_zero, List.drop_zero, List.take_succ_cons, List.drop_succ_cons, Nat.zero_add, Nat.reduceAdd, List.drop_nil, List.map_cons, List.map_nil]); (try rfl))) rfl ?_
        | refine awpL_ev2 (ev_box rfl rfl (by (try simp only [List.length_nil, List.length_cons, Nat.reduceAdd]); (try rfl)) (by (try simp only [List.set_cons_zero, List.set_cons_succ, List.nil_append, List.cons_append, List.append_nil, cellsOf, List.take_zero, List.drop_zero, List.take_succ_cons, List.drop_succ_cons, Nat.zero_add, Nat.reduceAdd, List.drop_nil, List.map_cons, List.map_nil]); (try rfl))) rfl ?_
        | refine awpL_evS (ev_st_lp rfl rfl rfl rfl rfl rfl rfl (by (try simp only [List.set_cons_zero, List.set_cons_succ, List.nil_append, List.cons_append, List.append_nil, cellsOf, List.take_zero, List.drop_zero, List.take_succ_cons, List.drop_succ_cons, Nat.zero_add, Nat.reduceAdd, List.drop_nil, List.map_cons, List.map_nil]); (try rfl))) ?_)
      | (with_reducible refine is_gd ?_; (first | refine awpL_run rfl rfl rfl (by first | with_reducible rfl | with_reducible assumption) ?_ | refine awpL_passT rfl rfl rfl rfl (by first | with_reducible rfl | with_reducible assumption) ?_ | refine awpL_passF rfl rfl rfl rfl (by first | with_reducible rfl | with_reducible assumption) ?_ | refine awpL_passU rfl rfl rfl rfl ?_ | refine awpL_split rfl rfl (fun h => ?_) (fun h => ?_)))
      | (with_reducible refine is_nil ?_; refine awpL_nil ?_)
      | (with_reducible refine is_then ?_; (first | refine thenQ_n ?_ | refine thenQ_r ?_ | refine thenQ_e ?_))
      | (with_reducible refine is_block ?_; (first | refine blockQ_n ?_ | refine blockQ_r ?_ | refine blockQ_e ?_ | refine blockQ_o rfl ?_))
      | (with_reducible refine is_awp ?_; (first | refine awp_seq ?_ | refine awp_ret ?_ | refine awp_skip ?_ | refine awp_exit ?_ | refine awp_label ?_ | refine awp_block ?_ | refine awp_region ?_ | refine awp_cond_t rfl (by first | with_reducible rfl | with_reducible assumption) ?_ | refine awp_cond_f rfl (by first | with_reducible rfl | with_reducible assumption) ?_ | refine awp_cond rfl (fun h => ?_) (fun h => ?_))))
    all_goals refine retP rfl ?_
    all_goals rfl
end Go.Proofs.Ytghbllbjjfjenaa
