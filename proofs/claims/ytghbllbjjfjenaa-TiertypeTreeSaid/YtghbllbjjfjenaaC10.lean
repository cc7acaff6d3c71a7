/- The examples of the chapter. -/
import Derived.Test.YtghbllbjjfjenaaC9
namespace Go.Proofs.Ytghbllbjjfjenaa
open Go.Ab
attribute [local irreducible] awp awpL Ev Ev2 EvS thenQ blockQ retQ PCalls OCalls awpD
set_option linter.unusedSimpArgs false
set_option linter.unusedVariables false

def bad : List Tier := [⟨⟨#[116, 101, 120, 116]⟩, 0, 1, -1⟩, ⟨⟨#[119, 111, 114, 100]⟩, 2, 2, 0⟩, ⟨⟨#[103, 108, 111, 115, 115]⟩, 4, 4, 1⟩]
theorem std_down : Down std := by
  intro k t h
  match k, h with
  | 0, h => injection h with h; subst h; decide
  | 1, h => injection h with h; subst h; decide
  | 2, h => injection h with h; subst h; decide
  | 3, h => injection h with h; subst h; decide
  | 4, h => injection h with h; subst h; decide
  | k + 5, h => simp [std] at h

set_option maxHeartbeats 2000000 in
theorem awake_spec : PCalls Try.prog [] 11 [] (vb true) := by
  have A1 := Standard_spec
  have A2 : PCalls Try.prog [] 12 [encTs std] (vi 0) := by have := Check_spec std; rwa [show check std = 0 by kernel_rfl] at this
  have A3 : PCalls Try.prog [] 19 [encTs std, vi 3] (encIs [3, 2, 1, 0]) := by have := Path_spec std 3 (by decide) std_down; rwa [show path std 3 = [3, 2, 1, 0] by kernel_rfl] at this
  have A4 : PCalls Try.prog [] 16 [encIs [3, 2, 1, 0], encIs [3, 2, 1, 0]] (vb true) := by have := same_spec [3, 2, 1, 0] [3, 2, 1, 0] (by decide); rwa [show decide (([3, 2, 1, 0] : List Int) = [3, 2, 1, 0]) = true by decide] at this
  have A5 : PCalls Try.prog [] 12 [encTs bad] (vi 13) := by have := Check_spec bad; rwa [show check bad = 13 by kernel_rfl] at this
  have A6 : PCalls Try.prog [] 17 [encTs std, vi 0] (encIs [1, 4]) := by have := Kids_spec std 0 (by decide); rwa [show kids std 0 = [1, 4] by kernel_rfl] at this
  have A7 : PCalls Try.prog [] 16 [encIs [1, 4], encIs [1, 4]] (vb true) := by have := same_spec [1, 4] [1, 4] (by decide); rwa [show decide (([1, 4] : List Int) = [1, 4]) = true by decide] at this
  have A8 : PCalls Try.prog [] 14 [encTs std, vi 1] (vb true) := by have := Aligned_spec std 1; rwa [show alignedAt std 1 = true by kernel_rfl] at this
  have A9 : PCalls Try.prog [] 14 [encTs std, vi 2] (vb false) := by have := Aligned_spec std 2; rwa [show alignedAt std 2 = false by kernel_rfl] at this
  have A10 : PCalls Try.prog [] 21 [encTs std, vi 3, vi 0] (vb true) := by have := Above_spec std 3 0 (by decide) std_down; rwa [show above std 3 0 = true by kernel_rfl] at this
  have A11 : PCalls Try.prog [] 21 [encTs std, vi 0, vi 0] (vb false) := by have := Above_spec std 0 0 (by decide) std_down; rwa [show above std 0 0 = false by kernel_rfl] at this
  have A12 : PCalls Try.prog [] 23 [encTs std, vi 5] (vi 4) := by have := role_spec std 5 (by decide); rwa [show roleOf std 5 = 4 by kernel_rfl] at this
  have A13 : PCalls Try.prog [] 25 [encTs std, vs ⟨#[109, 111, 114, 112, 104]⟩] (vi 2) := by have := find_spec std ⟨#[109, 111, 114, 112, 104]⟩ (by decide); rwa [show find std ⟨#[109, 111, 114, 112, 104]⟩ = 2 by kernel_rfl] at this
  have A14 : PCalls Try.prog [] 23 [encTs std, vi 0] (vi (-1)) := by have := role_spec std 0 (by decide); rwa [show roleOf std 0 = -1 by kernel_rfl] at this
  have c0 : (!decide ((std.length : Int) = 5)) = false := rfl
  have c1 : (!decide ((0 : Int) = 0)) = false := rfl
  have c2 : (!true) = false := rfl
  have c3 : decide ((13 : Int) = 13) = true := rfl
  have c4 : (!false) = true := rfl
  have c5 : decide ((4 : Int) = 4) = true := rfl
  have c6 : decide ((2 : Int) = 2) = true := rfl
  have c7 : decide ((-1 : Int) = -1) = true := rfl
  have g0 : 0 ≤ (0 : Int) ∧ (std.map encT)[(0 : Int).toNat]? = some (encT ⟨⟨#[116, 101, 120, 116]⟩, 0, 1, -1⟩) := ⟨by decide, rfl⟩
  have g1 : 0 ≤ (1 : Int) ∧ (std.map encT)[(1 : Int).toNat]? = some (encT ⟨⟨#[119, 111, 114, 100]⟩, 2, 2, 0⟩) := ⟨by decide, rfl⟩
  refine pcalls' Try.func11 Try.ntmps11 rfl rfl rfl ?_
  repeat' (first
    | (with_reducible refine is_un ?_; first
      | (with_reducible refine is_move ?_; (first | refine awpL_ev (ev_move rfl) rfl ?_))
      | (with_reducible refine is_bin ?_; (first | refine awpL_ev (ev_add rfl rfl (by omega)) rfl ?_ | refine awpL_ev (ev_sub rfl rfl (by omega)) rfl ?_ | refine awpL_ev (ev_bin rfl rfl rfl) rfl ?_ | refine awpL_ev (ev_eq_bool rfl rfl rfl rfl) rfl ?_))
      | (with_reducible refine is_fa ?_; (first | refine awpL_ev (ev_fa_fp rfl rfl rfl rfl rfl rfl) rfl ?_ | refine awpL_ev (ev_fa_lp rfl rfl rfl rfl rfl rfl) rfl ?_ | refine awpL_ev (ev_fa_ep rfl rfl rfl rfl rfl rfl) rfl ?_))
      | (with_reducible refine is_load ?_; (first | refine awpL_ev (ev_load_agg rfl rfl rfl rfl) rfl ?_ | refine awpL_ev (ev_load_sub rfl rfl rfl rfl rfl) rfl ?_ | refine awpL_ev (ev_load_one rfl rfl rfl rfl) rfl ?_ | refine awpL_ev (ev_ll_agg rfl rfl rfl rfl rfl rfl rfl) rfl ?_ | refine awpL_ev (ev_ll_lag rfl rfl rfl rfl rfl rfl) rfl ?_ | refine awpL_ev (ev_ll_one rfl rfl rfl rfl rfl) rfl ?_ | refine awpL_ev (ev_el_one rfl rfl rfl rfl (by with_reducible assumption) rfl) rfl ?_))
      | (with_reducible refine is_pick ?_; (first | refine awpL_ev (ev_pick_t rfl (by first | with_reducible rfl | with_reducible assumption) rfl) rfl ?_ | refine awpL_ev (ev_pick_f rfl (by first | with_reducible rfl | with_reducible assumption) rfl) rfl ?_))
      | (with_reducible refine is_assign ?_; (first | refine awpL_ev (ev_assign rfl) rfl ?_))
      | (with_reducible refine is_call ?_; (first | refine awpL_call rfl rfl A1 rfl ?_ | refine awpL_call rfl rfl A2 rfl ?_ | refine awpL_call rfl rfl A3 rfl ?_ | refine awpL_call rfl rfl A4 rfl ?_ | refine awpL_call rfl rfl A5 rfl ?_ | refine awpL_call rfl rfl A6 rfl ?_ | refine awpL_call rfl rfl A7 rfl ?_ | refine awpL_call rfl rfl A8 rfl ?_ | refine awpL_call rfl rfl A9 rfl ?_ | refine awpL_call rfl rfl A10 rfl ?_ | refine awpL_call rfl rfl A11 rfl ?_ | refine awpL_call rfl rfl A12 rfl ?_ | refine awpL_call rfl rfl A13 rfl ?_ | refine awpL_call rfl rfl A14 rfl ?_ | refine awpL_ev (ev_len rfl rfl rfl rfl rfl) rfl ?_ | refine awpL_ev (ev_len_os rfl rfl rfl rfl rfl) rfl ?_))
      | refine awpL_ev (ev_not rfl) rfl ?_
      | refine awpL_ev (ev_ia_fs rfl rfl rfl rfl rfl rfl (by with_reducible assumption)) rfl ?_
      | refine awpL_ev (ev_ia_os rfl rfl rfl rfl rfl rfl rfl (by with_reducible assumption)) rfl ?_
      | refine awpL_ev (ev_extract rfl rfl) rfl ?_
      | refine awpL_ev (ev_index_str rfl rfl rfl rfl (by with_reducible assumption)) rfl ?_
      | refine awpL_ev (ev_build rfl rfl rfl rfl rfl rfl rfl) rfl ?_
      | refine awpL_ev (ev_build_lag rfl rfl rfl rfl rfl rfl) rfl ?_
      | refine awpL_ev (ev_slice_fs rfl rfl rfl rfl rfl rfl rfl (by with_reducible assumption) rfl rfl) rfl ?_
      | refine awpL_ev2 (ev_bslice_in rfl rfl rfl rfl rfl rfl rfl rfl rfl rfl rfl rfl (by (try simp only [List.map_cons, List.map_nil, cellsOf]); (try rfl))) rfl ?_
      | refine awpL_ev2 (ev_stb rfl rfl rfl rfl rfl rfl rfl) rfl ?_
      | refine awpL_ev2 (ev_alloc rfl rfl (by (try simp only [List.length_nil, List.length_cons, Nat.reduceAdd]); (try rfl)) (by (try simp only [List.set_cons_zero, List.set_cons_succ, List.nil_append, List.cons_append, List.append_nil, cellsOf, List.take_zero, List.drop_zero, List.take_succ_cons, List.drop_succ_cons, Nat.zero_add, Nat.reduceAdd, List.drop_nil, List.map_cons, List.map_nil]); (try rfl))) rfl ?_
      | refine awpL_ev2 (ev_box rfl rfl (by (try simp only [List.length_nil, List.length_cons, Nat.reduceAdd]); (try rfl)) (by (try simp only [List.set_cons_zero, List.set_cons_succ, List.nil_append, List.cons_append, List.append_nil, cellsOf, List.take_zero, List.drop_zero, List.take_succ_cons, List.drop_succ_cons, Nat.zero_add, Nat.reduceAdd, List.drop_nil, List.map_cons, List.map_nil]); (try rfl))) rfl ?_
      | refine awpL_evS (ev_st_lp rfl rfl rfl rfl rfl rfl rfl (by (try simp only [List.set_cons_zero, List.set_cons_succ, List.nil_append, List.cons_append, List.append_nil, cellsOf, List.take_zero, List.drop_zero, List.take_succ_cons, List.drop_succ_cons, Nat.zero_add, Nat.reduceAdd, List.drop_nil, List.map_cons, List.map_nil]); (try rfl))) ?_)
    | (with_reducible refine is_gd ?_; (first | refine awpL_run rfl rfl rfl (by first | with_reducible rfl | with_reducible assumption) ?_ | refine awpL_passT rfl rfl rfl rfl (by first | with_reducible rfl | with_reducible assumption) ?_ | refine awpL_passF rfl rfl rfl rfl (by first | with_reducible rfl | with_reducible assumption) ?_ | refine awpL_passU rfl rfl rfl rfl ?_ | refine awpL_split rfl rfl (fun h => ?_) (fun h => ?_)))
    | (with_reducible refine is_nil ?_; refine awpL_nil ?_)
    | (with_reducible refine is_then ?_; (first | refine thenQ_n ?_ | refine thenQ_r ?_ | refine thenQ_e ?_))
    | (with_reducible refine is_block ?_; (first | refine blockQ_n ?_ | refine blockQ_r ?_ | refine blockQ_e ?_ | refine blockQ_o rfl ?_))
    | (with_reducible refine is_draw ?_; refine awp_draw (Sb := [(1, _)]) (by kernel_rfl) rfl (.cons rfl rfl .nil) rfl ?_
       repeat' (first
         | (with_reducible refine isD_un ?_; first
           | (with_reducible refine isD_move ?_; (first | refine awpD_ev (ev_move rfl) (awpDn (by (try simp only [List.nil_append, List.cons_append]); (try rfl)) ?_)))
           | (with_reducible refine isD_bin ?_; (first | refine awpD_ev (ev_add rfl rfl (by omega)) (awpDn (by (try simp only [List.nil_append, List.cons_append]); (try rfl)) ?_) | refine awpD_ev (ev_sub rfl rfl (by omega)) (awpDn (by (try simp only [List.nil_append, List.cons_append]); (try rfl)) ?_) | refine awpD_ev (ev_bin rfl rfl rfl) (awpDn (by (try simp only [List.nil_append, List.cons_append]); (try rfl)) ?_) | refine awpD_ev (ev_eq_bool rfl rfl rfl rfl) (awpDn (by (try simp only [List.nil_append, List.cons_append]); (try rfl)) ?_)))
           | (with_reducible refine isD_fa ?_; (first | refine awpD_ev (ev_fa_fp rfl rfl rfl rfl rfl rfl) (awpDn (by (try simp only [List.nil_append, List.cons_append]); (try rfl)) ?_) | refine awpD_ev (ev_fa_lp rfl rfl rfl rfl rfl rfl) (awpDn (by (try simp only [List.nil_append, List.cons_append]); (try rfl)) ?_) | refine awpD_ev (ev_fa_ep rfl rfl rfl rfl rfl rfl) (awpDn (by (try simp only [List.nil_append, List.cons_append]); (try rfl)) ?_)))
           | (with_reducible refine isD_load ?_; (first | refine awpD_ev (ev_load_agg rfl rfl rfl rfl) (awpDn (by (try simp only [List.nil_append, List.cons_append]); (try rfl)) ?_) | refine awpD_ev (ev_load_sub rfl rfl rfl rfl rfl) (awpDn (by (try simp only [List.nil_append, List.cons_append]); (try rfl)) ?_) | refine awpD_ev (ev_load_one rfl rfl rfl rfl) (awpDn (by (try simp only [List.nil_append, List.cons_append]); (try rfl)) ?_) | refine awpD_ev (ev_ll_agg rfl rfl rfl rfl rfl rfl rfl) (awpDn (by (try simp only [List.nil_append, List.cons_append]); (try rfl)) ?_) | refine awpD_ev (ev_ll_lag rfl rfl rfl rfl rfl rfl) (awpDn (by (try simp only [List.nil_append, List.cons_append]); (try rfl)) ?_) | refine awpD_ev (ev_ll_one rfl rfl rfl rfl rfl) (awpDn (by (try simp only [List.nil_append, List.cons_append]); (try rfl)) ?_) | refine awpD_ev (ev_el_one rfl rfl rfl rfl (by with_reducible assumption) rfl) (awpDn (by (try simp only [List.nil_append, List.cons_append]); (try rfl)) ?_)))
           | (with_reducible refine isD_pick ?_; (first | refine awpD_ev (ev_pick_t rfl (by first | with_reducible rfl | with_reducible assumption) rfl) (awpDn (by (try simp only [List.nil_append, List.cons_append]); (try rfl)) ?_) | refine awpD_ev (ev_pick_f rfl (by first | with_reducible rfl | with_reducible assumption) rfl) (awpDn (by (try simp only [List.nil_append, List.cons_append]); (try rfl)) ?_)))
           | (with_reducible refine isD_assign ?_; (first | refine awpD_ev (ev_assign rfl) (awpDn (by (try simp only [List.nil_append, List.cons_append]); (try rfl)) ?_)))
           | (with_reducible refine isD_call ?_; (first | refine awpD_call rfl rfl A1 (awpDn (by (try simp only [List.nil_append, List.cons_append]); (try rfl)) ?_) | refine awpD_call rfl rfl A2 (awpDn (by (try simp only [List.nil_append, List.cons_append]); (try rfl)) ?_) | refine awpD_call rfl rfl A3 (awpDn (by (try simp only [List.nil_append, List.cons_append]); (try rfl)) ?_) | refine awpD_call rfl rfl A4 (awpDn (by (try simp only [List.nil_append, List.cons_append]); (try rfl)) ?_) | refine awpD_call rfl rfl A5 (awpDn (by (try simp only [List.nil_append, List.cons_append]); (try rfl)) ?_) | refine awpD_call rfl rfl A6 (awpDn (by (try simp only [List.nil_append, List.cons_append]); (try rfl)) ?_) | refine awpD_call rfl rfl A7 (awpDn (by (try simp only [List.nil_append, List.cons_append]); (try rfl)) ?_) | refine awpD_call rfl rfl A8 (awpDn (by (try simp only [List.nil_append, List.cons_append]); (try rfl)) ?_) | refine awpD_call rfl rfl A9 (awpDn (by (try simp only [List.nil_append, List.cons_append]); (try rfl)) ?_) | refine awpD_call rfl rfl A10 (awpDn (by (try simp only [List.nil_append, List.cons_append]); (try rfl)) ?_) | refine awpD_call rfl rfl A11 (awpDn (by (try simp only [List.nil_append, List.cons_append]); (try rfl)) ?_) | refine awpD_call rfl rfl A12 (awpDn (by (try simp only [List.nil_append, List.cons_append]); (try rfl)) ?_) | refine awpD_call rfl rfl A13 (awpDn (by (try simp only [List.nil_append, List.cons_append]); (try rfl)) ?_) | refine awpD_call rfl rfl A14 (awpDn (by (try simp only [List.nil_append, List.cons_append]); (try rfl)) ?_) | refine awpD_ev (ev_len rfl rfl rfl rfl rfl) (awpDn (by (try simp only [List.nil_append, List.cons_append]); (try rfl)) ?_) | refine awpD_ev (ev_len_os rfl rfl rfl rfl rfl) (awpDn (by (try simp only [List.nil_append, List.cons_append]); (try rfl)) ?_)))
           | refine awpD_ev (ev_not rfl) (awpDn (by (try simp only [List.nil_append, List.cons_append]); (try rfl)) ?_)
           | refine awpD_ev (ev_ia_fs rfl rfl rfl rfl rfl rfl (by with_reducible assumption)) (awpDn (by (try simp only [List.nil_append, List.cons_append]); (try rfl)) ?_)
           | refine awpD_ev (ev_ia_os rfl rfl rfl rfl rfl rfl rfl (by with_reducible assumption)) (awpDn (by (try simp only [List.nil_append, List.cons_append]); (try rfl)) ?_)
           | refine awpD_ev (ev_extract rfl rfl) (awpDn (by (try simp only [List.nil_append, List.cons_append]); (try rfl)) ?_)
           | refine awpD_ev (ev_index_str rfl rfl rfl rfl (by with_reducible assumption)) (awpDn (by (try simp only [List.nil_append, List.cons_append]); (try rfl)) ?_)
           | refine awpD_ev (ev_build rfl rfl rfl rfl rfl rfl rfl) (awpDn (by (try simp only [List.nil_append, List.cons_append]); (try rfl)) ?_)
           | refine awpD_ev (ev_build_lag rfl rfl rfl rfl rfl rfl) (awpDn (by (try simp only [List.nil_append, List.cons_append]); (try rfl)) ?_)
           | refine awpD_ev (ev_slice_fs rfl rfl rfl rfl rfl rfl rfl (by with_reducible assumption) rfl rfl) (awpDn (by (try simp only [List.nil_append, List.cons_append]); (try rfl)) ?_)
           | refine awpD_pev (pev_bslice_in rfl rfl rfl rfl rfl rfl rfl rfl rfl rfl rfl rfl (by (try simp only [List.map_cons, List.map_nil, cellsOf]); (try rfl))) (awpDn (by (try simp only [List.nil_append, List.cons_append]); (try rfl)) ?_))
         | (with_reducible refine isD_gd ?_; (first | refine awpD_run rfl rfl (by first | with_reducible rfl | with_reducible assumption) ?_ | refine awpD_passT rfl rfl (by first | with_reducible rfl | with_reducible assumption) (awpDn (by (try simp only [List.nil_append, List.cons_append]); (try rfl)) ?_) | refine awpD_passF rfl rfl (by first | with_reducible rfl | with_reducible assumption) (awpDn (by (try simp only [List.nil_append, List.cons_append]); (try rfl)) ?_) | refine awpD_passU rfl rfl (awpDn (by (try simp only [List.nil_append, List.cons_append]); (try rfl)) ?_) | refine awpD_split rfl (fun h => ?_) (fun h => ?_)))
         | refine awpD_nil ?_))
    | (with_reducible refine is_awp ?_; (first | refine awp_seq ?_ | refine awp_ret ?_ | refine awp_skip ?_ | refine awp_exit ?_ | refine awp_label ?_ | refine awp_block ?_ | refine awp_region ?_ | refine awp_cond_t rfl (by first | with_reducible rfl | with_reducible assumption) ?_ | refine awp_cond_f rfl (by first | with_reducible rfl | with_reducible assumption) ?_ | refine awp_cond rfl (fun h => ?_) (fun h => ?_))))
  refine retP rfl ?_
  rfl
end Go.Proofs.Ytghbllbjjfjenaa
