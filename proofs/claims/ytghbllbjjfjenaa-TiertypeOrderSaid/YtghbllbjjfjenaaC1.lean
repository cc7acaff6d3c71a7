/- Contracts of the small functions of tiertype and of its reference. -/
import Derived.Test.YtghbllbjjfjenaaTd
namespace Go.Proofs.Ytghbllbjjfjenaa
open Go.Ab
attribute [local irreducible] awp awpL Ev Ev2 EvS thenQ blockQ retQ PCalls OCalls awpD
set_option linter.unusedSimpArgs false
set_option linter.unusedVariables false

theorem aligned_spec (k : Int) : PCalls Try.prog [] 32 [vi k] (vb (timed k)) := by
  refine pcalls' Try.func32 Try.ntmps32 rfl rfl rfl ?_
  repeat' (first
    | (with_reducible refine is_un ?_; first
      | (with_reducible refine is_move ?_; (first | refine awpL_ev (ev_move rfl) rfl ?_))
      | (with_reducible refine is_bin ?_; (first | refine awpL_ev (ev_add rfl rfl (by omega)) rfl ?_ | refine awpL_ev (ev_sub rfl rfl (by omega)) rfl ?_ | refine awpL_ev (ev_bin rfl rfl rfl) rfl ?_ | refine awpL_ev (ev_eq_bool rfl rfl rfl rfl) rfl ?_))
      | (with_reducible refine is_fa ?_; (first | refine awpL_ev (ev_fa_fp rfl rfl rfl rfl rfl rfl) rfl ?_ | refine awpL_ev (ev_fa_lp rfl rfl rfl rfl rfl rfl) rfl ?_ | refine awpL_ev (ev_fa_ep rfl rfl rfl rfl rfl rfl) rfl ?_))
      | (with_reducible refine is_load ?_; (first | refine awpL_ev (ev_load_agg rfl rfl rfl rfl) rfl ?_ | refine awpL_ev (ev_load_sub rfl rfl rfl rfl rfl) rfl ?_ | refine awpL_ev (ev_load_one rfl rfl rfl rfl) rfl ?_ | refine awpL_ev (ev_ll_agg rfl rfl rfl rfl rfl rfl rfl) rfl ?_ | refine awpL_ev (ev_ll_lag rfl rfl rfl rfl rfl rfl) rfl ?_ | refine awpL_ev (ev_ll_one rfl rfl rfl rfl rfl) rfl ?_ | refine awpL_ev (ev_el_one rfl rfl rfl rfl (by with_reducible assumption) rfl) rfl ?_))
      | (with_reducible refine is_pick ?_; (first | refine awpL_ev (ev_pick_t rfl (by first | with_reducible rfl | with_reducible assumption) rfl) rfl ?_ | refine awpL_ev (ev_pick_f rfl (by first | with_reducible rfl | with_reducible assumption) rfl) rfl ?_))
      | (with_reducible refine is_assign ?_; (first | refine awpL_ev (ev_assign rfl) rfl ?_))
      | (with_reducible refine is_call ?_; (first | refine awpL_ev (ev_len rfl rfl rfl rfl rfl) rfl ?_ | refine awpL_ev (ev_len_os rfl rfl rfl rfl rfl) rfl ?_))
      | refine awpL_ev (ev_not rfl) rfl ?_
      | refine awpL_ev (ev_ia_fs rfl rfl rfl rfl rfl rfl (by with_reducible assumption)) rfl ?_
      | refine awpL_ev (ev_ia_os rfl rfl rfl rfl rfl rfl rfl (by with_reducible assumption)) rfl ?_
      | refine awpL_ev (ev_extract rfl rfl) rfl ?_
      | refine awpL_ev (ev_index_str rfl rfl rfl rfl (by with_reducible assumption)) rfl ?_
      | refine awpL_ev (ev_build rfl rfl rfl rfl rfl rfl rfl) rfl ?_
      | refine awpL_ev (ev_build_lag rfl rfl rfl rfl rfl rfl) rfl ?_
      | refine awpL_ev (ev_slice_fs rfl rfl rfl rfl rfl rfl rfl (by with_reducible assumption) rfl rfl) rfl ?_
      | refine awpL_ev2 (ev_bslice_in rfl rfl rfl rfl rfl rfl rfl rfl rfl rfl rfl rfl (by (try simp only [List.map_cons, List.map_nil, cellsOf]); (try rfl))) rfl ?_
      | refine awpL_ev2 (ev_stb rfl rfl rfl rfl rfl rfl rfl) rfl ?_
      | refine awpL_ev2 (ev_alloc rfl rfl (by (try simp only [List.length_nil, List.length_cons, Nat.reduceAdd]); (try rfl)) (by (try simp only [List.set_cons_zero, List.set_cons_succ, List.nil_append, List.cons_append, List.append_nil, cellsOf, List.take_zero, List.drop_zero, List.take_succ_cons, List.drop_succ_cons, Nat.zero_add, Nat.reduceAdd, List.drop_nil, List.map_cons, List.map_nil]); (try rfl))) rfl ?_
      | refine awpL_ev2 (ev_box rfl rfl (by (try simp only [List.length_nil, List.length_cons, Nat.reduceAdd]); (try rfl)) (by (try simp only [List.set_cons_zero, List.set_cons_succ, List.nil_append, List.cons_append, List.append_nil, cellsOf, List.take_zero, List.drop_zero, List.take_succ_cons, List.drop_succ_cons, Nat.zero_add, Nat.reduceAdd, List.drop_nil, List.map_cons, List.map_nil]); (try rfl))) rfl ?_
      | refine awpL_evS (ev_st_lp rfl rfl rfl rfl rfl rfl rfl (by (try simp only [List.set_cons_zero, List.set_cons_succ, List.nil_append, List.cons_append, List.append_nil, cellsOf, List.take_zero, List.drop_zero, List.take_succ_cons, List.drop_succ_cons, Nat.zero_add, Nat.reduceAdd, List.drop_nil, List.map_cons, List.map_nil]); (try rfl))) ?_)
    | (with_reducible refine is_gd ?_; (first | refine awpL_run rfl rfl rfl (by first | with_reducible rfl | with_reducible assumption) ?_ | refine awpL_passT rfl rfl rfl rfl (by first | with_reducible rfl | with_reducible assumption) ?_ | refine awpL_passF rfl rfl rfl rfl (by first | with_reducible rfl | with_reducible assumption) ?_ | refine awpL_passU rfl rfl rfl rfl ?_ | refine awpL_split rfl rfl (fun h => ?_) (fun h => ?_)))
    | (with_reducible refine is_nil ?_; refine awpL_nil ?_)
    | (with_reducible refine is_then ?_; (first | refine thenQ_n ?_ | refine thenQ_r ?_ | refine thenQ_e ?_))
    | (with_reducible refine is_block ?_; (first | refine blockQ_n ?_ | refine blockQ_r ?_ | refine blockQ_e ?_ | refine blockQ_o rfl ?_))
    | (with_reducible refine is_awp ?_; (first | refine awp_seq ?_ | refine awp_ret ?_ | refine awp_skip ?_ | refine awp_exit ?_ | refine awp_label ?_ | refine awp_block ?_ | refine awp_region ?_ | refine awp_cond_t rfl (by first | with_reducible rfl | with_reducible assumption) ?_ | refine awp_cond_f rfl (by first | with_reducible rfl | with_reducible assumption) ?_ | refine awp_cond rfl (fun h => ?_) (fun h => ?_))))
  all_goals refine retP rfl ?_
  all_goals simp_all [ex, timed]

theorem timed_spec (k : Int) : PCalls Try.prog [] 33 [vi k] (vb (timed k)) := by
  refine pcalls' Try.func33 Try.ntmps33 rfl rfl rfl ?_
  repeat' (first
    | (with_reducible refine is_un ?_; first
      | (with_reducible refine is_move ?_; (first | refine awpL_ev (ev_move rfl) rfl ?_))
      | (with_reducible refine is_bin ?_; (first | refine awpL_ev (ev_add rfl rfl (by omega)) rfl ?_ | refine awpL_ev (ev_sub rfl rfl (by omega)) rfl ?_ | refine awpL_ev (ev_bin rfl rfl rfl) rfl ?_ | refine awpL_ev (ev_eq_bool rfl rfl rfl rfl) rfl ?_))
      | (with_reducible refine is_fa ?_; (first | refine awpL_ev (ev_fa_fp rfl rfl rfl rfl rfl rfl) rfl ?_ | refine awpL_ev (ev_fa_lp rfl rfl rfl rfl rfl rfl) rfl ?_ | refine awpL_ev (ev_fa_ep rfl rfl rfl rfl rfl rfl) rfl ?_))
      | (with_reducible refine is_load ?_; (first | refine awpL_ev (ev_load_agg rfl rfl rfl rfl) rfl ?_ | refine awpL_ev (ev_load_sub rfl rfl rfl rfl rfl) rfl ?_ | refine awpL_ev (ev_load_one rfl rfl rfl rfl) rfl ?_ | refine awpL_ev (ev_ll_agg rfl rfl rfl rfl rfl rfl rfl) rfl ?_ | refine awpL_ev (ev_ll_lag rfl rfl rfl rfl rfl rfl) rfl ?_ | refine awpL_ev (ev_ll_one rfl rfl rfl rfl rfl) rfl ?_ | refine awpL_ev (ev_el_one rfl rfl rfl rfl (by with_reducible assumption) rfl) rfl ?_))
      | (with_reducible refine is_pick ?_; (first | refine awpL_ev (ev_pick_t rfl (by first | with_reducible rfl | with_reducible assumption) rfl) rfl ?_ | refine awpL_ev (ev_pick_f rfl (by first | with_reducible rfl | with_reducible assumption) rfl) rfl ?_))
      | (with_reducible refine is_assign ?_; (first | refine awpL_ev (ev_assign rfl) rfl ?_))
      | (with_reducible refine is_call ?_; (first | refine awpL_ev (ev_len rfl rfl rfl rfl rfl) rfl ?_ | refine awpL_ev (ev_len_os rfl rfl rfl rfl rfl) rfl ?_))
      | refine awpL_ev (ev_not rfl) rfl ?_
      | refine awpL_ev (ev_ia_fs rfl rfl rfl rfl rfl rfl (by with_reducible assumption)) rfl ?_
      | refine awpL_ev (ev_ia_os rfl rfl rfl rfl rfl rfl rfl (by with_reducible assumption)) rfl ?_
      | refine awpL_ev (ev_extract rfl rfl) rfl ?_
      | refine awpL_ev (ev_index_str rfl rfl rfl rfl (by with_reducible assumption)) rfl ?_
      | refine awpL_ev (ev_build rfl rfl rfl rfl rfl rfl rfl) rfl ?_
      | refine awpL_ev (ev_build_lag rfl rfl rfl rfl rfl rfl) rfl ?_
      | refine awpL_ev (ev_slice_fs rfl rfl rfl rfl rfl rfl rfl (by with_reducible assumption) rfl rfl) rfl ?_
      | refine awpL_ev2 (ev_bslice_in rfl rfl rfl rfl rfl rfl rfl rfl rfl rfl rfl rfl (by (try simp only [List.map_cons, List.map_nil, cellsOf]); (try rfl))) rfl ?_
      | refine awpL_ev2 (ev_stb rfl rfl rfl rfl rfl rfl rfl) rfl ?_
      | refine awpL_ev2 (ev_alloc rfl rfl (by (try simp only [List.length_nil, List.length_cons, Nat.reduceAdd]); (try rfl)) (by (try simp only [List.set_cons_zero, List.set_cons_succ, List.nil_append, List.cons_append, List.append_nil, cellsOf, List.take_zero, List.drop_zero, List.take_succ_cons, List.drop_succ_cons, Nat.zero_add, Nat.reduceAdd, List.drop_nil, List.map_cons, List.map_nil]); (try rfl))) rfl ?_
      | refine awpL_ev2 (ev_box rfl rfl (by (try simp only [List.length_nil, List.length_cons, Nat.reduceAdd]); (try rfl)) (by (try simp only [List.set_cons_zero, List.set_cons_succ, List.nil_append, List.cons_append, List.append_nil, cellsOf, List.take_zero, List.drop_zero, List.take_succ_cons, List.drop_succ_cons, Nat.zero_add, Nat.reduceAdd, List.drop_nil, List.map_cons, List.map_nil]); (try rfl))) rfl ?_
      | refine awpL_evS (ev_st_lp rfl rfl rfl rfl rfl rfl rfl (by (try simp only [List.set_cons_zero, List.set_cons_succ, List.nil_append, List.cons_append, List.append_nil, cellsOf, List.take_zero, List.drop_zero, List.take_succ_cons, List.drop_succ_cons, Nat.zero_add, Nat.reduceAdd, List.drop_nil, List.map_cons, List.map_nil]); (try rfl))) ?_)
    | (with_reducible refine is_gd ?_; (first | refine awpL_run rfl rfl rfl (by first | with_reducible rfl | with_reducible assumption) ?_ | refine awpL_passT rfl rfl rfl rfl (by first | with_reducible rfl | with_reducible assumption) ?_ | refine awpL_passF rfl rfl rfl rfl (by first | with_reducible rfl | with_reducible assumption) ?_ | refine awpL_passU rfl rfl rfl rfl ?_ | refine awpL_split rfl rfl (fun h => ?_) (fun h => ?_)))
    | (with_reducible refine is_nil ?_; refine awpL_nil ?_)
    | (with_reducible refine is_then ?_; (first | refine thenQ_n ?_ | refine thenQ_r ?_ | refine thenQ_e ?_))
    | (with_reducible refine is_block ?_; (first | refine blockQ_n ?_ | refine blockQ_r ?_ | refine blockQ_e ?_ | refine blockQ_o rfl ?_))
    | (with_reducible refine is_awp ?_; (first | refine awp_seq ?_ | refine awp_ret ?_ | refine awp_skip ?_ | refine awp_exit ?_ | refine awp_label ?_ | refine awp_block ?_ | refine awp_region ?_ | refine awp_cond_t rfl (by first | with_reducible rfl | with_reducible assumption) ?_ | refine awp_cond_f rfl (by first | with_reducible rfl | with_reducible assumption) ?_ | refine awp_cond rfl (fun h => ?_) (fun h => ?_))))
  all_goals refine retP rfl ?_
  all_goals simp_all [ex, timed]

set_option maxHeartbeats 400000 in
theorem find_spec (l : List Tier) (name : ByteArray) (hl : l.length ≤ 1000000) : PCalls Try.prog [] 25 [encTs l, vs name] (vi (find l name)) := by
  refine pcalls' Try.func25 Try.ntmps25 rfl rfl rfl ?_
  repeat' (first
    | (with_reducible refine is_un ?_; first
      | (with_reducible refine is_move ?_; (first | refine awpL_ev (ev_move rfl) rfl ?_))
      | (with_reducible refine is_bin ?_; (first | refine awpL_ev (ev_add rfl rfl (by omega)) rfl ?_ | refine awpL_ev (ev_sub rfl rfl (by omega)) rfl ?_ | refine awpL_ev (ev_bin rfl rfl rfl) rfl ?_ | refine awpL_ev (ev_eq_bool rfl rfl rfl rfl) rfl ?_))
      | (with_reducible refine is_fa ?_; (first | refine awpL_ev (ev_fa_fp rfl rfl rfl rfl rfl rfl) rfl ?_ | refine awpL_ev (ev_fa_lp rfl rfl rfl rfl rfl rfl) rfl ?_ | refine awpL_ev (ev_fa_ep rfl rfl rfl rfl rfl rfl) rfl ?_))
      | (with_reducible refine is_load ?_; (first | refine awpL_ev (ev_load_agg rfl rfl rfl rfl) rfl ?_ | refine awpL_ev (ev_load_sub rfl rfl rfl rfl rfl) rfl ?_ | refine awpL_ev (ev_load_one rfl rfl rfl rfl) rfl ?_ | refine awpL_ev (ev_ll_agg rfl rfl rfl rfl rfl rfl rfl) rfl ?_ | refine awpL_ev (ev_ll_lag rfl rfl rfl rfl rfl rfl) rfl ?_ | refine awpL_ev (ev_ll_one rfl rfl rfl rfl rfl) rfl ?_ | refine awpL_ev (ev_el_one rfl rfl rfl rfl (by with_reducible assumption) rfl) rfl ?_))
      | (with_reducible refine is_pick ?_; (first | refine awpL_ev (ev_pick_t rfl (by first | with_reducible rfl | with_reducible assumption) rfl) rfl ?_ | refine awpL_ev (ev_pick_f rfl (by first | with_reducible rfl | with_reducible assumption) rfl) rfl ?_))
      | (with_reducible refine is_assign ?_; (first | refine awpL_ev (ev_assign rfl) rfl ?_))
      | (with_reducible refine is_call ?_; (first | refine awpL_ev (ev_len rfl rfl rfl rfl rfl) rfl ?_ | refine awpL_ev (ev_len_os rfl rfl rfl rfl rfl) rfl ?_))
      | refine awpL_ev (ev_not rfl) rfl ?_
      | refine awpL_ev (ev_ia_fs rfl rfl rfl rfl rfl rfl (by with_reducible assumption)) rfl ?_
      | refine awpL_ev (ev_ia_os rfl rfl rfl rfl rfl rfl rfl (by with_reducible assumption)) rfl ?_
      | refine awpL_ev (ev_extract rfl rfl) rfl ?_
      | refine awpL_ev (ev_index_str rfl rfl rfl rfl (by with_reducible assumption)) rfl ?_
      | refine awpL_ev (ev_build rfl rfl rfl rfl rfl rfl rfl) rfl ?_
      | refine awpL_ev (ev_build_lag rfl rfl rfl rfl rfl rfl) rfl ?_
      | refine awpL_ev (ev_slice_fs rfl rfl rfl rfl rfl rfl rfl (by with_reducible assumption) rfl rfl) rfl ?_
      | refine awpL_ev2 (ev_bslice_in rfl rfl rfl rfl rfl rfl rfl rfl rfl rfl rfl rfl (by (try simp only [List.map_cons, List.map_nil, cellsOf]); (try rfl))) rfl ?_
      | refine awpL_ev2 (ev_stb rfl rfl rfl rfl rfl rfl rfl) rfl ?_
      | refine awpL_ev2 (ev_alloc rfl rfl (by (try simp only [List.length_nil, List.length_cons, Nat.reduceAdd]); (try rfl)) (by (try simp only [List.set_cons_zero, List.set_cons_succ, List.nil_append, List.cons_append, List.append_nil, cellsOf, List.take_zero, List.drop_zero, List.take_succ_cons, List.drop_succ_cons, Nat.zero_add, Nat.reduceAdd, List.drop_nil, List.map_cons, List.map_nil]); (try rfl))) rfl ?_
      | refine awpL_ev2 (ev_box rfl rfl (by (try simp only [List.length_nil, List.length_cons, Nat.reduceAdd]); (try rfl)) (by (try simp only [List.set_cons_zero, List.set_cons_succ, List.nil_append, List.cons_append, List.append_nil, cellsOf, List.take_zero, List.drop_zero, List.take_succ_cons, List.drop_succ_cons, Nat.zero_add, Nat.reduceAdd, List.drop_nil, List.map_cons, List.map_nil]); (try rfl))) rfl ?_
      | refine awpL_evS (ev_st_lp rfl rfl rfl rfl rfl rfl rfl (by (try simp only [List.set_cons_zero, List.set_cons_succ, List.nil_append, List.cons_append, List.append_nil, cellsOf, List.take_zero, List.drop_zero, List.take_succ_cons, List.drop_succ_cons, Nat.zero_add, Nat.reduceAdd, List.drop_nil, List.map_cons, List.map_nil]); (try rfl))) ?_)
    | (with_reducible refine is_gd ?_; (first | refine awpL_run rfl rfl rfl (by first | with_reducible rfl | with_reducible assumption) ?_ | refine awpL_passT rfl rfl rfl rfl (by first | with_reducible rfl | with_reducible assumption) ?_ | refine awpL_passF rfl rfl rfl rfl (by first | with_reducible rfl | with_reducible assumption) ?_ | refine awpL_passU rfl rfl rfl rfl ?_ | refine awpL_split rfl rfl (fun h => ?_) (fun h => ?_)))
    | (with_reducible refine is_nil ?_; refine awpL_nil ?_)
    | (with_reducible refine is_then ?_; (first | refine thenQ_n ?_ | refine thenQ_r ?_ | refine thenQ_e ?_))
    | (with_reducible refine is_block ?_; (first | refine blockQ_n ?_ | refine blockQ_r ?_ | refine blockQ_e ?_ | refine blockQ_o rfl ?_))
    | (with_reducible refine is_awp ?_; (first | refine awp_seq ?_ | refine awp_ret ?_ | refine awp_skip ?_ | refine awp_exit ?_ | refine awp_label ?_ | refine awp_block ?_ | refine awp_region ?_ | refine awp_cond_t rfl (by first | with_reducible rfl | with_reducible assumption) ?_ | refine awp_cond_f rfl (by first | with_reducible rfl | with_reducible assumption) ?_ | refine awp_cond rfl (fun h => ?_) (fun h => ?_))))
  refine awp_for (α := Nat) 0 (fun k => [(7, encTs l), (8, vi l.length), (9, vi k), (1, vs name)]) (fun _ => []) (fun k => k ≤ l.length ∧ find l name = findFrom name k (l.drop k)) (fun k => l.length - k) 0
    ⟨(.cons rfl rfl (.cons rfl rfl (.cons rfl rfl (.cons rfl rfl .nil)))), rfl, rfl, rfl⟩ ⟨Nat.zero_le _, rfl⟩ ?_
  rintro k ⟨hk, hf⟩
  cases ht : l[k]? with
  | none =>
    have hge : l.length ≤ k := by simpa using ht
    have c1 : decide ((k : Int) < l.length) = false := by simp; omega
    rw [List.drop_of_length_le hge] at hf
    repeat' (first
      | (with_reducible refine is_un ?_; first
        | (with_reducible refine is_move ?_; (first | refine awpL_ev (ev_move rfl) rfl ?_))
        | (with_reducible refine is_bin ?_; (first | refine awpL_ev (ev_add rfl rfl (by omega)) rfl ?_ | refine awpL_ev (ev_sub rfl rfl (by omega)) rfl ?_ | refine awpL_ev (ev_bin rfl rfl rfl) rfl ?_ | refine awpL_ev (ev_eq_bool rfl rfl rfl rfl) rfl ?_))
        | (with_reducible refine is_fa ?_; (first | refine awpL_ev (ev_fa_fp rfl rfl rfl rfl rfl rfl) rfl ?_ | refine awpL_ev (ev_fa_lp rfl rfl rfl rfl rfl rfl) rfl ?_ | refine awpL_ev (ev_fa_ep rfl rfl rfl rfl rfl rfl) rfl ?_))
        | (with_reducible refine is_load ?_; (first | refine awpL_ev (ev_load_agg rfl rfl rfl rfl) rfl ?_ | refine awpL_ev (ev_load_sub rfl rfl rfl rfl rfl) rfl ?_ | refine awpL_ev (ev_load_one rfl rfl rfl rfl) rfl ?_ | refine awpL_ev (ev_ll_agg rfl rfl rfl rfl rfl rfl rfl) rfl ?_ | refine awpL_ev (ev_ll_lag rfl rfl rfl rfl rfl rfl) rfl ?_ | refine awpL_ev (ev_ll_one rfl rfl rfl rfl rfl) rfl ?_ | refine awpL_ev (ev_el_one rfl rfl rfl rfl (by with_reducible assumption) rfl) rfl ?_))
        | (with_reducible refine is_pick ?_; (first | refine awpL_ev (ev_pick_t rfl (by first | with_reducible rfl | with_reducible assumption) rfl) rfl ?_ | refine awpL_ev (ev_pick_f rfl (by first | with_reducible rfl | with_reducible assumption) rfl) rfl ?_))
        | (with_reducible refine is_assign ?_; (first | refine awpL_ev (ev_assign rfl) rfl ?_))
        | (with_reducible refine is_call ?_; (first | refine awpL_ev (ev_len rfl rfl rfl rfl rfl) rfl ?_ | refine awpL_ev (ev_len_os rfl rfl rfl rfl rfl) rfl ?_))
        | refine awpL_ev (ev_not rfl) rfl ?_
        | refine awpL_ev (ev_ia_fs rfl rfl rfl rfl rfl rfl (by with_reducible assumption)) rfl ?_
        | refine awpL_ev (ev_ia_os rfl rfl rfl rfl rfl rfl rfl (by with_reducible assumption)) rfl ?_
        | refine awpL_ev (ev_extract rfl rfl) rfl ?_
        | refine awpL_ev (ev_index_str rfl rfl rfl rfl (by with_reducible assumption)) rfl ?_
        | refine awpL_ev (ev_build rfl rfl rfl rfl rfl rfl rfl) rfl ?_
        | refine awpL_ev (ev_build_lag rfl rfl rfl rfl rfl rfl) rfl ?_
        | refine awpL_ev (ev_slice_fs rfl rfl rfl rfl rfl rfl rfl (by with_reducible assumption) rfl rfl) rfl ?_
        | refine awpL_ev2 (ev_bslice_in rfl rfl rfl rfl rfl rfl rfl rfl rfl rfl rfl rfl (by (try simp only [List.map_cons, List.map_nil, cellsOf]); (try rfl))) rfl ?_
        | refine awpL_ev2 (ev_stb rfl rfl rfl rfl rfl rfl rfl) rfl ?_
        | refine awpL_ev2 (ev_alloc rfl rfl (by (try simp only [List.length_nil, List.length_cons, Nat.reduceAdd]); (try rfl)) (by (try simp only [List.set_cons_zero, List.set_cons_succ, List.nil_append, List.cons_append, List.append_nil, cellsOf, List.take_zero, List.drop_zero, List.take_succ_cons, List.drop_succ_cons, Nat.zero_add, Nat.reduceAdd, List.drop_nil, List.map_cons, List.map_nil]); (try rfl))) rfl ?_
        | refine awpL_ev2 (ev_box rfl rfl (by (try simp only [List.length_nil, List.length_cons, Nat.reduceAdd]); (try rfl)) (by (try simp only [List.set_cons_zero, List.set_cons_succ, List.nil_append, List.cons_append, List.append_nil, cellsOf, List.take_zero, List.drop_zero, List.take_succ_cons, List.drop_succ_cons, Nat.zero_add, Nat.reduceAdd, List.drop_nil, List.map_cons, List.map_nil]); (try rfl))) rfl ?_
        | refine awpL_evS (ev_st_lp rfl rfl rfl rfl rfl rfl rfl (by (try simp only [List.set_cons_zero, List.set_cons_succ, List.nil_append, List.cons_append, List.append_nil, cellsOf, List.take_zero, List.drop_zero, List.take_succ_cons, List.drop_succ_cons, Nat.zero_add, Nat.reduceAdd, List.drop_nil, List.map_cons, List.map_nil]); (try rfl))) ?_)
      | (with_reducible refine is_gd ?_; (first | refine awpL_run rfl rfl rfl (by first | with_reducible rfl | with_reducible assumption) ?_ | refine awpL_passT rfl rfl rfl rfl (by first | with_reducible rfl | with_reducible assumption) ?_ | refine awpL_passF rfl rfl rfl rfl (by first | with_reducible rfl | with_reducible assumption) ?_ | refine awpL_passU rfl rfl rfl rfl ?_ | refine awpL_split rfl rfl (fun h => ?_) (fun h => ?_)))
      | (with_reducible refine is_nil ?_; refine awpL_nil ?_)
      | (with_reducible refine is_then ?_; (first | refine thenQ_n ?_ | refine thenQ_r ?_ | refine thenQ_e ?_))
      | (with_reducible refine is_block ?_; (first | refine blockQ_n ?_ | refine blockQ_r ?_ | refine blockQ_e ?_ | refine blockQ_o rfl ?_))
      | (with_reducible refine is_awp ?_; (first | refine awp_seq ?_ | refine awp_ret ?_ | refine awp_skip ?_ | refine awp_exit ?_ | refine awp_label ?_ | refine awp_block ?_ | refine awp_region ?_ | refine awp_cond_t rfl (by first | with_reducible rfl | with_reducible assumption) ?_ | refine awp_cond_f rfl (by first | with_reducible rfl | with_reducible assumption) ?_ | refine awp_cond rfl (fun h => ?_) (fun h => ?_))))
    refine retP rfl ?_
    rw [hf]; rfl
  | some t =>
    have hlt : k < l.length := (List.getElem?_eq_some_iff.1 ht).1
    have c1 : decide ((k : Int) < l.length) = true := by simp; omega
    have h1 := encT_get ht
    have hd := findFrom_drop name l k t ht
    repeat' (first
      | (with_reducible refine is_un ?_; first
        | (with_reducible refine is_move ?_; (first | refine awpL_ev (ev_move rfl) rfl ?_))
        | (with_reducible refine is_bin ?_; (first | refine awpL_ev (ev_add rfl rfl (by omega)) rfl ?_ | refine awpL_ev (ev_sub rfl rfl (by omega)) rfl ?_ | refine awpL_ev (ev_bin rfl rfl rfl) rfl ?_ | refine awpL_ev (ev_eq_bool rfl rfl rfl rfl) rfl ?_))
        | (with_reducible refine is_fa ?_; (first | refine awpL_ev (ev_fa_fp rfl rfl rfl rfl rfl rfl) rfl ?_ | refine awpL_ev (ev_fa_lp rfl rfl rfl rfl rfl rfl) rfl ?_ | refine awpL_ev (ev_fa_ep rfl rfl rfl rfl rfl rfl) rfl ?_))
        | (with_reducible refine is_load ?_; (first | refine awpL_ev (ev_load_agg rfl rfl rfl rfl) rfl ?_ | refine awpL_ev (ev_load_sub rfl rfl rfl rfl rfl) rfl ?_ | refine awpL_ev (ev_load_one rfl rfl rfl rfl) rfl ?_ | refine awpL_ev (ev_ll_agg rfl rfl rfl rfl rfl rfl rfl) rfl ?_ | refine awpL_ev (ev_ll_lag rfl rfl rfl rfl rfl rfl) rfl ?_ | refine awpL_ev (ev_ll_one rfl rfl rfl rfl rfl) rfl ?_ | refine awpL_ev (ev_el_one rfl rfl rfl rfl (by with_reducible assumption) rfl) rfl ?_))
        | (with_reducible refine is_pick ?_; (first | refine awpL_ev (ev_pick_t rfl (by first | with_reducible rfl | with_reducible assumption) rfl) rfl ?_ | refine awpL_ev (ev_pick_f rfl (by first | with_reducible rfl | with_reducible assumption) rfl) rfl ?_))
        | (with_reducible refine is_assign ?_; (first | refine awpL_ev (ev_assign rfl) rfl ?_))
        | (with_reducible refine is_call ?_; (first | refine awpL_ev (ev_len rfl rfl rfl rfl rfl) rfl ?_ | refine awpL_ev (ev_len_os rfl rfl rfl rfl rfl) rfl ?_))
        | refine awpL_ev (ev_not rfl) rfl ?_
        | refine awpL_ev (ev_ia_fs rfl rfl rfl rfl rfl rfl (by with_reducible assumption)) rfl ?_
        | refine awpL_ev (ev_ia_os rfl rfl rfl rfl rfl rfl rfl (by with_reducible assumption)) rfl ?_
        | refine awpL_ev (ev_extract rfl rfl) rfl ?_
        | refine awpL_ev (ev_index_str rfl rfl rfl rfl (by with_reducible assumption)) rfl ?_
        | refine awpL_ev (ev_build rfl rfl rfl rfl rfl rfl rfl) rfl ?_
        | refine awpL_ev (ev_build_lag rfl rfl rfl rfl rfl rfl) rfl ?_
        | refine awpL_ev (ev_slice_fs rfl rfl rfl rfl rfl rfl rfl (by with_reducible assumption) rfl rfl) rfl ?_
        | refine awpL_ev2 (ev_bslice_in rfl rfl rfl rfl rfl rfl rfl rfl rfl rfl rfl rfl (by (try simp only [List.map_cons, List.map_nil, cellsOf]); (try rfl))) rfl ?_
        | refine awpL_ev2 (ev_stb rfl rfl rfl rfl rfl rfl rfl) rfl ?_
        | refine awpL_ev2 (ev_alloc rfl rfl (by (try simp only [List.length_nil, List.length_cons, Nat.reduceAdd]); (try rfl)) (by (try simp only [List.set_cons_zero, List.set_cons_succ, List.nil_append, List.cons_append, List.append_nil, cellsOf, List.take_zero, List.drop_zero, List.take_succ_cons, List.drop_succ_cons, Nat.zero_add, Nat.reduceAdd, List.drop_nil, List.map_cons, List.map_nil]); (try rfl))) rfl ?_
        | refine awpL_ev2 (ev_box rfl rfl (by (try simp only [List.length_nil, List.length_cons, Nat.reduceAdd]); (try rfl)) (by (try simp only [List.set_cons_zero, List.set_cons_succ, List.nil_append, List.cons_append, List.append_nil, cellsOf, List.take_zero, List.drop_zero, List.take_succ_cons, List.drop_succ_cons, Nat.zero_add, Nat.reduceAdd, List.drop_nil, List.map_cons, List.map_nil]); (try rfl))) rfl ?_
        | refine awpL_evS (ev_st_lp rfl rfl rfl rfl rfl rfl rfl (by (try simp only [List.set_cons_zero, List.set_cons_succ, List.nil_append, List.cons_append, List.append_nil, cellsOf, List.take_zero, List.drop_zero, List.take_succ_cons, List.drop_succ_cons, Nat.zero_add, Nat.reduceAdd, List.drop_nil, List.map_cons, List.map_nil]); (try rfl))) ?_)
      | (with_reducible refine is_gd ?_; (first | refine awpL_run rfl rfl rfl (by first | with_reducible rfl | with_reducible assumption) ?_ | refine awpL_passT rfl rfl rfl rfl (by first | with_reducible rfl | with_reducible assumption) ?_ | refine awpL_passF rfl rfl rfl rfl (by first | with_reducible rfl | with_reducible assumption) ?_ | refine awpL_passU rfl rfl rfl rfl ?_ | refine awpL_split rfl rfl (fun h => ?_) (fun h => ?_)))
      | (with_reducible refine is_nil ?_; refine awpL_nil ?_)
      | (with_reducible refine is_then ?_; (first | refine thenQ_n ?_ | refine thenQ_r ?_ | refine thenQ_e ?_))
      | (with_reducible refine is_block ?_; (first | refine blockQ_n ?_ | refine blockQ_r ?_ | refine blockQ_e ?_ | refine blockQ_o rfl ?_))
      | (with_reducible refine is_awp ?_; (first | refine awp_seq ?_ | refine awp_ret ?_ | refine awp_skip ?_ | refine awp_exit ?_ | refine awp_label ?_ | refine awp_block ?_ | refine awp_region ?_ | refine awp_cond_t rfl (by first | with_reducible rfl | with_reducible assumption) ?_ | refine awp_cond_f rfl (by first | with_reducible rfl | with_reducible assumption) ?_ | refine awp_cond rfl (fun h => ?_) (fun h => ?_))))
    · refine retP rfl ?_
      rw [hf, hd, if_pos (by simpa using h)]; rfl
    · exact ⟨k + 1, ⟨(.cons rfl rfl (.cons rfl rfl (.cons rfl rfl (.cons rfl rfl .nil)))), rfl, rfl, rfl⟩, ⟨by omega, by rw [hf, hd, if_neg (by simpa using h)]⟩, by omega⟩

set_option maxHeartbeats 400000 in
theorem role_spec (l : List Tier) (role : Int) (hl : l.length ≤ 1000000) : PCalls Try.prog [] 23 [encTs l, vi role] (vi (roleOf l role)) := by
  refine pcalls' Try.func23 Try.ntmps23 rfl rfl rfl ?_
  repeat' (first
    | (with_reducible refine is_un ?_; first
      | (with_reducible refine is_move ?_; (first | refine awpL_ev (ev_move rfl) rfl ?_))
      | (with_reducible refine is_bin ?_; (first | refine awpL_ev (ev_add rfl rfl (by omega)) rfl ?_ | refine awpL_ev (ev_sub rfl rfl (by omega)) rfl ?_ | refine awpL_ev (ev_bin rfl rfl rfl) rfl ?_ | refine awpL_ev (ev_eq_bool rfl rfl rfl rfl) rfl ?_))
      | (with_reducible refine is_fa ?_; (first | refine awpL_ev (ev_fa_fp rfl rfl rfl rfl rfl rfl) rfl ?_ | refine awpL_ev (ev_fa_lp rfl rfl rfl rfl rfl rfl) rfl ?_ | refine awpL_ev (ev_fa_ep rfl rfl rfl rfl rfl rfl) rfl ?_))
      | (with_reducible refine is_load ?_; (first | refine awpL_ev (ev_load_agg rfl rfl rfl rfl) rfl ?_ | refine awpL_ev (ev_load_sub rfl rfl rfl rfl rfl) rfl ?_ | refine awpL_ev (ev_load_one rfl rfl rfl rfl) rfl ?_ | refine awpL_ev (ev_ll_agg rfl rfl rfl rfl rfl rfl rfl) rfl ?_ | refine awpL_ev (ev_ll_lag rfl rfl rfl rfl rfl rfl) rfl ?_ | refine awpL_ev (ev_ll_one rfl rfl rfl rfl rfl) rfl ?_ | refine awpL_ev (ev_el_one rfl rfl rfl rfl (by with_reducible assumption) rfl) rfl ?_))
      | (with_reducible refine is_pick ?_; (first | refine awpL_ev (ev_pick_t rfl (by first | with_reducible rfl | with_reducible assumption) rfl) rfl ?_ | refine awpL_ev (ev_pick_f rfl (by first | with_reducible rfl | with_reducible assumption) rfl) rfl ?_))
      | (with_reducible refine is_assign ?_; (first | refine awpL_ev (ev_assign rfl) rfl ?_))
      | (with_reducible refine is_call ?_; (first | refine awpL_ev (ev_len rfl rfl rfl rfl rfl) rfl ?_ | refine awpL_ev (ev_len_os rfl rfl rfl rfl rfl) rfl ?_))
      | refine awpL_ev (ev_not rfl) rfl ?_
      | refine awpL_ev (ev_ia_fs rfl rfl rfl rfl rfl rfl (by with_reducible assumption)) rfl ?_
      | refine awpL_ev (ev_ia_os rfl rfl rfl rfl rfl rfl rfl (by with_reducible assumption)) rfl ?_
      | refine awpL_ev (ev_extract rfl rfl) rfl ?_
      | refine awpL_ev (ev_index_str rfl rfl rfl rfl (by with_reducible assumption)) rfl ?_
      | refine awpL_ev (ev_build rfl rfl rfl rfl rfl rfl rfl) rfl ?_
      | refine awpL_ev (ev_build_lag rfl rfl rfl rfl rfl rfl) rfl ?_
      | refine awpL_ev (ev_slice_fs rfl rfl rfl rfl rfl rfl rfl (by with_reducible assumption) rfl rfl) rfl ?_
      | refine awpL_ev2 (ev_bslice_in rfl rfl rfl rfl rfl rfl rfl rfl rfl rfl rfl rfl (by (try simp only [List.map_cons, List.map_nil, cellsOf]); (try rfl))) rfl ?_
      | refine awpL_ev2 (ev_stb rfl rfl rfl rfl rfl rfl rfl) rfl ?_
      | refine awpL_ev2 (ev_alloc rfl rfl (by (try simp only [List.length_nil, List.length_cons, Nat.reduceAdd]); (try rfl)) (by (try simp only [List.set_cons_zero, List.set_cons_succ, List.nil_append, List.cons_append, List.append_nil, cellsOf, List.take_zero, List.drop_zero, List.take_succ_cons, List.drop_succ_cons, Nat.zero_add, Nat.reduceAdd, List.drop_nil, List.map_cons, List.map_nil]); (try rfl))) rfl ?_
      | refine awpL_ev2 (ev_box rfl rfl (by (try simp only [List.length_nil, List.length_cons, Nat.reduceAdd]); (try rfl)) (by (try simp only [List.set_cons_zero, List.set_cons_succ, List.nil_append, List.cons_append, List.append_nil, cellsOf, List.take_zero, List.drop_zero, List.take_succ_cons, List.drop_succ_cons, Nat.zero_add, Nat.reduceAdd, List.drop_nil, List.map_cons, List.map_nil]); (try rfl))) rfl ?_
      | refine awpL_evS (ev_st_lp rfl rfl rfl rfl rfl rfl rfl (by (try simp only [List.set_cons_zero, List.set_cons_succ, List.nil_append, List.cons_append, List.append_nil, cellsOf, List.take_zero, List.drop_zero, List.take_succ_cons, List.drop_succ_cons, Nat.zero_add, Nat.reduceAdd, List.drop_nil, List.map_cons, List.map_nil]); (try rfl))) ?_)
    | (with_reducible refine is_gd ?_; (first | refine awpL_run rfl rfl rfl (by first | with_reducible rfl | with_reducible assumption) ?_ | refine awpL_passT rfl rfl rfl rfl (by first | with_reducible rfl | with_reducible assumption) ?_ | refine awpL_passF rfl rfl rfl rfl (by first | with_reducible rfl | with_reducible assumption) ?_ | refine awpL_passU rfl rfl rfl rfl ?_ | refine awpL_split rfl rfl (fun h => ?_) (fun h => ?_)))
    | (with_reducible refine is_nil ?_; refine awpL_nil ?_)
    | (with_reducible refine is_then ?_; (first | refine thenQ_n ?_ | refine thenQ_r ?_ | refine thenQ_e ?_))
    | (with_reducible refine is_block ?_; (first | refine blockQ_n ?_ | refine blockQ_r ?_ | refine blockQ_e ?_ | refine blockQ_o rfl ?_))
    | (with_reducible refine is_awp ?_; (first | refine awp_seq ?_ | refine awp_ret ?_ | refine awp_skip ?_ | refine awp_exit ?_ | refine awp_label ?_ | refine awp_block ?_ | refine awp_region ?_ | refine awp_cond_t rfl (by first | with_reducible rfl | with_reducible assumption) ?_ | refine awp_cond_f rfl (by first | with_reducible rfl | with_reducible assumption) ?_ | refine awp_cond rfl (fun h => ?_) (fun h => ?_))))
  refine awp_for (α := Nat) 0 (fun k => [(7, encTs l), (8, vi l.length), (9, vi k), (1, vi role)]) (fun _ => []) (fun k => k ≤ l.length ∧ roleOf l role = roleFrom role k (l.drop k)) (fun k => l.length - k) 0
    ⟨(.cons rfl rfl (.cons rfl rfl (.cons rfl rfl (.cons rfl rfl .nil)))), rfl, rfl, rfl⟩ ⟨Nat.zero_le _, rfl⟩ ?_
  rintro k ⟨hk, hf⟩
  cases ht : l[k]? with
  | none =>
    have hge : l.length ≤ k := by simpa using ht
    have c1 : decide ((k : Int) < l.length) = false := by simp; omega
    rw [List.drop_of_length_le hge] at hf
    repeat' (first
      | (with_reducible refine is_un ?_; first
        | (with_reducible refine is_move ?_; (first | refine awpL_ev (ev_move rfl) rfl ?_))
        | (with_reducible refine is_bin ?_; (first | refine awpL_ev (ev_add rfl rfl (by omega)) rfl ?_ | refine awpL_ev (ev_sub rfl rfl (by omega)) rfl ?_ | refine awpL_ev (ev_bin rfl rfl rfl) rfl ?_ | refine awpL_ev (ev_eq_bool rfl rfl rfl rfl) rfl ?_))
        | (with_reducible refine is_fa ?_; (first | refine awpL_ev (ev_fa_fp rfl rfl rfl rfl rfl rfl) rfl ?_ | refine awpL_ev (ev_fa_lp rfl rfl rfl rfl rfl rfl) rfl ?_ | refine awpL_ev (ev_fa_ep rfl rfl rfl rfl rfl rfl) rfl ?_))
        | (with_reducible refine is_load ?_; (first | refine awpL_ev (ev_load_agg rfl rfl rfl rfl) rfl ?_ | refine awpL_ev (ev_load_sub rfl rfl rfl rfl rfl) rfl ?_ | refine awpL_ev (ev_load_one rfl rfl rfl rfl) rfl ?_ | refine awpL_ev (ev_ll_agg rfl rfl rfl rfl rfl rfl rfl) rfl ?_ | refine awpL_ev (ev_ll_lag rfl rfl rfl rfl rfl rfl) rfl ?_ | refine awpL_ev (ev_ll_one rfl rfl rfl rfl rfl) rfl ?_ | refine awpL_ev (ev_el_one rfl rfl rfl rfl (by with_reducible assumption) rfl) rfl ?_))
        | (with_reducible refine is_pick ?_; (first | refine awpL_ev (ev_pick_t rfl (by first | with_reducible rfl | with_reducible assumption) rfl) rfl ?_ | refine awpL_ev (ev_pick_f rfl (by first | with_reducible rfl | with_reducible assumption) rfl) rfl ?_))
        | (with_reducible refine is_assign ?_; (first | refine awpL_ev (ev_assign rfl) rfl ?_))
        | (with_reducible refine is_call ?_; (first | refine awpL_ev (ev_len rfl rfl rfl rfl rfl) rfl ?_ | refine awpL_ev (ev_len_os rfl rfl rfl rfl rfl) rfl ?_))
        | refine awpL_ev (ev_not rfl) rfl ?_
        | refine awpL_ev (ev_ia_fs rfl rfl rfl rfl rfl rfl (by with_reducible assumption)) rfl ?_
        | refine awpL_ev (ev_ia_os rfl rfl rfl rfl rfl rfl rfl (by with_reducible assumption)) rfl ?_
        | refine awpL_ev (ev_extract rfl rfl) rfl ?_
        | refine awpL_ev (ev_index_str rfl rfl rfl rfl (by with_reducible assumption)) rfl ?_
        | refine awpL_ev (ev_build rfl rfl rfl rfl rfl rfl rfl) rfl ?_
        | refine awpL_ev (ev_build_lag rfl rfl rfl rfl rfl rfl) rfl ?_
        | refine awpL_ev (ev_slice_fs rfl rfl rfl rfl rfl rfl rfl (by with_reducible assumption) rfl rfl) rfl ?_
        | refine awpL_ev2 (ev_bslice_in rfl rfl rfl rfl rfl rfl rfl rfl rfl rfl rfl rfl (by (try simp only [List.map_cons, List.map_nil, cellsOf]); (try rfl))) rfl ?_
        | refine awpL_ev2 (ev_stb rfl rfl rfl rfl rfl rfl rfl) rfl ?_
        | refine awpL_ev2 (ev_alloc rfl rfl (by (try simp only [List.length_nil, List.length_cons, Nat.reduceAdd]); (try rfl)) (by (try simp only [List.set_cons_zero, List.set_cons_succ, List.nil_append, List.cons_append, List.append_nil, cellsOf, List.take_zero, List.drop_zero, List.take_succ_cons, List.drop_succ_cons, Nat.zero_add, Nat.reduceAdd, List.drop_nil, List.map_cons, List.map_nil]); (try rfl))) rfl ?_
        | refine awpL_ev2 (ev_box rfl rfl (by (try simp only [List.length_nil, List.length_cons, Nat.reduceAdd]); (try rfl)) (by (try simp only [List.set_cons_zero, List.set_cons_succ, List.nil_append, List.cons_append, List.append_nil, cellsOf, List.take_zero, List.drop_zero, List.take_succ_cons, List.drop_succ_cons, Nat.zero_add, Nat.reduceAdd, List.drop_nil, List.map_cons, List.map_nil]); (try rfl))) rfl ?_
        | refine awpL_evS (ev_st_lp rfl rfl rfl rfl rfl rfl rfl (by (try simp only [List.set_cons_zero, List.set_cons_succ, List.nil_append, List.cons_append, List.append_nil, cellsOf, List.take_zero, List.drop_zero, List.take_succ_cons, List.drop_succ_cons, Nat.zero_add, Nat.reduceAdd, List.drop_nil, List.map_cons, List.map_nil]); (try rfl))) ?_)
      | (with_reducible refine is_gd ?_; (first | refine awpL_run rfl rfl rfl (by first | with_reducible rfl | with_reducible assumption) ?_ | refine awpL_passT rfl rfl rfl rfl (by first | with_reducible rfl | with_reducible assumption) ?_ | refine awpL_passF rfl rfl rfl rfl (by first | with_reducible rfl | with_reducible assumption) ?_ | refine awpL_passU rfl rfl rfl rfl ?_ | refine awpL_split rfl rfl (fun h => ?_) (fun h => ?_)))
      | (with_reducible refine is_nil ?_; refine awpL_nil ?_)
      | (with_reducible refine is_then ?_; (first | refine thenQ_n ?_ | refine thenQ_r ?_ | refine thenQ_e ?_))
      | (with_reducible refine is_block ?_; (first | refine blockQ_n ?_ | refine blockQ_r ?_ | refine blockQ_e ?_ | refine blockQ_o rfl ?_))
      | (with_reducible refine is_awp ?_; (first | refine awp_seq ?_ | refine awp_ret ?_ | refine awp_skip ?_ | refine awp_exit ?_ | refine awp_label ?_ | refine awp_block ?_ | refine awp_region ?_ | refine awp_cond_t rfl (by first | with_reducible rfl | with_reducible assumption) ?_ | refine awp_cond_f rfl (by first | with_reducible rfl | with_reducible assumption) ?_ | refine awp_cond rfl (fun h => ?_) (fun h => ?_))))
    refine retP rfl ?_
    rw [hf]; rfl
  | some t =>
    have hlt : k < l.length := (List.getElem?_eq_some_iff.1 ht).1
    have c1 : decide ((k : Int) < l.length) = true := by simp; omega
    have h1 := encT_get ht
    have hd := roleFrom_drop role l k t ht
    repeat' (first
      | (with_reducible refine is_un ?_; first
        | (with_reducible refine is_move ?_; (first | refine awpL_ev (ev_move rfl) rfl ?_))
        | (with_reducible refine is_bin ?_; (first | refine awpL_ev (ev_add rfl rfl (by omega)) rfl ?_ | refine awpL_ev (ev_sub rfl rfl (by omega)) rfl ?_ | refine awpL_ev (ev_bin rfl rfl rfl) rfl ?_ | refine awpL_ev (ev_eq_bool rfl rfl rfl rfl) rfl ?_))
        | (with_reducible refine is_fa ?_; (first | refine awpL_ev (ev_fa_fp rfl rfl rfl rfl rfl rfl) rfl ?_ | refine awpL_ev (ev_fa_lp rfl rfl rfl rfl rfl rfl) rfl ?_ | refine awpL_ev (ev_fa_ep rfl rfl rfl rfl rfl rfl) rfl ?_))
        | (with_reducible refine is_load ?_; (first | refine awpL_ev (ev_load_agg rfl rfl rfl rfl) rfl ?_ | refine awpL_ev (ev_load_sub rfl rfl rfl rfl rfl) rfl ?_ | refine awpL_ev (ev_load_one rfl rfl rfl rfl) rfl ?_ | refine awpL_ev (ev_ll_agg rfl rfl rfl rfl rfl rfl rfl) rfl ?_ | refine awpL_ev (ev_ll_lag rfl rfl rfl rfl rfl rfl) rfl ?_ | refine awpL_ev (ev_ll_one rfl rfl rfl rfl rfl) rfl ?_ | refine awpL_ev (ev_el_one rfl rfl rfl rfl (by with_reducible assumption) rfl) rfl ?_))
        | (with_reducible refine is_pick ?_; (first | refine awpL_ev (ev_pick_t rfl (by first | with_reducible rfl | with_reducible assumption) rfl) rfl ?_ | refine awpL_ev (ev_pick_f rfl (by first | with_reducible rfl | with_reducible assumption) rfl) rfl ?_))
        | (with_reducible refine is_assign ?_; (first | refine awpL_ev (ev_assign rfl) rfl ?_))
        | (with_reducible refine is_call ?_; (first | refine awpL_ev (ev_len rfl rfl rfl rfl rfl) rfl ?_ | refine awpL_ev (ev_len_os rfl rfl rfl rfl rfl) rfl ?_))
        | refine awpL_ev (ev_not rfl) rfl ?_
        | refine awpL_ev (ev_ia_fs rfl rfl rfl rfl rfl rfl (by with_reducible assumption)) rfl ?_
        | refine awpL_ev (ev_ia_os rfl rfl rfl rfl rfl rfl rfl (by with_reducible assumption)) rfl ?_
        | refine awpL_ev (ev_extract rfl rfl) rfl ?_
        | refine awpL_ev (ev_index_str rfl rfl rfl rfl (by with_reducible assumption)) rfl ?_
        | refine awpL_ev (ev_build rfl rfl rfl rfl rfl rfl rfl) rfl ?_
        | refine awpL_ev (ev_build_lag rfl rfl rfl rfl rfl rfl) rfl ?_
        | refine awpL_ev (ev_slice_fs rfl rfl rfl rfl rfl rfl rfl (by with_reducible assumption) rfl rfl) rfl ?_
        | refine awpL_ev2 (ev_bslice_in rfl rfl rfl rfl rfl rfl rfl rfl rfl rfl rfl rfl (by (try simp only [List.map_cons, List.map_nil, cellsOf]); (try rfl))) rfl ?_
        | refine awpL_ev2 (ev_stb rfl rfl rfl rfl rfl rfl rfl) rfl ?_
        | refine awpL_ev2 (ev_alloc rfl rfl (by (try simp only [List.length_nil, List.length_cons, Nat.reduceAdd]); (try rfl)) (by (try simp only [List.set_cons_zero, List.set_cons_succ, List.nil_append, List.cons_append, List.append_nil, cellsOf, List.take_zero, List.drop_zero, List.take_succ_cons, List.drop_succ_cons, Nat.zero_add, Nat.reduceAdd, List.drop_nil, List.map_cons, List.map_nil]); (try rfl))) rfl ?_
        | refine awpL_ev2 (ev_box rfl rfl (by (try simp only [List.length_nil, List.length_cons, Nat.reduceAdd]); (try rfl)) (by (try simp only [List.set_cons_zero, List.set_cons_succ, List.nil_append, List.cons_append, List.append_nil, cellsOf, List.take_zero, List.drop_zero, List.take_succ_cons, List.drop_succ_cons, Nat.zero_add, Nat.reduceAdd, List.drop_nil, List.map_cons, List.map_nil]); (try rfl))) rfl ?_
        | refine awpL_evS (ev_st_lp rfl rfl rfl rfl rfl rfl rfl (by (try simp only [List.set_cons_zero, List.set_cons_succ, List.nil_append, List.cons_append, List.append_nil, cellsOf, List.take_zero, List.drop_zero, List.take_succ_cons, List.drop_succ_cons, Nat.zero_add, Nat.reduceAdd, List.drop_nil, List.map_cons, List.map_nil]); (try rfl))) ?_)
      | (with_reducible refine is_gd ?_; (first | refine awpL_run rfl rfl rfl (by first | with_reducible rfl | with_reducible assumption) ?_ | refine awpL_passT rfl rfl rfl rfl (by first | with_reducible rfl | with_reducible assumption) ?_ | refine awpL_passF rfl rfl rfl rfl (by first | with_reducible rfl | with_reducible assumption) ?_ | refine awpL_passU rfl rfl rfl rfl ?_ | refine awpL_split rfl rfl (fun h => ?_) (fun h => ?_)))
      | (with_reducible refine is_nil ?_; refine awpL_nil ?_)
      | (with_reducible refine is_then ?_; (first | refine thenQ_n ?_ | refine thenQ_r ?_ | refine thenQ_e ?_))
      | (with_reducible refine is_block ?_; (first | refine blockQ_n ?_ | refine blockQ_r ?_ | refine blockQ_e ?_ | refine blockQ_o rfl ?_))
      | (with_reducible refine is_awp ?_; (first | refine awp_seq ?_ | refine awp_ret ?_ | refine awp_skip ?_ | refine awp_exit ?_ | refine awp_label ?_ | refine awp_block ?_ | refine awp_region ?_ | refine awp_cond_t rfl (by first | with_reducible rfl | with_reducible assumption) ?_ | refine awp_cond_f rfl (by first | with_reducible rfl | with_reducible assumption) ?_ | refine awp_cond rfl (fun h => ?_) (fun h => ?_))))
    all_goals first
      | (refine retP rfl ?_; rw [hf, hd, if_pos (by simp_all)]; rfl)
      | exact ⟨k + 1, ⟨(.cons rfl rfl (.cons rfl rfl (.cons rfl rfl (.cons rfl rfl .nil)))), rfl, rfl, rfl⟩, ⟨by omega, by rw [hf, hd, if_neg (by simp_all)]⟩, by omega⟩
end Go.Proofs.Ytghbllbjjfjenaa
