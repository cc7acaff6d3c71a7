/- The reference: one tier, Check. -/
import Derived.Test.YtghbllbjjfjenaaC7
namespace Go.Proofs.Ytghbllbjjfjenaa
open Go.Ab
attribute [local irreducible] awp awpL Ev Ev2 EvS thenQ blockQ retQ PCalls OCalls awpD
set_option linter.unusedSimpArgs false
set_option linter.unusedVariables false

theorem take_get {α : Type} {l : List α} {i k : Nat} {t : α} (h : l[k]? = some t) (hk : k < i) : (l.take i)[k]? = some t := by
  rw [List.getElem?_take, if_pos hk]; exact h
theorem findFrom_pos {name : ByteArray} {l : List Tier} {k : Nat} : 0 ≤ findFrom name k l ∨ findFrom name k l = -1 := by
  rcases findFrom_ge name l k with h | h
  · exact .inr h
  · exact .inl (by omega)

set_option maxHeartbeats 4000000 in
theorem tier_spec (l : List Tier) (i : Nat) (t : Tier) (ht : l[i]? = some t) (hl : l.length ≤ 1000000) (hs : t.name.size ≤ 9223372036854775807) :
    PCalls Try.prog [] 31 [encTs l, vi i] (vi (one (l.take i) t)) := by
  refine pcalls' Try.func31 Try.ntmps31 rfl rfl rfl ?_
  have hi : i < l.length := (List.getElem?_eq_some_iff.1 ht).1
  have hlen : (l.take i).length = i := by simp; omega
  have h0 := encT_get ht
  have hN := rName_spec t.name hs
  cases hn : nameOk t.name with
  | false =>
    rw [hn] at hN
    have cn : (!false) = true := rfl
    repeat' (first
      | (with_reducible refine is_un ?_; first
        | (with_reducible refine is_move ?_; (first | refine awpL_ev (ev_move rfl) rfl ?_))
        | (with_reducible refine is_bin ?_; (first | refine awpL_ev (ev_add rfl rfl (by omega)) rfl ?_ | refine awpL_ev (ev_sub rfl rfl (by omega)) rfl ?_ | refine awpL_ev (ev_bin rfl rfl rfl) rfl ?_ | refine awpL_ev (ev_eq_bool rfl rfl rfl rfl) rfl ?_))
        | (with_reducible refine is_fa ?_; (first | refine awpL_ev (ev_fa_fp rfl rfl rfl rfl rfl rfl) rfl ?_ | refine awpL_ev (ev_fa_lp rfl rfl rfl rfl rfl rfl) rfl ?_ | refine awpL_ev (ev_fa_ep rfl rfl rfl rfl rfl rfl) rfl ?_))
        | (with_reducible refine is_load ?_; (first | refine awpL_ev (ev_load_agg rfl rfl rfl rfl) rfl ?_ | refine awpL_ev (ev_load_sub rfl rfl rfl rfl rfl) rfl ?_ | refine awpL_ev (ev_load_one rfl rfl rfl rfl) rfl ?_ | refine awpL_ev (ev_ll_agg rfl rfl rfl rfl rfl rfl rfl) rfl ?_ | refine awpL_ev (ev_ll_lag rfl rfl rfl rfl rfl rfl) rfl ?_ | refine awpL_ev (ev_ll_one rfl rfl rfl rfl rfl) rfl ?_ | refine awpL_ev (ev_el_one rfl rfl rfl rfl (by with_reducible assumption) rfl) rfl ?_))
        | (with_reducible refine is_pick ?_; (first | refine awpL_ev (ev_pick_t rfl (by first | with_reducible rfl | with_reducible assumption) rfl) rfl ?_ | refine awpL_ev (ev_pick_f rfl (by first | with_reducible rfl | with_reducible assumption) rfl) rfl ?_))
        | (with_reducible refine is_assign ?_; (first | refine awpL_ev (ev_assign rfl) rfl ?_))
        | (with_reducible refine is_call ?_; (first | refine awpL_call rfl rfl hN rfl ?_ | refine awpL_ev (ev_len rfl rfl rfl rfl rfl) rfl ?_ | refine awpL_ev (ev_len_os rfl rfl rfl rfl rfl) rfl ?_))
        | refine awpL_ev (ev_not rfl) rfl ?_
        | refine awpL_ev (ev_ia_fs rfl rfl rfl rfl rfl rfl (by with_reducible assumption)) rfl ?_
        | refine awpL_ev (ev_ia_os rfl rfl rfl rfl rfl rfl rfl (by with_reducible assumption)) rfl ?_
        | refine awpL_ev (ev_extract rfl rfl) rfl ?_
        | refine awpL_ev (ev_index_str rfl rfl rfl rfl (by with_reducible assumption)) rfl ?_
        | refine awpL_ev (ev_build rfl rfl rfl rfl rfl rfl rfl) rfl ?_
        | refine awpL_ev (ev_build_lag rfl rfl rfl rfl rfl rfl) rfl ?_
        | refine awpL_ev (ev_slice_fs rfl rfl rfl rfl rfl rfl rfl (by with_reducible assumption) rfl rfl) rfl ?_
        | refine awpL_ev2 (ev_bslice_in rfl rfl rfl rfl rfl rfl rfl rfl rfl rfl rfl rfl (by (try simp only [List.map_cons, List.map_nil, cellsOf]); (try rfl))) rfl ?_
        | refine awpL_ev2 (ev_stb rfl rfl rfl rfl rfl rfl rfl) rfl ?_
        | refine awpL_ev2 (ev_alloc rfl rfl (by (try simp only [List.length_nil, List.length_cons, Nat.reduceAdd]); (try rfl)) (by (try simp only [List.set_cons_zero, List.set_cons_succ, List.nil_append, List.cons_append, List.append_nil, cellsOf, List.take_zero, List.drop_zero, List.take_succ_cons, List.drop_succ_cons, Nat.zero_add, Nat.reduceAdd, List.drop_nil, List.map_cons, List.map_nil]); (try rfl))) rfl ?_
        | refine awpL_ev2 (ev_box rfl rfl (by (try simp only [List.length_nil, List.length_cons, Nat.reduceAdd]); (try rfl)) (by (try simp only [List.set_cons_zero, List.set_cons_succ, List.nil_append, List.cons_append, List.append_nil, cellsOf, List.take_zero, List.drop_zero, List.take_succ_cons, List.drop_succ_cons, Nat.zero_add, Nat.reduceAdd, List.drop_nil, List.map_cons, List.map_nil]); (try rfl))) rfl ?_
        | refine awpL_evS (ev_st_lp rfl rfl rfl rfl rfl rfl rfl (by (try simp only [List.set_cons_zero, List.set_cons_succ, List.nil_append, List.cons_append, List.append_nil, cellsOf, List.take_zero, List.drop_zero, List.take_succ_cons, List.drop_succ_cons, Nat.zero_add, Nat.reduceAdd, List.drop_nil, List.map_cons, List.map_nil]); (try rfl))) ?_)
      | (with_reducible refine is_gd ?_; (first | refine awpL_run rfl rfl rfl (by first | with_reducible rfl | with_reducible assumption) ?_ | refine awpL_passT rfl rfl rfl rfl (by first | with_reducible rfl | with_reducible assumption) ?_ | refine awpL_passF rfl rfl rfl rfl (by first | with_reducible rfl | with_reducible assumption) ?_ | refine awpL_passU rfl rfl rfl rfl ?_ | refine awpL_split rfl rfl (fun h => ?_) (fun h => ?_)))
      | (with_reducible refine is_nil ?_; refine awpL_nil ?_)
      | (with_reducible refine is_then ?_; (first | refine thenQ_n ?_ | refine thenQ_r ?_ | refine thenQ_e ?_))
      | (with_reducible refine is_block ?_; (first | refine blockQ_n ?_ | refine blockQ_r ?_ | refine blockQ_e ?_ | refine blockQ_o rfl ?_))
      | (with_reducible refine is_awp ?_; (first | refine awp_seq ?_ | refine awp_ret ?_ | refine awp_skip ?_ | refine awp_exit ?_ | refine awp_label ?_ | refine awp_block ?_ | refine awp_region ?_ | refine awp_cond_t rfl (by first | with_reducible rfl | with_reducible assumption) ?_ | refine awp_cond_f rfl (by first | with_reducible rfl | with_reducible assumption) ?_ | refine awp_cond rfl (fun h => ?_) (fun h => ?_))))
    refine retP rfl ?_
    simp [ex, one, hn]
  | true =>
  rw [hn] at hN
  have cn : (!true) = false := rfl
  repeat' (first
    | (with_reducible refine is_un ?_; first
      | (with_reducible refine is_move ?_; (first | refine awpL_ev (ev_move rfl) rfl ?_))
      | (with_reducible refine is_bin ?_; (first | refine awpL_ev (ev_add rfl rfl (by omega)) rfl ?_ | refine awpL_ev (ev_sub rfl rfl (by omega)) rfl ?_ | refine awpL_ev (ev_bin rfl rfl rfl) rfl ?_ | refine awpL_ev (ev_eq_bool rfl rfl rfl rfl) rfl ?_))
      | (with_reducible refine is_fa ?_; (first | refine awpL_ev (ev_fa_fp rfl rfl rfl rfl rfl rfl) rfl ?_ | refine awpL_ev (ev_fa_lp rfl rfl rfl rfl rfl rfl) rfl ?_ | refine awpL_ev (ev_fa_ep rfl rfl rfl rfl rfl rfl) rfl ?_))
      | (with_reducible refine is_load ?_; (first | refine awpL_ev (ev_load_agg rfl rfl rfl rfl) rfl ?_ | refine awpL_ev (ev_load_sub rfl rfl rfl rfl rfl) rfl ?_ | refine awpL_ev (ev_load_one rfl rfl rfl rfl) rfl ?_ | refine awpL_ev (ev_ll_agg rfl rfl rfl rfl rfl rfl rfl) rfl ?_ | refine awpL_ev (ev_ll_lag rfl rfl rfl rfl rfl rfl) rfl ?_ | refine awpL_ev (ev_ll_one rfl rfl rfl rfl rfl) rfl ?_ | refine awpL_ev (ev_el_one rfl rfl rfl rfl (by with_reducible assumption) rfl) rfl ?_))
      | (with_reducible refine is_pick ?_; (first | refine awpL_ev (ev_pick_t rfl (by first | with_reducible rfl | with_reducible assumption) rfl) rfl ?_ | refine awpL_ev (ev_pick_f rfl (by first | with_reducible rfl | with_reducible assumption) rfl) rfl ?_))
      | (with_reducible refine is_assign ?_; (first | refine awpL_ev (ev_assign rfl) rfl ?_))
      | (with_reducible refine is_call ?_; (first | refine awpL_call rfl rfl hN rfl ?_ | refine awpL_ev (ev_len rfl rfl rfl rfl rfl) rfl ?_ | refine awpL_ev (ev_len_os rfl rfl rfl rfl rfl) rfl ?_))
      | refine awpL_ev (ev_not rfl) rfl ?_
      | refine awpL_ev (ev_ia_fs rfl rfl rfl rfl rfl rfl (by with_reducible assumption)) rfl ?_
      | refine awpL_ev (ev_ia_os rfl rfl rfl rfl rfl rfl rfl (by with_reducible assumption)) rfl ?_
      | refine awpL_ev (ev_extract rfl rfl) rfl ?_
      | refine awpL_ev (ev_index_str rfl rfl rfl rfl (by with_reducible assumption)) rfl ?_
      | refine awpL_ev (ev_build rfl rfl rfl rfl rfl rfl rfl) rfl ?_
      | refine awpL_ev (ev_build_lag rfl rfl rfl rfl rfl rfl) rfl ?_
      | refine awpL_ev (ev_slice_fs rfl rfl rfl rfl rfl rfl rfl (by with_reducible assumption) rfl rfl) rfl ?_
      | refine awpL_ev2 (ev_bslice_in rfl rfl rfl rfl rfl rfl rfl rfl rfl rfl rfl rfl (by (try simp only [List.map_cons, List.map_nil, cellsOf]); (try rfl))) rfl ?_
      | refine awpL_ev2 (ev_stb rfl rfl rfl rfl rfl rfl rfl) rfl ?_
      | refine awpL_ev2 (ev_alloc rfl rfl (by (try simp only [List.length_nil, List.length_cons, Nat.reduceAdd]); (try rfl)) (by (try simp only [List.set_cons_zero, List.set_cons_succ, List.nil_append, List.cons_append, List.append_nil, cellsOf, List.take_zero, List.drop_zero, List.take_succ_cons, List.drop_succ_cons, Nat.zero_add, Nat.reduceAdd, List.drop_nil, List.map_cons, List.map_nil]); (try rfl))) rfl ?_
      | refine awpL_ev2 (ev_box rfl rfl (by (try simp only [List.length_nil, List.length_cons, Nat.reduceAdd]); (try rfl)) (by (try simp only [List.set_cons_zero, List.set_cons_succ, List.nil_append, List.cons_append, List.append_nil, cellsOf, List.take_zero, List.drop_zero, List.take_succ_cons, List.drop_succ_cons, Nat.zero_add, Nat.reduceAdd, List.drop_nil, List.map_cons, List.map_nil]); (try rfl))) rfl ?_
      | refine awpL_evS (ev_st_lp rfl rfl rfl rfl rfl rfl rfl (by (try simp only [List.set_cons_zero, List.set_cons_succ, List.nil_append, List.cons_append, List.append_nil, cellsOf, List.take_zero, List.drop_zero, List.take_succ_cons, List.drop_succ_cons, Nat.zero_add, Nat.reduceAdd, List.drop_nil, List.map_cons, List.map_nil]); (try rfl))) ?_)
    | (with_reducible refine is_gd ?_; (first | refine awpL_run rfl rfl rfl (by first | with_reducible rfl | with_reducible assumption) ?_ | refine awpL_passT rfl rfl rfl rfl (by first | with_reducible rfl | with_reducible assumption) ?_ | refine awpL_passF rfl rfl rfl rfl (by first | with_reducible rfl | with_reducible assumption) ?_ | refine awpL_passU rfl rfl rfl rfl ?_ | refine awpL_split rfl rfl (fun h => ?_) (fun h => ?_)))
    | (with_reducible refine is_nil ?_; refine awpL_nil ?_)
    | (with_reducible refine is_then ?_; (first | refine thenQ_n ?_ | refine thenQ_r ?_ | refine thenQ_e ?_))
    | (with_reducible refine is_block ?_; (first | refine blockQ_n ?_ | refine blockQ_r ?_ | refine blockQ_e ?_ | refine blockQ_o rfl ?_))
    | (with_reducible refine is_awp ?_; (first | refine awp_seq ?_ | refine awp_ret ?_ | refine awp_skip ?_ | refine awp_exit ?_ | refine awp_label ?_ | refine awp_block ?_ | refine awp_region ?_ | refine awp_cond_t rfl (by first | with_reducible rfl | with_reducible assumption) ?_ | refine awp_cond_f rfl (by first | with_reducible rfl | with_reducible assumption) ?_ | refine awp_cond rfl (fun h => ?_) (fun h => ?_))))
  refine awp_for (α := Nat) 1 (fun k => [(0, encTs l), (1, vi i), (5, .lp 0 0), (6, vi k)]) (fun _ => [.box (encT t)]) (fun k => k ≤ i ∧ find (l.take i) t.name = findFrom t.name k ((l.take i).drop k)) (fun k => i - k) 0
    ⟨(.cons rfl rfl (.cons rfl rfl (.cons rfl rfl (.cons rfl rfl .nil)))), rfl, rfl, rfl⟩ ⟨Nat.zero_le _, rfl⟩ ?_
  rintro k ⟨hk, hf⟩
  by_cases hki : k < i
  · obtain ⟨u, hu⟩ : ∃ u, l[k]? = some u := ⟨l[k]'(by omega), by simp⟩
    have c1 : decide ((k : Int) < i) = true := by simpa using hki
    have h1 := encT_get hu
    have hd := findFrom_drop t.name _ k u (take_get hu hki)
    repeat' (first
      | (with_reducible refine is_un ?_; first
        | (with_reducible refine is_move ?_; (first | refine awpL_ev (ev_move rfl) rfl ?_))
        | (with_reducible refine is_bin ?_; (first | refine awpL_ev (ev_add rfl rfl (by omega)) rfl ?_ | refine awpL_ev (ev_sub rfl rfl (by omega)) rfl ?_ | refine awpL_ev (ev_bin rfl rfl rfl) rfl ?_ | refine awpL_ev (ev_eq_bool rfl rfl rfl rfl) rfl ?_))
        | (with_reducible refine is_fa ?_; (first | refine awpL_ev (ev_fa_fp rfl rfl rfl rfl rfl rfl) rfl ?_ | refine awpL_ev (ev_fa_lp rfl rfl rfl rfl rfl rfl) rfl ?_ | refine awpL_ev (ev_fa_ep rfl rfl rfl rfl rfl rfl) rfl ?_))
        | (with_reducible refine is_load ?_; (first | refine awpL_ev (ev_load_agg rfl rfl rfl rfl) rfl ?_ | refine awpL_ev (ev_load_sub rfl rfl rfl rfl rfl) rfl ?_ | refine awpL_ev (ev_load_one rfl rfl rfl rfl) rfl ?_ | refine awpL_ev (ev_ll_agg rfl rfl rfl rfl rfl rfl rfl) rfl ?_ | refine awpL_ev (ev_ll_lag rfl rfl rfl rfl rfl rfl) rfl ?_ | refine awpL_ev (ev_ll_one rfl rfl rfl rfl rfl) rfl ?_ | refine awpL_ev (ev_el_one rfl rfl rfl rfl (by with_reducible assumption) rfl) rfl ?_))
        | (with_reducible refine is_pick ?_; (first | refine awpL_ev (ev_pick_t rfl (by first | with_reducible rfl | with_reducible assumption) rfl) rfl ?_ | refine awpL_ev (ev_pick_f rfl (by first | with_reducible rfl | with_reducible assumption) rfl) rfl ?_))
        | (with_reducible refine is_assign ?_; (first | refine awpL_ev (ev_assign rfl) rfl ?_))
        | (with_reducible refine is_call ?_; (first | refine awpL_ev (ev_len rfl rfl rfl rfl rfl) rfl ?_ | refine awpL_ev (ev_len_os rfl rfl rfl rfl rfl) rfl ?_))
        | refine awpL_ev (ev_not rfl) rfl ?_
        | refine awpL_ev (ev_ia_fs rfl rfl rfl rfl rfl rfl (by with_reducible assumption)) rfl ?_
        | refine awpL_ev (ev_ia_os rfl rfl rfl rfl rfl rfl rfl (by with_reducible assumption)) rfl ?_
        | refine awpL_ev (ev_extract rfl rfl) rfl ?_
        | refine awpL_ev (ev_index_str rfl rfl rfl rfl (by with_reducible assumption)) rfl ?_
        | refine awpL_ev (ev_build rfl rfl rfl rfl rfl rfl rfl) rfl ?_
        | refine awpL_ev (ev_build_lag rfl rfl rfl rfl rfl rfl) rfl ?_
        | refine awpL_ev (ev_slice_fs rfl rfl rfl rfl rfl rfl rfl (by with_reducible assumption) rfl rfl) rfl ?_
        | refine awpL_ev2 (ev_bslice_in rfl rfl rfl rfl rfl rfl rfl rfl rfl rfl rfl rfl (by (try simp only [List.map_cons, List.map_nil, cellsOf]); (try rfl))) rfl ?_
        | refine awpL_ev2 (ev_stb rfl rfl rfl rfl rfl rfl rfl) rfl ?_
        | refine awpL_ev2 (ev_alloc rfl rfl (by (try simp only [List.length_nil, List.length_cons, Nat.reduceAdd]); (try rfl)) (by (try simp only [List.set_cons_zero, List.set_cons_succ, List.nil_append, List.cons_append, List.append_nil, cellsOf, List.take_zero, List.drop_zero, List.take_succ_cons, List.drop_succ_cons, Nat.zero_add, Nat.reduceAdd, List.drop_nil, List.map_cons, List.map_nil]); (try rfl))) rfl ?_
        | refine awpL_ev2 (ev_box rfl rfl (by (try simp only [List.length_nil, List.length_cons, Nat.reduceAdd]); (try rfl)) (by (try simp only [List.set_cons_zero, List.set_cons_succ, List.nil_append, List.cons_append, List.append_nil, cellsOf, List.take_zero, List.drop_zero, List.take_succ_cons, List.drop_succ_cons, Nat.zero_add, Nat.reduceAdd, List.drop_nil, List.map_cons, List.map_nil]); (try rfl))) rfl ?_
        | refine awpL_evS (ev_st_lp rfl rfl rfl rfl rfl rfl rfl (by (try simp only [List.set_cons_zero, List.set_cons_succ, List.nil_append, List.cons_append, List.append_nil, cellsOf, List.take_zero, List.drop_zero, List.take_succ_cons, List.drop_succ_cons, Nat.zero_add, Nat.reduceAdd, List.drop_nil, List.map_cons, List.map_nil]); (try rfl))) ?_)
      | (with_reducible refine is_gd ?_; (first | refine awpL_run rfl rfl rfl (by first | with_reducible rfl | with_reducible assumption) ?_ | refine awpL_passT rfl rfl rfl rfl (by first | with_reducible rfl | with_reducible assumption) ?_ | refine awpL_passF rfl rfl rfl rfl (by first | with_reducible rfl | with_reducible assumption) ?_ | refine awpL_passU rfl rfl rfl rfl ?_ | refine awpL_split rfl rfl (fun h => ?_) (fun h => ?_)))
      | (with_reducible refine is_nil ?_; refine awpL_nil ?_)
      | (with_reducible refine is_then ?_; (first | refine thenQ_n ?_ | refine thenQ_r ?_ | refine thenQ_e ?_))
      | (with_reducible refine is_block ?_; (first | refine blockQ_n ?_ | refine blockQ_r ?_ | refine blockQ_e ?_ | refine blockQ_o rfl ?_))
      | (with_reducible refine is_awp ?_; (first | refine awp_seq ?_ | refine awp_ret ?_ | refine awp_skip ?_ | refine awp_exit ?_ | refine awp_label ?_ | refine awp_block ?_ | refine awp_region ?_ | refine awp_cond_t rfl (by first | with_reducible rfl | with_reducible assumption) ?_ | refine awp_cond_f rfl (by first | with_reducible rfl | with_reducible assumption) ?_ | refine awp_cond rfl (fun h => ?_) (fun h => ?_))))
    refine awp_draw (Sb := [(0, _), (1, _), (5, _), (6, _)]) (by kernel_rfl) rfl (.cons rfl rfl (.cons rfl rfl (.cons rfl rfl (.cons rfl rfl .nil)))) rfl ?_
    repeat' (first
      | (with_reducible refine isD_un ?_; first
        | (with_reducible refine isD_move ?_; (first | refine awpD_ev (ev_move rfl) (awpDn (by (try simp only [List.nil_append, List.cons_append]); (try rfl)) ?_)))
        | (with_reducible refine isD_bin ?_; (first | refine awpD_ev (ev_add rfl rfl (by omega)) (awpDn (by (try simp only [List.nil_append, List.cons_append]); (try rfl)) ?_) | refine awpD_ev (ev_sub rfl rfl (by omega)) (awpDn (by (try simp only [List.nil_append, List.cons_append]); (try rfl)) ?_) | refine awpD_ev (ev_bin rfl rfl rfl) (awpDn (by (try simp only [List.nil_append, List.cons_append]); (try rfl)) ?_) | refine awpD_ev (ev_eq_bool rfl rfl rfl rfl) (awpDn (by (try simp only [List.nil_append, List.cons_append]); (try rfl)) ?_)))
        | (with_reducible refine isD_fa ?_; (first | refine awpD_ev (ev_fa_fp rfl rfl rfl rfl rfl rfl) (awpDn (by (try simp only [List.nil_append, List.cons_append]); (try rfl)) ?_) | refine awpD_ev (ev_fa_lp rfl rfl rfl rfl rfl rfl) (awpDn (by (try simp only [List.nil_append, List.cons_append]); (try rfl)) ?_) | refine awpD_ev (ev_fa_ep rfl rfl rfl rfl rfl rfl) (awpDn (by (try simp only [List.nil_append, List.cons_append]); (try rfl)) ?_)))
        | (with_reducible refine isD_load ?_; (first | refine awpD_ev (ev_load_agg rfl rfl rfl rfl) (awpDn (by (try simp only [List.nil_append, List.cons_append]); (try rfl)) ?_) | refine awpD_ev (ev_load_sub rfl rfl rfl rfl rfl) (awpDn (by (try simp only [List.nil_append, List.cons_append]); (try rfl)) ?_) | refine awpD_ev (ev_load_one rfl rfl rfl rfl) (awpDn (by (try simp only [List.nil_append, List.cons_append]); (try rfl)) ?_) | refine awpD_ev (ev_ll_agg rfl rfl rfl rfl rfl rfl rfl) (awpDn (by (try simp only [List.nil_append, List.cons_append]); (try rfl)) ?_) | refine awpD_ev (ev_ll_lag rfl rfl rfl rfl rfl rfl) (awpDn (by (try simp only [List.nil_append, List.cons_append]); (try rfl)) ?_) | refine awpD_ev (ev_ll_one rfl rfl rfl rfl rfl) (awpDn (by (try simp only [List.nil_append, List.cons_append]); (try rfl)) ?_) | refine awpD_ev (ev_el_one rfl rfl rfl rfl (by with_reducible assumption) rfl) (awpDn (by (try simp only [List.nil_append, List.cons_append]); (try rfl)) ?_)))
        | (with_reducible refine isD_pick ?_; (first | refine awpD_ev (ev_pick_t rfl (by first | with_reducible rfl | with_reducible assumption) rfl) (awpDn (by (try simp only [List.nil_append, List.cons_append]); (try rfl)) ?_) | refine awpD_ev (ev_pick_f rfl (by first | with_reducible rfl | with_reducible assumption) rfl) (awpDn (by (try simp only [List.nil_append, List.cons_append]); (try rfl)) ?_)))
        | (with_reducible refine isD_assign ?_; (first | refine awpD_ev (ev_assign rfl) (awpDn (by (try simp only [List.nil_append, List.cons_append]); (try rfl)) ?_)))
        | (with_reducible refine isD_call ?_; (first | refine awpD_ev (ev_len rfl rfl rfl rfl rfl) (awpDn (by (try simp only [List.nil_append, List.cons_append]); (try rfl)) ?_) | refine awpD_ev (ev_len_os rfl rfl rfl rfl rfl) (awpDn (by (try simp only [List.nil_append, List.cons_append]); (try rfl)) ?_)))
        | refine awpD_ev (ev_not rfl) (awpDn (by (try simp only [List.nil_append, List.cons_append]); (try rfl)) ?_)
        | refine awpD_ev (ev_ia_fs rfl rfl rfl rfl rfl rfl (by with_reducible assumption)) (awpDn (by (try simp only [List.nil_append, List.cons_append]); (try rfl)) ?_)
        | refine awpD_ev (ev_ia_os rfl rfl rfl rfl rfl rfl rfl (by with_reducible assumption)) (awpDn (by (try simp only [List.nil_append, List.cons_append]); (try rfl)) ?_)
        | refine awpD_ev (ev_extract rfl rfl) (awpDn (by (try simp only [List.nil_append, List.cons_append]); (try rfl)) ?_)
        | refine awpD_ev (ev_index_str rfl rfl rfl rfl (by with_reducible assumption)) (awpDn (by (try simp only [List.nil_append, List.cons_append]); (try rfl)) ?_)
        | refine awpD_ev (ev_build rfl rfl rfl rfl rfl rfl rfl) (awpDn (by (try simp only [List.nil_append, List.cons_append]); (try rfl)) ?_)
        | refine awpD_ev (ev_build_lag rfl rfl rfl rfl rfl rfl) (awpDn (by (try simp only [List.nil_append, List.cons_append]); (try rfl)) ?_)
        | refine awpD_ev (ev_slice_fs rfl rfl rfl rfl rfl rfl rfl (by with_reducible assumption) rfl rfl) (awpDn (by (try simp only [List.nil_append, List.cons_append]); (try rfl)) ?_)
        | refine awpD_pev (pev_bslice_in rfl rfl rfl rfl rfl rfl rfl rfl rfl rfl rfl rfl (by (try simp only [List.map_cons, List.map_nil, cellsOf]); (try rfl))) (awpDn (by (try simp only [List.nil_append, List.cons_append]); (try rfl)) ?_))
      | (with_reducible refine isD_gd ?_; (first | refine awpD_run rfl rfl (by first | with_reducible rfl | with_reducible assumption) ?_ | refine awpD_passT rfl rfl (by first | with_reducible rfl | with_reducible assumption) (awpDn (by (try simp only [List.nil_append, List.cons_append]); (try rfl)) ?_) | refine awpD_passF rfl rfl (by first | with_reducible rfl | with_reducible assumption) (awpDn (by (try simp only [List.nil_append, List.cons_append]); (try rfl)) ?_) | refine awpD_passU rfl rfl (awpDn (by (try simp only [List.nil_append, List.cons_append]); (try rfl)) ?_) | refine awpD_split rfl (fun h => ?_) (fun h => ?_)))
      | refine awpD_nil ?_)
    repeat' (first
      | (with_reducible refine is_un ?_; first
        | (with_reducible refine is_move ?_; (first | refine awpL_ev (ev_move rfl) rfl ?_))
        | (with_reducible refine is_bin ?_; (first | refine awpL_ev (ev_add rfl rfl (by omega)) rfl ?_ | refine awpL_ev (ev_sub rfl rfl (by omega)) rfl ?_ | refine awpL_ev (ev_bin rfl rfl rfl) rfl ?_ | refine awpL_ev (ev_eq_bool rfl rfl rfl rfl) rfl ?_))
        | (with_reducible refine is_fa ?_; (first | refine awpL_ev (ev_fa_fp rfl rfl rfl rfl rfl rfl) rfl ?_ | refine awpL_ev (ev_fa_lp rfl rfl rfl rfl rfl rfl) rfl ?_ | refine awpL_ev (ev_fa_ep rfl rfl rfl rfl rfl rfl) rfl ?_))
        | (with_reducible refine is_load ?_; (first | refine awpL_ev (ev_load_agg rfl rfl rfl rfl) rfl ?_ | refine awpL_ev (ev_load_sub rfl rfl rfl rfl rfl) rfl ?_ | refine awpL_ev (ev_load_one rfl rfl rfl rfl) rfl ?_ | refine awpL_ev (ev_ll_agg rfl rfl rfl rfl rfl rfl rfl) rfl ?_ | refine awpL_ev (ev_ll_lag rfl rfl rfl rfl rfl rfl) rfl ?_ | refine awpL_ev (ev_ll_one rfl rfl rfl rfl rfl) rfl ?_ | refine awpL_ev (ev_el_one rfl rfl rfl rfl (by with_reducible assumption) rfl) rfl ?_))
        | (with_reducible refine is_pick ?_; (first | refine awpL_ev (ev_pick_t rfl (by first | with_reducible rfl | with_reducible assumption) rfl) rfl ?_ | refine awpL_ev (ev_pick_f rfl (by first | with_reducible rfl | with_reducible assumption) rfl) rfl ?_))
        | (with_reducible refine is_assign ?_; (first | refine awpL_ev (ev_assign rfl) rfl ?_))
        | (with_reducible refine is_call ?_; (first | refine awpL_ev (ev_len rfl rfl rfl rfl rfl) rfl ?_ | refine awpL_ev (ev_len_os rfl rfl rfl rfl rfl) rfl ?_))
        | refine awpL_ev (ev_not rfl) rfl ?_
        | refine awpL_ev (ev_ia_fs rfl rfl rfl rfl rfl rfl (by with_reducible assumption)) rfl ?_
        | refine awpL_ev (ev_ia_os rfl rfl rfl rfl rfl rfl rfl (by with_reducible assumption)) rfl ?_
        | refine awpL_ev (ev_extract rfl rfl) rfl ?_
        | refine awpL_ev (ev_index_str rfl rfl rfl rfl (by with_reducible assumption)) rfl ?_
        | refine awpL_ev (ev_build rfl rfl rfl rfl rfl rfl rfl) rfl ?_
        | refine awpL_ev (ev_build_lag rfl rfl rfl rfl rfl rfl) rfl ?_
        | refine awpL_ev (ev_slice_fs rfl rfl rfl rfl rfl rfl rfl (by with_reducible assumption) rfl rfl) rfl ?_
        | refine awpL_ev2 (ev_bslice_in rfl rfl rfl rfl rfl rfl rfl rfl rfl rfl rfl rfl (by (try simp only [List.map_cons, List.map_nil, cellsOf]); (try rfl))) rfl ?_
        | refine awpL_ev2 (ev_stb rfl rfl rfl rfl rfl rfl rfl) rfl ?_
        | refine awpL_ev2 (ev_alloc rfl rfl (by (try simp only [List.length_nil, List.length_cons, Nat.reduceAdd]); (try rfl)) (by (try simp only [List.set_cons_zero, List.set_cons_succ, List.nil_append, List.cons_append, List.append_nil, cellsOf, List.take_zero, List.drop_zero, List.take_succ_cons, List.drop_succ_cons, Nat.zero_add, Nat.reduceAdd, List.drop_nil, List.map_cons, List.map_nil]); (try rfl))) rfl ?_
        | refine awpL_ev2 (ev_box rfl rfl (by (try simp only [List.length_nil, List.length_cons, Nat.reduceAdd]); (try rfl)) (by (try simp only [List.set_cons_zero, List.set_cons_succ, List.nil_append, List.cons_append, List.append_nil, cellsOf, List.take_zero, List.drop_zero, List.take_succ_cons, List.drop_succ_cons, Nat.zero_add, Nat.reduceAdd, List.drop_nil, List.map_cons, List.map_nil]); (try rfl))) rfl ?_
        | refine awpL_evS (ev_st_lp rfl rfl rfl rfl rfl rfl rfl (by (try simp only [List.set_cons_zero, List.set_cons_succ, List.nil_append, List.cons_append, List.append_nil, cellsOf, List.take_zero, List.drop_zero, List.take_succ_cons, List.drop_succ_cons, Nat.zero_add, Nat.reduceAdd, List.drop_nil, List.map_cons, List.map_nil]); (try rfl))) ?_)
      | (with_reducible refine is_gd ?_; (first | refine awpL_run rfl rfl rfl (by first | with_reducible rfl | with_reducible assumption) ?_ | refine awpL_passT rfl rfl rfl rfl (by first | with_reducible rfl | with_reducible assumption) ?_ | refine awpL_passF rfl rfl rfl rfl (by first | with_reducible rfl | with_reducible assumption) ?_ | refine awpL_passU rfl rfl rfl rfl ?_ | refine awpL_split rfl rfl (fun h => ?_) (fun h => ?_)))
      | (with_reducible refine is_nil ?_; refine awpL_nil ?_)
      | (with_reducible refine is_then ?_; (first | refine thenQ_n ?_ | refine thenQ_r ?_ | refine thenQ_e ?_))
      | (with_reducible refine is_block ?_; (first | refine blockQ_n ?_ | refine blockQ_r ?_ | refine blockQ_e ?_ | refine blockQ_o rfl ?_))
      | (with_reducible refine is_awp ?_; (first | refine awp_seq ?_ | refine awp_ret ?_ | refine awp_skip ?_ | refine awp_exit ?_ | refine awp_label ?_ | refine awp_block ?_ | refine awp_region ?_ | refine awp_cond_t rfl (by first | with_reducible rfl | with_reducible assumption) ?_ | refine awp_cond_f rfl (by first | with_reducible rfl | with_reducible assumption) ?_ | refine awp_cond rfl (fun h => ?_) (fun h => ?_))))
    · refine retP rfl ?_
      have : 0 ≤ find (l.take i) t.name := by rw [hf, hd, if_pos (by simpa using h)]; omega
      simp [ex, one, hn, this]
    · exact ⟨k + 1, ⟨(.cons rfl rfl (.cons rfl rfl (.cons rfl rfl (.cons rfl rfl .nil)))), rfl, rfl, rfl⟩, ⟨by omega, by rw [hf, hd, if_neg (by simpa using h)]⟩, by omega⟩
  have c1 : decide ((k : Int) < i) = false := by simpa using hki
  have hf0 : ¬ 0 ≤ find (l.take i) t.name := by
    rw [hf, List.drop_of_length_le (by omega)]; simp [findFrom]
  by_cases hk0 : t.kind < 0
  · have c2 : decide (t.kind < 0) = true := by simpa using hk0
    repeat' (first
      | (with_reducible refine is_un ?_; first
        | (with_reducible refine is_move ?_; (first | refine awpL_ev (ev_move rfl) rfl ?_))
        | (with_reducible refine is_bin ?_; (first | refine awpL_ev (ev_add rfl rfl (by omega)) rfl ?_ | refine awpL_ev (ev_sub rfl rfl (by omega)) rfl ?_ | refine awpL_ev (ev_bin rfl rfl rfl) rfl ?_ | refine awpL_ev (ev_eq_bool rfl rfl rfl rfl) rfl ?_))
        | (with_reducible refine is_fa ?_; (first | refine awpL_ev (ev_fa_fp rfl rfl rfl rfl rfl rfl) rfl ?_ | refine awpL_ev (ev_fa_lp rfl rfl rfl rfl rfl rfl) rfl ?_ | refine awpL_ev (ev_fa_ep rfl rfl rfl rfl rfl rfl) rfl ?_))
        | (with_reducible refine is_load ?_; (first | refine awpL_ev (ev_load_agg rfl rfl rfl rfl) rfl ?_ | refine awpL_ev (ev_load_sub rfl rfl rfl rfl rfl) rfl ?_ | refine awpL_ev (ev_load_one rfl rfl rfl rfl) rfl ?_ | refine awpL_ev (ev_ll_agg rfl rfl rfl rfl rfl rfl rfl) rfl ?_ | refine awpL_ev (ev_ll_lag rfl rfl rfl rfl rfl rfl) rfl ?_ | refine awpL_ev (ev_ll_one rfl rfl rfl rfl rfl) rfl ?_ | refine awpL_ev (ev_el_one rfl rfl rfl rfl (by with_reducible assumption) rfl) rfl ?_))
        | (with_reducible refine is_pick ?_; (first | refine awpL_ev (ev_pick_t rfl (by first | with_reducible rfl | with_reducible assumption) rfl) rfl ?_ | refine awpL_ev (ev_pick_f rfl (by first | with_reducible rfl | with_reducible assumption) rfl) rfl ?_))
        | (with_reducible refine is_assign ?_; (first | refine awpL_ev (ev_assign rfl) rfl ?_))
        | (with_reducible refine is_call ?_; (first | refine awpL_ev (ev_len rfl rfl rfl rfl rfl) rfl ?_ | refine awpL_ev (ev_len_os rfl rfl rfl rfl rfl) rfl ?_))
        | refine awpL_ev (ev_not rfl) rfl ?_
        | refine awpL_ev (ev_ia_fs rfl rfl rfl rfl rfl rfl (by with_reducible assumption)) rfl ?_
        | refine awpL_ev (ev_ia_os rfl rfl rfl rfl rfl rfl rfl (by with_reducible assumption)) rfl ?_
        | refine awpL_ev (ev_extract rfl rfl) rfl ?_
        | refine awpL_ev (ev_index_str rfl rfl rfl rfl (by with_reducible assumption)) rfl ?_
        | refine awpL_ev (ev_build rfl rfl rfl rfl rfl rfl rfl) rfl ?_
        | refine awpL_ev (ev_build_lag rfl rfl rfl rfl rfl rfl) rfl ?_
        | refine awpL_ev (ev_slice_fs rfl rfl rfl rfl rfl rfl rfl (by with_reducible assumption) rfl rfl) rfl ?_
        | refine awpL_ev2 (ev_bslice_in rfl rfl rfl rfl rfl rfl rfl rfl rfl rfl rfl rfl (by (try simp only [List.map_cons, List.map_nil, cellsOf]); (try rfl))) rfl ?_
        | refine awpL_ev2 (ev_stb rfl rfl rfl rfl rfl rfl rfl) rfl ?_
        | refine awpL_ev2 (ev_alloc rfl rfl (by (try simp only [List.length_nil, List.length_cons, Nat.reduceAdd]); (try rfl)) (by (try simp only [List.set_cons_zero, List.set_cons_succ, List.nil_append, List.cons_append, List.append_nil, cellsOf, List.take_zero, List.drop_zero, List.take_succ_cons, List.drop_succ_cons, Nat.zero_add, Nat.reduceAdd, List.drop_nil, List.map_cons, List.map_nil]); (try rfl))) rfl ?_
        | refine awpL_ev2 (ev_box rfl rfl (by (try simp only [List.length_nil, List.length_cons, Nat.reduceAdd]); (try rfl)) (by (try simp only [List.set_cons_zero, List.set_cons_succ, List.nil_append, List.cons_append, List.append_nil, cellsOf, List.take_zero, List.drop_zero, List.take_succ_cons, List.drop_succ_cons, Nat.zero_add, Nat.reduceAdd, List.drop_nil, List.map_cons, List.map_nil]); (try rfl))) rfl ?_
        | refine awpL_evS (ev_st_lp rfl rfl rfl rfl rfl rfl rfl (by (try simp only [List.set_cons_zero, List.set_cons_succ, List.nil_append, List.cons_append, List.append_nil, cellsOf, List.take_zero, List.drop_zero, List.take_succ_cons, List.drop_succ_cons, Nat.zero_add, Nat.reduceAdd, List.drop_nil, List.map_cons, List.map_nil]); (try rfl))) ?_)
      | (with_reducible refine is_gd ?_; (first | refine awpL_run rfl rfl rfl (by first | with_reducible rfl | with_reducible assumption) ?_ | refine awpL_passT rfl rfl rfl rfl (by first | with_reducible rfl | with_reducible assumption) ?_ | refine awpL_passF rfl rfl rfl rfl (by first | with_reducible rfl | with_reducible assumption) ?_ | refine awpL_passU rfl rfl rfl rfl ?_ | refine awpL_split rfl rfl (fun h => ?_) (fun h => ?_)))
      | (with_reducible refine is_nil ?_; refine awpL_nil ?_)
      | (with_reducible refine is_then ?_; (first | refine thenQ_n ?_ | refine thenQ_r ?_ | refine thenQ_e ?_))
      | (with_reducible refine is_block ?_; (first | refine blockQ_n ?_ | refine blockQ_r ?_ | refine blockQ_e ?_ | refine blockQ_o rfl ?_))
      | (with_reducible refine is_awp ?_; (first | refine awp_seq ?_ | refine awp_ret ?_ | refine awp_skip ?_ | refine awp_exit ?_ | refine awp_label ?_ | refine awp_block ?_ | refine awp_region ?_ | refine awp_cond_t rfl (by first | with_reducible rfl | with_reducible assumption) ?_ | refine awp_cond_f rfl (by first | with_reducible rfl | with_reducible assumption) ?_ | refine awp_cond rfl (fun h => ?_) (fun h => ?_))))
    refine retP rfl ?_
    simp [ex, one, hn, hf0, hk0]
  have c2 : decide (t.kind < 0) = false := by simpa using hk0
  by_cases hk4 : 4 < t.kind
  · have c3 : decide (4 < t.kind) = true := by simpa using hk4
    repeat' (first
      | (with_reducible refine is_un ?_; first
        | (with_reducible refine is_move ?_; (first | refine awpL_ev (ev_move rfl) rfl ?_))
        | (with_reducible refine is_bin ?_; (first | refine awpL_ev (ev_add rfl rfl (by omega)) rfl ?_ | refine awpL_ev (ev_sub rfl rfl (by omega)) rfl ?_ | refine awpL_ev (ev_bin rfl rfl rfl) rfl ?_ | refine awpL_ev (ev_eq_bool rfl rfl rfl rfl) rfl ?_))
        | (with_reducible refine is_fa ?_; (first | refine awpL_ev (ev_fa_fp rfl rfl rfl rfl rfl rfl) rfl ?_ | refine awpL_ev (ev_fa_lp rfl rfl rfl rfl rfl rfl) rfl ?_ | refine awpL_ev (ev_fa_ep rfl rfl rfl rfl rfl rfl) rfl ?_))
        | (with_reducible refine is_load ?_; (first | refine awpL_ev (ev_load_agg rfl rfl rfl rfl) rfl ?_ | refine awpL_ev (ev_load_sub rfl rfl rfl rfl rfl) rfl ?_ | refine awpL_ev (ev_load_one rfl rfl rfl rfl) rfl ?_ | refine awpL_ev (ev_ll_agg rfl rfl rfl rfl rfl rfl rfl) rfl ?_ | refine awpL_ev (ev_ll_lag rfl rfl rfl rfl rfl rfl) rfl ?_ | refine awpL_ev (ev_ll_one rfl rfl rfl rfl rfl) rfl ?_ | refine awpL_ev (ev_el_one rfl rfl rfl rfl (by with_reducible assumption) rfl) rfl ?_))
        | (with_reducible refine is_pick ?_; (first | refine awpL_ev (ev_pick_t rfl (by first | with_reducible rfl | with_reducible assumption) rfl) rfl ?_ | refine awpL_ev (ev_pick_f rfl (by first | with_reducible rfl | with_reducible assumption) rfl) rfl ?_))
        | (with_reducible refine is_assign ?_; (first | refine awpL_ev (ev_assign rfl) rfl ?_))
        | (with_reducible refine is_call ?_; (first | refine awpL_ev (ev_len rfl rfl rfl rfl rfl) rfl ?_ | refine awpL_ev (ev_len_os rfl rfl rfl rfl rfl) rfl ?_))
        | refine awpL_ev (ev_not rfl) rfl ?_
        | refine awpL_ev (ev_ia_fs rfl rfl rfl rfl rfl rfl (by with_reducible assumption)) rfl ?_
        | refine awpL_ev (ev_ia_os rfl rfl rfl rfl rfl rfl rfl (by with_reducible assumption)) rfl ?_
        | refine awpL_ev (ev_extract rfl rfl) rfl ?_
        | refine awpL_ev (ev_index_str rfl rfl rfl rfl (by with_reducible assumption)) rfl ?_
        | refine awpL_ev (ev_build rfl rfl rfl rfl rfl rfl rfl) rfl ?_
        | refine awpL_ev (ev_build_lag rfl rfl rfl rfl rfl rfl) rfl ?_
        | refine awpL_ev (ev_slice_fs rfl rfl rfl rfl rfl rfl rfl (by with_reducible assumption) rfl rfl) rfl ?_
        | refine awpL_ev2 (ev_bslice_in rfl rfl rfl rfl rfl rfl rfl rfl rfl rfl rfl rfl (by (try simp only [List.map_cons, List.map_nil, cellsOf]); (try rfl))) rfl ?_
        | refine awpL_ev2 (ev_stb rfl rfl rfl rfl rfl rfl rfl) rfl ?_
        | refine awpL_ev2 (ev_alloc rfl rfl (by (try simp only [List.length_nil, List.length_cons, Nat.reduceAdd]); (try rfl)) (by (try simp only [List.set_cons_zero, List.set_cons_succ, List.nil_append, List.cons_append, List.append_nil, cellsOf, List.take_zero, List.drop_zero, List.take_succ_cons, List.drop_succ_cons, Nat.zero_add, Nat.reduceAdd, List.drop_nil, List.map_cons, List.map_nil]); (try rfl))) rfl ?_
        | refine awpL_ev2 (ev_box rfl rfl (by (try simp only [List.length_nil, List.length_cons, Nat.reduceAdd]); (try rfl)) (by (try simp only [List.set_cons_zero, List.set_cons_succ, List.nil_append, List.cons_append, List.append_nil, cellsOf, List.take_zero, List.drop_zero, List.take_succ_cons, List.drop_succ_cons, Nat.zero_add, Nat.reduceAdd, List.drop_nil, List.map_cons, List.map_nil]); (try rfl))) rfl ?_
        | refine awpL_evS (ev_st_lp rfl rfl rfl rfl rfl rfl rfl (by (try simp only [List.set_cons_zero, List.set_cons_succ, List.nil_append, List.cons_append, List.append_nil, cellsOf, List.take_zero, List.drop_zero, List.take_succ_cons, List.drop_succ_cons, Nat.zero_add, Nat.reduceAdd, List.drop_nil, List.map_cons, List.map_nil]); (try rfl))) ?_)
      | (with_reducible refine is_gd ?_; (first | refine awpL_run rfl rfl rfl (by first | with_reducible rfl | with_reducible assumption) ?_ | refine awpL_passT rfl rfl rfl rfl (by first | with_reducible rfl | with_reducible assumption) ?_ | refine awpL_passF rfl rfl rfl rfl (by first | with_reducible rfl | with_reducible assumption) ?_ | refine awpL_passU rfl rfl rfl rfl ?_ | refine awpL_split rfl rfl (fun h => ?_) (fun h => ?_)))
      | (with_reducible refine is_nil ?_; refine awpL_nil ?_)
      | (with_reducible refine is_then ?_; (first | refine thenQ_n ?_ | refine thenQ_r ?_ | refine thenQ_e ?_))
      | (with_reducible refine is_block ?_; (first | refine blockQ_n ?_ | refine blockQ_r ?_ | refine blockQ_e ?_ | refine blockQ_o rfl ?_))
      | (with_reducible refine is_awp ?_; (first | refine awp_seq ?_ | refine awp_ret ?_ | refine awp_skip ?_ | refine awp_exit ?_ | refine awp_label ?_ | refine awp_block ?_ | refine awp_region ?_ | refine awp_cond_t rfl (by first | with_reducible rfl | with_reducible assumption) ?_ | refine awp_cond_f rfl (by first | with_reducible rfl | with_reducible assumption) ?_ | refine awp_cond rfl (fun h => ?_) (fun h => ?_))))
    refine retP rfl ?_
    simp [ex, one, hn, hf0, hk4]
  have c3 : decide (4 < t.kind) = false := by simpa using hk4
  by_cases hr0 : t.role < 0
  · have c4 : decide (t.role < 0) = true := by simpa using hr0
    repeat' (first
      | (with_reducible refine is_un ?_; first
        | (with_reducible refine is_move ?_; (first | refine awpL_ev (ev_move rfl) rfl ?_))
        | (with_reducible refine is_bin ?_; (first | refine awpL_ev (ev_add rfl rfl (by omega)) rfl ?_ | refine awpL_ev (ev_sub rfl rfl (by omega)) rfl ?_ | refine awpL_ev (ev_bin rfl rfl rfl) rfl ?_ | refine awpL_ev (ev_eq_bool rfl rfl rfl rfl) rfl ?_))
        | (with_reducible refine is_fa ?_; (first | refine awpL_ev (ev_fa_fp rfl rfl rfl rfl rfl rfl) rfl ?_ | refine awpL_ev (ev_fa_lp rfl rfl rfl rfl rfl rfl) rfl ?_ | refine awpL_ev (ev_fa_ep rfl rfl rfl rfl rfl rfl) rfl ?_))
        | (with_reducible refine is_load ?_; (first | refine awpL_ev (ev_load_agg rfl rfl rfl rfl) rfl ?_ | refine awpL_ev (ev_load_sub rfl rfl rfl rfl rfl) rfl ?_ | refine awpL_ev (ev_load_one rfl rfl rfl rfl) rfl ?_ | refine awpL_ev (ev_ll_agg rfl rfl rfl rfl rfl rfl rfl) rfl ?_ | refine awpL_ev (ev_ll_lag rfl rfl rfl rfl rfl rfl) rfl ?_ | refine awpL_ev (ev_ll_one rfl rfl rfl rfl rfl) rfl ?_ | refine awpL_ev (ev_el_one rfl rfl rfl rfl (by with_reducible assumption) rfl) rfl ?_))
        | (with_reducible refine is_pick ?_; (first | refine awpL_ev (ev_pick_t rfl (by first | with_reducible rfl | with_reducible assumption) rfl) rfl ?_ | refine awpL_ev (ev_pick_f rfl (by first | with_reducible rfl | with_reducible assumption) rfl) rfl ?_))
        | (with_reducible refine is_assign ?_; (first | refine awpL_ev (ev_assign rfl) rfl ?_))
        | (with_reducible refine is_call ?_; (first | refine awpL_ev (ev_len rfl rfl rfl rfl rfl) rfl ?_ | refine awpL_ev (ev_len_os rfl rfl rfl rfl rfl) rfl ?_))
        | refine awpL_ev (ev_not rfl) rfl ?_
        | refine awpL_ev (ev_ia_fs rfl rfl rfl rfl rfl rfl (by with_reducible assumption)) rfl ?_
        | refine awpL_ev (ev_ia_os rfl rfl rfl rfl rfl rfl rfl (by with_reducible assumption)) rfl ?_
        | refine awpL_ev (ev_extract rfl rfl) rfl ?_
        | refine awpL_ev (ev_index_str rfl rfl rfl rfl (by with_reducible assumption)) rfl ?_
        | refine awpL_ev (ev_build rfl rfl rfl rfl rfl rfl rfl) rfl ?_
        | refine awpL_ev (ev_build_lag rfl rfl rfl rfl rfl rfl) rfl ?_
        | refine awpL_ev (ev_slice_fs rfl rfl rfl rfl rfl rfl rfl (by with_reducible assumption) rfl rfl) rfl ?_
        | refine awpL_ev2 (ev_bslice_in rfl rfl rfl rfl rfl rfl rfl rfl rfl rfl rfl rfl (by (try simp only [List.map_cons, List.map_nil, cellsOf]); (try rfl))) rfl ?_
        | refine awpL_ev2 (ev_stb rfl rfl rfl rfl rfl rfl rfl) rfl ?_
        | refine awpL_ev2 (ev_alloc rfl rfl (by (try simp only [List.length_nil, List.length_cons, Nat.reduceAdd]); (try rfl)) (by (try simp only [List.set_cons_zero, List.set_cons_succ, List.nil_append, List.cons_append, List.append_nil, cellsOf, List.take_zero, List.drop_zero, List.take_succ_cons, List.drop_succ_cons, Nat.zero_add, Nat.reduceAdd, List.drop_nil, List.map_cons, List.map_nil]); (try rfl))) rfl ?_
        | refine awpL_ev2 (ev_box rfl rfl (by (try simp only [List.length_nil, List.length_cons, Nat.reduceAdd]); (try rfl)) (by (try simp only [List.set_cons_zero, List.set_cons_succ, List.nil_append, List.cons_append, List.append_nil, cellsOf, List.take_zero, List.drop_zero, List.take_succ_cons, List.drop_succ_cons, Nat.zero_add, Nat.reduceAdd, List.drop_nil, List.map_cons, List.map_nil]); (try rfl))) rfl ?_
        | refine awpL_evS (ev_st_lp rfl rfl rfl rfl rfl rfl rfl (by (try simp only [List.set_cons_zero, List.set_cons_succ, List.nil_append, List.cons_append, List.append_nil, cellsOf, List.take_zero, List.drop_zero, List.take_succ_cons, List.drop_succ_cons, Nat.zero_add, Nat.reduceAdd, List.drop_nil, List.map_cons, List.map_nil]); (try rfl))) ?_)
      | (with_reducible refine is_gd ?_; (first | refine awpL_run rfl rfl rfl (by first | with_reducible rfl | with_reducible assumption) ?_ | refine awpL_passT rfl rfl rfl rfl (by first | with_reducible rfl | with_reducible assumption) ?_ | refine awpL_passF rfl rfl rfl rfl (by first | with_reducible rfl | with_reducible assumption) ?_ | refine awpL_passU rfl rfl rfl rfl ?_ | refine awpL_split rfl rfl (fun h => ?_) (fun h => ?_)))
      | (with_reducible refine is_nil ?_; refine awpL_nil ?_)
      | (with_reducible refine is_then ?_; (first | refine thenQ_n ?_ | refine thenQ_r ?_ | refine thenQ_e ?_))
      | (with_reducible refine is_block ?_; (first | refine blockQ_n ?_ | refine blockQ_r ?_ | refine blockQ_e ?_ | refine blockQ_o rfl ?_))
      | (with_reducible refine is_awp ?_; (first | refine awp_seq ?_ | refine awp_ret ?_ | refine awp_skip ?_ | refine awp_exit ?_ | refine awp_label ?_ | refine awp_block ?_ | refine awp_region ?_ | refine awp_cond_t rfl (by first | with_reducible rfl | with_reducible assumption) ?_ | refine awp_cond_f rfl (by first | with_reducible rfl | with_reducible assumption) ?_ | refine awp_cond rfl (fun h => ?_) (fun h => ?_))))
    refine retP rfl ?_
    simp [ex, one, hn, hf0, hk0, hk4, hr0]
  have c4 : decide (t.role < 0) = false := by simpa using hr0
  by_cases hr5 : 5 < t.role
  · have c5 : decide (5 < t.role) = true := by simpa using hr5
    repeat' (first
      | (with_reducible refine is_un ?_; first
        | (with_reducible refine is_move ?_; (first | refine awpL_ev (ev_move rfl) rfl ?_))
        | (with_reducible refine is_bin ?_; (first | refine awpL_ev (ev_add rfl rfl (by omega)) rfl ?_ | refine awpL_ev (ev_sub rfl rfl (by omega)) rfl ?_ | refine awpL_ev (ev_bin rfl rfl rfl) rfl ?_ | refine awpL_ev (ev_eq_bool rfl rfl rfl rfl) rfl ?_))
        | (with_reducible refine is_fa ?_; (first | refine awpL_ev (ev_fa_fp rfl rfl rfl rfl rfl rfl) rfl ?_ | refine awpL_ev (ev_fa_lp rfl rfl rfl rfl rfl rfl) rfl ?_ | refine awpL_ev (ev_fa_ep rfl rfl rfl rfl rfl rfl) rfl ?_))
        | (with_reducible refine is_load ?_; (first | refine awpL_ev (ev_load_agg rfl rfl rfl rfl) rfl ?_ | refine awpL_ev (ev_load_sub rfl rfl rfl rfl rfl) rfl ?_ | refine awpL_ev (ev_load_one rfl rfl rfl rfl) rfl ?_ | refine awpL_ev (ev_ll_agg rfl rfl rfl rfl rfl rfl rfl) rfl ?_ | refine awpL_ev (ev_ll_lag rfl rfl rfl rfl rfl rfl) rfl ?_ | refine awpL_ev (ev_ll_one rfl rfl rfl rfl rfl) rfl ?_ | refine awpL_ev (ev_el_one rfl rfl rfl rfl (by with_reducible assumption) rfl) rfl ?_))
        | (with_reducible refine is_pick ?_; (first | refine awpL_ev (ev_pick_t rfl (by first | with_reducible rfl | with_reducible assumption) rfl) rfl ?_ | refine awpL_ev (ev_pick_f rfl (by first | with_reducible rfl | with_reducible assumption) rfl) rfl ?_))
        | (with_reducible refine is_assign ?_; (first | refine awpL_ev (ev_assign rfl) rfl ?_))
        | (with_reducible refine is_call ?_; (first | refine awpL_ev (ev_len rfl rfl rfl rfl rfl) rfl ?_ | refine awpL_ev (ev_len_os rfl rfl rfl rfl rfl) rfl ?_))
        | refine awpL_ev (ev_not rfl) rfl ?_
        | refine awpL_ev (ev_ia_fs rfl rfl rfl rfl rfl rfl (by with_reducible assumption)) rfl ?_
        | refine awpL_ev (ev_ia_os rfl rfl rfl rfl rfl rfl rfl (by with_reducible assumption)) rfl ?_
        | refine awpL_ev (ev_extract rfl rfl) rfl ?_
        | refine awpL_ev (ev_index_str rfl rfl rfl rfl (by with_reducible assumption)) rfl ?_
        | refine awpL_ev (ev_build rfl rfl rfl rfl rfl rfl rfl) rfl ?_
        | refine awpL_ev (ev_build_lag rfl rfl rfl rfl rfl rfl) rfl ?_
        | refine awpL_ev (ev_slice_fs rfl rfl rfl rfl rfl rfl rfl (by with_reducible assumption) rfl rfl) rfl ?_
        | refine awpL_ev2 (ev_bslice_in rfl rfl rfl rfl rfl rfl rfl rfl rfl rfl rfl rfl (by (try simp only [List.map_cons, List.map_nil, cellsOf]); (try rfl))) rfl ?_
        | refine awpL_ev2 (ev_stb rfl rfl rfl rfl rfl rfl rfl) rfl ?_
        | refine awpL_ev2 (ev_alloc rfl rfl (by (try simp only [List.length_nil, List.length_cons, Nat.reduceAdd]); (try rfl)) (by (try simp only [List.set_cons_zero, List.set_cons_succ, List.nil_append, List.cons_append, List.append_nil, cellsOf, List.take_zero, List.drop_zero, List.take_succ_cons, List.drop_succ_cons, Nat.zero_add, Nat.reduceAdd, List.drop_nil, List.map_cons, List.map_nil]); (try rfl))) rfl ?_
        | refine awpL_ev2 (ev_box rfl rfl (by (try simp only [List.length_nil, List.length_cons, Nat.reduceAdd]); (try rfl)) (by (try simp only [List.set_cons_zero, List.set_cons_succ, List.nil_append, List.cons_append, List.append_nil, cellsOf, List.take_zero, List.drop_zero, List.take_succ_cons, List.drop_succ_cons, Nat.zero_add, Nat.reduceAdd, List.drop_nil, List.map_cons, List.map_nil]); (try rfl))) rfl ?_
        | refine awpL_evS (ev_st_lp rfl rfl rfl rfl rfl rfl rfl (by (try simp only [List.set_cons_zero, List.set_cons_succ, List.nil_append, List.cons_append, List.append_nil, cellsOf, List.take_zero, List.drop_zero, List.take_succ_cons, List.drop_succ_cons, Nat.zero_add, Nat.reduceAdd, List.drop_nil, List.map_cons, List.map_nil]); (try rfl))) ?_)
      | (with_reducible refine is_gd ?_; (first | refine awpL_run rfl rfl rfl (by first | with_reducible rfl | with_reducible assumption) ?_ | refine awpL_passT rfl rfl rfl rfl (by first | with_reducible rfl | with_reducible assumption) ?_ | refine awpL_passF rfl rfl rfl rfl (by first | with_reducible rfl | with_reducible assumption) ?_ | refine awpL_passU rfl rfl rfl rfl ?_ | refine awpL_split rfl rfl (fun h => ?_) (fun h => ?_)))
      | (with_reducible refine is_nil ?_; refine awpL_nil ?_)
      | (with_reducible refine is_then ?_; (first | refine thenQ_n ?_ | refine thenQ_r ?_ | refine thenQ_e ?_))
      | (with_reducible refine is_block ?_; (first | refine blockQ_n ?_ | refine blockQ_r ?_ | refine blockQ_e ?_ | refine blockQ_o rfl ?_))
      | (with_reducible refine is_awp ?_; (first | refine awp_seq ?_ | refine awp_ret ?_ | refine awp_skip ?_ | refine awp_exit ?_ | refine awp_label ?_ | refine awp_block ?_ | refine awp_region ?_ | refine awp_cond_t rfl (by first | with_reducible rfl | with_reducible assumption) ?_ | refine awp_cond_f rfl (by first | with_reducible rfl | with_reducible assumption) ?_ | refine awp_cond rfl (fun h => ?_) (fun h => ?_))))
    refine retP rfl ?_
    simp [ex, one, hn, hf0, hk0, hk4, hr5]
  have c5 : decide (5 < t.role) = false := by simpa using hr5
  have hk' : ¬ (t.kind < 0 ∨ 4 < t.kind) := by omega
  have hr' : ¬ (t.role < 0 ∨ 5 < t.role) := by omega
  repeat' (first
    | (with_reducible refine is_un ?_; first
      | (with_reducible refine is_move ?_; (first | refine awpL_ev (ev_move rfl) rfl ?_))
      | (with_reducible refine is_bin ?_; (first | refine awpL_ev (ev_add rfl rfl (by omega)) rfl ?_ | refine awpL_ev (ev_sub rfl rfl (by omega)) rfl ?_ | refine awpL_ev (ev_bin rfl rfl rfl) rfl ?_ | refine awpL_ev (ev_eq_bool rfl rfl rfl rfl) rfl ?_))
      | (with_reducible refine is_fa ?_; (first | refine awpL_ev (ev_fa_fp rfl rfl rfl rfl rfl rfl) rfl ?_ | refine awpL_ev (ev_fa_lp rfl rfl rfl rfl rfl rfl) rfl ?_ | refine awpL_ev (ev_fa_ep rfl rfl rfl rfl rfl rfl) rfl ?_))
      | (with_reducible refine is_load ?_; (first | refine awpL_ev (ev_load_agg rfl rfl rfl rfl) rfl ?_ | refine awpL_ev (ev_load_sub rfl rfl rfl rfl rfl) rfl ?_ | refine awpL_ev (ev_load_one rfl rfl rfl rfl) rfl ?_ | refine awpL_ev (ev_ll_agg rfl rfl rfl rfl rfl rfl rfl) rfl ?_ | refine awpL_ev (ev_ll_lag rfl rfl rfl rfl rfl rfl) rfl ?_ | refine awpL_ev (ev_ll_one rfl rfl rfl rfl rfl) rfl ?_ | refine awpL_ev (ev_el_one rfl rfl rfl rfl (by with_reducible assumption) rfl) rfl ?_))
      | (with_reducible refine is_pick ?_; (first | refine awpL_ev (ev_pick_t rfl (by first | with_reducible rfl | with_reducible assumption) rfl) rfl ?_ | refine awpL_ev (ev_pick_f rfl (by first | with_reducible rfl | with_reducible assumption) rfl) rfl ?_))
      | (with_reducible refine is_assign ?_; (first | refine awpL_ev (ev_assign rfl) rfl ?_))
      | (with_reducible refine is_call ?_; (first | refine awpL_ev (ev_len rfl rfl rfl rfl rfl) rfl ?_ | refine awpL_ev (ev_len_os rfl rfl rfl rfl rfl) rfl ?_))
      | refine awpL_ev (ev_not rfl) rfl ?_
      | refine awpL_ev (ev_ia_fs rfl rfl rfl rfl rfl rfl (by with_reducible assumption)) rfl ?_
      | refine awpL_ev (ev_ia_os rfl rfl rfl rfl rfl rfl rfl (by with_reducible assumption)) rfl ?_
      | refine awpL_ev (ev_extract rfl rfl) rfl ?_
      | refine awpL_ev (ev_index_str rfl rfl rfl rfl (by with_reducible assumption)) rfl ?_
      | refine awpL_ev (ev_build rfl rfl rfl rfl rfl rfl rfl) rfl ?_
      | refine awpL_ev (ev_build_lag rfl rfl rfl rfl rfl rfl) rfl ?_
      | refine awpL_ev (ev_slice_fs rfl rfl rfl rfl rfl rfl rfl (by with_reducible assumption) rfl rfl) rfl ?_
      | refine awpL_ev2 (ev_bslice_in rfl rfl rfl rfl rfl rfl rfl rfl rfl rfl rfl rfl (by (try simp only [List.map_cons, List.map_nil, cellsOf]); (try rfl))) rfl ?_
      | refine awpL_ev2 (ev_stb rfl rfl rfl rfl rfl rfl rfl) rfl ?_
      | refine awpL_ev2 (ev_alloc rfl rfl (by (try simp only [List.length_nil, List.length_cons, Nat.reduceAdd]); (try rfl)) (by (try simp only [List.set_cons_zero, List.set_cons_succ, List.nil_append, List.cons_append, List.append_nil, cellsOf, List.take_zero, List.drop_zero, List.take_succ_cons, List.drop_succ_cons, Nat.zero_add, Nat.reduceAdd, List.drop_nil, List.map_cons, List.map_nil]); (try rfl))) rfl ?_
      | refine awpL_ev2 (ev_box rfl rfl (by (try simp only [List.length_nil, List.length_cons, Nat.reduceAdd]); (try rfl)) (by (try simp only [List.set_cons_zero, List.set_cons_succ, List.nil_append, List.cons_append, List.append_nil, cellsOf, List.take_zero, List.drop_zero, List.take_succ_cons, List.drop_succ_cons, Nat.zero_add, Nat.reduceAdd, List.drop_nil, List.map_cons, List.map_nil]); (try rfl))) rfl ?_
      | refine awpL_evS (ev_st_lp rfl rfl rfl rfl rfl rfl rfl (by (try simp only [List.set_cons_zero, List.set_cons_succ, List.nil_append, List.cons_append, List.append_nil, cellsOf, List.take_zero, List.drop_zero, List.take_succ_cons, List.drop_succ_cons, Nat.zero_add, Nat.reduceAdd, List.drop_nil, List.map_cons, List.map_nil]); (try rfl))) ?_)
    | (with_reducible refine is_gd ?_; (first | refine awpL_run rfl rfl rfl (by first | with_reducible rfl | with_reducible assumption) ?_ | refine awpL_passT rfl rfl rfl rfl (by first | with_reducible rfl | with_reducible assumption) ?_ | refine awpL_passF rfl rfl rfl rfl (by first | with_reducible rfl | with_reducible assumption) ?_ | refine awpL_passU rfl rfl rfl rfl ?_ | refine awpL_split rfl rfl (fun h => ?_) (fun h => ?_)))
    | (with_reducible refine is_nil ?_; refine awpL_nil ?_)
    | (with_reducible refine is_then ?_; (first | refine thenQ_n ?_ | refine thenQ_r ?_ | refine thenQ_e ?_))
    | (with_reducible refine is_block ?_; (first | refine blockQ_n ?_ | refine blockQ_r ?_ | refine blockQ_e ?_ | refine blockQ_o rfl ?_))
    | (with_reducible refine is_awp ?_; (first | refine awp_seq ?_ | refine awp_ret ?_ | refine awp_skip ?_ | refine awp_exit ?_ | refine awp_label ?_ | refine awp_block ?_ | refine awp_region ?_ | refine awp_cond_t rfl (by first | with_reducible rfl | with_reducible assumption) ?_ | refine awp_cond_f rfl (by first | with_reducible rfl | with_reducible assumption) ?_ | refine awp_cond rfl (fun h => ?_) (fun h => ?_))))
  refine awp_for (α := Nat) 1 (fun k => [(0, encTs l), (1, vi i), (5, .lp 0 0), (7, vi k)]) (fun _ => [.box (encT t)]) (fun k => k ≤ i ∧ roleOf (l.take i) t.role = roleFrom t.role k ((l.take i).drop k)) (fun k => i - k) 0
    ⟨(.cons rfl rfl (.cons rfl rfl (.cons rfl rfl (.cons rfl rfl .nil)))), rfl, rfl, rfl⟩ ⟨Nat.zero_le _, rfl⟩ ?_
  clear hf hk hki c1 k
  rintro k ⟨hk, hf⟩
  by_cases hki : k < i
  · obtain ⟨u, hu⟩ : ∃ u, l[k]? = some u := ⟨l[k]'(by omega), by simp⟩
    have c1 : decide ((k : Int) < i) = true := by simpa using hki
    have h1 := encT_get hu
    have hd := roleFrom_drop t.role _ k u (take_get hu hki)
    repeat' (first
      | (with_reducible refine is_un ?_; first
        | (with_reducible refine is_move ?_; (first | refine awpL_ev (ev_move rfl) rfl ?_))
        | (with_reducible refine is_bin ?_; (first | refine awpL_ev (ev_add rfl rfl (by omega)) rfl ?_ | refine awpL_ev (ev_sub rfl rfl (by omega)) rfl ?_ | refine awpL_ev (ev_bin rfl rfl rfl) rfl ?_ | refine awpL_ev (ev_eq_bool rfl rfl rfl rfl) rfl ?_))
        | (with_reducible refine is_fa ?_; (first | refine awpL_ev (ev_fa_fp rfl rfl rfl rfl rfl rfl) rfl ?_ | refine awpL_ev (ev_fa_lp rfl rfl rfl rfl rfl rfl) rfl ?_ | refine awpL_ev (ev_fa_ep rfl rfl rfl rfl rfl rfl) rfl ?_))
        | (with_reducible refine is_load ?_; (first | refine awpL_ev (ev_load_agg rfl rfl rfl rfl) rfl ?_ | refine awpL_ev (ev_load_sub rfl rfl rfl rfl rfl) rfl ?_ | refine awpL_ev (ev_load_one rfl rfl rfl rfl) rfl ?_ | refine awpL_ev (ev_ll_agg rfl rfl rfl rfl rfl rfl rfl) rfl ?_ | refine awpL_ev (ev_ll_lag rfl rfl rfl rfl rfl rfl) rfl ?_ | refine awpL_ev (ev_ll_one rfl rfl rfl rfl rfl) rfl ?_ | refine awpL_ev (ev_el_one rfl rfl rfl rfl (by with_reducible assumption) rfl) rfl ?_))
        | (with_reducible refine is_pick ?_; (first | refine awpL_ev (ev_pick_t rfl (by first | with_reducible rfl | with_reducible assumption) rfl) rfl ?_ | refine awpL_ev (ev_pick_f rfl (by first | with_reducible rfl | with_reducible assumption) rfl) rfl ?_))
        | (with_reducible refine is_assign ?_; (first | refine awpL_ev (ev_assign rfl) rfl ?_))
        | (with_reducible refine is_call ?_; (first | refine awpL_ev (ev_len rfl rfl rfl rfl rfl) rfl ?_ | refine awpL_ev (ev_len_os rfl rfl rfl rfl rfl) rfl ?_))
        | refine awpL_ev (ev_not rfl) rfl ?_
        | refine awpL_ev (ev_ia_fs rfl rfl rfl rfl rfl rfl (by with_reducible assumption)) rfl ?_
        | refine awpL_ev (ev_ia_os rfl rfl rfl rfl rfl rfl rfl (by with_reducible assumption)) rfl ?_
        | refine awpL_ev (ev_extract rfl rfl) rfl ?_
        | refine awpL_ev (ev_index_str rfl rfl rfl rfl (by with_reducible assumption)) rfl ?_
        | refine awpL_ev (ev_build rfl rfl rfl rfl rfl rfl rfl) rfl ?_
        | refine awpL_ev (ev_build_lag rfl rfl rfl rfl rfl rfl) rfl ?_
        | refine awpL_ev (ev_slice_fs rfl rfl rfl rfl rfl rfl rfl (by with_reducible assumption) rfl rfl) rfl ?_
        | refine awpL_ev2 (ev_bslice_in rfl rfl rfl rfl rfl rfl rfl rfl rfl rfl rfl rfl (by (try simp only [List.map_cons, List.map_nil, cellsOf]); (try rfl))) rfl ?_
        | refine awpL_ev2 (ev_stb rfl rfl rfl rfl rfl rfl rfl) rfl ?_
        | refine awpL_ev2 (ev_alloc rfl rfl (by (try simp only [List.length_nil, List.length_cons, Nat.reduceAdd]); (try rfl)) (by (try simp only [List.set_cons_zero, List.set_cons_succ, List.nil_append, List.cons_append, List.append_nil, cellsOf, List.take_zero, List.drop_zero, List.take_succ_cons, List.drop_succ_cons, Nat.zero_add, Nat.reduceAdd, List.drop_nil, List.map_cons, List.map_nil]); (try rfl))) rfl ?_
        | refine awpL_ev2 (ev_box rfl rfl (by (try simp only [List.length_nil, List.length_cons, Nat.reduceAdd]); (try rfl)) (by (try simp only [List.set_cons_zero, List.set_cons_succ, List.nil_append, List.cons_append, List.append_nil, cellsOf, List.take_zero, List.drop_zero, List.take_succ_cons, List.drop_succ_cons, Nat.zero_add, Nat.reduceAdd, List.drop_nil, List.map_cons, List.map_nil]); (try rfl))) rfl ?_
        | refine awpL_evS (ev_st_lp rfl rfl rfl rfl rfl rfl rfl (by (try simp only [List.set_cons_zero, List.set_cons_succ, List.nil_append, List.cons_append, List.append_nil, cellsOf, List.take_zero, List.drop_zero, List.take_succ_cons, List.drop_succ_cons, Nat.zero_add, Nat.reduceAdd, List.drop_nil, List.map_cons, List.map_nil]); (try rfl))) ?_)
      | (with_reducible refine is_gd ?_; (first | refine awpL_run rfl rfl rfl (by first | with_reducible rfl | with_reducible assumption) ?_ | refine awpL_passT rfl rfl rfl rfl (by first | with_reducible rfl | with_reducible assumption) ?_ | refine awpL_passF rfl rfl rfl rfl (by first | with_reducible rfl | with_reducible assumption) ?_ | refine awpL_passU rfl rfl rfl rfl ?_ | refine awpL_split rfl rfl (fun h => ?_) (fun h => ?_)))
      | (with_reducible refine is_nil ?_; refine awpL_nil ?_)
      | (with_reducible refine is_then ?_; (first | refine thenQ_n ?_ | refine thenQ_r ?_ | refine thenQ_e ?_))
      | (with_reducible refine is_block ?_; (first | refine blockQ_n ?_ | refine blockQ_r ?_ | refine blockQ_e ?_ | refine blockQ_o rfl ?_))
      | (with_reducible refine is_awp ?_; (first | refine awp_seq ?_ | refine awp_ret ?_ | refine awp_skip ?_ | refine awp_exit ?_ | refine awp_label ?_ | refine awp_block ?_ | refine awp_region ?_ | refine awp_cond_t rfl (by first | with_reducible rfl | with_reducible assumption) ?_ | refine awp_cond_f rfl (by first | with_reducible rfl | with_reducible assumption) ?_ | refine awp_cond rfl (fun h => ?_) (fun h => ?_))))
    by_cases hz : t.role = 0
    · have cz : (!decide (t.role = 0)) = false := by simpa using hz
      refine awp_draw (Sb := [(0, _), (1, _), (5, _), (7, _)]) (by kernel_rfl) rfl (.cons rfl rfl (.cons rfl rfl (.cons rfl rfl (.cons rfl rfl .nil)))) rfl ?_
      repeat' (first
        | (with_reducible refine isD_un ?_; first
          | (with_reducible refine isD_move ?_; (first | refine awpD_ev (ev_move rfl) (awpDn (by (try simp only [List.nil_append, List.cons_append]); (try rfl)) ?_)))
          | (with_reducible refine isD_bin ?_; (first | refine awpD_ev (ev_add rfl rfl (by omega)) (awpDn (by (try simp only [List.nil_append, List.cons_append]); (try rfl)) ?_) | refine awpD_ev (ev_sub rfl rfl (by omega)) (awpDn (by (try simp only [List.nil_append, List.cons_append]); (try rfl)) ?_) | refine awpD_ev (ev_bin rfl rfl rfl) (awpDn (by (try simp only [List.nil_append, List.cons_append]); (try rfl)) ?_) | refine awpD_ev (ev_eq_bool rfl rfl rfl rfl) (awpDn (by (try simp only [List.nil_append, List.cons_append]); (try rfl)) ?_)))
          | (with_reducible refine isD_fa ?_; (first | refine awpD_ev (ev_fa_fp rfl rfl rfl rfl rfl rfl) (awpDn (by (try simp only [List.nil_append, List.cons_append]); (try rfl)) ?_) | refine awpD_ev (ev_fa_lp rfl rfl rfl rfl rfl rfl) (awpDn (by (try simp only [List.nil_append, List.cons_append]); (try rfl)) ?_) | refine awpD_ev (ev_fa_ep rfl rfl rfl rfl rfl rfl) (awpDn (by (try simp only [List.nil_append, List.cons_append]); (try rfl)) ?_)))
          | (with_reducible refine isD_load ?_; (first | refine awpD_ev (ev_load_agg rfl rfl rfl rfl) (awpDn (by (try simp only [List.nil_append, List.cons_append]); (try rfl)) ?_) | refine awpD_ev (ev_load_sub rfl rfl rfl rfl rfl) (awpDn (by (try simp only [List.nil_append, List.cons_append]); (try rfl)) ?_) | refine awpD_ev (ev_load_one rfl rfl rfl rfl) (awpDn (by (try simp only [List.nil_append, List.cons_append]); (try rfl)) ?_) | refine awpD_ev (ev_ll_agg rfl rfl rfl rfl rfl rfl rfl) (awpDn (by (try simp only [List.nil_append, List.cons_append]); (try rfl)) ?_) | refine awpD_ev (ev_ll_lag rfl rfl rfl rfl rfl rfl) (awpDn (by (try simp only [List.nil_append, List.cons_append]); (try rfl)) ?_) | refine awpD_ev (ev_ll_one rfl rfl rfl rfl rfl) (awpDn (by (try simp only [List.nil_append, List.cons_append]); (try rfl)) ?_) | refine awpD_ev (ev_el_one rfl rfl rfl rfl (by with_reducible assumption) rfl) (awpDn (by (try simp only [List.nil_append, List.cons_append]); (try rfl)) ?_)))
          | (with_reducible refine isD_pick ?_; (first | refine awpD_ev (ev_pick_t rfl (by first | with_reducible rfl | with_reducible assumption) rfl) (awpDn (by (try simp only [List.nil_append, List.cons_append]); (try rfl)) ?_) | refine awpD_ev (ev_pick_f rfl (by first | with_reducible rfl | with_reducible assumption) rfl) (awpDn (by (try simp only [List.nil_append, List.cons_append]); (try rfl)) ?_)))
          | (with_reducible refine isD_assign ?_; (first | refine awpD_ev (ev_assign rfl) (awpDn (by (try simp only [List.nil_append, List.cons_append]); (try rfl)) ?_)))
          | (with_reducible refine isD_call ?_; (first | refine awpD_ev (ev_len rfl rfl rfl rfl rfl) (awpDn (by (try simp only [List.nil_append, List.cons_append]); (try rfl)) ?_) | refine awpD_ev (ev_len_os rfl rfl rfl rfl rfl) (awpDn (by (try simp only [List.nil_append, List.cons_append]); (try rfl)) ?_)))
          | refine awpD_ev (ev_not rfl) (awpDn (by (try simp only [List.nil_append, List.cons_append]); (try rfl)) ?_)
          | refine awpD_ev (ev_ia_fs rfl rfl rfl rfl rfl rfl (by with_reducible assumption)) (awpDn (by (try simp only [List.nil_append, List.cons_append]); (try rfl)) ?_)
          | refine awpD_ev (ev_ia_os rfl rfl rfl rfl rfl rfl rfl (by with_reducible assumption)) (awpDn (by (try simp only [List.nil_append, List.cons_append]); (try rfl)) ?_)
          | refine awpD_ev (ev_extract rfl rfl) (awpDn (by (try simp only [List.nil_append, List.cons_append]); (try rfl)) ?_)
          | refine awpD_ev (ev_index_str rfl rfl rfl rfl (by with_reducible assumption)) (awpDn (by (try simp only [List.nil_append, List.cons_append]); (try rfl)) ?_)
          | refine awpD_ev (ev_build rfl rfl rfl rfl rfl rfl rfl) (awpDn (by (try simp only [List.nil_append, List.cons_append]); (try rfl)) ?_)
          | refine awpD_ev (ev_build_lag rfl rfl rfl rfl rfl rfl) (awpDn (by (try simp only [List.nil_append, List.cons_append]); (try rfl)) ?_)
          | refine awpD_ev (ev_slice_fs rfl rfl rfl rfl rfl rfl rfl (by with_reducible assumption) rfl rfl) (awpDn (by (try simp only [List.nil_append, List.cons_append]); (try rfl)) ?_)
          | refine awpD_pev (pev_bslice_in rfl rfl rfl rfl rfl rfl rfl rfl rfl rfl rfl rfl (by (try simp only [List.map_cons, List.map_nil, cellsOf]); (try rfl))) (awpDn (by (try simp only [List.nil_append, List.cons_append]); (try rfl)) ?_))
        | (with_reducible refine isD_gd ?_; (first | refine awpD_run rfl rfl (by first | with_reducible rfl | with_reducible assumption) ?_ | refine awpD_passT rfl rfl (by first | with_reducible rfl | with_reducible assumption) (awpDn (by (try simp only [List.nil_append, List.cons_append]); (try rfl)) ?_) | refine awpD_passF rfl rfl (by first | with_reducible rfl | with_reducible assumption) (awpDn (by (try simp only [List.nil_append, List.cons_append]); (try rfl)) ?_) | refine awpD_passU rfl rfl (awpDn (by (try simp only [List.nil_append, List.cons_append]); (try rfl)) ?_) | refine awpD_split rfl (fun h => ?_) (fun h => ?_)))
        | refine awpD_nil ?_)
      repeat' (first
        | (with_reducible refine is_un ?_; first
          | (with_reducible refine is_move ?_; (first | refine awpL_ev (ev_move rfl) rfl ?_))
          | (with_reducible refine is_bin ?_; (first | refine awpL_ev (ev_add rfl rfl (by omega)) rfl ?_ | refine awpL_ev (ev_sub rfl rfl (by omega)) rfl ?_ | refine awpL_ev (ev_bin rfl rfl rfl) rfl ?_ | refine awpL_ev (ev_eq_bool rfl rfl rfl rfl) rfl ?_))
          | (with_reducible refine is_fa ?_; (first | refine awpL_ev (ev_fa_fp rfl rfl rfl rfl rfl rfl) rfl ?_ | refine awpL_ev (ev_fa_lp rfl rfl rfl rfl rfl rfl) rfl ?_ | refine awpL_ev (ev_fa_ep rfl rfl rfl rfl rfl rfl) rfl ?_))
          | (with_reducible refine is_load ?_; (first | refine awpL_ev (ev_load_agg rfl rfl rfl rfl) rfl ?_ | refine awpL_ev (ev_load_sub rfl rfl rfl rfl rfl) rfl ?_ | refine awpL_ev (ev_load_one rfl rfl rfl rfl) rfl ?_ | refine awpL_ev (ev_ll_agg rfl rfl rfl rfl rfl rfl rfl) rfl ?_ | refine awpL_ev (ev_ll_lag rfl rfl rfl rfl rfl rfl) rfl ?_ | refine awpL_ev (ev_ll_one rfl rfl rfl rfl rfl) rfl ?_ | refine awpL_ev (ev_el_one rfl rfl rfl rfl (by with_reducible assumption) rfl) rfl ?_))
          | (with_reducible refine is_pick ?_; (first | refine awpL_ev (ev_pick_t rfl (by first | with_reducible rfl | with_reducible assumption) rfl) rfl ?_ | refine awpL_ev (ev_pick_f rfl (by first | with_reducible rfl | with_reducible assumption) rfl) rfl ?_))
          | (with_reducible refine is_assign ?_; (first | refine awpL_ev (ev_assign rfl) rfl ?_))
          | (with_reducible refine is_call ?_; (first | refine awpL_ev (ev_len rfl rfl rfl rfl rfl) rfl ?_ | refine awpL_ev (ev_len_os rfl rfl rfl rfl rfl) rfl ?_))
          | refine awpL_ev (ev_not rfl) rfl ?_
          | refine awpL_ev (ev_ia_fs rfl rfl rfl rfl rfl rfl (by with_reducible assumption)) rfl ?_
          | refine awpL_ev (ev_ia_os rfl rfl rfl rfl rfl rfl rfl (by with_reducible assumption)) rfl ?_
          | refine awpL_ev (ev_extract rfl rfl) rfl ?_
          | refine awpL_ev (ev_index_str rfl rfl rfl rfl (by with_reducible assumption)) rfl ?_
          | refine awpL_ev (ev_build rfl rfl rfl rfl rfl rfl rfl) rfl ?_
          | refine awpL_ev (ev_build_lag rfl rfl rfl rfl rfl rfl) rfl ?_
          | refine awpL_ev (ev_slice_fs rfl rfl rfl rfl rfl rfl rfl (by with_reducible assumption) rfl rfl) rfl ?_
          | refine awpL_ev2 (ev_bslice_in rfl rfl rfl rfl rfl rfl rfl rfl rfl rfl rfl rfl (by (try simp only [List.map_cons, List.map_nil, cellsOf]); (try rfl))) rfl ?_
          | refine awpL_ev2 (ev_stb rfl rfl rfl rfl rfl rfl rfl) rfl ?_
          | refine awpL_ev2 (ev_alloc rfl rfl (by (try simp only [List.length_nil, List.length_cons, Nat.reduceAdd]); (try rfl)) (by (try simp only [List.set_cons_zero, List.set_cons_succ, List.nil_append, List.cons_append, List.append_nil, cellsOf, List.take_zero, List.drop_zero, List.take_succ_cons, List.drop_succ_cons, Nat.zero_add, Nat.reduceAdd, List.drop_nil, List.map_cons, List.map_nil]); (try rfl))) rfl ?_
          | refine awpL_ev2 (ev_box rfl rfl (by (try simp only [List.length_nil, List.length_cons, Nat.reduceAdd]); (try rfl)) (by (try simp only [List.set_cons_zero, List.set_cons_succ, List.nil_append, List.cons_append, List.append_nil, cellsOf, List.take_zero, List.drop_zero, List.take_succ_cons, List.drop_succ_cons, Nat.zero_add, Nat.reduceAdd, List.drop_nil, List.map_cons, List.map_nil]); (try rfl))) rfl ?_
          | refine awpL_evS (ev_st_lp rfl rfl rfl rfl rfl rfl rfl (by (try simp only [List.set_cons_zero, List.set_cons_succ, List.nil_append, List.cons_append, List.append_nil, cellsOf, List.take_zero, List.drop_zero, List.take_succ_cons, List.drop_succ_cons, Nat.zero_add, Nat.reduceAdd, List.drop_nil, List.map_cons, List.map_nil]); (try rfl))) ?_)
        | (with_reducible refine is_gd ?_; (first | refine awpL_run rfl rfl rfl (by first | with_reducible rfl | with_reducible assumption) ?_ | refine awpL_passT rfl rfl rfl rfl (by first | with_reducible rfl | with_reducible assumption) ?_ | refine awpL_passF rfl rfl rfl rfl (by first | with_reducible rfl | with_reducible assumption) ?_ | refine awpL_passU rfl rfl rfl rfl ?_ | refine awpL_split rfl rfl (fun h => ?_) (fun h => ?_)))
        | (with_reducible refine is_nil ?_; refine awpL_nil ?_)
        | (with_reducible refine is_then ?_; (first | refine thenQ_n ?_ | refine thenQ_r ?_ | refine thenQ_e ?_))
        | (with_reducible refine is_block ?_; (first | refine blockQ_n ?_ | refine blockQ_r ?_ | refine blockQ_e ?_ | refine blockQ_o rfl ?_))
        | (with_reducible refine is_awp ?_; (first | refine awp_seq ?_ | refine awp_ret ?_ | refine awp_skip ?_ | refine awp_exit ?_ | refine awp_label ?_ | refine awp_block ?_ | refine awp_region ?_ | refine awp_cond_t rfl (by first | with_reducible rfl | with_reducible assumption) ?_ | refine awp_cond_f rfl (by first | with_reducible rfl | with_reducible assumption) ?_ | refine awp_cond rfl (fun h => ?_) (fun h => ?_))))
      exact ⟨k + 1, ⟨(.cons rfl rfl (.cons rfl rfl (.cons rfl rfl (.cons rfl rfl .nil)))), rfl, rfl, rfl⟩, ⟨by omega, by rw [hf, hd, if_neg (by simp [hz])]⟩, by omega⟩
    · have cz : (!decide (t.role = 0)) = true := by simpa using hz
      refine awp_draw (Sb := [(0, _), (1, _), (5, _), (7, _)]) (by kernel_rfl) rfl (.cons rfl rfl (.cons rfl rfl (.cons rfl rfl (.cons rfl rfl .nil)))) rfl ?_
      repeat' (first
        | (with_reducible refine isD_un ?_; first
          | (with_reducible refine isD_move ?_; (first | refine awpD_ev (ev_move rfl) (awpDn (by (try simp only [List.nil_append, List.cons_append]); (try rfl)) ?_)))
          | (with_reducible refine isD_bin ?_; (first | refine awpD_ev (ev_add rfl rfl (by omega)) (awpDn (by (try simp only [List.nil_append, List.cons_append]); (try rfl)) ?_) | refine awpD_ev (ev_sub rfl rfl (by omega)) (awpDn (by (try simp only [List.nil_append, List.cons_append]); (try rfl)) ?_) | refine awpD_ev (ev_bin rfl rfl rfl) (awpDn (by (try simp only [List.nil_append, List.cons_append]); (try rfl)) ?_) | refine awpD_ev (ev_eq_bool rfl rfl rfl rfl) (awpDn (by (try simp only [List.nil_append, List.cons_append]); (try rfl)) ?_)))
          | (with_reducible refine isD_fa ?_; (first | refine awpD_ev (ev_fa_fp rfl rfl rfl rfl rfl rfl) (awpDn (by (try simp only [List.nil_append, List.cons_append]); (try rfl)) ?_) | refine awpD_ev (ev_fa_lp rfl rfl rfl rfl rfl rfl) (awpDn (by (try simp only [List.nil_append, List.cons_append]); (try rfl)) ?_) | refine awpD_ev (ev_fa_ep rfl rfl rfl rfl rfl rfl) (awpDn (by (try simp only [List.nil_append, List.cons_append]); (try rfl)) ?_)))
          | (with_reducible refine isD_load ?_; (first | refine awpD_ev (ev_load_agg rfl rfl rfl rfl) (awpDn (by (try simp only [List.nil_append, List.cons_append]); (try rfl)) ?_) | refine awpD_ev (ev_load_sub rfl rfl rfl rfl rfl) (awpDn (by (try simp only [List.nil_append, List.cons_append]); (try rfl)) ?_) | refine awpD_ev (ev_load_one rfl rfl rfl rfl) (awpDn (by (try simp only [List.nil_append, List.cons_append]); (try rfl)) ?_) | refine awpD_ev (ev_ll_agg rfl rfl rfl rfl rfl rfl rfl) (awpDn (by (try simp only [List.nil_append, List.cons_append]); (try rfl)) ?_) | refine awpD_ev (ev_ll_lag rfl rfl rfl rfl rfl rfl) (awpDn (by (try simp only [List.nil_append, List.cons_append]); (try rfl)) ?_) | refine awpD_ev (ev_ll_one rfl rfl rfl rfl rfl) (awpDn (by (try simp only [List.nil_append, List.cons_append]); (try rfl)) ?_) | refine awpD_ev (ev_el_one rfl rfl rfl rfl (by with_reducible assumption) rfl) (awpDn (by (try simp only [List.nil_append, List.cons_append]); (try rfl)) ?_)))
          | (with_reducible refine isD_pick ?_; (first | refine awpD_ev (ev_pick_t rfl (by first | with_reducible rfl | with_reducible assumption) rfl) (awpDn (by (try simp only [List.nil_append, List.cons_append]); (try rfl)) ?_) | refine awpD_ev (ev_pick_f rfl (by first | with_reducible rfl | with_reducible assumption) rfl) (awpDn (by (try simp only [List.nil_append, List.cons_append]); (try rfl)) ?_)))
          | (with_reducible refine isD_assign ?_; (first | refine awpD_ev (ev_assign rfl) (awpDn (by (try simp only [List.nil_append, List.cons_append]); (try rfl)) ?_)))
          | (with_reducible refine isD_call ?_; (first | refine awpD_ev (ev_len rfl rfl rfl rfl rfl) (awpDn (by (try simp only [List.nil_append, List.cons_append]); (try rfl)) ?_) | refine awpD_ev (ev_len_os rfl rfl rfl rfl rfl) (awpDn (by (try simp only [List.nil_append, List.cons_append]); (try rfl)) ?_)))
          | refine awpD_ev (ev_not rfl) (awpDn (by (try simp only [List.nil_append, List.cons_append]); (try rfl)) ?_)
          | refine awpD_ev (ev_ia_fs rfl rfl rfl rfl rfl rfl (by with_reducible assumption)) (awpDn (by (try simp only [List.nil_append, List.cons_append]); (try rfl)) ?_)
          | refine awpD_ev (ev_ia_os rfl rfl rfl rfl rfl rfl rfl (by with_reducible assumption)) (awpDn (by (try simp only [List.nil_append, List.cons_append]); (try rfl)) ?_)
          | refine awpD_ev (ev_extract rfl rfl) (awpDn (by (try simp only [List.nil_append, List.cons_append]); (try rfl)) ?_)
          | refine awpD_ev (ev_index_str rfl rfl rfl rfl (by with_reducible assumption)) (awpDn (by (try simp only [List.nil_append, List.cons_append]); (try rfl)) ?_)
          | refine awpD_ev (ev_build rfl rfl rfl rfl rfl rfl rfl) (awpDn (by (try simp only [List.nil_append, List.cons_append]); (try rfl)) ?_)
          | refine awpD_ev (ev_build_lag rfl rfl rfl rfl rfl rfl) (awpDn (by (try simp only [List.nil_append, List.cons_append]); (try rfl)) ?_)
          | refine awpD_ev (ev_slice_fs rfl rfl rfl rfl rfl rfl rfl (by with_reducible assumption) rfl rfl) (awpDn (by (try simp only [List.nil_append, List.cons_append]); (try rfl)) ?_)
          | refine awpD_pev (pev_bslice_in rfl rfl rfl rfl rfl rfl rfl rfl rfl rfl rfl rfl (by (try simp only [List.map_cons, List.map_nil, cellsOf]); (try rfl))) (awpDn (by (try simp only [List.nil_append, List.cons_append]); (try rfl)) ?_))
        | (with_reducible refine isD_gd ?_; (first | refine awpD_run rfl rfl (by first | with_reducible rfl | with_reducible assumption) ?_ | refine awpD_passT rfl rfl (by first | with_reducible rfl | with_reducible assumption) (awpDn (by (try simp only [List.nil_append, List.cons_append]); (try rfl)) ?_) | refine awpD_passF rfl rfl (by first | with_reducible rfl | with_reducible assumption) (awpDn (by (try simp only [List.nil_append, List.cons_append]); (try rfl)) ?_) | refine awpD_passU rfl rfl (awpDn (by (try simp only [List.nil_append, List.cons_append]); (try rfl)) ?_) | refine awpD_split rfl (fun h => ?_) (fun h => ?_)))
        | refine awpD_nil ?_)
      repeat' (first
        | (with_reducible refine is_un ?_; first
          | (with_reducible refine is_move ?_; (first | refine awpL_ev (ev_move rfl) rfl ?_))
          | (with_reducible refine is_bin ?_; (first | refine awpL_ev (ev_add rfl rfl (by omega)) rfl ?_ | refine awpL_ev (ev_sub rfl rfl (by omega)) rfl ?_ | refine awpL_ev (ev_bin rfl rfl rfl) rfl ?_ | refine awpL_ev (ev_eq_bool rfl rfl rfl rfl) rfl ?_))
          | (with_reducible refine is_fa ?_; (first | refine awpL_ev (ev_fa_fp rfl rfl rfl rfl rfl rfl) rfl ?_ | refine awpL_ev (ev_fa_lp rfl rfl rfl rfl rfl rfl) rfl ?_ | refine awpL_ev (ev_fa_ep rfl rfl rfl rfl rfl rfl) rfl ?_))
          | (with_reducible refine is_load ?_; (first | refine awpL_ev (ev_load_agg rfl rfl rfl rfl) rfl ?_ | refine awpL_ev (ev_load_sub rfl rfl rfl rfl rfl) rfl ?_ | refine awpL_ev (ev_load_one rfl rfl rfl rfl) rfl ?_ | refine awpL_ev (ev_ll_agg rfl rfl rfl rfl rfl rfl rfl) rfl ?_ | refine awpL_ev (ev_ll_lag rfl rfl rfl rfl rfl rfl) rfl ?_ | refine awpL_ev (ev_ll_one rfl rfl rfl rfl rfl) rfl ?_ | refine awpL_ev (ev_el_one rfl rfl rfl rfl (by with_reducible assumption) rfl) rfl ?_))
          | (with_reducible refine is_pick ?_; (first | refine awpL_ev (ev_pick_t rfl (by first | with_reducible rfl | with_reducible assumption) rfl) rfl ?_ | refine awpL_ev (ev_pick_f rfl (by first | with_reducible rfl | with_reducible assumption) rfl) rfl ?_))
          | (with_reducible refine is_assign ?_; (first | refine awpL_ev (ev_assign rfl) rfl ?_))
          | (with_reducible refine is_call ?_; (first | refine awpL_ev (ev_len rfl rfl rfl rfl rfl) rfl ?_ | refine awpL_ev (ev_len_os rfl rfl rfl rfl rfl) rfl ?_))
          | refine awpL_ev (ev_not rfl) rfl ?_
          | refine awpL_ev (ev_ia_fs rfl rfl rfl rfl rfl rfl (by with_reducible assumption)) rfl ?_
          | refine awpL_ev (ev_ia_os rfl rfl rfl rfl rfl rfl rfl (by with_reducible assumption)) rfl ?_
          | refine awpL_ev (ev_extract rfl rfl) rfl ?_
          | refine awpL_ev (ev_index_str rfl rfl rfl rfl (by with_reducible assumption)) rfl ?_
          | refine awpL_ev (ev_build rfl rfl rfl rfl rfl rfl rfl) rfl ?_
          | refine awpL_ev (ev_build_lag rfl rfl rfl rfl rfl rfl) rfl ?_
          | refine awpL_ev (ev_slice_fs rfl rfl rfl rfl rfl rfl rfl (by with_reducible assumption) rfl rfl) rfl ?_
          | refine awpL_ev2 (ev_bslice_in rfl rfl rfl rfl rfl rfl rfl rfl rfl rfl rfl rfl (by (try simp only [List.map_cons, List.map_nil, cellsOf]); (try rfl))) rfl ?_
          | refine awpL_ev2 (ev_stb rfl rfl rfl rfl rfl rfl rfl) rfl ?_
          | refine awpL_ev2 (ev_alloc rfl rfl (by (try simp only [List.length_nil, List.length_cons, Nat.reduceAdd]); (try rfl)) (by (try simp only [List.set_cons_zero, List.set_cons_succ, List.nil_append, List.cons_append, List.append_nil, cellsOf, List.take_zero, List.drop_zero, List.take_succ_cons, List.drop_succ_cons, Nat.zero_add, Nat.reduceAdd, List.drop_nil, List.map_cons, List.map_nil]); (try rfl))) rfl ?_
          | refine awpL_ev2 (ev_box rfl rfl (by (try simp only [List.length_nil, List.length_cons, Nat.reduceAdd]); (try rfl)) (by (try simp only [List.set_cons_zero, List.set_cons_succ, List.nil_append, List.cons_append, List.append_nil, cellsOf, List.take_zero, List.drop_zero, List.take_succ_cons, List.drop_succ_cons, Nat.zero_add, Nat.reduceAdd, List.drop_nil, List.map_cons, List.map_nil]); (try rfl))) rfl ?_
          | refine awpL_evS (ev_st_lp rfl rfl rfl rfl rfl rfl rfl (by (try simp only [List.set_cons_zero, List.set_cons_succ, List.nil_append, List.cons_append, List.append_nil, cellsOf, List.take_zero, List.drop_zero, List.take_succ_cons, List.drop_succ_cons, Nat.zero_add, Nat.reduceAdd, List.drop_nil, List.map_cons, List.map_nil]); (try rfl))) ?_)
        | (with_reducible refine is_gd ?_; (first | refine awpL_run rfl rfl rfl (by first | with_reducible rfl | with_reducible assumption) ?_ | refine awpL_passT rfl rfl rfl rfl (by first | with_reducible rfl | with_reducible assumption) ?_ | refine awpL_passF rfl rfl rfl rfl (by first | with_reducible rfl | with_reducible assumption) ?_ | refine awpL_passU rfl rfl rfl rfl ?_ | refine awpL_split rfl rfl (fun h => ?_) (fun h => ?_)))
        | (with_reducible refine is_nil ?_; refine awpL_nil ?_)
        | (with_reducible refine is_then ?_; (first | refine thenQ_n ?_ | refine thenQ_r ?_ | refine thenQ_e ?_))
        | (with_reducible refine is_block ?_; (first | refine blockQ_n ?_ | refine blockQ_r ?_ | refine blockQ_e ?_ | refine blockQ_o rfl ?_))
        | (with_reducible refine is_awp ?_; (first | refine awp_seq ?_ | refine awp_ret ?_ | refine awp_skip ?_ | refine awp_exit ?_ | refine awp_label ?_ | refine awp_block ?_ | refine awp_region ?_ | refine awp_cond_t rfl (by first | with_reducible rfl | with_reducible assumption) ?_ | refine awp_cond_f rfl (by first | with_reducible rfl | with_reducible assumption) ?_ | refine awp_cond rfl (fun h => ?_) (fun h => ?_))))
      · refine retP rfl ?_
        have : 0 ≤ roleOf (l.take i) t.role := by rw [hf, hd, if_pos ⟨hz, by simpa using h⟩]; omega
        simp [ex, one, hn, hf0, hk', hr', this]
      · exact ⟨k + 1, ⟨(.cons rfl rfl (.cons rfl rfl (.cons rfl rfl (.cons rfl rfl .nil)))), rfl, rfl, rfl⟩, ⟨by omega, by rw [hf, hd, if_neg (by intro hh; simp [hh.2] at h)]⟩, by omega⟩
  have c1 : decide ((k : Int) < i) = false := by simpa using hki
  have hg0 : ¬ 0 ≤ roleOf (l.take i) t.role := by
    rw [hf, List.drop_of_length_le (by omega)]; simp [roleFrom]
  have hR5 : 0 ≤ t.role ∧ t.role ≤ 5 := by omega
  have K1 := kind_spec t.role
  have K2 := over_spec t.role
  have hrr : ∀ a, roles a t = if 0 ≤ kindOf t.role ∧ t.kind ≠ kindOf t.role then 14 else if 0 ≤ overOf t.role ∧ a ≠ overOf t.role then 13 else 0 := by
    intro a
    simp only [roles, kindOf, overOf]
    rcases (show t.role = 0 ∨ t.role = 1 ∨ t.role = 2 ∨ t.role = 3 ∨ t.role = 4 ∨ t.role = 5 by omega) with h | h | h | h | h | h <;> simp [h] <;> omega
  by_cases hroot : t.kind = 0
  · have cr : decide (t.kind = 0) = true := by simpa using hroot
    have cr' : (!decide (t.kind = 0)) = false := by simpa using hroot
    by_cases hp : t.parent = -1
    · have cp : (!decide (t.parent = -1)) = false := by simpa using hp
      have hone : one (l.take i) t = roles (-1) t := by
        simp only [one, hn, hf0, hr', hg0, if_false, Bool.true_eq_false, hroot, hp, ne_eq, not_true_eq_false, if_true]
        simp
      rw [hone, hrr]
      clear hone hf0 hg0 hf hN h0 ht
      repeat' (first
        | (with_reducible refine is_un ?_; first
          | (with_reducible refine is_move ?_; (first | refine awpL_ev (ev_move rfl) rfl ?_))
          | (with_reducible refine is_bin ?_; (first | refine awpL_ev (ev_add rfl rfl (by omega)) rfl ?_ | refine awpL_ev (ev_sub rfl rfl (by omega)) rfl ?_ | refine awpL_ev (ev_bin rfl rfl rfl) rfl ?_ | refine awpL_ev (ev_eq_bool rfl rfl rfl rfl) rfl ?_))
          | (with_reducible refine is_fa ?_; (first | refine awpL_ev (ev_fa_fp rfl rfl rfl rfl rfl rfl) rfl ?_ | refine awpL_ev (ev_fa_lp rfl rfl rfl rfl rfl rfl) rfl ?_ | refine awpL_ev (ev_fa_ep rfl rfl rfl rfl rfl rfl) rfl ?_))
          | (with_reducible refine is_load ?_; (first | refine awpL_ev (ev_load_agg rfl rfl rfl rfl) rfl ?_ | refine awpL_ev (ev_load_sub rfl rfl rfl rfl rfl) rfl ?_ | refine awpL_ev (ev_load_one rfl rfl rfl rfl) rfl ?_ | refine awpL_ev (ev_ll_agg rfl rfl rfl rfl rfl rfl rfl) rfl ?_ | refine awpL_ev (ev_ll_lag rfl rfl rfl rfl rfl rfl) rfl ?_ | refine awpL_ev (ev_ll_one rfl rfl rfl rfl rfl) rfl ?_ | refine awpL_ev (ev_el_one rfl rfl rfl rfl (by with_reducible assumption) rfl) rfl ?_))
          | (with_reducible refine is_pick ?_; (first | refine awpL_ev (ev_pick_t rfl (by first | with_reducible rfl | with_reducible assumption) rfl) rfl ?_ | refine awpL_ev (ev_pick_f rfl (by first | with_reducible rfl | with_reducible assumption) rfl) rfl ?_))
          | (with_reducible refine is_assign ?_; (first | refine awpL_ev (ev_assign rfl) rfl ?_))
          | (with_reducible refine is_call ?_; (first | refine awpL_call rfl rfl (timed_spec _) rfl ?_ | refine awpL_call rfl rfl K1 rfl ?_ | refine awpL_call rfl rfl K2 rfl ?_ | refine awpL_ev (ev_len rfl rfl rfl rfl rfl) rfl ?_ | refine awpL_ev (ev_len_os rfl rfl rfl rfl rfl) rfl ?_))
          | refine awpL_ev (ev_not rfl) rfl ?_
          | refine awpL_ev (ev_ia_fs rfl rfl rfl rfl rfl rfl (by with_reducible assumption)) rfl ?_
          | refine awpL_ev (ev_ia_os rfl rfl rfl rfl rfl rfl rfl (by with_reducible assumption)) rfl ?_
          | refine awpL_ev (ev_extract rfl rfl) rfl ?_
          | refine awpL_ev (ev_index_str rfl rfl rfl rfl (by with_reducible assumption)) rfl ?_
          | refine awpL_ev (ev_build rfl rfl rfl rfl rfl rfl rfl) rfl ?_
          | refine awpL_ev (ev_build_lag rfl rfl rfl rfl rfl rfl) rfl ?_
          | refine awpL_ev (ev_slice_fs rfl rfl rfl rfl rfl rfl rfl (by with_reducible assumption) rfl rfl) rfl ?_
          | refine awpL_ev2 (ev_bslice_in rfl rfl rfl rfl rfl rfl rfl rfl rfl rfl rfl rfl (by (try simp only [List.map_cons, List.map_nil, cellsOf]); (try rfl))) rfl ?_
          | refine awpL_ev2 (ev_stb rfl rfl rfl rfl rfl rfl rfl) rfl ?_
          | refine awpL_ev2 (ev_alloc rfl rfl (by (try simp only [List.length_nil, List.length_cons, Nat.reduceAdd]); (try rfl)) (by (try simp only [List.set_cons_zero, List.set_cons_succ, List.nil_append, List.cons_append, List.append_nil, cellsOf, List.take_zero, List.drop_zero, List.take_succ_cons, List.drop_succ_cons, Nat.zero_add, Nat.reduceAdd, List.drop_nil, List.map_cons, List.map_nil]); (try rfl))) rfl ?_
          | refine awpL_ev2 (ev_box rfl rfl (by (try simp only [List.length_nil, List.length_cons, Nat.reduceAdd]); (try rfl)) (by (try simp only [List.set_cons_zero, List.set_cons_succ, List.nil_append, List.cons_append, List.append_nil, cellsOf, List.take_zero, List.drop_zero, List.take_succ_cons, List.drop_succ_cons, Nat.zero_add, Nat.reduceAdd, List.drop_nil, List.map_cons, List.map_nil]); (try rfl))) rfl ?_
          | refine awpL_evS (ev_st_lp rfl rfl rfl rfl rfl rfl rfl (by (try simp only [List.set_cons_zero, List.set_cons_succ, List.nil_append, List.cons_append, List.append_nil, cellsOf, List.take_zero, List.drop_zero, List.take_succ_cons, List.drop_succ_cons, Nat.zero_add, Nat.reduceAdd, List.drop_nil, List.map_cons, List.map_nil]); (try rfl))) ?_)
        | (with_reducible refine is_gd ?_; (first | refine awpL_run rfl rfl rfl (by first | with_reducible rfl | with_reducible assumption) ?_ | refine awpL_passT rfl rfl rfl rfl (by first | with_reducible rfl | with_reducible assumption) ?_ | refine awpL_passF rfl rfl rfl rfl (by first | with_reducible rfl | with_reducible assumption) ?_ | refine awpL_passU rfl rfl rfl rfl ?_ | refine awpL_split rfl rfl (fun h => ?_) (fun h => ?_)))
        | (with_reducible refine is_nil ?_; refine awpL_nil ?_)
        | (with_reducible refine is_then ?_; (first | refine thenQ_n ?_ | refine thenQ_r ?_ | refine thenQ_e ?_))
        | (with_reducible refine is_block ?_; (first | refine blockQ_n ?_ | refine blockQ_r ?_ | refine blockQ_e ?_ | refine blockQ_o rfl ?_))
        | (with_reducible refine is_draw ?_; refine awp_draw (Sb := [(0, _), (1, _), (5, _), (8, _)]) (by kernel_rfl) rfl (.cons rfl rfl (.cons rfl rfl (.cons rfl rfl (.cons rfl rfl .nil)))) rfl ?_
           repeat' (first
             | (with_reducible refine isD_un ?_; first
               | (with_reducible refine isD_move ?_; (first | refine awpD_ev (ev_move rfl) (awpDn (by (try simp only [List.nil_append, List.cons_append]); (try rfl)) ?_)))
               | (with_reducible refine isD_bin ?_; (first | refine awpD_ev (ev_add rfl rfl (by omega)) (awpDn (by (try simp only [List.nil_append, List.cons_append]); (try rfl)) ?_) | refine awpD_ev (ev_sub rfl rfl (by omega)) (awpDn (by (try simp only [List.nil_append, List.cons_append]); (try rfl)) ?_) | refine awpD_ev (ev_bin rfl rfl rfl) (awpDn (by (try simp only [List.nil_append, List.cons_append]); (try rfl)) ?_) | refine awpD_ev (ev_eq_bool rfl rfl rfl rfl) (awpDn (by (try simp only [List.nil_append, List.cons_append]); (try rfl)) ?_)))
               | (with_reducible refine isD_fa ?_; (first | refine awpD_ev (ev_fa_fp rfl rfl rfl rfl rfl rfl) (awpDn (by (try simp only [List.nil_append, List.cons_append]); (try rfl)) ?_) | refine awpD_ev (ev_fa_lp rfl rfl rfl rfl rfl rfl) (awpDn (by (try simp only [List.nil_append, List.cons_append]); (try rfl)) ?_) | refine awpD_ev (ev_fa_ep rfl rfl rfl rfl rfl rfl) (awpDn (by (try simp only [List.nil_append, List.cons_append]); (try rfl)) ?_)))
               | (with_reducible refine isD_load ?_; (first | refine awpD_ev (ev_load_agg rfl rfl rfl rfl) (awpDn (by (try simp only [List.nil_append, List.cons_append]); (try rfl)) ?_) | refine awpD_ev (ev_load_sub rfl rfl rfl rfl rfl) (awpDn (by (try simp only [List.nil_append, List.cons_append]); (try rfl)) ?_) | refine awpD_ev (ev_load_one rfl rfl rfl rfl) (awpDn (by (try simp only [List.nil_append, List.cons_append]); (try rfl)) ?_) | refine awpD_ev (ev_ll_agg rfl rfl rfl rfl rfl rfl rfl) (awpDn (by (try simp only [List.nil_append, List.cons_append]); (try rfl)) ?_) | refine awpD_ev (ev_ll_lag rfl rfl rfl rfl rfl rfl) (awpDn (by (try simp only [List.nil_append, List.cons_append]); (try rfl)) ?_) | refine awpD_ev (ev_ll_one rfl rfl rfl rfl rfl) (awpDn (by (try simp only [List.nil_append, List.cons_append]); (try rfl)) ?_) | refine awpD_ev (ev_el_one rfl rfl rfl rfl (by with_reducible assumption) rfl) (awpDn (by (try simp only [List.nil_append, List.cons_append]); (try rfl)) ?_)))
               | (with_reducible refine isD_pick ?_; (first | refine awpD_ev (ev_pick_t rfl (by first | with_reducible rfl | with_reducible assumption) rfl) (awpDn (by (try simp only [List.nil_append, List.cons_append]); (try rfl)) ?_) | refine awpD_ev (ev_pick_f rfl (by first | with_reducible rfl | with_reducible assumption) rfl) (awpDn (by (try simp only [List.nil_append, List.cons_append]); (try rfl)) ?_)))
               | (with_reducible refine isD_assign ?_; (first | refine awpD_ev (ev_assign rfl) (awpDn (by (try simp only [List.nil_append, List.cons_append]); (try rfl)) ?_)))
               | (with_reducible refine isD_call ?_; (first | refine awpD_call rfl rfl (timed_spec _) (awpDn (by (try simp only [List.nil_append, List.cons_append]); (try rfl)) ?_) | refine awpD_call rfl rfl K1 (awpDn (by (try simp only [List.nil_append, List.cons_append]); (try rfl)) ?_) | refine awpD_call rfl rfl K2 (awpDn (by (try simp only [List.nil_append, List.cons_append]); (try rfl)) ?_) | refine awpD_ev (ev_len rfl rfl rfl rfl rfl) (awpDn (by (try simp only [List.nil_append, List.cons_append]); (try rfl)) ?_) | refine awpD_ev (ev_len_os rfl rfl rfl rfl rfl) (awpDn (by (try simp only [List.nil_append, List.cons_append]); (try rfl)) ?_)))
               | refine awpD_ev (ev_not rfl) (awpDn (by (try simp only [List.nil_append, List.cons_append]); (try rfl)) ?_)
               | refine awpD_ev (ev_ia_fs rfl rfl rfl rfl rfl rfl (by with_reducible assumption)) (awpDn (by (try simp only [List.nil_append, List.cons_append]); (try rfl)) ?_)
               | refine awpD_ev (ev_ia_os rfl rfl rfl rfl rfl rfl rfl (by with_reducible assumption)) (awpDn (by (try simp only [List.nil_append, List.cons_append]); (try rfl)) ?_)
               | refine awpD_ev (ev_extract rfl rfl) (awpDn (by (try simp only [List.nil_append, List.cons_append]); (try rfl)) ?_)
               | refine awpD_ev (ev_index_str rfl rfl rfl rfl (by with_reducible assumption)) (awpDn (by (try simp only [List.nil_append, List.cons_append]); (try rfl)) ?_)
               | refine awpD_ev (ev_build rfl rfl rfl rfl rfl rfl rfl) (awpDn (by (try simp only [List.nil_append, List.cons_append]); (try rfl)) ?_)
               | refine awpD_ev (ev_build_lag rfl rfl rfl rfl rfl rfl) (awpDn (by (try simp only [List.nil_append, List.cons_append]); (try rfl)) ?_)
               | refine awpD_ev (ev_slice_fs rfl rfl rfl rfl rfl rfl rfl (by with_reducible assumption) rfl rfl) (awpDn (by (try simp only [List.nil_append, List.cons_append]); (try rfl)) ?_)
               | refine awpD_pev (pev_bslice_in rfl rfl rfl rfl rfl rfl rfl rfl rfl rfl rfl rfl (by (try simp only [List.map_cons, List.map_nil, cellsOf]); (try rfl))) (awpDn (by (try simp only [List.nil_append, List.cons_append]); (try rfl)) ?_))
             | (with_reducible refine isD_gd ?_; (first | refine awpD_run rfl rfl (by first | with_reducible rfl | with_reducible assumption) ?_ | refine awpD_passT rfl rfl (by first | with_reducible rfl | with_reducible assumption) (awpDn (by (try simp only [List.nil_append, List.cons_append]); (try rfl)) ?_) | refine awpD_passF rfl rfl (by first | with_reducible rfl | with_reducible assumption) (awpDn (by (try simp only [List.nil_append, List.cons_append]); (try rfl)) ?_) | refine awpD_passU rfl rfl (awpDn (by (try simp only [List.nil_append, List.cons_append]); (try rfl)) ?_) | refine awpD_split rfl (fun h => ?_) (fun h => ?_)))
             | refine awpD_nil ?_))
        | (with_reducible refine is_awp ?_; (first | refine awp_seq ?_ | refine awp_ret ?_ | refine awp_skip ?_ | refine awp_exit ?_ | refine awp_label ?_ | refine awp_block ?_ | refine awp_region ?_ | refine awp_cond_t rfl (by first | with_reducible rfl | with_reducible assumption) ?_ | refine awp_cond_f rfl (by first | with_reducible rfl | with_reducible assumption) ?_ | refine awp_cond rfl (fun h => ?_) (fun h => ?_))))
      all_goals refine retP rfl ?_
      all_goals simp only [ex, decide_eq_true_eq, decide_eq_false_iff_not, Bool.not_eq_true', Bool.not_eq_false'] at *
      all_goals refine congrArg (fun n => vi n) ?_
      all_goals clear K1 K2 hrr
      all_goals (repeat' split) <;> omega
    · have cp : (!decide (t.parent = -1)) = true := by simpa using hp
      have hone : one (l.take i) t = 13 := by
        simp only [one, hn, hf0, hr', hg0, if_false, Bool.true_eq_false, hroot, hp, ne_eq, not_false_eq_true, if_true]
        simp
      rw [hone]
      repeat' (first
        | (with_reducible refine is_un ?_; first
          | (with_reducible refine is_move ?_; (first | refine awpL_ev (ev_move rfl) rfl ?_))
          | (with_reducible refine is_bin ?_; (first | refine awpL_ev (ev_add rfl rfl (by omega)) rfl ?_ | refine awpL_ev (ev_sub rfl rfl (by omega)) rfl ?_ | refine awpL_ev (ev_bin rfl rfl rfl) rfl ?_ | refine awpL_ev (ev_eq_bool rfl rfl rfl rfl) rfl ?_))
          | (with_reducible refine is_fa ?_; (first | refine awpL_ev (ev_fa_fp rfl rfl rfl rfl rfl rfl) rfl ?_ | refine awpL_ev (ev_fa_lp rfl rfl rfl rfl rfl rfl) rfl ?_ | refine awpL_ev (ev_fa_ep rfl rfl rfl rfl rfl rfl) rfl ?_))
          | (with_reducible refine is_load ?_; (first | refine awpL_ev (ev_load_agg rfl rfl rfl rfl) rfl ?_ | refine awpL_ev (ev_load_sub rfl rfl rfl rfl rfl) rfl ?_ | refine awpL_ev (ev_load_one rfl rfl rfl rfl) rfl ?_ | refine awpL_ev (ev_ll_agg rfl rfl rfl rfl rfl rfl rfl) rfl ?_ | refine awpL_ev (ev_ll_lag rfl rfl rfl rfl rfl rfl) rfl ?_ | refine awpL_ev (ev_ll_one rfl rfl rfl rfl rfl) rfl ?_ | refine awpL_ev (ev_el_one rfl rfl rfl rfl (by with_reducible assumption) rfl) rfl ?_))
          | (with_reducible refine is_pick ?_; (first | refine awpL_ev (ev_pick_t rfl (by first | with_reducible rfl | with_reducible assumption) rfl) rfl ?_ | refine awpL_ev (ev_pick_f rfl (by first | with_reducible rfl | with_reducible assumption) rfl) rfl ?_))
          | (with_reducible refine is_assign ?_; (first | refine awpL_ev (ev_assign rfl) rfl ?_))
          | (with_reducible refine is_call ?_; (first | refine awpL_ev (ev_len rfl rfl rfl rfl rfl) rfl ?_ | refine awpL_ev (ev_len_os rfl rfl rfl rfl rfl) rfl ?_))
          | refine awpL_ev (ev_not rfl) rfl ?_
          | refine awpL_ev (ev_ia_fs rfl rfl rfl rfl rfl rfl (by with_reducible assumption)) rfl ?_
          | refine awpL_ev (ev_ia_os rfl rfl rfl rfl rfl rfl rfl (by with_reducible assumption)) rfl ?_
          | refine awpL_ev (ev_extract rfl rfl) rfl ?_
          | refine awpL_ev (ev_index_str rfl rfl rfl rfl (by with_reducible assumption)) rfl ?_
          | refine awpL_ev (ev_build rfl rfl rfl rfl rfl rfl rfl) rfl ?_
          | refine awpL_ev (ev_build_lag rfl rfl rfl rfl rfl rfl) rfl ?_
          | refine awpL_ev (ev_slice_fs rfl rfl rfl rfl rfl rfl rfl (by with_reducible assumption) rfl rfl) rfl ?_
          | refine awpL_ev2 (ev_bslice_in rfl rfl rfl rfl rfl rfl rfl rfl rfl rfl rfl rfl (by (try simp only [List.map_cons, List.map_nil, cellsOf]); (try rfl))) rfl ?_
          | refine awpL_ev2 (ev_stb rfl rfl rfl rfl rfl rfl rfl) rfl ?_
          | refine awpL_ev2 (ev_alloc rfl rfl (by (try simp only [List.length_nil, List.length_cons, Nat.reduceAdd]); (try rfl)) (by (try simp only [List.set_cons_zero, List.set_cons_succ, List.nil_append, List.cons_append, List.append_nil, cellsOf, List.take_zero, List.drop_zero, List.take_succ_cons, List.drop_succ_cons, Nat.zero_add, Nat.reduceAdd, List.drop_nil, List.map_cons, List.map_nil]); (try rfl))) rfl ?_
          | refine awpL_ev2 (ev_box rfl rfl (by (try simp only [List.length_nil, List.length_cons, Nat.reduceAdd]); (try rfl)) (by (try simp only [List.set_cons_zero, List.set_cons_succ, List.nil_append, List.cons_append, List.append_nil, cellsOf, List.take_zero, List.drop_zero, List.take_succ_cons, List.drop_succ_cons, Nat.zero_add, Nat.reduceAdd, List.drop_nil, List.map_cons, List.map_nil]); (try rfl))) rfl ?_
          | refine awpL_evS (ev_st_lp rfl rfl rfl rfl rfl rfl rfl (by (try simp only [List.set_cons_zero, List.set_cons_succ, List.nil_append, List.cons_append, List.append_nil, cellsOf, List.take_zero, List.drop_zero, List.take_succ_cons, List.drop_succ_cons, Nat.zero_add, Nat.reduceAdd, List.drop_nil, List.map_cons, List.map_nil]); (try rfl))) ?_)
        | (with_reducible refine is_gd ?_; (first | refine awpL_run rfl rfl rfl (by first | with_reducible rfl | with_reducible assumption) ?_ | refine awpL_passT rfl rfl rfl rfl (by first | with_reducible rfl | with_reducible assumption) ?_ | refine awpL_passF rfl rfl rfl rfl (by first | with_reducible rfl | with_reducible assumption) ?_ | refine awpL_passU rfl rfl rfl rfl ?_ | refine awpL_split rfl rfl (fun h => ?_) (fun h => ?_)))
        | (with_reducible refine is_nil ?_; refine awpL_nil ?_)
        | (with_reducible refine is_then ?_; (first | refine thenQ_n ?_ | refine thenQ_r ?_ | refine thenQ_e ?_))
        | (with_reducible refine is_block ?_; (first | refine blockQ_n ?_ | refine blockQ_r ?_ | refine blockQ_e ?_ | refine blockQ_o rfl ?_))
        | (with_reducible refine is_awp ?_; (first | refine awp_seq ?_ | refine awp_ret ?_ | refine awp_skip ?_ | refine awp_exit ?_ | refine awp_label ?_ | refine awp_block ?_ | refine awp_region ?_ | refine awp_cond_t rfl (by first | with_reducible rfl | with_reducible assumption) ?_ | refine awp_cond_f rfl (by first | with_reducible rfl | with_reducible assumption) ?_ | refine awp_cond rfl (fun h => ?_) (fun h => ?_))))
      refine retP rfl rfl
  have cr : decide (t.kind = 0) = false := by simpa using hroot
  have cr' : (!decide (t.kind = 0)) = true := by simpa using hroot
  by_cases hp0 : t.parent < 0
  · have cp : decide (t.parent < 0) = true := by simpa using hp0
    have hone : one (l.take i) t = 13 := by
      simp only [one, hn, hf0, hk', hr', hg0, if_false, Bool.true_eq_false, hroot, hp0, true_or, if_true]
    rw [hone]
    repeat' (first
      | (with_reducible refine is_un ?_; first
        | (with_reducible refine is_move ?_; (first | refine awpL_ev (ev_move rfl) rfl ?_))
        | (with_reducible refine is_bin ?_; (first | refine awpL_ev (ev_add rfl rfl (by omega)) rfl ?_ | refine awpL_ev (ev_sub rfl rfl (by omega)) rfl ?_ | refine awpL_ev (ev_bin rfl rfl rfl) rfl ?_ | refine awpL_ev (ev_eq_bool rfl rfl rfl rfl) rfl ?_))
        | (with_reducible refine is_fa ?_; (first | refine awpL_ev (ev_fa_fp rfl rfl rfl rfl rfl rfl) rfl ?_ | refine awpL_ev (ev_fa_lp rfl rfl rfl rfl rfl rfl) rfl ?_ | refine awpL_ev (ev_fa_ep rfl rfl rfl rfl rfl rfl) rfl ?_))
        | (with_reducible refine is_load ?_; (first | refine awpL_ev (ev_load_agg rfl rfl rfl rfl) rfl ?_ | refine awpL_ev (ev_load_sub rfl rfl rfl rfl rfl) rfl ?_ | refine awpL_ev (ev_load_one rfl rfl rfl rfl) rfl ?_ | refine awpL_ev (ev_ll_agg rfl rfl rfl rfl rfl rfl rfl) rfl ?_ | refine awpL_ev (ev_ll_lag rfl rfl rfl rfl rfl rfl) rfl ?_ | refine awpL_ev (ev_ll_one rfl rfl rfl rfl rfl) rfl ?_ | refine awpL_ev (ev_el_one rfl rfl rfl rfl (by with_reducible assumption) rfl) rfl ?_))
        | (with_reducible refine is_pick ?_; (first | refine awpL_ev (ev_pick_t rfl (by first | with_reducible rfl | with_reducible assumption) rfl) rfl ?_ | refine awpL_ev (ev_pick_f rfl (by first | with_reducible rfl | with_reducible assumption) rfl) rfl ?_))
        | (with_reducible refine is_assign ?_; (first | refine awpL_ev (ev_assign rfl) rfl ?_))
        | (with_reducible refine is_call ?_; (first | refine awpL_ev (ev_len rfl rfl rfl rfl rfl) rfl ?_ | refine awpL_ev (ev_len_os rfl rfl rfl rfl rfl) rfl ?_))
        | refine awpL_ev (ev_not rfl) rfl ?_
        | refine awpL_ev (ev_ia_fs rfl rfl rfl rfl rfl rfl (by with_reducible assumption)) rfl ?_
        | refine awpL_ev (ev_ia_os rfl rfl rfl rfl rfl rfl rfl (by with_reducible assumption)) rfl ?_
        | refine awpL_ev (ev_extract rfl rfl) rfl ?_
        | refine awpL_ev (ev_index_str rfl rfl rfl rfl (by with_reducible assumption)) rfl ?_
        | refine awpL_ev (ev_build rfl rfl rfl rfl rfl rfl rfl) rfl ?_
        | refine awpL_ev (ev_build_lag rfl rfl rfl rfl rfl rfl) rfl ?_
        | refine awpL_ev (ev_slice_fs rfl rfl rfl rfl rfl rfl rfl (by with_reducible assumption) rfl rfl) rfl ?_
        | refine awpL_ev2 (ev_bslice_in rfl rfl rfl rfl rfl rfl rfl rfl rfl rfl rfl rfl (by (try simp only [List.map_cons, List.map_nil, cellsOf]); (try rfl))) rfl ?_
        | refine awpL_ev2 (ev_stb rfl rfl rfl rfl rfl rfl rfl) rfl ?_
        | refine awpL_ev2 (ev_alloc rfl rfl (by (try simp only [List.length_nil, List.length_cons, Nat.reduceAdd]); (try rfl)) (by (try simp only [List.set_cons_zero, List.set_cons_succ, List.nil_append, List.cons_append, List.append_nil, cellsOf, List.take_zero, List.drop_zero, List.take_succ_cons, List.drop_succ_cons, Nat.zero_add, Nat.reduceAdd, List.drop_nil, List.map_cons, List.map_nil]); (try rfl))) rfl ?_
        | refine awpL_ev2 (ev_box rfl rfl (by (try simp only [List.length_nil, List.length_cons, Nat.reduceAdd]); (try rfl)) (by (try simp only [List.set_cons_zero, List.set_cons_succ, List.nil_append, List.cons_append, List.append_nil, cellsOf, List.take_zero, List.drop_zero, List.take_succ_cons, List.drop_succ_cons, Nat.zero_add, Nat.reduceAdd, List.drop_nil, List.map_cons, List.map_nil]); (try rfl))) rfl ?_
        | refine awpL_evS (ev_st_lp rfl rfl rfl rfl rfl rfl rfl (by (try simp only [List.set_cons_zero, List.set_cons_succ, List.nil_append, List.cons_append, List.append_nil, cellsOf, List.take_zero, List.drop_zero, List.take_succ_cons, List.drop_succ_cons, Nat.zero_add, Nat.reduceAdd, List.drop_nil, List.map_cons, List.map_nil]); (try rfl))) ?_)
      | (with_reducible refine is_gd ?_; (first | refine awpL_run rfl rfl rfl (by first | with_reducible rfl | with_reducible assumption) ?_ | refine awpL_passT rfl rfl rfl rfl (by first | with_reducible rfl | with_reducible assumption) ?_ | refine awpL_passF rfl rfl rfl rfl (by first | with_reducible rfl | with_reducible assumption) ?_ | refine awpL_passU rfl rfl rfl rfl ?_ | refine awpL_split rfl rfl (fun h => ?_) (fun h => ?_)))
      | (with_reducible refine is_nil ?_; refine awpL_nil ?_)
      | (with_reducible refine is_then ?_; (first | refine thenQ_n ?_ | refine thenQ_r ?_ | refine thenQ_e ?_))
      | (with_reducible refine is_block ?_; (first | refine blockQ_n ?_ | refine blockQ_r ?_ | refine blockQ_e ?_ | refine blockQ_o rfl ?_))
      | (with_reducible refine is_awp ?_; (first | refine awp_seq ?_ | refine awp_ret ?_ | refine awp_skip ?_ | refine awp_exit ?_ | refine awp_label ?_ | refine awp_block ?_ | refine awp_region ?_ | refine awp_cond_t rfl (by first | with_reducible rfl | with_reducible assumption) ?_ | refine awp_cond_f rfl (by first | with_reducible rfl | with_reducible assumption) ?_ | refine awp_cond rfl (fun h => ?_) (fun h => ?_))))
    refine retP rfl rfl
  have cp : decide (t.parent < 0) = false := by simpa using hp0
  by_cases hp1 : (i : Int) ≤ t.parent
  · have cp1 : decide ((i : Int) ≤ t.parent) = true := by simpa using hp1
    have hone : one (l.take i) t = 13 := by
      simp only [one, hn, hf0, hk', hr', hg0, if_false, Bool.true_eq_false, hroot, hlen, hp1, or_true, if_true]
    rw [hone]
    repeat' (first
      | (with_reducible refine is_un ?_; first
        | (with_reducible refine is_move ?_; (first | refine awpL_ev (ev_move rfl) rfl ?_))
        | (with_reducible refine is_bin ?_; (first | refine awpL_ev (ev_add rfl rfl (by omega)) rfl ?_ | refine awpL_ev (ev_sub rfl rfl (by omega)) rfl ?_ | refine awpL_ev (ev_bin rfl rfl rfl) rfl ?_ | refine awpL_ev (ev_eq_bool rfl rfl rfl rfl) rfl ?_))
        | (with_reducible refine is_fa ?_; (first | refine awpL_ev (ev_fa_fp rfl rfl rfl rfl rfl rfl) rfl ?_ | refine awpL_ev (ev_fa_lp rfl rfl rfl rfl rfl rfl) rfl ?_ | refine awpL_ev (ev_fa_ep rfl rfl rfl rfl rfl rfl) rfl ?_))
        | (with_reducible refine is_load ?_; (first | refine awpL_ev (ev_load_agg rfl rfl rfl rfl) rfl ?_ | refine awpL_ev (ev_load_sub rfl rfl rfl rfl rfl) rfl ?_ | refine awpL_ev (ev_load_one rfl rfl rfl rfl) rfl ?_ | refine awpL_ev (ev_ll_agg rfl rfl rfl rfl rfl rfl rfl) rfl ?_ | refine awpL_ev (ev_ll_lag rfl rfl rfl rfl rfl rfl) rfl ?_ | refine awpL_ev (ev_ll_one rfl rfl rfl rfl rfl) rfl ?_ | refine awpL_ev (ev_el_one rfl rfl rfl rfl (by with_reducible assumption) rfl) rfl ?_))
        | (with_reducible refine is_pick ?_; (first | refine awpL_ev (ev_pick_t rfl (by first | with_reducible rfl | with_reducible assumption) rfl) rfl ?_ | refine awpL_ev (ev_pick_f rfl (by first | with_reducible rfl | with_reducible assumption) rfl) rfl ?_))
        | (with_reducible refine is_assign ?_; (first | refine awpL_ev (ev_assign rfl) rfl ?_))
        | (with_reducible refine is_call ?_; (first | refine awpL_ev (ev_len rfl rfl rfl rfl rfl) rfl ?_ | refine awpL_ev (ev_len_os rfl rfl rfl rfl rfl) rfl ?_))
        | refine awpL_ev (ev_not rfl) rfl ?_
        | refine awpL_ev (ev_ia_fs rfl rfl rfl rfl rfl rfl (by with_reducible assumption)) rfl ?_
        | refine awpL_ev (ev_ia_os rfl rfl rfl rfl rfl rfl rfl (by with_reducible assumption)) rfl ?_
        | refine awpL_ev (ev_extract rfl rfl) rfl ?_
        | refine awpL_ev (ev_index_str rfl rfl rfl rfl (by with_reducible assumption)) rfl ?_
        | refine awpL_ev (ev_build rfl rfl rfl rfl rfl rfl rfl) rfl ?_
        | refine awpL_ev (ev_build_lag rfl rfl rfl rfl rfl rfl) rfl ?_
        | refine awpL_ev (ev_slice_fs rfl rfl rfl rfl rfl rfl rfl (by with_reducible assumption) rfl rfl) rfl ?_
        | refine awpL_ev2 (ev_bslice_in rfl rfl rfl rfl rfl rfl rfl rfl rfl rfl rfl rfl (by (try simp only [List.map_cons, List.map_nil, cellsOf]); (try rfl))) rfl ?_
        | refine awpL_ev2 (ev_stb rfl rfl rfl rfl rfl rfl rfl) rfl ?_
        | refine awpL_ev2 (ev_alloc rfl rfl (by (try simp only [List.length_nil, List.length_cons, Nat.reduceAdd]); (try rfl)) (by (try simp only [List.set_cons_zero, List.set_cons_succ, List.nil_append, List.cons_append, List.append_nil, cellsOf, List.take_zero, List.drop_zero, List.take_succ_cons, List.drop_succ_cons, Nat.zero_add, Nat.reduceAdd, List.drop_nil, List.map_cons, List.map_nil]); (try rfl))) rfl ?_
        | refine awpL_ev2 (ev_box rfl rfl (by (try simp only [List.length_nil, List.length_cons, Nat.reduceAdd]); (try rfl)) (by (try simp only [List.set_cons_zero, List.set_cons_succ, List.nil_append, List.cons_append, List.append_nil, cellsOf, List.take_zero, List.drop_zero, List.take_succ_cons, List.drop_succ_cons, Nat.zero_add, Nat.reduceAdd, List.drop_nil, List.map_cons, List.map_nil]); (try rfl))) rfl ?_
        | refine awpL_evS (ev_st_lp rfl rfl rfl rfl rfl rfl rfl (by (try simp only [List.set_cons_zero, List.set_cons_succ, List.nil_append, List.cons_append, List.append_nil, cellsOf, List.take_zero, List.drop_zero, List.take_succ_cons, List.drop_succ_cons, Nat.zero_add, Nat.reduceAdd, List.drop_nil, List.map_cons, List.map_nil]); (try rfl))) ?_)
      | (with_reducible refine is_gd ?_; (first | refine awpL_run rfl rfl rfl (by first | with_reducible rfl | with_reducible assumption) ?_ | refine awpL_passT rfl rfl rfl rfl (by first | with_reducible rfl | with_reducible assumption) ?_ | refine awpL_passF rfl rfl rfl rfl (by first | with_reducible rfl | with_reducible assumption) ?_ | refine awpL_passU rfl rfl rfl rfl ?_ | refine awpL_split rfl rfl (fun h => ?_) (fun h => ?_)))
      | (with_reducible refine is_nil ?_; refine awpL_nil ?_)
      | (with_reducible refine is_then ?_; (first | refine thenQ_n ?_ | refine thenQ_r ?_ | refine thenQ_e ?_))
      | (with_reducible refine is_block ?_; (first | refine blockQ_n ?_ | refine blockQ_r ?_ | refine blockQ_e ?_ | refine blockQ_o rfl ?_))
      | (with_reducible refine is_awp ?_; (first | refine awp_seq ?_ | refine awp_ret ?_ | refine awp_skip ?_ | refine awp_exit ?_ | refine awp_label ?_ | refine awp_block ?_ | refine awp_region ?_ | refine awp_cond_t rfl (by first | with_reducible rfl | with_reducible assumption) ?_ | refine awp_cond_f rfl (by first | with_reducible rfl | with_reducible assumption) ?_ | refine awp_cond rfl (fun h => ?_) (fun h => ?_))))
    refine retP rfl rfl
  have cp1 : decide ((i : Int) ≤ t.parent) = false := by simpa using hp1
  obtain ⟨p, hpt⟩ : ∃ p, l[t.parent.toNat]? = some p := ⟨l[t.parent.toNat]'(by omega), by simp⟩
  have h1 : 0 ≤ t.parent ∧ (l.map encT)[t.parent.toNat]? = some (encT p) := ⟨by omega, by simp [hpt]⟩
  have hone : one (l.take i) t = if timed t.kind = true ∧ timed p.kind = false then 13 else roles p.role t := by
    simp only [one, hn, hf0, hk', hr', hg0, if_false, Bool.true_eq_false, hroot, hlen, hp0, hp1, or_self, take_get hpt (show t.parent.toNat < i by omega)]
  have T1 := timed_spec t.kind
  have T2 := timed_spec p.kind
  rw [hone, hrr]
  clear hone hf0 hg0 hf hN h0 ht
  cases hb1 : timed t.kind <;> cases hb2 : timed p.kind <;> rw [hb1] at T1 <;> rw [hb2] at T2
  all_goals have cn1 : (!false) = true := rfl
  repeat' (first
    | (with_reducible refine is_un ?_; first
      | (with_reducible refine is_move ?_; (first | refine awpL_ev (ev_move rfl) rfl ?_))
      | (with_reducible refine is_bin ?_; (first | refine awpL_ev (ev_add rfl rfl (by omega)) rfl ?_ | refine awpL_ev (ev_sub rfl rfl (by omega)) rfl ?_ | refine awpL_ev (ev_bin rfl rfl rfl) rfl ?_ | refine awpL_ev (ev_eq_bool rfl rfl rfl rfl) rfl ?_))
      | (with_reducible refine is_fa ?_; (first | refine awpL_ev (ev_fa_fp rfl rfl rfl rfl rfl rfl) rfl ?_ | refine awpL_ev (ev_fa_lp rfl rfl rfl rfl rfl rfl) rfl ?_ | refine awpL_ev (ev_fa_ep rfl rfl rfl rfl rfl rfl) rfl ?_))
      | (with_reducible refine is_load ?_; (first | refine awpL_ev (ev_load_agg rfl rfl rfl rfl) rfl ?_ | refine awpL_ev (ev_load_sub rfl rfl rfl rfl rfl) rfl ?_ | refine awpL_ev (ev_load_one rfl rfl rfl rfl) rfl ?_ | refine awpL_ev (ev_ll_agg rfl rfl rfl rfl rfl rfl rfl) rfl ?_ | refine awpL_ev (ev_ll_lag rfl rfl rfl rfl rfl rfl) rfl ?_ | refine awpL_ev (ev_ll_one rfl rfl rfl rfl rfl) rfl ?_ | refine awpL_ev (ev_el_one rfl rfl rfl rfl (by with_reducible assumption) rfl) rfl ?_))
      | (with_reducible refine is_pick ?_; (first | refine awpL_ev (ev_pick_t rfl (by first | with_reducible rfl | with_reducible assumption) rfl) rfl ?_ | refine awpL_ev (ev_pick_f rfl (by first | with_reducible rfl | with_reducible assumption) rfl) rfl ?_))
      | (with_reducible refine is_assign ?_; (first | refine awpL_ev (ev_assign rfl) rfl ?_))
      | (with_reducible refine is_call ?_; (first | refine awpL_call rfl rfl T1 rfl ?_ | refine awpL_call rfl rfl T2 rfl ?_ | refine awpL_call rfl rfl K1 rfl ?_ | refine awpL_call rfl rfl K2 rfl ?_ | refine awpL_ev (ev_len rfl rfl rfl rfl rfl) rfl ?_ | refine awpL_ev (ev_len_os rfl rfl rfl rfl rfl) rfl ?_))
      | refine awpL_ev (ev_not rfl) rfl ?_
      | refine awpL_ev (ev_ia_fs rfl rfl rfl rfl rfl rfl (by with_reducible assumption)) rfl ?_
      | refine awpL_ev (ev_ia_os rfl rfl rfl rfl rfl rfl rfl (by with_reducible assumption)) rfl ?_
      | refine awpL_ev (ev_extract rfl rfl) rfl ?_
      | refine awpL_ev (ev_index_str rfl rfl rfl rfl (by with_reducible assumption)) rfl ?_
      | refine awpL_ev (ev_build rfl rfl rfl rfl rfl rfl rfl) rfl ?_
      | refine awpL_ev (ev_build_lag rfl rfl rfl rfl rfl rfl) rfl ?_
      | refine awpL_ev (ev_slice_fs rfl rfl rfl rfl rfl rfl rfl (by with_reducible assumption) rfl rfl) rfl ?_
      | refine awpL_ev2 (ev_bslice_in rfl rfl rfl rfl rfl rfl rfl rfl rfl rfl rfl rfl (by (try simp only [List.map_cons, List.map_nil, cellsOf]); (try rfl))) rfl ?_
      | refine awpL_ev2 (ev_stb rfl rfl rfl rfl rfl rfl rfl) rfl ?_
      | refine awpL_ev2 (ev_alloc rfl rfl (by (try simp only [List.length_nil, List.length_cons, Nat.reduceAdd]); (try rfl)) (by (try simp only [List.set_cons_zero, List.set_cons_succ, List.nil_append, List.cons_append, List.append_nil, cellsOf, List.take_zero, List.drop_zero, List.take_succ_cons, List.drop_succ_cons, Nat.zero_add, Nat.reduceAdd, List.drop_nil, List.map_cons, List.map_nil]); (try rfl))) rfl ?_
      | refine awpL_ev2 (ev_box rfl rfl (by (try simp only [List.length_nil, List.length_cons, Nat.reduceAdd]); (try rfl)) (by (try simp only [List.set_cons_zero, List.set_cons_succ, List.nil_append, List.cons_append, List.append_nil, cellsOf, List.take_zero, List.drop_zero, List.take_succ_cons, List.drop_succ_cons, Nat.zero_add, Nat.reduceAdd, List.drop_nil, List.map_cons, List.map_nil]); (try rfl))) rfl ?_
      | refine awpL_evS (ev_st_lp rfl rfl rfl rfl rfl rfl rfl (by (try simp only [List.set_cons_zero, List.set_cons_succ, List.nil_append, List.cons_append, List.append_nil, cellsOf, List.take_zero, List.drop_zero, List.take_succ_cons, List.drop_succ_cons, Nat.zero_add, Nat.reduceAdd, List.drop_nil, List.map_cons, List.map_nil]); (try rfl))) ?_)
    | (with_reducible refine is_gd ?_; (first | refine awpL_run rfl rfl rfl (by first | with_reducible rfl | with_reducible assumption) ?_ | refine awpL_passT rfl rfl rfl rfl (by first | with_reducible rfl | with_reducible assumption) ?_ | refine awpL_passF rfl rfl rfl rfl (by first | with_reducible rfl | with_reducible assumption) ?_ | refine awpL_passU rfl rfl rfl rfl ?_ | refine awpL_split rfl rfl (fun h => ?_) (fun h => ?_)))
    | (with_reducible refine is_nil ?_; refine awpL_nil ?_)
    | (with_reducible refine is_then ?_; (first | refine thenQ_n ?_ | refine thenQ_r ?_ | refine thenQ_e ?_))
    | (with_reducible refine is_block ?_; (first | refine blockQ_n ?_ | refine blockQ_r ?_ | refine blockQ_e ?_ | refine blockQ_o rfl ?_))
    | (with_reducible refine is_draw ?_; refine awp_draw (Sb := [(0, _), (1, _), (5, _), (8, _)]) (by kernel_rfl) rfl (.cons rfl rfl (.cons rfl rfl (.cons rfl rfl (.cons rfl rfl .nil)))) rfl ?_
       repeat' (first
         | (with_reducible refine isD_un ?_; first
           | (with_reducible refine isD_move ?_; (first | refine awpD_ev (ev_move rfl) (awpDn (by (try simp only [List.nil_append, List.cons_append]); (try rfl)) ?_)))
           | (with_reducible refine isD_bin ?_; (first | refine awpD_ev (ev_add rfl rfl (by omega)) (awpDn (by (try simp only [List.nil_append, List.cons_append]); (try rfl)) ?_) | refine awpD_ev (ev_sub rfl rfl (by omega)) (awpDn (by (try simp only [List.nil_append, List.cons_append]); (try rfl)) ?_) | refine awpD_ev (ev_bin rfl rfl rfl) (awpDn (by (try simp only [List.nil_append, List.cons_append]); (try rfl)) ?_) | refine awpD_ev (ev_eq_bool rfl rfl rfl rfl) (awpDn (by (try simp only [List.nil_append, List.cons_append]); (try rfl)) ?_)))
           | (with_reducible refine isD_fa ?_; (first | refine awpD_ev (ev_fa_fp rfl rfl rfl rfl rfl rfl) (awpDn (by (try simp only [List.nil_append, List.cons_append]); (try rfl)) ?_) | refine awpD_ev (ev_fa_lp rfl rfl rfl rfl rfl rfl) (awpDn (by (try simp only [List.nil_append, List.cons_append]); (try rfl)) ?_) | refine awpD_ev (ev_fa_ep rfl rfl rfl rfl rfl rfl) (awpDn (by (try simp only [List.nil_append, List.cons_append]); (try rfl)) ?_)))
           | (with_reducible refine isD_load ?_; (first | refine awpD_ev (ev_load_agg rfl rfl rfl rfl) (awpDn (by (try simp only [List.nil_append, List.cons_append]); (try rfl)) ?_) | refine awpD_ev (ev_load_sub rfl rfl rfl rfl rfl) (awpDn (by (try simp only [List.nil_append, List.cons_append]); (try rfl)) ?_) | refine awpD_ev (ev_load_one rfl rfl rfl rfl) (awpDn (by (try simp only [List.nil_append, List.cons_append]); (try rfl)) ?_) | refine awpD_ev (ev_ll_agg rfl rfl rfl rfl rfl rfl rfl) (awpDn (by (try simp only [List.nil_append, List.cons_append]); (try rfl)) ?_) | refine awpD_ev (ev_ll_lag rfl rfl rfl rfl rfl rfl) (awpDn (by (try simp only [List.nil_append, List.cons_append]); (try rfl)) ?_) | refine awpD_ev (ev_ll_one rfl rfl rfl rfl rfl) (awpDn (by (try simp only [List.nil_append, List.cons_append]); (try rfl)) ?_) | refine awpD_ev (ev_el_one rfl rfl rfl rfl (by with_reducible assumption) rfl) (awpDn (by (try simp only [List.nil_append, List.cons_append]); (try rfl)) ?_)))
           | (with_reducible refine isD_pick ?_; (first | refine awpD_ev (ev_pick_t rfl (by first | with_reducible rfl | with_reducible assumption) rfl) (awpDn (by (try simp only [List.nil_append, List.cons_append]); (try rfl)) ?_) | refine awpD_ev (ev_pick_f rfl (by first | with_reducible rfl | with_reducible assumption) rfl) (awpDn (by (try simp only [List.nil_append, List.cons_append]); (try rfl)) ?_)))
           | (with_reducible refine isD_assign ?_; (first | refine awpD_ev (ev_assign rfl) (awpDn (by (try simp only [List.nil_append, List.cons_append]); (try rfl)) ?_)))
           | (with_reducible refine isD_call ?_; (first | refine awpD_call rfl rfl T1 (awpDn (by (try simp only [List.nil_append, List.cons_append]); (try rfl)) ?_) | refine awpD_call rfl rfl T2 (awpDn (by (try simp only [List.nil_append, List.cons_append]); (try rfl)) ?_) | refine awpD_call rfl rfl K1 (awpDn (by (try simp only [List.nil_append, List.cons_append]); (try rfl)) ?_) | refine awpD_call rfl rfl K2 (awpDn (by (try simp only [List.nil_append, List.cons_append]); (try rfl)) ?_) | refine awpD_ev (ev_len rfl rfl rfl rfl rfl) (awpDn (by (try simp only [List.nil_append, List.cons_append]); (try rfl)) ?_) | refine awpD_ev (ev_len_os rfl rfl rfl rfl rfl) (awpDn (by (try simp only [List.nil_append, List.cons_append]); (try rfl)) ?_)))
           | refine awpD_ev (ev_not rfl) (awpDn (by (try simp only [List.nil_append, List.cons_append]); (try rfl)) ?_)
           | refine awpD_ev (ev_ia_fs rfl rfl rfl rfl rfl rfl (by with_reducible assumption)) (awpDn (by (try simp only [List.nil_append, List.cons_append]); (try rfl)) ?_)
           | refine awpD_ev (ev_ia_os rfl rfl rfl rfl rfl rfl rfl (by with_reducible assumption)) (awpDn (by (try simp only [List.nil_append, List.cons_append]); (try rfl)) ?_)
           | refine awpD_ev (ev_extract rfl rfl) (awpDn (by (try simp only [List.nil_append, List.cons_append]); (try rfl)) ?_)
           | refine awpD_ev (ev_index_str rfl rfl rfl rfl (by with_reducible assumption)) (awpDn (by (try simp only [List.nil_append, List.cons_append]); (try rfl)) ?_)
           | refine awpD_ev (ev_build rfl rfl rfl rfl rfl rfl rfl) (awpDn (by (try simp only [List.nil_append, List.cons_append]); (try rfl)) ?_)
           | refine awpD_ev (ev_build_lag rfl rfl rfl rfl rfl rfl) (awpDn (by (try simp only [List.nil_append, List.cons_append]); (try rfl)) ?_)
           | refine awpD_ev (ev_slice_fs rfl rfl rfl rfl rfl rfl rfl (by with_reducible assumption) rfl rfl) (awpDn (by (try simp only [List.nil_append, List.cons_append]); (try rfl)) ?_)
           | refine awpD_pev (pev_bslice_in rfl rfl rfl rfl rfl rfl rfl rfl rfl rfl rfl rfl (by (try simp only [List.map_cons, List.map_nil, cellsOf]); (try rfl))) (awpDn (by (try simp only [List.nil_append, List.cons_append]); (try rfl)) ?_))
         | (with_reducible refine isD_gd ?_; (first | refine awpD_run rfl rfl (by first | with_reducible rfl | with_reducible assumption) ?_ | refine awpD_passT rfl rfl (by first | with_reducible rfl | with_reducible assumption) (awpDn (by (try simp only [List.nil_append, List.cons_append]); (try rfl)) ?_) | refine awpD_passF rfl rfl (by first | with_reducible rfl | with_reducible assumption) (awpDn (by (try simp only [List.nil_append, List.cons_append]); (try rfl)) ?_) | refine awpD_passU rfl rfl (awpDn (by (try simp only [List.nil_append, List.cons_append]); (try rfl)) ?_) | refine awpD_split rfl (fun h => ?_) (fun h => ?_)))
         | refine awpD_nil ?_))
    | (with_reducible refine is_awp ?_; (first | refine awp_seq ?_ | refine awp_ret ?_ | refine awp_skip ?_ | refine awp_exit ?_ | refine awp_label ?_ | refine awp_block ?_ | refine awp_region ?_ | refine awp_cond_t rfl (by first | with_reducible rfl | with_reducible assumption) ?_ | refine awp_cond_f rfl (by first | with_reducible rfl | with_reducible assumption) ?_ | refine awp_cond rfl (fun h => ?_) (fun h => ?_))))
  all_goals refine retP rfl ?_
  all_goals simp only [ex, decide_eq_true_eq, decide_eq_false_iff_not, Bool.not_eq_true', Bool.not_eq_false'] at *
  all_goals refine congrArg (fun n => vi n) ?_
  all_goals clear K1 K2 T1 T2 hrr
  all_goals simp only [Bool.false_eq_true, Bool.true_eq_false, and_self, and_true, and_false, false_and, true_and, if_true, if_false, reduceIte]
  all_goals (repeat' split) <;> omega
end Go.Proofs.Ytghbllbjjfjenaa
