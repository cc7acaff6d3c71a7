/- The law Twice. -/
import Derived.Test.YtifpafbmfedpkaaDoorX45
namespace Go.Proofs.YtifpafbmfedpkaaDoor
open Go.Ac Go.MapKept
attribute [local irreducible] awp awpL Ev Ev2 EvS thenQ blockQ retQ PCalls OCalls YieldOk IterC ICalls
set_option linter.unusedSimpArgs false
set_option linter.unusedVariables false

theorem zeroRep_fit : FitR zeroRep := ⟨⟨by simp [zeroRep], fun o ho => by cases ho⟩, by simp [zeroRep]⟩
set_option maxRecDepth 8000 in
set_option maxHeartbeats 8000000 in
theorem law_Twice (r : Replica) (l : List Op) (hid : Ids r.ops) (hil : Ids l) : PCalls Tryd.prog GL 7 [.agg (repC r), encOps l] (vb true) := by
  have hA := awake_spec
  have hL := Light_spec (g := GL) r hid
  have hO := ops_spec (g := GL) l
  have n1 : (!true) = false := rfl
  have n2 : (!false) = true := rfl
  refine pcalls' Tryd.func7 Tryd.ntmps7 rfl rfl rfl ?_
  cases hl : light r with
  | false =>
    rw [hl] at hL
    repeat' (first
     | ((with_reducible refine is_un ?_); (first | refine awpL_ev (ev_move rfl) rfl ?_ | refine awpL_ev (ev_load_agg rfl rfl rfl rfl) rfl ?_ | refine awpL_ev (ev_pick_t rfl (by first | with_reducible rfl | with_reducible assumption) rfl) rfl ?_ | refine awpL_ev (ev_assign rfl) rfl ?_ | ((with_reducible refine is_call ?_); (first | refine awpL_call rfl rfl hL rfl ?_ | refine awpL_call rfl rfl hA rfl ?_)) | refine awpL_boxM [] rfl rfl rfl rfl (by (try simp only [cellsOf, List.map_cons, List.map_nil]); (try rfl)) rfl ?_ | refine awpL_ev (ev_ia_fs rfl rfl rfl rfl rfl rfl (by with_reducible assumption)) rfl ?_ | refine awpL_ev (ev_not rfl) rfl ?_))
     | ((with_reducible refine is_gd ?_); (first | refine awpL_run rfl rfl rfl (by first | with_reducible rfl | with_reducible assumption) ?_ | refine awpL_passT rfl rfl rfl rfl (by first | with_reducible rfl | with_reducible assumption) ?_ | refine awpL_passF rfl rfl rfl rfl (by first | with_reducible rfl | with_reducible assumption) ?_))
     | ((with_reducible refine is_nil ?_); refine awpL_nil ?_)
     | ((with_reducible refine is_then ?_); (first | refine thenQ_n ?_ | refine thenQ_r ?_))
     | ((with_reducible refine is_awp ?_); (first | refine awp_seq ?_ | refine awp_ret ?_ | refine awp_skip ?_ | refine awp_exit ?_ | refine awp_label ?_ | refine awp_block ?_ | refine awp_region ?_ | refine awp_cond_t rfl (by first | with_reducible rfl | with_reducible assumption) ?_))
     | fail)
    exact retP rfl rfl
  | true =>
    rw [hl] at hL
    cases ho : opsOk l with
    | false =>
      rw [ho] at hO
      repeat' (first
       | ((with_reducible refine is_un ?_); (first | refine awpL_ev (ev_move rfl) rfl ?_ | refine awpL_ev (ev_load_agg rfl rfl rfl rfl) rfl ?_ | ((with_reducible refine is_pick ?_); (first | refine awpL_ev (ev_pick_t rfl (by first | with_reducible rfl | with_reducible assumption) rfl) rfl ?_ | refine awpL_ev (ev_pick_f rfl (by first | with_reducible rfl | with_reducible assumption) rfl) rfl ?_)) | refine awpL_ev (ev_assign rfl) rfl ?_ | ((with_reducible refine is_call ?_); (first | refine awpL_call rfl rfl hL rfl ?_ | refine awpL_call rfl rfl hA rfl ?_ | refine awpL_call rfl rfl hO rfl ?_)) | refine awpL_boxM [] rfl rfl rfl rfl (by (try simp only [cellsOf, List.map_cons, List.map_nil]); (try rfl)) rfl ?_ | refine awpL_ev (ev_ia_fs rfl rfl rfl rfl rfl rfl (by with_reducible assumption)) rfl ?_ | refine awpL_ev (ev_not rfl) rfl ?_))
       | ((with_reducible refine is_gd ?_); refine awpL_run rfl rfl rfl (by first | with_reducible rfl | with_reducible assumption) ?_)
       | ((with_reducible refine is_nil ?_); refine awpL_nil ?_)
       | ((with_reducible refine is_then ?_); (first | refine thenQ_n ?_ | refine thenQ_r ?_))
       | ((with_reducible refine is_awp ?_); (first | refine awp_seq ?_ | refine awp_ret ?_ | refine awp_skip ?_ | refine awp_exit ?_ | refine awp_label ?_ | refine awp_block ?_ | refine awp_region ?_ | refine awp_cond_t rfl (by first | with_reducible rfl | with_reducible assumption) ?_))
       | fail)
      exact retP rfl rfl
    | true =>
    rw [ho] at hO
    obtain ⟨o1, o2⟩ := opsOk_spec ho
    have hi := light_inc hl
    have hlr := (light_rep hl).2.1
    have hF := light_fit hl
    have hFl : Fit l := ⟨by omega, fun o hm => by have := o2 o hm; omega⟩
    have hFb : Fit l.reverse := ⟨by rw [List.length_reverse]; omega, fun o hm => by have := o2 o (List.mem_reverse.1 hm); omega⟩
    have hFd : Fit (l ++ l) := ⟨by rw [List.length_append]; omega, fun o hm => by have := o2 o ((List.mem_append.1 hm).elim id id); omega⟩
    have m1 := fitM_of hF.1 hFl (by omega) hid hil
    have m2 := fitM_of hF.1 hFb (by rw [List.length_reverse]; omega) hid fun o hm => hil o (List.mem_reverse.1 hm)
    have m3 := fitM_of hF.1 hFd (by rw [List.length_append]; omega) hid fun o hm => hil o ((List.mem_append.1 hm).elim id id)
    have hC := Copy_spec (g := GL) r hF
    have hCo := CopyOps_P (g := GL) l hFl
    have hCw := CopyOps_spec (g := GL) l hFl
    have hB := backwards_spec (g := GL) l (by omega)
    rw [backwards] at hB
    have hCb := CopyOps_P (g := GL) l.reverse hFb
    have hM1 := Merge_spec r l m1 hi
    have hM2 := Merge_spec r l.reverse m2 hi
    have hM3 := Merge_spec r (l ++ l) m3 hi
    rw [merge_back hi] at hM2
    rw [merge_twice hi] at hM3
    rw [mergeV] at hM1 hM2 hM3
    rw [show encOps (l ++ l) = .fs 15 ((l ++ l).map opC).length ((l ++ l).map opC) by rw [List.length_map]] at hM3
    have fm := merge_fit m1
    have hS := rSameR_spec (g := GL) (merge r l).1 (merge r l).1 fm fm
    rw [decide_eq_true rfl] at hS
    have e0 : (!decide ((merge r l).2 = (merge r l).2)) = false := by rw [decide_eq_true rfl]; rfl
    have hj : l.map opC ++ l.map opC = (l ++ l).map opC := by simp
    by_cases he : (merge r l).2 = 0
    · have c1 : (!decide ((merge r l).2 = 0)) = false := by rw [decide_eq_true he]; rfl
      obtain ⟨i1, q1, _, _, _, q5⟩ := merge_has hi he
      have m4 : FitM (merge r l).1.ops l := ⟨by omega, fun o hm => by
        rcases hm with g | g
        · rcases (q1 o).1 g with g | g
          · exact m1.ov o (.inl g)
          · exact m1.ov o (.inr g)
        · exact m1.ov o (.inr g), fun o hm => by
        rcases hm with g | g
        · exact m1.id o ((q1 o).1 g)
        · exact m1.id o (.inr g)⟩
      have hM4 := Merge_spec (merge r l).1 l m4 i1
      rw [merge_again hi he, mergeV] at hM4
      simp only at hM4
      have z0 : decide ((0 : Int) = 0) = true := rfl
      have hC4 := Copy_spec (g := GL) (merge r l).1 fm
      repeat' (first
       | ((with_reducible refine is_un ?_); (first | refine awpL_ev (ev_move rfl) rfl ?_ | refine awpL_ev (ev_load_agg rfl rfl rfl rfl) rfl ?_ | ((with_reducible refine is_pick ?_); (first | refine awpL_ev (ev_pick_t rfl (by first | with_reducible rfl | with_reducible assumption) rfl) rfl ?_ | refine awpL_ev (ev_pick_f rfl (by first | with_reducible rfl | with_reducible assumption) rfl) rfl ?_)) | refine awpL_ev (ev_assign rfl) rfl ?_ | ((with_reducible refine is_call ?_); (first | refine awpL_call rfl rfl hL rfl ?_ | refine awpL_call rfl rfl hA rfl ?_ | refine awpL_call rfl rfl hO rfl ?_ | refine awpL_call rfl rfl hC rfl ?_ | refine awpL_call rfl rfl hM1 rfl ?_ | refine awpL_call rfl rfl hB rfl ?_ | refine awpL_call rfl rfl hCb rfl ?_ | refine awpL_call rfl rfl hM2 rfl ?_ | refine awpL_call rfl rfl hS rfl ?_ | refine awpL_ev (ev_len rfl rfl rfl rfl rfl) rfl ?_ | refine awpL_ev (ev_max rfl rfl) rfl ?_ | refine awpL_ev (ev_min rfl rfl) rfl ?_ | refine awpL_ev (ev_len_os rfl rfl rfl rfl rfl) rfl ?_ | refine awpL_ev2 (ev_append_zf rfl rfl rfl rfl rfl rfl rfl rfl rfl rfl rfl rfl rfl (by simp only [List.length_map, List.length_cons, List.length_nil]; omega) rfl) rfl ?_)) | refine awpL_boxM [] rfl rfl rfl rfl (by (try simp only [cellsOf, List.map_cons, List.map_nil]); (try rfl)) rfl ?_ | refine awpL_ev (ev_ia_fs rfl rfl rfl rfl rfl rfl (by with_reducible assumption)) rfl ?_ | refine awpL_ev (ev_not rfl) rfl ?_ | refine awpL_ev (ev_extract rfl rfl) rfl ?_ | refine awpL_ev (ev_index_str rfl rfl rfl rfl (by with_reducible assumption)) rfl ?_ | refine awpL_ev (ev_build rfl rfl rfl rfl rfl rfl rfl) rfl ?_ | refine awpL_ev (ev_slice_fs rfl rfl rfl rfl rfl rfl rfl (by with_reducible assumption) rfl rfl) rfl ?_ | refine awpL_ev (ev_makeFunc rfl rfl) rfl ?_ | refine awpL_ev (ev_nilCheck_fp rfl) rfl ?_ | refine awpL_ev (ev_index_arr rfl rfl rfl rfl rfl rfl rfl (by with_reducible assumption)) rfl ?_ | refine awpL_ev (ev_ia_os rfl rfl rfl rfl rfl rfl rfl (by with_reducible assumption)) rfl ?_ | refine awpL_ev (ev_build_lag rfl rfl rfl rfl rfl rfl) rfl ?_ | refine awpL_ev (ev_nilCheck_lp rfl rfl) rfl ?_ | refine awpL_ev2 (ev_bslice_z rfl rfl rfl rfl rfl rfl rfl) rfl ?_ | refine awpL_ev2 (ev_bslice_in rfl rfl rfl rfl rfl rfl rfl rfl rfl rfl rfl rfl (by (try simp only [List.map_cons, List.map_nil, cellsOf]); (try rfl))) rfl ?_))
       | ((with_reducible refine is_gd ?_); refine awpL_run rfl rfl rfl (by first | with_reducible rfl | with_reducible assumption) ?_)
       | ((with_reducible refine is_nil ?_); refine awpL_nil ?_)
       | ((with_reducible refine is_then ?_); refine thenQ_n ?_)
       | ((with_reducible refine is_awp ?_); (first | refine awp_seq ?_ | refine awp_ret ?_ | refine awp_skip ?_ | refine awp_exit ?_ | refine awp_label ?_ | refine awp_block ?_ | refine awp_region ?_ | refine awp_cond_t rfl (by first | with_reducible rfl | with_reducible assumption) ?_ | refine awp_cond_f rfl (by first | with_reducible rfl | with_reducible assumption) ?_))
       | fail)
      refine awpL_call rfl rfl hCo rfl ?_
      repeat' (first
       | ((with_reducible refine is_un ?_); (first | refine awpL_ev (ev_move rfl) rfl ?_ | refine awpL_ev (ev_load_agg rfl rfl rfl rfl) rfl ?_ | refine awpL_ev (ev_assign rfl) rfl ?_ | ((with_reducible refine is_call ?_); (first | refine awpL_call rfl rfl hL rfl ?_ | refine awpL_call rfl rfl hA rfl ?_ | refine awpL_call rfl rfl hO rfl ?_ | refine awpL_call rfl rfl hC rfl ?_ | refine awpL_call rfl rfl hM1 rfl ?_ | refine awpL_call rfl rfl hB rfl ?_ | refine awpL_call rfl rfl hCb rfl ?_ | refine awpL_call rfl rfl hM2 rfl ?_ | refine awpL_call rfl rfl hS rfl ?_ | refine awpL_ev (ev_len rfl rfl rfl rfl rfl) rfl ?_ | refine awpL_ev (ev_max rfl rfl) rfl ?_ | refine awpL_ev (ev_min rfl rfl) rfl ?_ | refine awpL_ev (ev_len_os rfl rfl rfl rfl rfl) rfl ?_ | refine awpL_ev2 (ev_append_zf rfl rfl rfl rfl rfl rfl rfl rfl rfl rfl rfl rfl rfl (by simp only [List.length_map, List.length_cons, List.length_nil]; omega) rfl) rfl ?_)) | refine awpL_stM [] rfl rfl rfl rfl rfl rfl rfl rfl rfl (by (try simp only [cellsOf, List.map_cons, List.map_nil]); (try rfl)) (by (try simp only [List.set_cons_zero, List.set_cons_succ, List.nil_append, List.cons_append, List.append_nil, cellsOf, List.take_zero, List.drop_zero, List.take_succ_cons, List.drop_succ_cons, Nat.zero_add, Nat.reduceAdd, List.drop_nil, List.map_cons, List.map_nil]); (try rfl)) ?_ | refine awpL_ev2 (ev_alloc rfl rfl (by (try simp only [List.length_nil, List.length_cons, Nat.reduceAdd]); (try rfl)) (by (try simp only [List.set_cons_zero, List.set_cons_succ, List.nil_append, List.cons_append, List.append_nil, cellsOf, List.take_zero, List.drop_zero, List.take_succ_cons, List.drop_succ_cons, Nat.zero_add, Nat.reduceAdd, List.drop_nil, List.map_cons, List.map_nil]); (try rfl))) rfl ?_ | refine awpL_ev (ev_ia_fs rfl rfl rfl rfl rfl rfl (by with_reducible assumption)) rfl ?_ | refine awpL_ev (ev_not rfl) rfl ?_ | refine awpL_ev (ev_extract rfl rfl) rfl ?_ | refine awpL_ev (ev_index_str rfl rfl rfl rfl (by with_reducible assumption)) rfl ?_ | refine awpL_ev (ev_build rfl rfl rfl rfl rfl rfl rfl) rfl ?_ | refine awpL_ev (ev_slice_fs rfl rfl rfl rfl rfl rfl rfl (by with_reducible assumption) rfl rfl) rfl ?_ | refine awpL_ev (ev_makeFunc rfl rfl) rfl ?_ | refine awpL_ev (ev_nilCheck_fp rfl) rfl ?_ | refine awpL_ev (ev_index_arr rfl rfl rfl rfl rfl rfl rfl (by with_reducible assumption)) rfl ?_ | refine awpL_ev (ev_ia_os rfl rfl rfl rfl rfl rfl rfl (by with_reducible assumption)) rfl ?_ | refine awpL_ev (ev_build_lag rfl rfl rfl rfl rfl rfl) rfl ?_ | refine awpL_ev (ev_nilCheck_lp rfl rfl) rfl ?_ | refine awpL_ev2 (ev_bslice_z rfl rfl rfl rfl rfl rfl rfl) rfl ?_ | refine awpL_ev2 (ev_bslice_in rfl rfl rfl rfl rfl rfl rfl rfl rfl rfl rfl rfl (by (try simp only [List.map_cons, List.map_nil, cellsOf]); (try rfl))) rfl ?_))
       | ((with_reducible refine is_nil ?_); refine awpL_nil ?_)
       | ((with_reducible refine is_then ?_); refine thenQ_n ?_)
       | ((with_reducible refine is_awp ?_); (first | refine awp_seq ?_ | refine awp_ret ?_ | refine awp_skip ?_ | refine awp_exit ?_ | refine awp_label ?_ | refine awp_block ?_ | refine awp_region ?_))
       | fail)
      refine awpL_ocall rfl rfl hCw rfl rfl rfl ?_
      repeat' (first
       | ((with_reducible refine is_un ?_); (first | refine awpL_ev (ev_move rfl) rfl ?_ | ((with_reducible refine is_call ?_); (first | refine awpL_ev (ev_len rfl rfl rfl rfl rfl) rfl ?_ | refine awpL_ev (ev_max rfl rfl) rfl ?_ | refine awpL_ev (ev_min rfl rfl) rfl ?_ | refine awpL_ev (ev_len_os rfl rfl rfl rfl rfl) rfl ?_ | refine awpL_ev2 (ev_append_zf rfl rfl rfl rfl rfl rfl rfl rfl rfl rfl rfl rfl rfl (by simp only [List.length_map, List.length_cons, List.length_nil]; omega) rfl) rfl ?_)) | refine awpL_ev (ev_ia_fs rfl rfl rfl rfl rfl rfl (by with_reducible assumption)) rfl ?_ | refine awpL_ev (ev_not rfl) rfl ?_ | refine awpL_ev (ev_extract rfl rfl) rfl ?_ | refine awpL_ev (ev_index_str rfl rfl rfl rfl (by with_reducible assumption)) rfl ?_ | refine awpL_ev (ev_build rfl rfl rfl rfl rfl rfl rfl) rfl ?_ | refine awpL_ev (ev_slice_fs rfl rfl rfl rfl rfl rfl rfl (by with_reducible assumption) rfl rfl) rfl ?_ | refine awpL_ev (ev_makeFunc rfl rfl) rfl ?_ | refine awpL_ev (ev_nilCheck_fp rfl) rfl ?_ | refine awpL_ev (ev_index_arr rfl rfl rfl rfl rfl rfl rfl (by with_reducible assumption)) rfl ?_ | refine awpL_ev (ev_ia_os rfl rfl rfl rfl rfl rfl rfl (by with_reducible assumption)) rfl ?_ | refine awpL_ev (ev_build_lag rfl rfl rfl rfl rfl rfl) rfl ?_ | refine awpL_ev (ev_nilCheck_lp rfl rfl) rfl ?_ | refine awpL_ev2 (ev_bslice_z rfl rfl rfl rfl rfl rfl rfl) rfl ?_ | refine awpL_ev2 (ev_bslice_in rfl rfl rfl rfl rfl rfl rfl rfl rfl rfl rfl rfl (by (try simp only [List.map_cons, List.map_nil, cellsOf]); (try rfl))) rfl ?_))
       | fail)
      refine awpL_call rfl rfl hCo rfl ?_
      refine awpL_ev2 (ev_app (es' := (l ++ l).map opC) rfl rfl rfl rfl rfl rfl rfl rfl rfl rfl rfl rfl rfl (by simp only [List.length_map, List.length_cons, List.length_nil, List.length_append, List.length_take]; omega) hj rfl) rfl ?_
      refine awpL_frz 46 rfl rfl rfl rfl ?_
      repeat' (first
       | ((with_reducible refine is_un ?_); (first | refine awpL_ev (ev_move rfl) rfl ?_ | ((with_reducible refine is_bin ?_); (first | refine awpL_ev (ev_add rfl rfl (by omega)) rfl ?_ | refine awpL_ev (ev_sub rfl rfl (by omega)) rfl ?_ | refine awpL_ev (ev_bin rfl rfl rfl) rfl ?_)) | refine awpL_ev (ev_load_agg rfl rfl rfl rfl) rfl ?_ | ((with_reducible refine is_pick ?_); (first | refine awpL_ev (ev_pick_t rfl (by first | with_reducible rfl | with_reducible assumption) rfl) rfl ?_ | refine awpL_ev (ev_pick_f rfl (by first | with_reducible rfl | with_reducible assumption) rfl) rfl ?_)) | refine awpL_ev (ev_assign rfl) rfl ?_ | ((with_reducible refine is_call ?_); (first | refine awpL_call rfl rfl hL rfl ?_ | refine awpL_call rfl rfl hA rfl ?_ | refine awpL_call rfl rfl hO rfl ?_ | refine awpL_call rfl rfl hC rfl ?_ | refine awpL_call rfl rfl hM1 rfl ?_ | refine awpL_call rfl rfl hB rfl ?_ | refine awpL_call rfl rfl hCb rfl ?_ | refine awpL_call rfl rfl hM2 rfl ?_ | refine awpL_call rfl rfl hS rfl ?_ | refine awpL_call rfl rfl hM3 rfl ?_ | refine awpL_call rfl rfl hCo rfl ?_ | refine awpL_call rfl rfl hC4 rfl ?_ | refine awpL_call rfl rfl hM4 rfl ?_)) | refine awpL_stM [] rfl rfl rfl rfl rfl rfl rfl rfl rfl (by (try simp only [cellsOf, List.map_cons, List.map_nil]); (try rfl)) (by (try simp only [List.set_cons_zero, List.set_cons_succ, List.nil_append, List.cons_append, List.append_nil, cellsOf, List.take_zero, List.drop_zero, List.take_succ_cons, List.drop_succ_cons, Nat.zero_add, Nat.reduceAdd, List.drop_nil, List.map_cons, List.map_nil]); (try rfl)) ?_ | refine awpL_ev2 (ev_alloc rfl rfl (by (try simp only [List.length_nil, List.length_cons, Nat.reduceAdd]); (try rfl)) (by (try simp only [List.set_cons_zero, List.set_cons_succ, List.nil_append, List.cons_append, List.append_nil, cellsOf, List.take_zero, List.drop_zero, List.take_succ_cons, List.drop_succ_cons, Nat.zero_add, Nat.reduceAdd, List.drop_nil, List.map_cons, List.map_nil]); (try rfl))) rfl ?_ | refine awpL_ev (ev_ia_fs rfl rfl rfl rfl rfl rfl (by with_reducible assumption)) rfl ?_ | refine awpL_ev (ev_not rfl) rfl ?_ | refine awpL_ev (ev_extract rfl rfl) rfl ?_))
       | ((with_reducible refine is_gd ?_); refine awpL_run rfl rfl rfl (by first | with_reducible rfl | with_reducible assumption) ?_)
       | ((with_reducible refine is_nil ?_); refine awpL_nil ?_)
       | ((with_reducible refine is_then ?_); refine thenQ_n ?_)
       | ((with_reducible refine is_awp ?_); (first | refine awp_seq ?_ | refine awp_ret ?_ | refine awp_skip ?_ | refine awp_exit ?_ | refine awp_label ?_ | refine awp_block ?_ | refine awp_region ?_ | refine awp_cond_t rfl (by first | with_reducible rfl | with_reducible assumption) ?_ | refine awp_cond_f rfl (by first | with_reducible rfl | with_reducible assumption) ?_))
       | fail)
      exact retP rfl rfl
    · have c1 : (!decide ((merge r l).2 = 0)) = true := by rw [decide_eq_false he]; rfl
      rw [merge_err he] at hM1 hM2 hM3 hS
      have hS0 : PCalls Tryd.prog GL 22 [.agg (repC zeroRep), .agg zeroRepC] (vb true) := hS.args (.cons (Le.rfl' _) (.cons (Le.agg le_zeroRep) .nil))
      repeat' (first
       | ((with_reducible refine is_un ?_); (first | refine awpL_ev (ev_move rfl) rfl ?_ | refine awpL_ev (ev_load_agg rfl rfl rfl rfl) rfl ?_ | ((with_reducible refine is_pick ?_); (first | refine awpL_ev (ev_pick_t rfl (by first | with_reducible rfl | with_reducible assumption) rfl) rfl ?_ | refine awpL_ev (ev_pick_f rfl (by first | with_reducible rfl | with_reducible assumption) rfl) rfl ?_)) | refine awpL_ev (ev_assign rfl) rfl ?_ | ((with_reducible refine is_call ?_); (first | refine awpL_call rfl rfl hL rfl ?_ | refine awpL_call rfl rfl hA rfl ?_ | refine awpL_call rfl rfl hO rfl ?_ | refine awpL_call rfl rfl hC rfl ?_ | refine awpL_call rfl rfl hM1 rfl ?_ | refine awpL_call rfl rfl hB rfl ?_ | refine awpL_call rfl rfl hCb rfl ?_ | refine awpL_call rfl rfl hM2 rfl ?_ | refine awpL_call rfl rfl hS rfl ?_ | refine awpL_ev (ev_len rfl rfl rfl rfl rfl) rfl ?_ | refine awpL_ev (ev_max rfl rfl) rfl ?_ | refine awpL_ev (ev_min rfl rfl) rfl ?_ | refine awpL_ev (ev_len_os rfl rfl rfl rfl rfl) rfl ?_ | refine awpL_ev2 (ev_append_zf rfl rfl rfl rfl rfl rfl rfl rfl rfl rfl rfl rfl rfl (by simp only [List.length_map, List.length_cons, List.length_nil]; omega) rfl) rfl ?_)) | refine awpL_boxM [] rfl rfl rfl rfl (by (try simp only [cellsOf, List.map_cons, List.map_nil]); (try rfl)) rfl ?_ | refine awpL_ev (ev_ia_fs rfl rfl rfl rfl rfl rfl (by with_reducible assumption)) rfl ?_ | refine awpL_ev (ev_not rfl) rfl ?_ | refine awpL_ev (ev_extract rfl rfl) rfl ?_ | refine awpL_ev (ev_index_str rfl rfl rfl rfl (by with_reducible assumption)) rfl ?_ | refine awpL_ev (ev_build rfl rfl rfl rfl rfl rfl rfl) rfl ?_ | refine awpL_ev (ev_slice_fs rfl rfl rfl rfl rfl rfl rfl (by with_reducible assumption) rfl rfl) rfl ?_ | refine awpL_ev (ev_makeFunc rfl rfl) rfl ?_ | refine awpL_ev (ev_nilCheck_fp rfl) rfl ?_ | refine awpL_ev (ev_index_arr rfl rfl rfl rfl rfl rfl rfl (by with_reducible assumption)) rfl ?_ | refine awpL_ev (ev_ia_os rfl rfl rfl rfl rfl rfl rfl (by with_reducible assumption)) rfl ?_ | refine awpL_ev (ev_build_lag rfl rfl rfl rfl rfl rfl) rfl ?_ | refine awpL_ev (ev_nilCheck_lp rfl rfl) rfl ?_ | refine awpL_ev2 (ev_bslice_z rfl rfl rfl rfl rfl rfl rfl) rfl ?_ | refine awpL_ev2 (ev_bslice_in rfl rfl rfl rfl rfl rfl rfl rfl rfl rfl rfl rfl (by (try simp only [List.map_cons, List.map_nil, cellsOf]); (try rfl))) rfl ?_))
       | ((with_reducible refine is_gd ?_); refine awpL_run rfl rfl rfl (by first | with_reducible rfl | with_reducible assumption) ?_)
       | ((with_reducible refine is_nil ?_); refine awpL_nil ?_)
       | ((with_reducible refine is_then ?_); refine thenQ_n ?_)
       | ((with_reducible refine is_awp ?_); (first | refine awp_seq ?_ | refine awp_ret ?_ | refine awp_skip ?_ | refine awp_exit ?_ | refine awp_label ?_ | refine awp_block ?_ | refine awp_region ?_ | refine awp_cond_t rfl (by first | with_reducible rfl | with_reducible assumption) ?_ | refine awp_cond_f rfl (by first | with_reducible rfl | with_reducible assumption) ?_))
       | fail)
      refine awpL_call rfl rfl hCo rfl ?_
      repeat' (first
       | ((with_reducible refine is_un ?_); (first | refine awpL_ev (ev_move rfl) rfl ?_ | refine awpL_ev (ev_load_agg rfl rfl rfl rfl) rfl ?_ | refine awpL_ev (ev_assign rfl) rfl ?_ | ((with_reducible refine is_call ?_); (first | refine awpL_call rfl rfl hL rfl ?_ | refine awpL_call rfl rfl hA rfl ?_ | refine awpL_call rfl rfl hO rfl ?_ | refine awpL_call rfl rfl hC rfl ?_ | refine awpL_call rfl rfl hM1 rfl ?_ | refine awpL_call rfl rfl hB rfl ?_ | refine awpL_call rfl rfl hCb rfl ?_ | refine awpL_call rfl rfl hM2 rfl ?_ | refine awpL_call rfl rfl hS rfl ?_ | refine awpL_ev (ev_len rfl rfl rfl rfl rfl) rfl ?_ | refine awpL_ev (ev_max rfl rfl) rfl ?_ | refine awpL_ev (ev_min rfl rfl) rfl ?_ | refine awpL_ev (ev_len_os rfl rfl rfl rfl rfl) rfl ?_ | refine awpL_ev2 (ev_append_zf rfl rfl rfl rfl rfl rfl rfl rfl rfl rfl rfl rfl rfl (by simp only [List.length_map, List.length_cons, List.length_nil]; omega) rfl) rfl ?_)) | refine awpL_stM [] rfl rfl rfl rfl rfl rfl rfl rfl rfl (by (try simp only [cellsOf, List.map_cons, List.map_nil]); (try rfl)) (by (try simp only [List.set_cons_zero, List.set_cons_succ, List.nil_append, List.cons_append, List.append_nil, cellsOf, List.take_zero, List.drop_zero, List.take_succ_cons, List.drop_succ_cons, Nat.zero_add, Nat.reduceAdd, List.drop_nil, List.map_cons, List.map_nil]); (try rfl)) ?_ | refine awpL_ev2 (ev_alloc rfl rfl (by (try simp only [List.length_nil, List.length_cons, Nat.reduceAdd]); (try rfl)) (by (try simp only [List.set_cons_zero, List.set_cons_succ, List.nil_append, List.cons_append, List.append_nil, cellsOf, List.take_zero, List.drop_zero, List.take_succ_cons, List.drop_succ_cons, Nat.zero_add, Nat.reduceAdd, List.drop_nil, List.map_cons, List.map_nil]); (try rfl))) rfl ?_ | refine awpL_ev (ev_ia_fs rfl rfl rfl rfl rfl rfl (by with_reducible assumption)) rfl ?_ | refine awpL_ev (ev_not rfl) rfl ?_ | refine awpL_ev (ev_extract rfl rfl) rfl ?_ | refine awpL_ev (ev_index_str rfl rfl rfl rfl (by with_reducible assumption)) rfl ?_ | refine awpL_ev (ev_build rfl rfl rfl rfl rfl rfl rfl) rfl ?_ | refine awpL_ev (ev_slice_fs rfl rfl rfl rfl rfl rfl rfl (by with_reducible assumption) rfl rfl) rfl ?_ | refine awpL_ev (ev_makeFunc rfl rfl) rfl ?_ | refine awpL_ev (ev_nilCheck_fp rfl) rfl ?_ | refine awpL_ev (ev_index_arr rfl rfl rfl rfl rfl rfl rfl (by with_reducible assumption)) rfl ?_ | refine awpL_ev (ev_ia_os rfl rfl rfl rfl rfl rfl rfl (by with_reducible assumption)) rfl ?_ | refine awpL_ev (ev_build_lag rfl rfl rfl rfl rfl rfl) rfl ?_ | refine awpL_ev (ev_nilCheck_lp rfl rfl) rfl ?_ | refine awpL_ev2 (ev_bslice_z rfl rfl rfl rfl rfl rfl rfl) rfl ?_ | refine awpL_ev2 (ev_bslice_in rfl rfl rfl rfl rfl rfl rfl rfl rfl rfl rfl rfl (by (try simp only [List.map_cons, List.map_nil, cellsOf]); (try rfl))) rfl ?_))
       | ((with_reducible refine is_nil ?_); refine awpL_nil ?_)
       | ((with_reducible refine is_then ?_); refine thenQ_n ?_)
       | ((with_reducible refine is_awp ?_); (first | refine awp_seq ?_ | refine awp_ret ?_ | refine awp_skip ?_ | refine awp_exit ?_ | refine awp_label ?_ | refine awp_block ?_ | refine awp_region ?_))
       | fail)
      refine awpL_ocall rfl rfl hCw rfl rfl rfl ?_
      repeat' (first
       | ((with_reducible refine is_un ?_); (first | refine awpL_ev (ev_move rfl) rfl ?_ | ((with_reducible refine is_call ?_); (first | refine awpL_ev (ev_len rfl rfl rfl rfl rfl) rfl ?_ | refine awpL_ev (ev_max rfl rfl) rfl ?_ | refine awpL_ev (ev_min rfl rfl) rfl ?_ | refine awpL_ev (ev_len_os rfl rfl rfl rfl rfl) rfl ?_ | refine awpL_ev2 (ev_append_zf rfl rfl rfl rfl rfl rfl rfl rfl rfl rfl rfl rfl rfl (by simp only [List.length_map, List.length_cons, List.length_nil]; omega) rfl) rfl ?_)) | refine awpL_ev (ev_ia_fs rfl rfl rfl rfl rfl rfl (by with_reducible assumption)) rfl ?_ | refine awpL_ev (ev_not rfl) rfl ?_ | refine awpL_ev (ev_extract rfl rfl) rfl ?_ | refine awpL_ev (ev_index_str rfl rfl rfl rfl (by with_reducible assumption)) rfl ?_ | refine awpL_ev (ev_build rfl rfl rfl rfl rfl rfl rfl) rfl ?_ | refine awpL_ev (ev_slice_fs rfl rfl rfl rfl rfl rfl rfl (by with_reducible assumption) rfl rfl) rfl ?_ | refine awpL_ev (ev_makeFunc rfl rfl) rfl ?_ | refine awpL_ev (ev_nilCheck_fp rfl) rfl ?_ | refine awpL_ev (ev_index_arr rfl rfl rfl rfl rfl rfl rfl (by with_reducible assumption)) rfl ?_ | refine awpL_ev (ev_ia_os rfl rfl rfl rfl rfl rfl rfl (by with_reducible assumption)) rfl ?_ | refine awpL_ev (ev_build_lag rfl rfl rfl rfl rfl rfl) rfl ?_ | refine awpL_ev (ev_nilCheck_lp rfl rfl) rfl ?_ | refine awpL_ev2 (ev_bslice_z rfl rfl rfl rfl rfl rfl rfl) rfl ?_ | refine awpL_ev2 (ev_bslice_in rfl rfl rfl rfl rfl rfl rfl rfl rfl rfl rfl rfl (by (try simp only [List.map_cons, List.map_nil, cellsOf]); (try rfl))) rfl ?_))
       | fail)
      refine awpL_call rfl rfl hCo rfl ?_
      refine awpL_ev2 (ev_app (es' := (l ++ l).map opC) rfl rfl rfl rfl rfl rfl rfl rfl rfl rfl rfl rfl rfl (by simp only [List.length_map, List.length_cons, List.length_nil, List.length_append, List.length_take]; omega) hj rfl) rfl ?_
      refine awpL_frz 46 rfl rfl rfl rfl ?_
      repeat' (first
       | ((with_reducible refine is_un ?_); (first | refine awpL_ev (ev_move rfl) rfl ?_ | ((with_reducible refine is_bin ?_); (first | refine awpL_ev (ev_add rfl rfl (by omega)) rfl ?_ | refine awpL_ev (ev_sub rfl rfl (by omega)) rfl ?_ | refine awpL_ev (ev_bin rfl rfl rfl) rfl ?_)) | refine awpL_ev (ev_load_agg rfl rfl rfl rfl) rfl ?_ | ((with_reducible refine is_pick ?_); (first | refine awpL_ev (ev_pick_t rfl (by first | with_reducible rfl | with_reducible assumption) rfl) rfl ?_ | refine awpL_ev (ev_pick_f rfl (by first | with_reducible rfl | with_reducible assumption) rfl) rfl ?_)) | refine awpL_ev (ev_assign rfl) rfl ?_ | ((with_reducible refine is_call ?_); (first | refine awpL_call rfl rfl hL rfl ?_ | refine awpL_call rfl rfl hA rfl ?_ | refine awpL_call rfl rfl hO rfl ?_ | refine awpL_call rfl rfl hC rfl ?_ | refine awpL_call rfl rfl hM1 rfl ?_ | refine awpL_call rfl rfl hB rfl ?_ | refine awpL_call rfl rfl hCb rfl ?_ | refine awpL_call rfl rfl hM2 rfl ?_ | refine awpL_call rfl rfl hS rfl ?_ | refine awpL_call rfl rfl hM3 rfl ?_ | refine awpL_call rfl rfl hS0 rfl ?_)) | refine awpL_stM [] rfl rfl rfl rfl rfl rfl rfl rfl rfl (by (try simp only [cellsOf, List.map_cons, List.map_nil]); (try rfl)) (by (try simp only [List.set_cons_zero, List.set_cons_succ, List.nil_append, List.cons_append, List.append_nil, cellsOf, List.take_zero, List.drop_zero, List.take_succ_cons, List.drop_succ_cons, Nat.zero_add, Nat.reduceAdd, List.drop_nil, List.map_cons, List.map_nil]); (try rfl)) ?_ | refine awpL_ev2 (ev_alloc rfl rfl (by (try simp only [List.length_nil, List.length_cons, Nat.reduceAdd]); (try rfl)) (by (try simp only [List.set_cons_zero, List.set_cons_succ, List.nil_append, List.cons_append, List.append_nil, cellsOf, List.take_zero, List.drop_zero, List.take_succ_cons, List.drop_succ_cons, Nat.zero_add, Nat.reduceAdd, List.drop_nil, List.map_cons, List.map_nil]); (try rfl))) rfl ?_ | refine awpL_ev (ev_ia_fs rfl rfl rfl rfl rfl rfl (by with_reducible assumption)) rfl ?_ | refine awpL_ev (ev_not rfl) rfl ?_ | refine awpL_ev (ev_extract rfl rfl) rfl ?_ | refine awpL_ev (ev_index_str rfl rfl rfl rfl (by with_reducible assumption)) rfl ?_ | refine awpL_ev (ev_build rfl rfl rfl rfl rfl rfl rfl) rfl ?_))
       | ((with_reducible refine is_gd ?_); refine awpL_run rfl rfl rfl (by first | with_reducible rfl | with_reducible assumption) ?_)
       | ((with_reducible refine is_nil ?_); refine awpL_nil ?_)
       | ((with_reducible refine is_then ?_); (first | refine thenQ_n ?_ | refine thenQ_r ?_))
       | ((with_reducible refine is_awp ?_); (first | refine awp_seq ?_ | refine awp_ret ?_ | refine awp_skip ?_ | refine awp_exit ?_ | refine awp_label ?_ | refine awp_block ?_ | refine awp_region ?_ | refine awp_cond_t rfl (by first | with_reducible rfl | with_reducible assumption) ?_ | refine awp_cond_f rfl (by first | with_reducible rfl | with_reducible assumption) ?_))
       | fail)
      exact retP rfl rfl
end Go.Proofs.YtifpafbmfedpkaaDoor
