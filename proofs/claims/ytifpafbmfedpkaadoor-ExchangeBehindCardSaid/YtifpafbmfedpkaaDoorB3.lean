/- A logic of trees over the model's steps, and the contracts of the functions that the laws reach: part 3 of 10. -/
import Derived.Test.YtifpafbmfedpkaaDoorB2
import Derived.KernelRfl
import Derived.Test.YtifpafbmfedpkaaDoorProg
section
set_option linter.unusedVariables false
set_option linter.unusedSimpArgs false
set_option linter.unusedSectionVars false
namespace Go.Ac
inductive Mut : List Nat → Prop
  | of (M : List Nat) : Mut M
section
variable {P : Program} {td : TDs} [T : TOK P td] {G : Glo} {N : Nat} {Q : AQ} {S : SL} {L : List LB} {ops : Array Oper} {rest : List Oper} {ty : TypeId} {pos : String} {af : Array Edge} {d : Nat} {x : AV}
theorem awpL_boxMm {M : List Nat} (m : Mut M) {t : TypeId} {u : Operand} (hm : notIn d M = true) (h : val G S u = some x) (hf : fit x = true) (hF : (cellsOf x).all isF = true) {x' : AV} (hx : AV.fp (cellsOf x) = x') (hd : Nat.blt d N = true)
    (k : awpL P G N ops rest Q ((d, x') :: S) L) : awpL P G N ops (⟨some d, .box t u, ty, pos, af, none⟩ :: rest) Q S L := awpL_boxM M hm h hf hF hx hd k
theorem awpL_stMm {M : List Nat} (m : Mut M) {t p : Nat} {d : TD} {e : Operand} {k : Nat} {bs : List AV} {L' : List LB} (hm : notIn p M = true) (h : get S p = some (.lp k 0)) (hk : L[k]? = some (.box bs)) (he : val G S e = some x) (hfx : fit x = true) (hF : (cellsOf x).all isF = true) (ht : lk td t = some d)
    (hn : (cellsOf x).length = d.size) (hq : bs.length = d.size) {x' : AV} (hx : AV.fp (cellsOf x) = x') (hL : L.set k .dead = L') (kk : awpL P G N ops rest Q ((p, x') :: S) L') : awpL P G N ops (⟨none, .store t (.tmp p) e, ty, pos, af, none⟩ :: rest) Q S L := awpL_stM M hm h hk he hfx hF ht hn hq hx hL kk
end
structure Left (B : Prop) : Prop where
  out : B
theorem run (M : List Nat) {A B : Prop} (k : B) (h : Mut M → Left B → A := by
    intro m k
    repeat' (first
     | ((with_reducible refine is_un ?_); (first | ((with_reducible refine is_move ?_); (first | refine awpL_ev (ev_move rfl) rfl ?_ | fail)) | ((with_reducible refine is_bin ?_); (first | refine awpL_ev (ev_add rfl rfl (by omega)) rfl ?_ | refine awpL_ev (ev_sub rfl rfl (by omega)) rfl ?_ | refine awpL_ev (ev_bin rfl rfl rfl) rfl ?_ | refine awpL_ev (ev_eq_bool rfl rfl rfl rfl) rfl ?_ | fail)) | ((with_reducible refine is_fa ?_); (first | refine awpL_ev (ev_fa_fp rfl rfl rfl rfl rfl rfl) rfl ?_ | refine awpL_ev (ev_fa_lp rfl rfl rfl rfl rfl rfl rfl) rfl ?_ | refine awpL_ev (ev_fa_ep rfl rfl rfl rfl rfl rfl rfl) rfl ?_ | fail)) | ((with_reducible refine is_load ?_); (first | refine awpL_ev (ev_load_agg rfl rfl rfl rfl) rfl ?_ | refine awpL_ev (ev_load_sub rfl rfl rfl rfl rfl) rfl ?_ | refine awpL_ev (ev_load_one rfl rfl rfl rfl) rfl ?_ | refine awpL_ev (ev_ll_agg rfl rfl rfl rfl rfl rfl rfl) rfl ?_ | refine awpL_ev (ev_ll_lag rfl rfl rfl rfl rfl rfl) rfl ?_ | refine awpL_ev (ev_ll_one rfl rfl rfl rfl rfl) rfl ?_ | refine awpL_ev (ev_el_one rfl rfl rfl rfl (by with_reducible assumption) rfl) rfl ?_ | fail)) | ((with_reducible refine is_pick ?_); (first | refine awpL_ev (ev_pick_t rfl (by first | with_reducible rfl | with_reducible assumption) rfl) rfl ?_ | refine awpL_ev (ev_pick_f rfl (by first | with_reducible rfl | with_reducible assumption) rfl) rfl ?_ | fail)) | ((with_reducible refine is_assign ?_); (first | refine awpL_ev (ev_assign rfl) rfl ?_ | fail)) | ((with_reducible refine is_call ?_); (first | refine awpL_call rfl rfl (by assumption) rfl ?_ | refine awpL_ev (ev_len rfl rfl rfl rfl rfl) rfl ?_ | refine awpL_ev (ev_max rfl rfl) rfl ?_ | refine awpL_ev (ev_min rfl rfl) rfl ?_ | refine awpL_ev (ev_len_os rfl rfl rfl rfl rfl) rfl ?_ | refine awpL_ev2 (ev_append_zf rfl rfl rfl rfl rfl rfl rfl rfl rfl rfl rfl rfl rfl (by simp only [List.length_map, List.length_cons, List.length_nil]; omega) rfl) rfl ?_ | fail)) | ((with_reducible refine is_store ?_); (first | refine awpL_stMm m rfl rfl rfl rfl rfl rfl rfl rfl rfl (by (try simp only [cellsOf, List.map_cons, List.map_nil]); (try rfl)) (by (try simp only [List.set_cons_zero, List.set_cons_succ, List.nil_append, List.cons_append, List.append_nil, cellsOf, List.take_zero, List.drop_zero, List.take_succ_cons, List.drop_succ_cons, Nat.zero_add, Nat.reduceAdd, List.drop_nil, List.map_cons, List.map_nil]); (try rfl)) ?_ | refine awpL_evS (ev_st_lp rfl rfl rfl rfl rfl rfl rfl (by (try simp only [List.set_cons_zero, List.set_cons_succ, List.nil_append, List.cons_append, List.append_nil, cellsOf, List.take_zero, List.drop_zero, List.take_succ_cons, List.drop_succ_cons, Nat.zero_add, Nat.reduceAdd, List.drop_nil, List.map_cons, List.map_nil]); (try rfl))) ?_ | fail)) | ((with_reducible refine is_alloc ?_); (first | refine awpL_ev2 (ev_alloc rfl rfl (by (try simp only [List.length_nil, List.length_cons, Nat.reduceAdd]); (try rfl)) (by (try simp only [List.set_cons_zero, List.set_cons_succ, List.nil_append, List.cons_append, List.append_nil, cellsOf, List.take_zero, List.drop_zero, List.take_succ_cons, List.drop_succ_cons, Nat.zero_add, Nat.reduceAdd, List.drop_nil, List.map_cons, List.map_nil]); (try rfl))) rfl ?_ | fail)) | ((with_reducible refine is_box ?_); (first | refine awpL_boxMm m rfl rfl rfl rfl (by (try simp only [cellsOf, List.map_cons, List.map_nil]); (try rfl)) rfl ?_ | refine awpL_ev2 (ev_box rfl rfl (by (try simp only [List.length_nil, List.length_cons, Nat.reduceAdd]); (try rfl)) (by (try simp only [List.set_cons_zero, List.set_cons_succ, List.nil_append, List.cons_append, List.append_nil, cellsOf, List.take_zero, List.drop_zero, List.take_succ_cons, List.drop_succ_cons, Nat.zero_add, Nat.reduceAdd, List.drop_nil, List.map_cons, List.map_nil]); (try rfl))) rfl ?_ | fail)) | refine awpL_ev (ev_ia_fs rfl rfl rfl rfl rfl rfl (by with_reducible assumption)) rfl ?_ | refine awpL_ev (ev_not rfl) rfl ?_ | refine awpL_ev (ev_extract rfl rfl) rfl ?_ | refine awpL_ev (ev_index_str rfl rfl rfl rfl (by with_reducible assumption)) rfl ?_ | refine awpL_ev (ev_build rfl rfl rfl rfl rfl rfl rfl) rfl ?_ | refine awpL_ev (ev_slice_fs rfl rfl rfl rfl rfl rfl rfl (by with_reducible assumption) rfl rfl) rfl ?_ | refine awpL_ev (ev_makeFunc rfl rfl) rfl ?_ | refine awpL_ev (ev_nilCheck_fp rfl) rfl ?_ | refine awpL_ev (ev_index_arr rfl rfl rfl rfl rfl rfl rfl (by with_reducible assumption)) rfl ?_ | refine awpL_ev (ev_ia_os rfl rfl rfl rfl rfl rfl rfl (by with_reducible assumption)) rfl ?_ | refine awpL_ev (ev_build_lag rfl rfl rfl rfl rfl rfl) rfl ?_ | refine awpL_ev (ev_nilCheck_lp rfl rfl) rfl ?_ | refine awpL_ev2 (ev_bslice_z rfl rfl rfl rfl rfl rfl rfl) rfl ?_ | refine awpL_ev2 (ev_bslice_in rfl rfl rfl rfl rfl rfl rfl rfl rfl rfl rfl rfl (by (try simp only [List.map_cons, List.map_nil, cellsOf]); (try rfl))) rfl ?_))
     | ((with_reducible refine is_gd ?_); (first | refine awpL_run rfl rfl rfl (by first | with_reducible rfl | with_reducible assumption) ?_ | refine awpL_passT rfl rfl rfl rfl (by first | with_reducible rfl | with_reducible assumption) ?_ | refine awpL_passF rfl rfl rfl rfl (by first | with_reducible rfl | with_reducible assumption) ?_ | refine awpL_passU rfl rfl rfl rfl ?_ | fail))
     | ((with_reducible refine is_nil ?_); refine awpL_nil ?_)
     | ((with_reducible refine is_then ?_); (first | refine thenQ_n ?_ | refine thenQ_r ?_ | refine thenQ_e ?_ | fail))
     | ((with_reducible refine is_block ?_); (first | refine blockQ_n ?_ | refine blockQ_r ?_ | refine blockQ_e ?_ | refine blockQ_o rfl ?_ | fail))
     | ((with_reducible refine is_draw ?_); (first | refine awp_drawA (by kernel_rfl) rfl rfl (by repeat' (first | exact Strip.nil | apply Strip.keep rfl | apply Strip.drop rfl)) ?_ | fail))
     | ((with_reducible refine isD_un ?_); (first | ((with_reducible refine isD_st ?_); refine awpD_sS rfl (by (try simp only [List.set_cons_zero, List.set_cons_succ, List.nil_append, List.cons_append, List.append_nil, cellsOf, List.take_zero, List.drop_zero, List.take_succ_cons, List.drop_succ_cons, Nat.zero_add, Nat.reduceAdd, List.drop_nil, List.map_cons, List.map_nil]); (try rfl)) (ev_st_lp rfl rfl rfl rfl rfl rfl rfl (by (try simp only [List.set_cons_zero, List.set_cons_succ, List.nil_append, List.cons_append, List.append_nil, cellsOf, List.take_zero, List.drop_zero, List.take_succ_cons, List.drop_succ_cons, Nat.zero_add, Nat.reduceAdd, List.drop_nil, List.map_cons, List.map_nil]); (try rfl))) rfl (by (try simp only [List.nil_append, List.cons_append]); (try rfl)) ?_) | ((with_reducible refine isD_al ?_); refine awpD_nw rfl (by repeat' (first | exact Msk.nil | apply Msk.base | apply Msk.vis rfl | apply Msk.hid rfl)) (ev_alloc rfl rfl (by (try simp only [List.length_nil, List.length_cons, Nat.reduceAdd]); (try rfl)) (by (try simp only [List.set_cons_zero, List.set_cons_succ, List.nil_append, List.cons_append, List.append_nil, cellsOf, List.take_zero, List.drop_zero, List.take_succ_cons, List.drop_succ_cons, Nat.zero_add, Nat.reduceAdd, List.drop_nil, List.map_cons, List.map_nil]); (try rfl))) rfl rfl rfl rfl rfl (by (try simp only [List.set_cons_zero, List.set_cons_succ, List.nil_append, List.cons_append, List.append_nil, cellsOf, List.take_zero, List.drop_zero, List.take_succ_cons, List.drop_succ_cons, Nat.zero_add, Nat.reduceAdd, List.drop_nil, List.map_cons, List.map_nil]); (try rfl)) (by (try simp only [List.nil_append, List.cons_append]); (try rfl)) ?_) | ((with_reducible refine isDs_move ?_); (first | refine awpD_un (as_ev (fun _ => ev_move rfl) rfl rfl) (by (try simp only [List.nil_append, List.cons_append]); (try rfl)) ?_ | fail)) | ((with_reducible refine isDs_bin ?_); (first | refine awpD_un (as_ev (fun _ => ev_add rfl rfl (by omega)) rfl rfl) (by (try simp only [List.nil_append, List.cons_append]); (try rfl)) ?_ | refine awpD_un (as_ev (fun _ => ev_sub rfl rfl (by omega)) rfl rfl) (by (try simp only [List.nil_append, List.cons_append]); (try rfl)) ?_ | refine awpD_un (as_ev (fun _ => ev_bin rfl rfl rfl) rfl rfl) (by (try simp only [List.nil_append, List.cons_append]); (try rfl)) ?_ | refine awpD_un (as_ev (fun _ => ev_eq_bool rfl rfl rfl rfl) rfl rfl) (by (try simp only [List.nil_append, List.cons_append]); (try rfl)) ?_ | fail)) | ((with_reducible refine isDs_fa ?_); (first | refine awpD_un (as_ev (fun _ => ev_fa_fp rfl rfl rfl rfl rfl rfl) rfl rfl) (by (try simp only [List.nil_append, List.cons_append]); (try rfl)) ?_ | refine awpD_un (as_pure rfl (by repeat' (first | exact Msk.nil | apply Msk.base | apply Msk.vis rfl | apply Msk.hid rfl)) (ev_fa_lp rfl rfl rfl rfl rfl rfl rfl) rfl rfl rfl) (by (try simp only [List.nil_append, List.cons_append]); (try rfl)) ?_ | refine awpD_un (as_pure rfl (by repeat' (first | exact Msk.nil | apply Msk.base | apply Msk.vis rfl | apply Msk.hid rfl)) (ev_fa_ep rfl rfl rfl rfl rfl rfl rfl) rfl rfl rfl) (by (try simp only [List.nil_append, List.cons_append]); (try rfl)) ?_ | fail)) | ((with_reducible refine isDs_load ?_); (first | refine awpD_un (as_ev (fun _ => ev_load_agg rfl rfl rfl rfl) rfl rfl) (by (try simp only [List.nil_append, List.cons_append]); (try rfl)) ?_ | refine awpD_un (as_ev (fun _ => ev_load_sub rfl rfl rfl rfl rfl) rfl rfl) (by (try simp only [List.nil_append, List.cons_append]); (try rfl)) ?_ | refine awpD_un (as_ev (fun _ => ev_load_one rfl rfl rfl rfl) rfl rfl) (by (try simp only [List.nil_append, List.cons_append]); (try rfl)) ?_ | refine awpD_un (as_pure rfl (by repeat' (first | exact Msk.nil | apply Msk.base | apply Msk.vis rfl | apply Msk.hid rfl)) (ev_ll_agg rfl rfl rfl rfl rfl rfl rfl) rfl rfl rfl) (by (try simp only [List.nil_append, List.cons_append]); (try rfl)) ?_ | refine awpD_un (as_pure rfl (by repeat' (first | exact Msk.nil | apply Msk.base | apply Msk.vis rfl | apply Msk.hid rfl)) (ev_ll_lag rfl rfl rfl rfl rfl rfl) rfl rfl rfl) (by (try simp only [List.nil_append, List.cons_append]); (try rfl)) ?_ | refine awpD_un (as_pure rfl (by repeat' (first | exact Msk.nil | apply Msk.base | apply Msk.vis rfl | apply Msk.hid rfl)) (ev_ll_one rfl rfl rfl rfl rfl) rfl rfl rfl) (by (try simp only [List.nil_append, List.cons_append]); (try rfl)) ?_ | refine awpD_un (as_pure rfl (by repeat' (first | exact Msk.nil | apply Msk.base | apply Msk.vis rfl | apply Msk.hid rfl)) (ev_el_one rfl rfl rfl rfl (by with_reducible assumption) rfl) rfl rfl rfl) (by (try simp only [List.nil_append, List.cons_append]); (try rfl)) ?_ | fail)) | ((with_reducible refine isDs_pick ?_); (first | refine awpD_un (as_ev (fun _ => ev_pick_t rfl (by first | with_reducible rfl | with_reducible assumption) rfl) rfl rfl) (by (try simp only [List.nil_append, List.cons_append]); (try rfl)) ?_ | refine awpD_un (as_ev (fun _ => ev_pick_f rfl (by first | with_reducible rfl | with_reducible assumption) rfl) rfl rfl) (by (try simp only [List.nil_append, List.cons_append]); (try rfl)) ?_ | fail)) | ((with_reducible refine isDs_assign ?_); (first | refine awpD_un (as_ev (fun _ => ev_assign rfl) rfl rfl) (by (try simp only [List.nil_append, List.cons_append]); (try rfl)) ?_ | fail)) | ((with_reducible refine isDs_call ?_); (first | refine awpD_un (as_call rfl rfl (by assumption) rfl) (by (try simp only [List.nil_append, List.cons_append]); (try rfl)) ?_ | refine awpD_un (as_ev (fun _ => ev_len rfl rfl rfl rfl rfl) rfl rfl) (by (try simp only [List.nil_append, List.cons_append]); (try rfl)) ?_ | refine awpD_un (as_ev (fun _ => ev_max rfl rfl) rfl rfl) (by (try simp only [List.nil_append, List.cons_append]); (try rfl)) ?_ | refine awpD_un (as_ev (fun _ => ev_min rfl rfl) rfl rfl) (by (try simp only [List.nil_append, List.cons_append]); (try rfl)) ?_ | refine awpD_un (as_pure rfl (by repeat' (first | exact Msk.nil | apply Msk.base | apply Msk.vis rfl | apply Msk.hid rfl)) (ev_len_os rfl rfl rfl rfl rfl) rfl rfl rfl) (by (try simp only [List.nil_append, List.cons_append]); (try rfl)) ?_ | refine awpD_un (as_ev2 (fun _ => ev_append_zf rfl rfl rfl rfl rfl rfl rfl rfl rfl rfl rfl rfl rfl (by simp only [List.length_map, List.length_cons, List.length_nil]; omega) rfl) rfl rfl) (by (try simp only [List.nil_append, List.cons_append]); (try rfl)) ?_ | fail)) | refine awpD_un (as_ev (fun _ => ev_ia_fs rfl rfl rfl rfl rfl rfl (by with_reducible assumption)) rfl rfl) (by (try simp only [List.nil_append, List.cons_append]); (try rfl)) ?_ | refine awpD_un (as_ev (fun _ => ev_not rfl) rfl rfl) (by (try simp only [List.nil_append, List.cons_append]); (try rfl)) ?_ | refine awpD_un (as_ev (fun _ => ev_extract rfl rfl) rfl rfl) (by (try simp only [List.nil_append, List.cons_append]); (try rfl)) ?_ | refine awpD_un (as_ev (fun _ => ev_index_str rfl rfl rfl rfl (by with_reducible assumption)) rfl rfl) (by (try simp only [List.nil_append, List.cons_append]); (try rfl)) ?_ | refine awpD_un (as_ev (fun _ => ev_build rfl rfl rfl rfl rfl rfl rfl) rfl rfl) (by (try simp only [List.nil_append, List.cons_append]); (try rfl)) ?_ | refine awpD_un (as_ev (fun _ => ev_slice_fs rfl rfl rfl rfl rfl rfl rfl (by with_reducible assumption) rfl rfl) rfl rfl) (by (try simp only [List.nil_append, List.cons_append]); (try rfl)) ?_ | refine awpD_un (as_ev (fun _ => ev_makeFunc rfl rfl) rfl rfl) (by (try simp only [List.nil_append, List.cons_append]); (try rfl)) ?_ | refine awpD_un (as_ev (fun _ => ev_nilCheck_fp rfl) rfl rfl) (by (try simp only [List.nil_append, List.cons_append]); (try rfl)) ?_ | refine awpD_un (as_ev (fun _ => ev_index_arr rfl rfl rfl rfl rfl rfl rfl (by with_reducible assumption)) rfl rfl) (by (try simp only [List.nil_append, List.cons_append]); (try rfl)) ?_ | refine awpD_un (as_pure rfl (by repeat' (first | exact Msk.nil | apply Msk.base | apply Msk.vis rfl | apply Msk.hid rfl)) (ev_ia_os rfl rfl rfl rfl rfl rfl rfl (by with_reducible assumption)) rfl rfl rfl) (by (try simp only [List.nil_append, List.cons_append]); (try rfl)) ?_ | refine awpD_un (as_pure rfl (by repeat' (first | exact Msk.nil | apply Msk.base | apply Msk.vis rfl | apply Msk.hid rfl)) (ev_build_lag rfl rfl rfl rfl rfl rfl) rfl rfl rfl) (by (try simp only [List.nil_append, List.cons_append]); (try rfl)) ?_ | refine awpD_un (as_pure rfl (by repeat' (first | exact Msk.nil | apply Msk.base | apply Msk.vis rfl | apply Msk.hid rfl)) (ev_nilCheck_lp rfl rfl) rfl rfl rfl) (by (try simp only [List.nil_append, List.cons_append]); (try rfl)) ?_ | refine awpD_un (as_ev2 (fun _ => ev_bslice_z rfl rfl rfl rfl rfl rfl rfl) rfl rfl) (by (try simp only [List.nil_append, List.cons_append]); (try rfl)) ?_ | refine awpD_un (as_ev2 (fun _ => ev_bslice_in rfl rfl rfl rfl rfl rfl rfl rfl rfl rfl rfl rfl (by (try simp only [List.map_cons, List.map_nil, cellsOf]); (try rfl))) rfl rfl) (by (try simp only [List.nil_append, List.cons_append]); (try rfl)) ?_ | fail))
     | ((with_reducible refine isD_gd ?_); (first | refine awpD_pT rfl rfl (by first | with_reducible rfl | with_reducible assumption) (by (try simp only [List.nil_append, List.cons_append]); (try rfl)) ?_ | refine awpD_pF rfl rfl (by first | with_reducible rfl | with_reducible assumption) (by (try simp only [List.nil_append, List.cons_append]); (try rfl)) ?_ | refine awpD_pU rfl rfl (by (try simp only [List.nil_append, List.cons_append]); (try rfl)) ?_ | (refine isD_go rfl rfl (by first | with_reducible rfl | with_reducible assumption) ?_; (first | ((with_reducible refine isDs_move ?_); (first | refine awpD_gd rfl rfl (by first | with_reducible rfl | with_reducible assumption) (as_ev (fun _ => ev_move rfl) rfl rfl) (by (try simp only [List.nil_append, List.cons_append]); (try rfl)) ?_ | fail)) | ((with_reducible refine isDs_bin ?_); (first | refine awpD_gd rfl rfl (by first | with_reducible rfl | with_reducible assumption) (as_ev (fun _ => ev_add rfl rfl (by omega)) rfl rfl) (by (try simp only [List.nil_append, List.cons_append]); (try rfl)) ?_ | refine awpD_gd rfl rfl (by first | with_reducible rfl | with_reducible assumption) (as_ev (fun _ => ev_sub rfl rfl (by omega)) rfl rfl) (by (try simp only [List.nil_append, List.cons_append]); (try rfl)) ?_ | refine awpD_gd rfl rfl (by first | with_reducible rfl | with_reducible assumption) (as_ev (fun _ => ev_bin rfl rfl rfl) rfl rfl) (by (try simp only [List.nil_append, List.cons_append]); (try rfl)) ?_ | refine awpD_gd rfl rfl (by first | with_reducible rfl | with_reducible assumption) (as_ev (fun _ => ev_eq_bool rfl rfl rfl rfl) rfl rfl) (by (try simp only [List.nil_append, List.cons_append]); (try rfl)) ?_ | fail)) | ((with_reducible refine isDs_fa ?_); (first | refine awpD_gd rfl rfl (by first | with_reducible rfl | with_reducible assumption) (as_ev (fun _ => ev_fa_fp rfl rfl rfl rfl rfl rfl) rfl rfl) (by (try simp only [List.nil_append, List.cons_append]); (try rfl)) ?_ | refine awpD_gd rfl rfl (by first | with_reducible rfl | with_reducible assumption) (as_pure rfl (by repeat' (first | exact Msk.nil | apply Msk.base | apply Msk.vis rfl | apply Msk.hid rfl)) (ev_fa_lp rfl rfl rfl rfl rfl rfl rfl) rfl rfl rfl) (by (try simp only [List.nil_append, List.cons_append]); (try rfl)) ?_ | refine awpD_gd rfl rfl (by first | with_reducible rfl | with_reducible assumption) (as_pure rfl (by repeat' (first | exact Msk.nil | apply Msk.base | apply Msk.vis rfl | apply Msk.hid rfl)) (ev_fa_ep rfl rfl rfl rfl rfl rfl rfl) rfl rfl rfl) (by (try simp only [List.nil_append, List.cons_append]); (try rfl)) ?_ | fail)) | ((with_reducible refine isDs_load ?_); (first | refine awpD_gd rfl rfl (by first | with_reducible rfl | with_reducible assumption) (as_ev (fun _ => ev_load_agg rfl rfl rfl rfl) rfl rfl) (by (try simp only [List.nil_append, List.cons_append]); (try rfl)) ?_ | refine awpD_gd rfl rfl (by first | with_reducible rfl | with_reducible assumption) (as_ev (fun _ => ev_load_sub rfl rfl rfl rfl rfl) rfl rfl) (by (try simp only [List.nil_append, List.cons_append]); (try rfl)) ?_ | refine awpD_gd rfl rfl (by first | with_reducible rfl | with_reducible assumption) (as_ev (fun _ => ev_load_one rfl rfl rfl rfl) rfl rfl) (by (try simp only [List.nil_append, List.cons_append]); (try rfl)) ?_ | refine awpD_gd rfl rfl (by first | with_reducible rfl | with_reducible assumption) (as_pure rfl (by repeat' (first | exact Msk.nil | apply Msk.base | apply Msk.vis rfl | apply Msk.hid rfl)) (ev_ll_agg rfl rfl rfl rfl rfl rfl rfl) rfl rfl rfl) (by (try simp only [List.nil_append, List.cons_append]); (try rfl)) ?_ | refine awpD_gd rfl rfl (by first | with_reducible rfl | with_reducible assumption) (as_pure rfl (by repeat' (first | exact Msk.nil | apply Msk.base | apply Msk.vis rfl | apply Msk.hid rfl)) (ev_ll_lag rfl rfl rfl rfl rfl rfl) rfl rfl rfl) (by (try simp only [List.nil_append, List.cons_append]); (try rfl)) ?_ | refine awpD_gd rfl rfl (by first | with_reducible rfl | with_reducible assumption) (as_pure rfl (by repeat' (first | exact Msk.nil | apply Msk.base | apply Msk.vis rfl | apply Msk.hid rfl)) (ev_ll_one rfl rfl rfl rfl rfl) rfl rfl rfl) (by (try simp only [List.nil_append, List.cons_append]); (try rfl)) ?_ | refine awpD_gd rfl rfl (by first | with_reducible rfl | with_reducible assumption) (as_pure rfl (by repeat' (first | exact Msk.nil | apply Msk.base | apply Msk.vis rfl | apply Msk.hid rfl)) (ev_el_one rfl rfl rfl rfl (by with_reducible assumption) rfl) rfl rfl rfl) (by (try simp only [List.nil_append, List.cons_append]); (try rfl)) ?_ | fail)) | ((with_reducible refine isDs_pick ?_); (first | refine awpD_gd rfl rfl (by first | with_reducible rfl | with_reducible assumption) (as_ev (fun _ => ev_pick_t rfl (by first | with_reducible rfl | with_reducible assumption) rfl) rfl rfl) (by (try simp only [List.nil_append, List.cons_append]); (try rfl)) ?_ | refine awpD_gd rfl rfl (by first | with_reducible rfl | with_reducible assumption) (as_ev (fun _ => ev_pick_f rfl (by first | with_reducible rfl | with_reducible assumption) rfl) rfl rfl) (by (try simp only [List.nil_append, List.cons_append]); (try rfl)) ?_ | fail)) | ((with_reducible refine isDs_assign ?_); (first | refine awpD_gd rfl rfl (by first | with_reducible rfl | with_reducible assumption) (as_ev (fun _ => ev_assign rfl) rfl rfl) (by (try simp only [List.nil_append, List.cons_append]); (try rfl)) ?_ | fail)) | ((with_reducible refine isDs_call ?_); (first | refine awpD_gd rfl rfl (by first | with_reducible rfl | with_reducible assumption) (as_call rfl rfl (by assumption) rfl) (by (try simp only [List.nil_append, List.cons_append]); (try rfl)) ?_ | refine awpD_gd rfl rfl (by first | with_reducible rfl | with_reducible assumption) (as_ev (fun _ => ev_len rfl rfl rfl rfl rfl) rfl rfl) (by (try simp only [List.nil_append, List.cons_append]); (try rfl)) ?_ | refine awpD_gd rfl rfl (by first | with_reducible rfl | with_reducible assumption) (as_ev (fun _ => ev_max rfl rfl) rfl rfl) (by (try simp only [List.nil_append, List.cons_append]); (try rfl)) ?_ | refine awpD_gd rfl rfl (by first | with_reducible rfl | with_reducible assumption) (as_ev (fun _ => ev_min rfl rfl) rfl rfl) (by (try simp only [List.nil_append, List.cons_append]); (try rfl)) ?_ | refine awpD_gd rfl rfl (by first | with_reducible rfl | with_reducible assumption) (as_pure rfl (by repeat' (first | exact Msk.nil | apply Msk.base | apply Msk.vis rfl | apply Msk.hid rfl)) (ev_len_os rfl rfl rfl rfl rfl) rfl rfl rfl) (by (try simp only [List.nil_append, List.cons_append]); (try rfl)) ?_ | refine awpD_gd rfl rfl (by first | with_reducible rfl | with_reducible assumption) (as_ev2 (fun _ => ev_append_zf rfl rfl rfl rfl rfl rfl rfl rfl rfl rfl rfl rfl rfl (by simp only [List.length_map, List.length_cons, List.length_nil]; omega) rfl) rfl rfl) (by (try simp only [List.nil_append, List.cons_append]); (try rfl)) ?_ | fail)) | refine awpD_gd rfl rfl (by first | with_reducible rfl | with_reducible assumption) (as_ev (fun _ => ev_ia_fs rfl rfl rfl rfl rfl rfl (by with_reducible assumption)) rfl rfl) (by (try simp only [List.nil_append, List.cons_append]); (try rfl)) ?_ | refine awpD_gd rfl rfl (by first | with_reducible rfl | with_reducible assumption) (as_ev (fun _ => ev_not rfl) rfl rfl) (by (try simp only [List.nil_append, List.cons_append]); (try rfl)) ?_ | refine awpD_gd rfl rfl (by first | with_reducible rfl | with_reducible assumption) (as_ev (fun _ => ev_extract rfl rfl) rfl rfl) (by (try simp only [List.nil_append, List.cons_append]); (try rfl)) ?_ | refine awpD_gd rfl rfl (by first | with_reducible rfl | with_reducible assumption) (as_ev (fun _ => ev_index_str rfl rfl rfl rfl (by with_reducible assumption)) rfl rfl) (by (try simp only [List.nil_append, List.cons_append]); (try rfl)) ?_ | refine awpD_gd rfl rfl (by first | with_reducible rfl | with_reducible assumption) (as_ev (fun _ => ev_build rfl rfl rfl rfl rfl rfl rfl) rfl rfl) (by (try simp only [List.nil_append, List.cons_append]); (try rfl)) ?_ | refine awpD_gd rfl rfl (by first | with_reducible rfl | with_reducible assumption) (as_ev (fun _ => ev_slice_fs rfl rfl rfl rfl rfl rfl rfl (by with_reducible assumption) rfl rfl) rfl rfl) (by (try simp only [List.nil_append, List.cons_append]); (try rfl)) ?_ | refine awpD_gd rfl rfl (by first | with_reducible rfl | with_reducible assumption) (as_ev (fun _ => ev_makeFunc rfl rfl) rfl rfl) (by (try simp only [List.nil_append, List.cons_append]); (try rfl)) ?_ | refine awpD_gd rfl rfl (by first | with_reducible rfl | with_reducible assumption) (as_ev (fun _ => ev_nilCheck_fp rfl) rfl rfl) (by (try simp only [List.nil_append, List.cons_append]); (try rfl)) ?_ | refine awpD_gd rfl rfl (by first | with_reducible rfl | with_reducible assumption) (as_ev (fun _ => ev_index_arr rfl rfl rfl rfl rfl rfl rfl (by with_reducible assumption)) rfl rfl) (by (try simp only [List.nil_append, List.cons_append]); (try rfl)) ?_ | refine awpD_gd rfl rfl (by first | with_reducible rfl | with_reducible assumption) (as_pure rfl (by repeat' (first | exact Msk.nil | apply Msk.base | apply Msk.vis rfl | apply Msk.hid rfl)) (ev_ia_os rfl rfl rfl rfl rfl rfl rfl (by with_reducible assumption)) rfl rfl rfl) (by (try simp only [List.nil_append, List.cons_append]); (try rfl)) ?_ | refine awpD_gd rfl rfl (by first | with_reducible rfl | with_reducible assumption) (as_pure rfl (by repeat' (first | exact Msk.nil | apply Msk.base | apply Msk.vis rfl | apply Msk.hid rfl)) (ev_build_lag rfl rfl rfl rfl rfl rfl) rfl rfl rfl) (by (try simp only [List.nil_append, List.cons_append]); (try rfl)) ?_ | refine awpD_gd rfl rfl (by first | with_reducible rfl | with_reducible assumption) (as_pure rfl (by repeat' (first | exact Msk.nil | apply Msk.base | apply Msk.vis rfl | apply Msk.hid rfl)) (ev_nilCheck_lp rfl rfl) rfl rfl rfl) (by (try simp only [List.nil_append, List.cons_append]); (try rfl)) ?_ | refine awpD_gd rfl rfl (by first | with_reducible rfl | with_reducible assumption) (as_ev2 (fun _ => ev_bslice_z rfl rfl rfl rfl rfl rfl rfl) rfl rfl) (by (try simp only [List.nil_append, List.cons_append]); (try rfl)) ?_ | refine awpD_gd rfl rfl (by first | with_reducible rfl | with_reducible assumption) (as_ev2 (fun _ => ev_bslice_in rfl rfl rfl rfl rfl rfl rfl rfl rfl rfl rfl rfl (by (try simp only [List.map_cons, List.map_nil, cellsOf]); (try rfl))) rfl rfl) (by (try simp only [List.nil_append, List.cons_append]); (try rfl)) ?_ | fail)) | fail))
     | ((with_reducible refine isD_nl ?_); refine awpD_done (by (try simp only [List.nil_append, List.cons_append]); (try rfl)) (by (try simp only [List.set_cons_zero, List.set_cons_succ, List.nil_append, List.cons_append, List.append_nil, cellsOf, List.take_zero, List.drop_zero, List.take_succ_cons, List.drop_succ_cons, Nat.zero_add, Nat.reduceAdd, List.drop_nil, List.map_cons, List.map_nil]); (try rfl)) ?_)
     | ((with_reducible refine is_awp ?_); (first | refine awp_seq ?_ | refine awp_ret ?_ | refine awp_skip ?_ | refine awp_exit ?_ | refine awp_label ?_ | refine awp_block ?_ | refine awp_region ?_ | refine awp_cond_t rfl (by first | with_reducible rfl | with_reducible assumption) ?_ | refine awp_cond_f rfl (by first | with_reducible rfl | with_reducible assumption) ?_ | fail))
     | fail)
    exact k.out) : A := h (.of M) ⟨k⟩
theorem st (M : List Nat) {A B : Prop} (k : B) (h : Mut M → Left B → A := by
    intro m k
    (first
     | ((with_reducible refine is_un ?_); (first | ((with_reducible refine is_move ?_); (first | refine awpL_ev (ev_move rfl) rfl ?_ | fail)) | ((with_reducible refine is_bin ?_); (first | refine awpL_ev (ev_add rfl rfl (by omega)) rfl ?_ | refine awpL_ev (ev_sub rfl rfl (by omega)) rfl ?_ | refine awpL_ev (ev_bin rfl rfl rfl) rfl ?_ | refine awpL_ev (ev_eq_bool rfl rfl rfl rfl) rfl ?_ | fail)) | ((with_reducible refine is_fa ?_); (first | refine awpL_ev (ev_fa_fp rfl rfl rfl rfl rfl rfl) rfl ?_ | refine awpL_ev (ev_fa_lp rfl rfl rfl rfl rfl rfl rfl) rfl ?_ | refine awpL_ev (ev_fa_ep rfl rfl rfl rfl rfl rfl rfl) rfl ?_ | fail)) | ((with_reducible refine is_load ?_); (first | refine awpL_ev (ev_load_agg rfl rfl rfl rfl) rfl ?_ | refine awpL_ev (ev_load_sub rfl rfl rfl rfl rfl) rfl ?_ | refine awpL_ev (ev_load_one rfl rfl rfl rfl) rfl ?_ | refine awpL_ev (ev_ll_agg rfl rfl rfl rfl rfl rfl rfl) rfl ?_ | refine awpL_ev (ev_ll_lag rfl rfl rfl rfl rfl rfl) rfl ?_ | refine awpL_ev (ev_ll_one rfl rfl rfl rfl rfl) rfl ?_ | refine awpL_ev (ev_el_one rfl rfl rfl rfl (by with_reducible assumption) rfl) rfl ?_ | fail)) | ((with_reducible refine is_pick ?_); (first | refine awpL_ev (ev_pick_t rfl (by first | with_reducible rfl | with_reducible assumption) rfl) rfl ?_ | refine awpL_ev (ev_pick_f rfl (by first | with_reducible rfl | with_reducible assumption) rfl) rfl ?_ | fail)) | ((with_reducible refine is_assign ?_); (first | refine awpL_ev (ev_assign rfl) rfl ?_ | fail)) | ((with_reducible refine is_call ?_); (first | refine awpL_call rfl rfl (by assumption) rfl ?_ | refine awpL_ev (ev_len rfl rfl rfl rfl rfl) rfl ?_ | refine awpL_ev (ev_max rfl rfl) rfl ?_ | refine awpL_ev (ev_min rfl rfl) rfl ?_ | refine awpL_ev (ev_len_os rfl rfl rfl rfl rfl) rfl ?_ | refine awpL_ev2 (ev_append_zf rfl rfl rfl rfl rfl rfl rfl rfl rfl rfl rfl rfl rfl (by simp only [List.length_map, List.length_cons, List.length_nil]; omega) rfl) rfl ?_ | fail)) | ((with_reducible refine is_store ?_); (first | refine awpL_stMm m rfl rfl rfl rfl rfl rfl rfl rfl rfl (by (try simp only [cellsOf, List.map_cons, List.map_nil]); (try rfl)) (by (try simp only [List.set_cons_zero, List.set_cons_succ, List.nil_append, List.cons_append, List.append_nil, cellsOf, List.take_zero, List.drop_zero, List.take_succ_cons, List.drop_succ_cons, Nat.zero_add, Nat.reduceAdd, List.drop_nil, List.map_cons, List.map_nil]); (try rfl)) ?_ | refine awpL_evS (ev_st_lp rfl rfl rfl rfl rfl rfl rfl (by (try simp only [List.set_cons_zero, List.set_cons_succ, List.nil_append, List.cons_append, List.append_nil, cellsOf, List.take_zero, List.drop_zero, List.take_succ_cons, List.drop_succ_cons, Nat.zero_add, Nat.reduceAdd, List.drop_nil, List.map_cons, List.map_nil]); (try rfl))) ?_ | fail)) | ((with_reducible refine is_alloc ?_); (first | refine awpL_ev2 (ev_alloc rfl rfl (by (try simp only [List.length_nil, List.length_cons, Nat.reduceAdd]); (try rfl)) (by (try simp only [List.set_cons_zero, List.set_cons_succ, List.nil_append, List.cons_append, List.append_nil, cellsOf, List.take_zero, List.drop_zero, List.take_succ_cons, List.drop_succ_cons, Nat.zero_add, Nat.reduceAdd, List.drop_nil, List.map_cons, List.map_nil]); (try rfl))) rfl ?_ | fail)) | ((with_reducible refine is_box ?_); (first | refine awpL_boxMm m rfl rfl rfl rfl (by (try simp only [cellsOf, List.map_cons, List.map_nil]); (try rfl)) rfl ?_ | refine awpL_ev2 (ev_box rfl rfl (by (try simp only [List.length_nil, List.length_cons, Nat.reduceAdd]); (try rfl)) (by (try simp only [List.set_cons_zero, List.set_cons_succ, List.nil_append, List.cons_append, List.append_nil, cellsOf, List.take_zero, List.drop_zero, List.take_succ_cons, List.drop_succ_cons, Nat.zero_add, Nat.reduceAdd, List.drop_nil, List.map_cons, List.map_nil]); (try rfl))) rfl ?_ | fail)) | refine awpL_ev (ev_ia_fs rfl rfl rfl rfl rfl rfl (by with_reducible assumption)) rfl ?_ | refine awpL_ev (ev_not rfl) rfl ?_ | refine awpL_ev (ev_extract rfl rfl) rfl ?_ | refine awpL_ev (ev_index_str rfl rfl rfl rfl (by with_reducible assumption)) rfl ?_ | refine awpL_ev (ev_build rfl rfl rfl rfl rfl rfl rfl) rfl ?_ | refine awpL_ev (ev_slice_fs rfl rfl rfl rfl rfl rfl rfl (by with_reducible assumption) rfl rfl) rfl ?_ | refine awpL_ev (ev_makeFunc rfl rfl) rfl ?_ | refine awpL_ev (ev_nilCheck_fp rfl) rfl ?_ | refine awpL_ev (ev_index_arr rfl rfl rfl rfl rfl rfl rfl (by with_reducible assumption)) rfl ?_ | refine awpL_ev (ev_ia_os rfl rfl rfl rfl rfl rfl rfl (by with_reducible assumption)) rfl ?_ | refine awpL_ev (ev_build_lag rfl rfl rfl rfl rfl rfl) rfl ?_ | refine awpL_ev (ev_nilCheck_lp rfl rfl) rfl ?_ | refine awpL_ev2 (ev_bslice_z rfl rfl rfl rfl rfl rfl rfl) rfl ?_ | refine awpL_ev2 (ev_bslice_in rfl rfl rfl rfl rfl rfl rfl rfl rfl rfl rfl rfl (by (try simp only [List.map_cons, List.map_nil, cellsOf]); (try rfl))) rfl ?_))
     | ((with_reducible refine is_gd ?_); (first | refine awpL_run rfl rfl rfl (by first | with_reducible rfl | with_reducible assumption) ?_ | refine awpL_passT rfl rfl rfl rfl (by first | with_reducible rfl | with_reducible assumption) ?_ | refine awpL_passF rfl rfl rfl rfl (by first | with_reducible rfl | with_reducible assumption) ?_ | refine awpL_passU rfl rfl rfl rfl ?_ | fail))
     | ((with_reducible refine is_nil ?_); refine awpL_nil ?_)
     | ((with_reducible refine is_then ?_); (first | refine thenQ_n ?_ | refine thenQ_r ?_ | refine thenQ_e ?_ | fail))
     | ((with_reducible refine is_block ?_); (first | refine blockQ_n ?_ | refine blockQ_r ?_ | refine blockQ_e ?_ | refine blockQ_o rfl ?_ | fail))
     | ((with_reducible refine is_draw ?_); (first | refine awp_drawA (by kernel_rfl) rfl rfl (by repeat' (first | exact Strip.nil | apply Strip.keep rfl | apply Strip.drop rfl)) ?_ | fail))
     | ((with_reducible refine isD_un ?_); (first | ((with_reducible refine isD_st ?_); refine awpD_sS rfl (by (try simp only [List.set_cons_zero, List.set_cons_succ, List.nil_append, List.cons_append, List.append_nil, cellsOf, List.take_zero, List.drop_zero, List.take_succ_cons, List.drop_succ_cons, Nat.zero_add, Nat.reduceAdd, List.drop_nil, List.map_cons, List.map_nil]); (try rfl)) (ev_st_lp rfl rfl rfl rfl rfl rfl rfl (by (try simp only [List.set_cons_zero, List.set_cons_succ, List.nil_append, List.cons_append, List.append_nil, cellsOf, List.take_zero, List.drop_zero, List.take_succ_cons, List.drop_succ_cons, Nat.zero_add, Nat.reduceAdd, List.drop_nil, List.map_cons, List.map_nil]); (try rfl))) rfl (by (try simp only [List.nil_append, List.cons_append]); (try rfl)) ?_) | ((with_reducible refine isD_al ?_); refine awpD_nw rfl (by repeat' (first | exact Msk.nil | apply Msk.base | apply Msk.vis rfl | apply Msk.hid rfl)) (ev_alloc rfl rfl (by (try simp only [List.length_nil, List.length_cons, Nat.reduceAdd]); (try rfl)) (by (try simp only [List.set_cons_zero, List.set_cons_succ, List.nil_append, List.cons_append, List.append_nil, cellsOf, List.take_zero, List.drop_zero, List.take_succ_cons, List.drop_succ_cons, Nat.zero_add, Nat.reduceAdd, List.drop_nil, List.map_cons, List.map_nil]); (try rfl))) rfl rfl rfl rfl rfl (by (try simp only [List.set_cons_zero, List.set_cons_succ, List.nil_append, List.cons_append, List.append_nil, cellsOf, List.take_zero, List.drop_zero, List.take_succ_cons, List.drop_succ_cons, Nat.zero_add, Nat.reduceAdd, List.drop_nil, List.map_cons, List.map_nil]); (try rfl)) (by (try simp only [List.nil_append, List.cons_append]); (try rfl)) ?_) | ((with_reducible refine isDs_move ?_); (first | refine awpD_un (as_ev (fun _ => ev_move rfl) rfl rfl) (by (try simp only [List.nil_append, List.cons_append]); (try rfl)) ?_ | fail)) | ((with_reducible refine isDs_bin ?_); (first | refine awpD_un (as_ev (fun _ => ev_add rfl rfl (by omega)) rfl rfl) (by (try simp only [List.nil_append, List.cons_append]); (try rfl)) ?_ | refine awpD_un (as_ev (fun _ => ev_sub rfl rfl (by omega)) rfl rfl) (by (try simp only [List.nil_append, List.cons_append]); (try rfl)) ?_ | refine awpD_un (as_ev (fun _ => ev_bin rfl rfl rfl) rfl rfl) (by (try simp only [List.nil_append, List.cons_append]); (try rfl)) ?_ | refine awpD_un (as_ev (fun _ => ev_eq_bool rfl rfl rfl rfl) rfl rfl) (by (try simp only [List.nil_append, List.cons_append]); (try rfl)) ?_ | fail)) | ((with_reducible refine isDs_fa ?_); (first | refine awpD_un (as_ev (fun _ => ev_fa_fp rfl rfl rfl rfl rfl rfl) rfl rfl) (by (try simp only [List.nil_append, List.cons_append]); (try rfl)) ?_ | refine awpD_un (as_pure rfl (by repeat' (first | exact Msk.nil | apply Msk.base | apply Msk.vis rfl | apply Msk.hid rfl)) (ev_fa_lp rfl rfl rfl rfl rfl rfl rfl) rfl rfl rfl) (by (try simp only [List.nil_append, List.cons_append]); (try rfl)) ?_ | refine awpD_un (as_pure rfl (by repeat' (first | exact Msk.nil | apply Msk.base | apply Msk.vis rfl | apply Msk.hid rfl)) (ev_fa_ep rfl rfl rfl rfl rfl rfl rfl) rfl rfl rfl) (by (try simp only [List.nil_append, List.cons_append]); (try rfl)) ?_ | fail)) | ((with_reducible refine isDs_load ?_); (first | refine awpD_un (as_ev (fun _ => ev_load_agg rfl rfl rfl rfl) rfl rfl) (by (try simp only [List.nil_append, List.cons_append]); (try rfl)) ?_ | refine awpD_un (as_ev (fun _ => ev_load_sub rfl rfl rfl rfl rfl) rfl rfl) (by (try simp only [List.nil_append, List.cons_append]); (try rfl)) ?_ | refine awpD_un (as_ev (fun _ => ev_load_one rfl rfl rfl rfl) rfl rfl) (by (try simp only [List.nil_append, List.cons_append]); (try rfl)) ?_ | refine awpD_un (as_pure rfl (by repeat' (first | exact Msk.nil | apply Msk.base | apply Msk.vis rfl | apply Msk.hid rfl)) (ev_ll_agg rfl rfl rfl rfl rfl rfl rfl) rfl rfl rfl) (by (try simp only [List.nil_append, List.cons_append]); (try rfl)) ?_ | refine awpD_un (as_pure rfl (by repeat' (first | exact Msk.nil | apply Msk.base | apply Msk.vis rfl | apply Msk.hid rfl)) (ev_ll_lag rfl rfl rfl rfl rfl rfl) rfl rfl rfl) (by (try simp only [List.nil_append, List.cons_append]); (try rfl)) ?_ | refine awpD_un (as_pure rfl (by repeat' (first | exact Msk.nil | apply Msk.base | apply Msk.vis rfl | apply Msk.hid rfl)) (ev_ll_one rfl rfl rfl rfl rfl) rfl rfl rfl) (by (try simp only [List.nil_append, List.cons_append]); (try rfl)) ?_ | refine awpD_un (as_pure rfl (by repeat' (first | exact Msk.nil | apply Msk.base | apply Msk.vis rfl | apply Msk.hid rfl)) (ev_el_one rfl rfl rfl rfl (by with_reducible assumption) rfl) rfl rfl rfl) (by (try simp only [List.nil_append, List.cons_append]); (try rfl)) ?_ | fail)) | ((with_reducible refine isDs_pick ?_); (first | refine awpD_un (as_ev (fun _ => ev_pick_t rfl (by first | with_reducible rfl | with_reducible assumption) rfl) rfl rfl) (by (try simp only [List.nil_append, List.cons_append]); (try rfl)) ?_ | refine awpD_un (as_ev (fun _ => ev_pick_f rfl (by first | with_reducible rfl | with_reducible assumption) rfl) rfl rfl) (by (try simp only [List.nil_append, List.cons_append]); (try rfl)) ?_ | fail)) | ((with_reducible refine isDs_assign ?_); (first | refine awpD_un (as_ev (fun _ => ev_assign rfl) rfl rfl) (by (try simp only [List.nil_append, List.cons_append]); (try rfl)) ?_ | fail)) | ((with_reducible refine isDs_call ?_); (first | refine awpD_un (as_call rfl rfl (by assumption) rfl) (by (try simp only [List.nil_append, List.cons_append]); (try rfl)) ?_ | refine awpD_un (as_ev (fun _ => ev_len rfl rfl rfl rfl rfl) rfl rfl) (by (try simp only [List.nil_append, List.cons_append]); (try rfl)) ?_ | refine awpD_un (as_ev (fun _ => ev_max rfl rfl) rfl rfl) (by (try simp only [List.nil_append, List.cons_append]); (try rfl)) ?_ | refine awpD_un (as_ev (fun _ => ev_min rfl rfl) rfl rfl) (by (try simp only [List.nil_append, List.cons_append]); (try rfl)) ?_ | refine awpD_un (as_pure rfl (by repeat' (first | exact Msk.nil | apply Msk.base | apply Msk.vis rfl | apply Msk.hid rfl)) (ev_len_os rfl rfl rfl rfl rfl) rfl rfl rfl) (by (try simp only [List.nil_append, List.cons_append]); (try rfl)) ?_ | refine awpD_un (as_ev2 (fun _ => ev_append_zf rfl rfl rfl rfl rfl rfl rfl rfl rfl rfl rfl rfl rfl (by simp only [List.length_map, List.length_cons, List.length_nil]; omega) rfl) rfl rfl) (by (try simp only [List.nil_append, List.cons_append]); (try rfl)) ?_ | fail)) | refine awpD_un (as_ev (fun _ => ev_ia_fs rfl rfl rfl rfl rfl rfl (by with_reducible assumption)) rfl rfl) (by (try simp only [List.nil_append, List.cons_append]); (try rfl)) ?_ | refine awpD_un (as_ev (fun _ => ev_not rfl) rfl rfl) (by (try simp only [List.nil_append, List.cons_append]); (try rfl)) ?_ | refine awpD_un (as_ev (fun _ => ev_extract rfl rfl) rfl rfl) (by (try simp only [List.nil_append, List.cons_append]); (try rfl)) ?_ | refine awpD_un (as_ev (fun _ => ev_index_str rfl rfl rfl rfl (by with_reducible assumption)) rfl rfl) (by (try simp only [List.nil_append, List.cons_append]); (try rfl)) ?_ | refine awpD_un (as_ev (fun _ => ev_build rfl rfl rfl rfl rfl rfl rfl) rfl rfl) (by (try simp only [List.nil_append, List.cons_append]); (try rfl)) ?_ | refine awpD_un (as_ev (fun _ => ev_slice_fs rfl rfl rfl rfl rfl rfl rfl (by with_reducible assumption) rfl rfl) rfl rfl) (by (try simp only [List.nil_append, List.cons_append]); (try rfl)) ?_ | refine awpD_un (as_ev (fun _ => ev_makeFunc rfl rfl) rfl rfl) (by (try simp only [List.nil_append, List.cons_append]); (try rfl)) ?_ | refine awpD_un (as_ev (fun _ => ev_nilCheck_fp rfl) rfl rfl) (by (try simp only [List.nil_append, List.cons_append]); (try rfl)) ?_ | refine awpD_un (as_ev (fun _ => ev_index_arr rfl rfl rfl rfl rfl rfl rfl (by with_reducible assumption)) rfl rfl) (by (try simp only [List.nil_append, List.cons_append]); (try rfl)) ?_ | refine awpD_un (as_pure rfl (by repeat' (first | exact Msk.nil | apply Msk.base | apply Msk.vis rfl | apply Msk.hid rfl)) (ev_ia_os rfl rfl rfl rfl rfl rfl rfl (by with_reducible assumption)) rfl rfl rfl) (by (try simp only [List.nil_append, List.cons_append]); (try rfl)) ?_ | refine awpD_un (as_pure rfl (by repeat' (first | exact Msk.nil | apply Msk.base | apply Msk.vis rfl | apply Msk.hid rfl)) (ev_build_lag rfl rfl rfl rfl rfl rfl) rfl rfl rfl) (by (try simp only [List.nil_append, List.cons_append]); (try rfl)) ?_ | refine awpD_un (as_pure rfl (by repeat' (first | exact Msk.nil | apply Msk.base | apply Msk.vis rfl | apply Msk.hid rfl)) (ev_nilCheck_lp rfl rfl) rfl rfl rfl) (by (try simp only [List.nil_append, List.cons_append]); (try rfl)) ?_ | refine awpD_un (as_ev2 (fun _ => ev_bslice_z rfl rfl rfl rfl rfl rfl rfl) rfl rfl) (by (try simp only [List.nil_append, List.cons_append]); (try rfl)) ?_ | refine awpD_un (as_ev2 (fun _ => ev_bslice_in rfl rfl rfl rfl rfl rfl rfl rfl rfl rfl rfl rfl (by (try simp only [List.map_cons, List.map_nil, cellsOf]); (try rfl))) rfl rfl) (by (try simp only [List.nil_append, List.cons_append]); (try rfl)) ?_ | fail))
     | ((with_reducible refine isD_gd ?_); (first | refine awpD_pT rfl rfl (by first | with_reducible rfl | with_reducible assumption) (by (try simp only [List.nil_append, List.cons_append]); (try rfl)) ?_ | refine awpD_pF rfl rfl (by first | with_reducible rfl | with_reducible assumption) (by (try simp only [List.nil_append, List.cons_append]); (try rfl)) ?_ | refine awpD_pU rfl rfl (by (try simp only [List.nil_append, List.cons_append]); (try rfl)) ?_ | (refine isD_go rfl rfl (by first | with_reducible rfl | with_reducible assumption) ?_; (first | ((with_reducible refine isDs_move ?_); (first | refine awpD_gd rfl rfl (by first | with_reducible rfl | with_reducible assumption) (as_ev (fun _ => ev_move rfl) rfl rfl) (by (try simp only [List.nil_append, List.cons_append]); (try rfl)) ?_ | fail)) | ((with_reducible refine isDs_bin ?_); (first | refine awpD_gd rfl rfl (by first | with_reducible rfl | with_reducible assumption) (as_ev (fun _ => ev_add rfl rfl (by omega)) rfl rfl) (by (try simp only [List.nil_append, List.cons_append]); (try rfl)) ?_ | refine awpD_gd rfl rfl (by first | with_reducible rfl | with_reducible assumption) (as_ev (fun _ => ev_sub rfl rfl (by omega)) rfl rfl) (by (try simp only [List.nil_append, List.cons_append]); (try rfl)) ?_ | refine awpD_gd rfl rfl (by first | with_reducible rfl | with_reducible assumption) (as_ev (fun _ => ev_bin rfl rfl rfl) rfl rfl) (by (try simp only [List.nil_append, List.cons_append]); (try rfl)) ?_ | refine awpD_gd rfl rfl (by first | with_reducible rfl | with_reducible assumption) (as_ev (fun _ => ev_eq_bool rfl rfl rfl rfl) rfl rfl) (by (try simp only [List.nil_append, List.cons_append]); (try rfl)) ?_ | fail)) | ((with_reducible refine isDs_fa ?_); (first | refine awpD_gd rfl rfl (by first | with_reducible rfl | with_reducible assumption) (as_ev (fun _ => ev_fa_fp rfl rfl rfl rfl rfl rfl) rfl rfl) (by (try simp only [List.nil_append, List.cons_append]); (try rfl)) ?_ | refine awpD_gd rfl rfl (by first | with_reducible rfl | with_reducible assumption) (as_pure rfl (by repeat' (first | exact Msk.nil | apply Msk.base | apply Msk.vis rfl | apply Msk.hid rfl)) (ev_fa_lp rfl rfl rfl rfl rfl rfl rfl) rfl rfl rfl) (by (try simp only [List.nil_append, List.cons_append]); (try rfl)) ?_ | refine awpD_gd rfl rfl (by first | with_reducible rfl | with_reducible assumption) (as_pure rfl (by repeat' (first | exact Msk.nil | apply Msk.base | apply Msk.vis rfl | apply Msk.hid rfl)) (ev_fa_ep rfl rfl rfl rfl rfl rfl rfl) rfl rfl rfl) (by (try simp only [List.nil_append, List.cons_append]); (try rfl)) ?_ | fail)) | ((with_reducible refine isDs_load ?_); (first | refine awpD_gd rfl rfl (by first | with_reducible rfl | with_reducible assumption) (as_ev (fun _ => ev_load_agg rfl rfl rfl rfl) rfl rfl) (by (try simp only [List.nil_append, List.cons_append]); (try rfl)) ?_ | refine awpD_gd rfl rfl (by first | with_reducible rfl | with_reducible assumption) (as_ev (fun _ => ev_load_sub rfl rfl rfl rfl rfl) rfl rfl) (by (try simp only [List.nil_append, List.cons_append]); (try rfl)) ?_ | refine awpD_gd rfl rfl (by first | with_reducible rfl | with_reducible assumption) (as_ev (fun _ => ev_load_one rfl rfl rfl rfl) rfl rfl) (by (try simp only [List.nil_append, List.cons_append]); (try rfl)) ?_ | refine awpD_gd rfl rfl (by first | with_reducible rfl | with_reducible assumption) (as_pure rfl (by repeat' (first | exact Msk.nil | apply Msk.base | apply Msk.vis rfl | apply Msk.hid rfl)) (ev_ll_agg rfl rfl rfl rfl rfl rfl rfl) rfl rfl rfl) (by (try simp only [List.nil_append, List.cons_append]); (try rfl)) ?_ | refine awpD_gd rfl rfl (by first | with_reducible rfl | with_reducible assumption) (as_pure rfl (by repeat' (first | exact Msk.nil | apply Msk.base | apply Msk.vis rfl | apply Msk.hid rfl)) (ev_ll_lag rfl rfl rfl rfl rfl rfl) rfl rfl rfl) (by (try simp only [List.nil_append, List.cons_append]); (try rfl)) ?_ | refine awpD_gd rfl rfl (by first | with_reducible rfl | with_reducible assumption) (as_pure rfl (by repeat' (first | exact Msk.nil | apply Msk.base | apply Msk.vis rfl | apply Msk.hid rfl)) (ev_ll_one rfl rfl rfl rfl rfl) rfl rfl rfl) (by (try simp only [List.nil_append, List.cons_append]); (try rfl)) ?_ | refine awpD_gd rfl rfl (by first | with_reducible rfl | with_reducible assumption) (as_pure rfl (by repeat' (first | exact Msk.nil | apply Msk.base | apply Msk.vis rfl | apply Msk.hid rfl)) (ev_el_one rfl rfl rfl rfl (by with_reducible assumption) rfl) rfl rfl rfl) (by (try simp only [List.nil_append, List.cons_append]); (try rfl)) ?_ | fail)) | ((with_reducible refine isDs_pick ?_); (first | refine awpD_gd rfl rfl (by first | with_reducible rfl | with_reducible assumption) (as_ev (fun _ => ev_pick_t rfl (by first | with_reducible rfl | with_reducible assumption) rfl) rfl rfl) (by (try simp only [List.nil_append, List.cons_append]); (try rfl)) ?_ | refine awpD_gd rfl rfl (by first | with_reducible rfl | with_reducible assumption) (as_ev (fun _ => ev_pick_f rfl (by first | with_reducible rfl | with_reducible assumption) rfl) rfl rfl) (by (try simp only [List.nil_append, List.cons_append]); (try rfl)) ?_ | fail)) | ((with_reducible refine isDs_assign ?_); (first | refine awpD_gd rfl rfl (by first | with_reducible rfl | with_reducible assumption) (as_ev (fun _ => ev_assign rfl) rfl rfl) (by (try simp only [List.nil_append, List.cons_append]); (try rfl)) ?_ | fail)) | ((with_reducible refine isDs_call ?_); (first | refine awpD_gd rfl rfl (by first | with_reducible rfl | with_reducible assumption) (as_call rfl rfl (by assumption) rfl) (by (try simp only [List.nil_append, List.cons_append]); (try rfl)) ?_ | refine awpD_gd rfl rfl (by first | with_reducible rfl | with_reducible assumption) (as_ev (fun _ => ev_len rfl rfl rfl rfl rfl) rfl rfl) (by (try simp only [List.nil_append, List.cons_append]); (try rfl)) ?_ | refine awpD_gd rfl rfl (by first | with_reducible rfl | with_reducible assumption) (as_ev (fun _ => ev_max rfl rfl) rfl rfl) (by (try simp only [List.nil_append, List.cons_append]); (try rfl)) ?_ | refine awpD_gd rfl rfl (by first | with_reducible rfl | with_reducible assumption) (as_ev (fun _ => ev_min rfl rfl) rfl rfl) (by (try simp only [List.nil_append, List.cons_append]); (try rfl)) ?_ | refine awpD_gd rfl rfl (by first | with_reducible rfl | with_reducible assumption) (as_pure rfl (by repeat' (first | exact Msk.nil | apply Msk.base | apply Msk.vis rfl | apply Msk.hid rfl)) (ev_len_os rfl rfl rfl rfl rfl) rfl rfl rfl) (by (try simp only [List.nil_append, List.cons_append]); (try rfl)) ?_ | refine awpD_gd rfl rfl (by first | with_reducible rfl | with_reducible assumption) (as_ev2 (fun _ => ev_append_zf rfl rfl rfl rfl rfl rfl rfl rfl rfl rfl rfl rfl rfl (by simp only [List.length_map, List.length_cons, List.length_nil]; omega) rfl) rfl rfl) (by (try simp only [List.nil_append, List.cons_append]); (try rfl)) ?_ | fail)) | refine awpD_gd rfl rfl (by first | with_reducible rfl | with_reducible assumption) (as_ev (fun _ => ev_ia_fs rfl rfl rfl rfl rfl rfl (by with_reducible assumption)) rfl rfl) (by (try simp only [List.nil_append, List.cons_append]); (try rfl)) ?_ | refine awpD_gd rfl rfl (by first | with_reducible rfl | with_reducible assumption) (as_ev (fun _ => ev_not rfl) rfl rfl) (by (try simp only [List.nil_append, List.cons_append]); (try rfl)) ?_ | refine awpD_gd rfl rfl (by first | with_reducible rfl | with_reducible assumption) (as_ev (fun _ => ev_extract rfl rfl) rfl rfl) (by (try simp only [List.nil_append, List.cons_append]); (try rfl)) ?_ | refine awpD_gd rfl rfl (by first | with_reducible rfl | with_reducible assumption) (as_ev (fun _ => ev_index_str rfl rfl rfl rfl (by with_reducible assumption)) rfl rfl) (by (try simp only [List.nil_append, List.cons_append]); (try rfl)) ?_ | refine awpD_gd rfl rfl (by first | with_reducible rfl | with_reducible assumption) (as_ev (fun _ => ev_build rfl rfl rfl rfl rfl rfl rfl) rfl rfl) (by (try simp only [List.nil_append, List.cons_append]); (try rfl)) ?_ | refine awpD_gd rfl rfl (by first | with_reducible rfl | with_reducible assumption) (as_ev (fun _ => ev_slice_fs rfl rfl rfl rfl rfl rfl rfl (by with_reducible assumption) rfl rfl) rfl rfl) (by (try simp only [List.nil_append, List.cons_append]); (try rfl)) ?_ | refine awpD_gd rfl rfl (by first | with_reducible rfl | with_reducible assumption) (as_ev (fun _ => ev_makeFunc rfl rfl) rfl rfl) (by (try simp only [List.nil_append, List.cons_append]); (try rfl)) ?_ | refine awpD_gd rfl rfl (by first | with_reducible rfl | with_reducible assumption) (as_ev (fun _ => ev_nilCheck_fp rfl) rfl rfl) (by (try simp only [List.nil_append, List.cons_append]); (try rfl)) ?_ | refine awpD_gd rfl rfl (by first | with_reducible rfl | with_reducible assumption) (as_ev (fun _ => ev_index_arr rfl rfl rfl rfl rfl rfl rfl (by with_reducible assumption)) rfl rfl) (by (try simp only [List.nil_append, List.cons_append]); (try rfl)) ?_ | refine awpD_gd rfl rfl (by first | with_reducible rfl | with_reducible assumption) (as_pure rfl (by repeat' (first | exact Msk.nil | apply Msk.base | apply Msk.vis rfl | apply Msk.hid rfl)) (ev_ia_os rfl rfl rfl rfl rfl rfl rfl (by with_reducible assumption)) rfl rfl rfl) (by (try simp only [List.nil_append, List.cons_append]); (try rfl)) ?_ | refine awpD_gd rfl rfl (by first | with_reducible rfl | with_reducible assumption) (as_pure rfl (by repeat' (first | exact Msk.nil | apply Msk.base | apply Msk.vis rfl | apply Msk.hid rfl)) (ev_build_lag rfl rfl rfl rfl rfl rfl) rfl rfl rfl) (by (try simp only [List.nil_append, List.cons_append]); (try rfl)) ?_ | refine awpD_gd rfl rfl (by first | with_reducible rfl | with_reducible assumption) (as_pure rfl (by repeat' (first | exact Msk.nil | apply Msk.base | apply Msk.vis rfl | apply Msk.hid rfl)) (ev_nilCheck_lp rfl rfl) rfl rfl rfl) (by (try simp only [List.nil_append, List.cons_append]); (try rfl)) ?_ | refine awpD_gd rfl rfl (by first | with_reducible rfl | with_reducible assumption) (as_ev2 (fun _ => ev_bslice_z rfl rfl rfl rfl rfl rfl rfl) rfl rfl) (by (try simp only [List.nil_append, List.cons_append]); (try rfl)) ?_ | refine awpD_gd rfl rfl (by first | with_reducible rfl | with_reducible assumption) (as_ev2 (fun _ => ev_bslice_in rfl rfl rfl rfl rfl rfl rfl rfl rfl rfl rfl rfl (by (try simp only [List.map_cons, List.map_nil, cellsOf]); (try rfl))) rfl rfl) (by (try simp only [List.nil_append, List.cons_append]); (try rfl)) ?_ | fail)) | fail))
     | ((with_reducible refine isD_nl ?_); refine awpD_done (by (try simp only [List.nil_append, List.cons_append]); (try rfl)) (by (try simp only [List.set_cons_zero, List.set_cons_succ, List.nil_append, List.cons_append, List.append_nil, cellsOf, List.take_zero, List.drop_zero, List.take_succ_cons, List.drop_succ_cons, Nat.zero_add, Nat.reduceAdd, List.drop_nil, List.map_cons, List.map_nil]); (try rfl)) ?_)
     | ((with_reducible refine is_awp ?_); (first | refine awp_seq ?_ | refine awp_ret ?_ | refine awp_skip ?_ | refine awp_exit ?_ | refine awp_label ?_ | refine awp_block ?_ | refine awp_region ?_ | refine awp_cond_t rfl (by first | with_reducible rfl | with_reducible assumption) ?_ | refine awp_cond_f rfl (by first | with_reducible rfl | with_reducible assumption) ?_ | fail))
     | fail)
    exact k.out) : A := h (.of M) ⟨k⟩
theorem runn (M : List Nat) {A B : Prop} (k : B) (h : Mut M → Left B → A := by
    intro m k
    repeat' (first
     | ((with_reducible refine is_un ?_); (first | ((with_reducible refine is_move ?_); (first | refine awpL_ev (ev_move rfl) rfl ?_ | fail)) | ((with_reducible refine is_bin ?_); (first | refine awpL_ev (ev_add rfl rfl (by omega)) rfl ?_ | refine awpL_ev (ev_sub rfl rfl (by omega)) rfl ?_ | refine awpL_ev (ev_bin rfl rfl rfl) rfl ?_ | refine awpL_ev (ev_eq_bool rfl rfl rfl rfl) rfl ?_ | fail)) | ((with_reducible refine is_fa ?_); (first | refine awpL_ev (ev_fa_fp rfl rfl rfl rfl rfl rfl) rfl ?_ | refine awpL_ev (ev_fa_lp rfl rfl rfl rfl rfl rfl rfl) rfl ?_ | refine awpL_ev (ev_fa_ep rfl rfl rfl rfl rfl rfl rfl) rfl ?_ | fail)) | ((with_reducible refine is_load ?_); (first | refine awpL_ev (ev_load_agg rfl rfl rfl rfl) rfl ?_ | refine awpL_ev (ev_load_sub rfl rfl rfl rfl rfl) rfl ?_ | refine awpL_ev (ev_load_one rfl rfl rfl rfl) rfl ?_ | refine awpL_ev (ev_ll_agg rfl rfl rfl rfl rfl rfl rfl) rfl ?_ | refine awpL_ev (ev_ll_lag rfl rfl rfl rfl rfl rfl) rfl ?_ | refine awpL_ev (ev_ll_one rfl rfl rfl rfl rfl) rfl ?_ | refine awpL_ev (ev_el_one rfl rfl rfl rfl (by with_reducible assumption) rfl) rfl ?_ | fail)) | ((with_reducible refine is_pick ?_); (first | refine awpL_ev (ev_pick_t rfl (by first | with_reducible rfl | with_reducible assumption) rfl) rfl ?_ | refine awpL_ev (ev_pick_f rfl (by first | with_reducible rfl | with_reducible assumption) rfl) rfl ?_ | fail)) | ((with_reducible refine is_assign ?_); (first | refine awpL_ev (ev_assign rfl) rfl ?_ | fail)) | ((with_reducible refine is_call ?_); (first | refine awpL_call rfl rfl (by assumption) rfl ?_ | refine awpL_ev (ev_len rfl rfl rfl rfl rfl) rfl ?_ | refine awpL_ev (ev_max rfl rfl) rfl ?_ | refine awpL_ev (ev_min rfl rfl) rfl ?_ | refine awpL_ev (ev_len_os rfl rfl rfl rfl rfl) rfl ?_ | refine awpL_ev2 (ev_append_zf rfl rfl rfl rfl rfl rfl rfl rfl rfl rfl rfl rfl rfl (by simp only [List.length_map, List.length_cons, List.length_nil]; omega) rfl) rfl ?_ | fail)) | ((with_reducible refine is_store ?_); (first | refine awpL_stMm m rfl rfl rfl rfl rfl rfl rfl rfl rfl (by (try simp only [cellsOf, List.map_cons, List.map_nil]); (try rfl)) (by (try simp only [List.set_cons_zero, List.set_cons_succ, List.nil_append, List.cons_append, List.append_nil, cellsOf, List.take_zero, List.drop_zero, List.take_succ_cons, List.drop_succ_cons, Nat.zero_add, Nat.reduceAdd, List.drop_nil, List.map_cons, List.map_nil]); (try rfl)) ?_ | refine awpL_evS (ev_st_lp rfl rfl rfl rfl rfl rfl rfl (by (try simp only [List.set_cons_zero, List.set_cons_succ, List.nil_append, List.cons_append, List.append_nil, cellsOf, List.take_zero, List.drop_zero, List.take_succ_cons, List.drop_succ_cons, Nat.zero_add, Nat.reduceAdd, List.drop_nil, List.map_cons, List.map_nil]); (try rfl))) ?_ | fail)) | ((with_reducible refine is_alloc ?_); (first | refine awpL_ev2 (ev_alloc rfl rfl (by (try simp only [List.length_nil, List.length_cons, Nat.reduceAdd]); (try rfl)) (by (try simp only [List.set_cons_zero, List.set_cons_succ, List.nil_append, List.cons_append, List.append_nil, cellsOf, List.take_zero, List.drop_zero, List.take_succ_cons, List.drop_succ_cons, Nat.zero_add, Nat.reduceAdd, List.drop_nil, List.map_cons, List.map_nil]); (try rfl))) rfl ?_ | fail)) | ((with_reducible refine is_box ?_); (first | refine awpL_boxMm m rfl rfl rfl rfl (by (try simp only [cellsOf, List.map_cons, List.map_nil]); (try rfl)) rfl ?_ | refine awpL_ev2 (ev_box rfl rfl (by (try simp only [List.length_nil, List.length_cons, Nat.reduceAdd]); (try rfl)) (by (try simp only [List.set_cons_zero, List.set_cons_succ, List.nil_append, List.cons_append, List.append_nil, cellsOf, List.take_zero, List.drop_zero, List.take_succ_cons, List.drop_succ_cons, Nat.zero_add, Nat.reduceAdd, List.drop_nil, List.map_cons, List.map_nil]); (try rfl))) rfl ?_ | fail)) | refine awpL_ev (ev_ia_fs rfl rfl rfl rfl rfl rfl (by with_reducible assumption)) rfl ?_ | refine awpL_ev (ev_not rfl) rfl ?_ | refine awpL_ev (ev_extract rfl rfl) rfl ?_ | refine awpL_ev (ev_index_str rfl rfl rfl rfl (by with_reducible assumption)) rfl ?_ | refine awpL_ev (ev_build rfl rfl rfl rfl rfl rfl rfl) rfl ?_ | refine awpL_ev (ev_slice_fs rfl rfl rfl rfl rfl rfl rfl (by with_reducible assumption) rfl rfl) rfl ?_ | refine awpL_ev (ev_makeFunc rfl rfl) rfl ?_ | refine awpL_ev (ev_nilCheck_fp rfl) rfl ?_ | refine awpL_ev (ev_index_arr rfl rfl rfl rfl rfl rfl rfl (by with_reducible assumption)) rfl ?_ | refine awpL_ev (ev_ia_os rfl rfl rfl rfl rfl rfl rfl (by with_reducible assumption)) rfl ?_ | refine awpL_ev (ev_build_lag rfl rfl rfl rfl rfl rfl) rfl ?_ | refine awpL_ev (ev_nilCheck_lp rfl rfl) rfl ?_ | refine awpL_ev2 (ev_bslice_z rfl rfl rfl rfl rfl rfl rfl) rfl ?_ | refine awpL_ev2 (ev_bslice_in rfl rfl rfl rfl rfl rfl rfl rfl rfl rfl rfl rfl (by (try simp only [List.map_cons, List.map_nil, cellsOf]); (try rfl))) rfl ?_))
     | ((with_reducible refine is_gd ?_); (first | refine awpL_run rfl rfl rfl (by first | with_reducible rfl | with_reducible assumption) ?_ | refine awpL_passT rfl rfl rfl rfl (by first | with_reducible rfl | with_reducible assumption) ?_ | refine awpL_passF rfl rfl rfl rfl (by first | with_reducible rfl | with_reducible assumption) ?_ | refine awpL_passU rfl rfl rfl rfl ?_ | fail))
     | ((with_reducible refine is_nil ?_); refine awpL_nil ?_)
     | ((with_reducible refine is_then ?_); (first | refine thenQ_n ?_ | refine thenQ_r ?_ | refine thenQ_e ?_ | fail))
     | ((with_reducible refine is_block ?_); (first | refine blockQ_n ?_ | refine blockQ_r ?_ | refine blockQ_e ?_ | refine blockQ_o rfl ?_ | fail))
     | ((with_reducible refine is_awp ?_); (first | refine awp_seq ?_ | refine awp_ret ?_ | refine awp_skip ?_ | refine awp_exit ?_ | refine awp_label ?_ | refine awp_block ?_ | refine awp_region ?_ | refine awp_cond_t rfl (by first | with_reducible rfl | with_reducible assumption) ?_ | refine awp_cond_f rfl (by first | with_reducible rfl | with_reducible assumption) ?_ | fail))
     | fail)
    exact k.out) : A := h (.of M) ⟨k⟩
theorem stn (M : List Nat) {A B : Prop} (k : B) (h : Mut M → Left B → A := by
    intro m k
    (first
     | ((with_reducible refine is_un ?_); (first | ((with_reducible refine is_move ?_); (first | refine awpL_ev (ev_move rfl) rfl ?_ | fail)) | ((with_reducible refine is_bin ?_); (first | refine awpL_ev (ev_add rfl rfl (by omega)) rfl ?_ | refine awpL_ev (ev_sub rfl rfl (by omega)) rfl ?_ | refine awpL_ev (ev_bin rfl rfl rfl) rfl ?_ | refine awpL_ev (ev_eq_bool rfl rfl rfl rfl) rfl ?_ | fail)) | ((with_reducible refine is_fa ?_); (first | refine awpL_ev (ev_fa_fp rfl rfl rfl rfl rfl rfl) rfl ?_ | refine awpL_ev (ev_fa_lp rfl rfl rfl rfl rfl rfl rfl) rfl ?_ | refine awpL_ev (ev_fa_ep rfl rfl rfl rfl rfl rfl rfl) rfl ?_ | fail)) | ((with_reducible refine is_load ?_); (first | refine awpL_ev (ev_load_agg rfl rfl rfl rfl) rfl ?_ | refine awpL_ev (ev_load_sub rfl rfl rfl rfl rfl) rfl ?_ | refine awpL_ev (ev_load_one rfl rfl rfl rfl) rfl ?_ | refine awpL_ev (ev_ll_agg rfl rfl rfl rfl rfl rfl rfl) rfl ?_ | refine awpL_ev (ev_ll_lag rfl rfl rfl rfl rfl rfl) rfl ?_ | refine awpL_ev (ev_ll_one rfl rfl rfl rfl rfl) rfl ?_ | refine awpL_ev (ev_el_one rfl rfl rfl rfl (by with_reducible assumption) rfl) rfl ?_ | fail)) | ((with_reducible refine is_pick ?_); (first | refine awpL_ev (ev_pick_t rfl (by first | with_reducible rfl | with_reducible assumption) rfl) rfl ?_ | refine awpL_ev (ev_pick_f rfl (by first | with_reducible rfl | with_reducible assumption) rfl) rfl ?_ | fail)) | ((with_reducible refine is_assign ?_); (first | refine awpL_ev (ev_assign rfl) rfl ?_ | fail)) | ((with_reducible refine is_call ?_); (first | refine awpL_call rfl rfl (by assumption) rfl ?_ | refine awpL_ev (ev_len rfl rfl rfl rfl rfl) rfl ?_ | refine awpL_ev (ev_max rfl rfl) rfl ?_ | refine awpL_ev (ev_min rfl rfl) rfl ?_ | refine awpL_ev (ev_len_os rfl rfl rfl rfl rfl) rfl ?_ | refine awpL_ev2 (ev_append_zf rfl rfl rfl rfl rfl rfl rfl rfl rfl rfl rfl rfl rfl (by simp only [List.length_map, List.length_cons, List.length_nil]; omega) rfl) rfl ?_ | fail)) | ((with_reducible refine is_store ?_); (first | refine awpL_stMm m rfl rfl rfl rfl rfl rfl rfl rfl rfl (by (try simp only [cellsOf, List.map_cons, List.map_nil]); (try rfl)) (by (try simp only [List.set_cons_zero, List.set_cons_succ, List.nil_append, List.cons_append, List.append_nil, cellsOf, List.take_zero, List.drop_zero, List.take_succ_cons, List.drop_succ_cons, Nat.zero_add, Nat.reduceAdd, List.drop_nil, List.map_cons, List.map_nil]); (try rfl)) ?_ | refine awpL_evS (ev_st_lp rfl rfl rfl rfl rfl rfl rfl (by (try simp only [List.set_cons_zero, List.set_cons_succ, List.nil_append, List.cons_append, List.append_nil, cellsOf, List.take_zero, List.drop_zero, List.take_succ_cons, List.drop_succ_cons, Nat.zero_add, Nat.reduceAdd, List.drop_nil, List.map_cons, List.map_nil]); (try rfl))) ?_ | fail)) | ((with_reducible refine is_alloc ?_); (first | refine awpL_ev2 (ev_alloc rfl rfl (by (try simp only [List.length_nil, List.length_cons, Nat.reduceAdd]); (try rfl)) (by (try simp only [List.set_cons_zero, List.set_cons_succ, List.nil_append, List.cons_append, List.append_nil, cellsOf, List.take_zero, List.drop_zero, List.take_succ_cons, List.drop_succ_cons, Nat.zero_add, Nat.reduceAdd, List.drop_nil, List.map_cons, List.map_nil]); (try rfl))) rfl ?_ | fail)) | ((with_reducible refine is_box ?_); (first | refine awpL_boxMm m rfl rfl rfl rfl (by (try simp only [cellsOf, List.map_cons, List.map_nil]); (try rfl)) rfl ?_ | refine awpL_ev2 (ev_box rfl rfl (by (try simp only [List.length_nil, List.length_cons, Nat.reduceAdd]); (try rfl)) (by (try simp only [List.set_cons_zero, List.set_cons_succ, List.nil_append, List.cons_append, List.append_nil, cellsOf, List.take_zero, List.drop_zero, List.take_succ_cons, List.drop_succ_cons, Nat.zero_add, Nat.reduceAdd, List.drop_nil, List.map_cons, List.map_nil]); (try rfl))) rfl ?_ | fail)) | refine awpL_ev (ev_ia_fs rfl rfl rfl rfl rfl rfl (by with_reducible assumption)) rfl ?_ | refine awpL_ev (ev_not rfl) rfl ?_ | refine awpL_ev (ev_extract rfl rfl) rfl ?_ | refine awpL_ev (ev_index_str rfl rfl rfl rfl (by with_reducible assumption)) rfl ?_ | refine awpL_ev (ev_build rfl rfl rfl rfl rfl rfl rfl) rfl ?_ | refine awpL_ev (ev_slice_fs rfl rfl rfl rfl rfl rfl rfl (by with_reducible assumption) rfl rfl) rfl ?_ | refine awpL_ev (ev_makeFunc rfl rfl) rfl ?_ | refine awpL_ev (ev_nilCheck_fp rfl) rfl ?_ | refine awpL_ev (ev_index_arr rfl rfl rfl rfl rfl rfl rfl (by with_reducible assumption)) rfl ?_ | refine awpL_ev (ev_ia_os rfl rfl rfl rfl rfl rfl rfl (by with_reducible assumption)) rfl ?_ | refine awpL_ev (ev_build_lag rfl rfl rfl rfl rfl rfl) rfl ?_ | refine awpL_ev (ev_nilCheck_lp rfl rfl) rfl ?_ | refine awpL_ev2 (ev_bslice_z rfl rfl rfl rfl rfl rfl rfl) rfl ?_ | refine awpL_ev2 (ev_bslice_in rfl rfl rfl rfl rfl rfl rfl rfl rfl rfl rfl rfl (by (try simp only [List.map_cons, List.map_nil, cellsOf]); (try rfl))) rfl ?_))
     | ((with_reducible refine is_gd ?_); (first | refine awpL_run rfl rfl rfl (by first | with_reducible rfl | with_reducible assumption) ?_ | refine awpL_passT rfl rfl rfl rfl (by first | with_reducible rfl | with_reducible assumption) ?_ | refine awpL_passF rfl rfl rfl rfl (by first | with_reducible rfl | with_reducible assumption) ?_ | refine awpL_passU rfl rfl rfl rfl ?_ | fail))
     | ((with_reducible refine is_nil ?_); refine awpL_nil ?_)
     | ((with_reducible refine is_then ?_); (first | refine thenQ_n ?_ | refine thenQ_r ?_ | refine thenQ_e ?_ | fail))
     | ((with_reducible refine is_block ?_); (first | refine blockQ_n ?_ | refine blockQ_r ?_ | refine blockQ_e ?_ | refine blockQ_o rfl ?_ | fail))
     | ((with_reducible refine is_awp ?_); (first | refine awp_seq ?_ | refine awp_ret ?_ | refine awp_skip ?_ | refine awp_exit ?_ | refine awp_label ?_ | refine awp_block ?_ | refine awp_region ?_ | refine awp_cond_t rfl (by first | with_reducible rfl | with_reducible assumption) ?_ | refine awp_cond_f rfl (by first | with_reducible rfl | with_reducible assumption) ?_ | fail))
     | fail)
    exact k.out) : A := h (.of M) ⟨k⟩
end Go.Ac
end
section
set_option linter.unusedVariables false
set_option linter.unusedSimpArgs false
set_option linter.unusedSectionVars false
namespace Go.Proofs.YtifpafbmfedpkaaDoor
structure Stamp where
  count : Int
  dev : Int
  deriving Inhabited, DecidableEq
structure Span where
  fro : Int
  til : Int
  deriving Inhabited, DecidableEq
structure Note where
  id : Int
  tier : Int
  parent : Int
  span : Span
  rank : Int
  text : ByteArray
  deriving Inhabited, DecidableEq
structure Op where
  at_ : Stamp
  kind : Int
  rec_ : Int
  note : Note
  set : Int
  n : Int
  text : ByteArray
  over : List Stamp
  deriving Inhabited, DecidableEq
structure Replica where
  dev : Int
  seen : List Int
  ops : List Op
  deriving Inhabited, DecidableEq
def right (s : Stamp) : Bool := decide (1 ≤ s.count) && decide (s.count ≤ 1048576) && decide (1 ≤ s.dev) && decide (s.dev ≤ 15)
def less (a b : Stamp) : Bool := decide (a.count < b.count) || (decide (a.count = b.count) && decide (a.dev < b.dev))
def idOf (s : Stamp) : Int := if right s then 16 * s.count + s.dev else 0
def stampOf (id : Int) : Stamp := ⟨id.tdiv 16, id.tmod 16⟩
def num (v : List Int) (i : Nat) : Int := max ((v[i]?).getD 0) 0
def covers (v : List Int) (s : Stamp) : Bool := right s && decide (s.count ≤ num v (s.dev - 1).toNat)
def join (a b : List Int) : List Int := (List.range 15).map fun i => max (num a i) (num b i)
def see (v : List Int) (s : Stamp) : List Int := if right s then (join v []).set (s.dev - 1).toNat (max (num v (s.dev - 1).toNat) s.count) else join v []
def cmp (a b : Int) : Int := if a < b then -1 else if b < a then 1 else 0
theorem join_len (a b : List Int) : (join a b).length = 15 := by simp [join]
theorem see_len (v : List Int) (s : Stamp) : (see v s).length = 15 := by unfold see; split <;> simp [join]
end Go.Proofs.YtifpafbmfedpkaaDoor
end
section
set_option linter.unusedVariables false
set_option linter.unusedSimpArgs false
set_option linter.unusedSectionVars false
namespace Go.Proofs.YtifpafbmfedpkaaDoor
def has (l : List Op) (o : Op) : Bool := l.any fun p => decide (p = o)
def clash (l : List Op) (o : Op) : Bool := l.any fun p => decide (p.at_ = o.at_) && !decide (p = o)
theorem has_iff {l : List Op} {o : Op} : has l o = true ↔ o ∈ l := by
  simp [has]
theorem has_false {l : List Op} {o : Op} : has l o = false ↔ o ∉ l := by
  rw [← has_iff]; simp
theorem clash_iff {l : List Op} {o : Op} : clash l o = true ↔ ∃ p ∈ l, p.at_ = o.at_ ∧ p ≠ o := by
  simp [clash]
theorem less_irr (a : Stamp) : less a a = false := by simp [less]
theorem less_trans {a b c : Stamp} (h : less a b = true) (g : less b c = true) : less a c = true := by
  simp [less] at *; omega
theorem less_asym {a b : Stamp} (h : less a b = true) : less b a = false := by
  simp [less] at *; omega
theorem less_tri (a b : Stamp) : less a b = true ∨ a = b ∨ less b a = true := by
  rcases a with ⟨a1, a2⟩
  rcases b with ⟨b1, b2⟩
  simp [less]; omega
theorem less_ne {a b : Stamp} (h : less a b = true) : a ≠ b := by
  rintro rfl; rw [less_irr] at h; cases h
theorem nless_iff {a b : Stamp} : less b a = false ↔ less a b = true ∨ a = b := by
  constructor
  · intro h
    rcases less_tri a b with g | g | g
    · exact .inl g
    · exact .inr g
    · rw [h] at g; cases g
  · rintro (h | rfl)
    · exact less_asym h
    · exact less_irr a
theorem le_less {a b c : Stamp} (h : less b a = false) (g : less b c = true) : less a c = true := by
  rcases nless_iff.1 h with h | rfl
  · exact less_trans h g
  · exact g
theorem less_le {a b c : Stamp} (h : less a b = true) (g : less c b = false) : less a c = true := by
  rcases nless_iff.1 g with g | rfl
  · exact less_trans h g
  · exact h
def Inc (l : List Op) : Prop := l.Pairwise fun a b => less a.at_ b.at_ = true
def Weak (l : List Op) : Prop := l.Pairwise fun a b => less b.at_ a.at_ = false
theorem Inc.uniq : ∀ {l : List Op}, Inc l → ∀ {a b : Op}, a ∈ l → b ∈ l → a.at_ = b.at_ → a = b
  | [], _, a, _, ha, _, _ => by cases ha
  | x :: r, h, a, b, ha, hb, e => by
    obtain ⟨h1, h2⟩ := List.pairwise_cons.1 h
    rcases List.mem_cons.1 ha with ea | ga
    · rcases List.mem_cons.1 hb with eb | gb
      · rw [ea, eb]
      · exact absurd (ea ▸ e) (less_ne (h1 _ gb))
    · rcases List.mem_cons.1 hb with eb | gb
      · exact absurd (eb ▸ e).symm (less_ne (h1 _ ga))
      · exact Inc.uniq h2 ga gb e
theorem Inc.ext : ∀ {l m : List Op}, Inc l → Inc m → (∀ o, o ∈ l ↔ o ∈ m) → l = m
  | [], [], _, _, _ => rfl
  | [], y :: s, _, _, h => by have := (h y).2 (List.mem_cons_self ..); cases this
  | x :: r, [], _, _, h => by have := (h x).1 (List.mem_cons_self ..); cases this
  | x :: r, y :: s, hl, hm, h => by
    obtain ⟨l1, l2⟩ := List.pairwise_cons.1 hl
    obtain ⟨m1, m2⟩ := List.pairwise_cons.1 hm
    have hxy : x = y := by
      rcases List.mem_cons.1 ((h x).1 (List.mem_cons_self ..)) with e | hx
      · exact e
      · rcases List.mem_cons.1 ((h y).2 (List.mem_cons_self ..)) with e | hy
        · exact e.symm
        · have := less_asym (l1 _ hy); rw [m1 _ hx] at this; cases this
    subst hxy
    have : r = s := by
      refine Inc.ext l2 m2 fun o => ⟨fun ho => ?_, fun ho => ?_⟩
      · rcases List.mem_cons.1 ((h o).1 (List.mem_cons_of_mem _ ho)) with e | g
        · subst e; exact absurd rfl (less_ne (l1 _ ho))
        · exact g
      · rcases List.mem_cons.1 ((h o).2 (List.mem_cons_of_mem _ ho)) with e | g
        · subst e; exact absurd rfl (less_ne (m1 _ ho))
        · exact g
    rw [this]
def U (p : Op → Prop) : Option (List Op) → Prop
  | none => ∃ a b, p a ∧ p b ∧ a.at_ = b.at_ ∧ a ≠ b
  | some m => Inc m ∧ ∀ o, o ∈ m ↔ p o
theorem U.uniq {p : Op → Prop} : ∀ {x y : Option (List Op)}, U p x → U p y → x = y
  | none, none, _, _ => rfl
  | some m, none, ⟨hi, hm⟩, ⟨a, b, ha, hb, e, hne⟩ => absurd (hi.uniq ((hm a).2 ha) ((hm b).2 hb) e) hne
  | none, some m, ⟨a, b, ha, hb, e, hne⟩, ⟨hi, hm⟩ => absurd (hi.uniq ((hm a).2 ha) ((hm b).2 hb) e) hne
  | some l, some m, ⟨h1, h2⟩, ⟨g1, g2⟩ => by rw [Inc.ext h1 g1 fun o => (h2 o).trans (g2 o).symm]
theorem U.congr {p q : Op → Prop} (h : ∀ o, p o ↔ q o) {x : Option (List Op)} (hx : U p x) : U q x := by
  have : p = q := funext fun o => propext (h o)
  rwa [← this]
theorem U.self {m : List Op} (h : Inc m) : U (· ∈ m) (some m) := ⟨h, fun _ => Iff.rfl⟩
def putIx (l : List Op) (o : Op) : Nat → Nat
  | 0 => 0
  | k + 1 => match l[k]? with
    | some x => if less o.at_ x.at_ then putIx l o k else k + 1
    | none => k + 1
def put (l : List Op) (o : Op) : List Op := l.take (putIx l o l.length) ++ [o] ++ l.drop (putIx l o l.length)
theorem putIx_le (l : List Op) (o : Op) : ∀ k, putIx l o k ≤ k
  | 0 => Nat.le_refl _
  | k + 1 => by
    rw [putIx]
    split
    · split
      · exact Nat.le_succ_of_le (putIx_le l o k)
      · exact Nat.le_refl _
    · exact Nat.le_refl _
theorem putIx_hi (l : List Op) (o : Op) : ∀ k, k ≤ l.length → ∀ j x, putIx l o k ≤ j → j < k → l[j]? = some x → less o.at_ x.at_ = true
  | 0, _, j, x, _, h, _ => by omega
  | k + 1, hk, j, x, h1, h2, hx => by
    rw [putIx] at h1
    split at h1
    · rename_i y hy
      split at h1
      · rename_i hl
        rcases Nat.lt_or_ge j k with h | h
        · exact putIx_hi l o k (by omega) j x h1 h hx
        · have : j = k := by omega
          subst this
          rw [hy] at hx; cases hx; exact hl
      · omega
    · rename_i hn
      rw [List.getElem?_eq_none_iff] at hn; omega
theorem putIx_lo (l : List Op) (o : Op) : ∀ k j x, putIx l o k = j + 1 → l[j]? = some x → less o.at_ x.at_ = false
  | 0, j, x, h, _ => by simp [putIx] at h
  | k + 1, j, x, h, hx => by
    rw [putIx] at h
    split at h
    · rename_i y hy
      split at h
      · exact putIx_lo l o k j x h hx
      · rename_i hl
        have : k = j := by omega
        subst this
        rw [hy] at hx; cases hx; simpa using hl
    · rename_i hn
      have : k = j := by omega
      subst this
      rw [hn] at hx; cases hx
theorem mem_put (l : List Op) (o p : Op) : p ∈ put l o ↔ p ∈ l ∨ p = o := by
  unfold put
  generalize putIx l o l.length = k
  constructor
  · intro h
    rcases List.mem_append.1 h with h | h
    · rcases List.mem_append.1 h with h | h
      · exact .inl (List.mem_of_mem_take h)
      · exact .inr (by simpa using h)
    · exact .inl (List.mem_of_mem_drop h)
  · rintro (h | rfl)
    · rw [← List.take_append_drop k l] at h
      rcases List.mem_append.1 h with h | h
      · exact List.mem_append_left _ (List.mem_append_left _ h)
      · exact List.mem_append_right _ h
    · simp
theorem put_length (l : List Op) (o : Op) : (put l o).length = l.length + 1 := by
  unfold put
  have := putIx_le l o l.length
  simp; omega
theorem Inc.put {l : List Op} (h : Inc l) {o : Op} (hn : ∀ p ∈ l, p.at_ ≠ o.at_) : Inc (put l o) := by
  have hle := putIx_le l o l.length
  have hhi := putIx_hi l o l.length (Nat.le_refl _)
  have hlo := putIx_lo l o l.length
  unfold Go.Proofs.YtifpafbmfedpkaaDoor.put
  generalize putIx l o l.length = k at hle hhi hlo
  have hT : ∀ p ∈ l.take k, less p.at_ o.at_ = true := by
    intro p hp
    have hpl := List.mem_of_mem_take hp
    obtain ⟨j, hj⟩ := List.getElem?_of_mem hp
    rw [List.getElem?_take] at hj
    split at hj
    · rename_i hjk
      cases k with
      | zero => omega
      | succ k =>
        obtain ⟨x, hx⟩ : ∃ x, l[k]? = some x := ⟨_, List.getElem?_eq_getElem (by omega)⟩
        have h1 := hlo k x rfl hx
        have h2 : less x.at_ o.at_ = true := by
          rcases nless_iff.1 h1 with g | g
          · exact g
          · exact absurd g (hn x (List.mem_of_getElem? hx))
        rcases Nat.lt_or_ge j k with hlt | hge
        · exact less_trans ((List.pairwise_iff_getElem.1 h) j k (by omega) (by omega) hlt |> fun q => by
            rw [List.getElem?_eq_getElem (by omega)] at hj hx
            cases hj; cases hx; exact q) h2
        · have : j = k := by omega
          subst this
          rw [hx] at hj; cases hj; exact h2
    · cases hj
  have hD : ∀ p ∈ l.drop k, less o.at_ p.at_ = true := by
    intro p hp
    obtain ⟨j, hj⟩ := List.getElem?_of_mem hp
    rw [List.getElem?_drop] at hj
    have hlt : k + j < l.length := (List.getElem?_eq_some_iff.1 hj).1
    exact hhi (k + j) p (by omega) hlt hj
  have h' : Inc (l.take k ++ l.drop k) := by rw [List.take_append_drop]; exact h
  obtain ⟨a1, a2, a3⟩ := List.pairwise_append.1 h'
  refine List.pairwise_append.2 ⟨List.pairwise_append.2 ⟨a1, List.pairwise_singleton _ _, fun a ha b hb => ?_⟩, a2, fun a ha b hb => ?_⟩
  · simp only [List.mem_singleton] at hb; subst hb; exact hT a ha
  · rcases List.mem_append.1 ha with ha | ha
    · exact a3 a ha b hb
    · simp only [List.mem_singleton] at ha; subst ha; exact hD b hb
def unite : List Op → List Op → Option (List Op)
  | out, [] => some out
  | out, o :: r => if clash out o then none else if has out o then unite out r else unite (put out o) r
theorem unite_U : ∀ (l out : List Op), Inc out → U (fun o => o ∈ out ∨ o ∈ l) (unite out l)
  | [], out, h => by
    rw [unite]; exact ⟨h, fun o => by simp⟩
  | o :: r, out, h => by
    rw [unite]
    split
    · rename_i hc
      obtain ⟨p, hp, e, hne⟩ := clash_iff.1 hc
      exact ⟨p, o, .inl hp, .inr (List.mem_cons_self ..), e, hne⟩
    · rename_i hc
      split
      · rename_i hh
        have ho := has_iff.1 hh
        refine (unite_U r out h).congr fun q => ⟨?_, ?_⟩
        · rintro (g | g)
          · exact .inl g
          · exact .inr (List.mem_cons_of_mem _ g)
        · rintro (g | g)
          · exact .inl g
          · rcases List.mem_cons.1 g with rfl | g
            · exact .inl ho
            · exact .inr g
      · rename_i hh
        have ho := has_false.1 (by simpa using hh)
        have hi : Inc (put out o) := h.put fun p hp e => hc (clash_iff.2 ⟨p, hp, e, fun q => ho (q ▸ hp)⟩)
        refine (unite_U r _ hi).congr fun q => ⟨?_, ?_⟩
        · rintro (g | g)
          · rcases (mem_put out o q).1 g with g | rfl
            · exact .inl g
            · exact .inr (List.mem_cons_self ..)
          · exact .inr (List.mem_cons_of_mem _ g)
        · rintro (g | g)
          · exact .inl ((mem_put out o q).2 (.inl g))
          · rcases List.mem_cons.1 g with rfl | g
            · exact .inl ((mem_put out q q).2 (.inr rfl))
            · exact .inr g
theorem unite_len : ∀ (l out m : List Op), unite out l = some m → m.length ≤ out.length + l.length
  | [], out, m, h => by rw [unite] at h; cases h; simp
  | o :: r, out, m, h => by
    rw [unite] at h
    split at h
    · cases h
    · split at h
      · have := unite_len r out m h; simp; omega
      · have := unite_len r _ m h; rw [put_length] at this; simp; omega
def gather : List Op → List Op → Option (List Op)
  | out, [] => some out
  | out, o :: r => match out.getLast? with
    | some p => if p.at_ = o.at_ then (if p = o then gather out r else none) else gather (out ++ [o]) r
    | none => gather (out ++ [o]) r
theorem Inc.snoc {l : List Op} (h : Inc l) {o : Op} (hn : ∀ p ∈ l, less p.at_ o.at_ = true) : Inc (l ++ [o]) :=
  List.pairwise_append.2 ⟨h, List.pairwise_singleton _ _, fun a ha b hb => by simp only [List.mem_singleton] at hb; subst hb; exact hn a ha⟩
theorem Inc.last_le {l : List Op} (h : Inc l) {p : Op} (hp : l.getLast? = some p) : ∀ q ∈ l, less p.at_ q.at_ = false := by
  intro q hq
  have hne : l ≠ [] := by rintro rfl; cases hp
  have hs : l = l.dropLast ++ [p] := by
    have h1 := List.dropLast_concat_getLast hne
    rw [List.getLast?_eq_some_getLast hne] at hp
    cases hp; exact h1.symm
  rw [hs] at hq h
  obtain ⟨_, _, h3⟩ := List.pairwise_append.1 h
  rcases List.mem_append.1 hq with hq | hq
  · exact less_asym (h3 q hq p (List.mem_singleton_self _))
  · simp only [List.mem_singleton] at hq; subst hq; exact less_irr _
theorem gather_U : ∀ (t out : List Op), Inc out → Weak t → (∀ p ∈ out, ∀ q ∈ t, less q.at_ p.at_ = false) → U (fun o => o ∈ out ∨ o ∈ t) (gather out t)
  | [], out, h, _, _ => by
    rw [gather]; exact ⟨h, fun o => by simp⟩
  | o :: r, out, h, hw, hlt => by
    obtain ⟨w1, w2⟩ := List.pairwise_cons.1 hw
    have app : (∀ p ∈ out, less p.at_ o.at_ = true) → U (fun q => q ∈ out ∨ q ∈ o :: r) (gather (out ++ [o]) r) := by
      intro ha
      refine (gather_U r (out ++ [o]) (h.snoc ha) w2 fun p hp q hq => ?_).congr fun q => ?_
      · rcases List.mem_append.1 hp with hp | hp
        · exact hlt p hp q (List.mem_cons_of_mem _ hq)
        · simp only [List.mem_singleton] at hp; subst hp; exact w1 q hq
      · simp only [List.mem_append, List.mem_cons, List.not_mem_nil, or_false, or_assoc]
    rw [gather]
    split
    · rename_i p hp
      have hpm : p ∈ out := List.mem_of_getLast? hp
      split
      · rename_i he
        split
        · rename_i hpo
          subst hpo
          refine (gather_U r out h w2 fun a ha q hq => hlt a ha q (List.mem_cons_of_mem _ hq)).congr fun q => ⟨?_, ?_⟩
          · rintro (g | g)
            · exact .inl g
            · exact .inr (List.mem_cons_of_mem _ g)
          · rintro (g | g)
            · exact .inl g
            · rcases List.mem_cons.1 g with rfl | g
              · exact .inl hpm
              · exact .inr g
        · rename_i hpo
          exact ⟨p, o, .inl hpm, .inr (List.mem_cons_self ..), he, hpo⟩
      · rename_i he
        refine app fun q hq => ?_
        have h1 : less p.at_ o.at_ = true := by
          rcases nless_iff.1 (hlt p hpm o (List.mem_cons_self ..)) with g | g
          · exact g
          · exact absurd g he
        exact le_less (h.last_le hp q hq) h1
    · rename_i hp
      have hnil : out = [] := by simpa using hp
      subst hnil
      exact app fun q hq => by cases hq
def both : List Op → List Op → List Op
  | [], b => b
  | x :: r, [] => x :: r
  | x :: r, y :: s => if less y.at_ x.at_ then y :: both (x :: r) s else x :: both r (y :: s)
termination_by a b => a.length + b.length
theorem both_nil (b : List Op) : both [] b = b := by rw [both]
theorem both_nil' (a : List Op) : both a [] = a := by cases a <;> rw [both]
theorem both_left {x y : Op} {r s : List Op} (h : less y.at_ x.at_ = false) : both (x :: r) (y :: s) = x :: both r (y :: s) := by rw [both, h]; simp
theorem both_right {x y : Op} {r s : List Op} (h : less y.at_ x.at_ = true) : both (x :: r) (y :: s) = y :: both (x :: r) s := by rw [both, h]; simp
theorem both_len : ∀ (a b : List Op), (both a b).length = a.length + b.length
  | [], b => by simp [both_nil]
  | x :: r, [] => by simp [both_nil']
  | x :: r, y :: s => by
    cases h : less y.at_ x.at_ with
    | true => rw [both_right h]; have := both_len (x :: r) s; simp at this ⊢; omega
    | false => rw [both_left h]; have := both_len r (y :: s); simp at this ⊢; omega
termination_by a b => a.length + b.length
theorem both_mem {o : Op} : ∀ (a b : List Op), o ∈ both a b ↔ o ∈ a ∨ o ∈ b
  | [], b => by rw [both_nil]; simp
  | x :: r, [] => by rw [both_nil']; simp
  | x :: r, y :: s => by
    cases hc : less y.at_ x.at_ with
    | true =>
      rw [both_right hc, List.mem_cons, both_mem (x :: r) s]
      simp only [List.mem_cons]
      constructor
      · rintro (h | (h | h) | h) <;> simp [h]
      · rintro ((h | h) | h | h) <;> simp [h]
    | false =>
      rw [both_left hc, List.mem_cons, both_mem r (y :: s)]
      simp only [List.mem_cons]
      constructor
      · rintro (h | h | h | h) <;> simp [h]
      · rintro ((h | h) | h | h) <;> simp [h]
termination_by a b => a.length + b.length
theorem both_weak : ∀ (a b : List Op), Weak a → Weak b → Weak (both a b)
  | [], b, _, h => by rw [both_nil]; exact h
  | x :: r, [], h, _ => by rw [both_nil']; exact h
  | x :: r, y :: s, ha, hb => by
    obtain ⟨a1, a2⟩ := List.pairwise_cons.1 ha
    obtain ⟨b1, b2⟩ := List.pairwise_cons.1 hb
    cases hc : less y.at_ x.at_ with
    | true =>
      rw [both_right hc]
      refine List.pairwise_cons.2 ⟨fun q hq => ?_, both_weak (x :: r) s ha b2⟩
      rcases (both_mem _ _).1 hq with h | h
      · rcases List.mem_cons.1 h with rfl | h
        · exact less_asym hc
        · exact less_asym (less_le hc (a1 q h))
      · exact b1 q h
    | false =>
      rw [both_left hc]
      refine List.pairwise_cons.2 ⟨fun q hq => ?_, both_weak r (y :: s) a2 hb⟩
      rcases (both_mem _ _).1 hq with h | h
      · exact a1 q h
      · rcases List.mem_cons.1 h with rfl | h
        · exact hc
        · rcases nless_iff.1 hc with g | g
          · exact less_asym (less_le g (b1 q h))
          · rw [g]; exact b1 q h
termination_by a b => a.length + b.length
def sorted (l : List Op) : List Op := if l.length < 2 then l else both (sorted (l.take (l.length / 2))) (sorted (l.drop (l.length / 2)))
termination_by l.length
decreasing_by
  · simp only [List.length_take]; omega
  · simp only [List.length_drop]; omega
theorem sorted_all : ∀ (n : Nat) (l : List Op), l.length ≤ n → (sorted l).length = l.length ∧ Weak (sorted l) ∧ ∀ o, o ∈ sorted l ↔ o ∈ l := by
  intro n
  induction n with
  | zero =>
    intro l h
    rw [sorted, if_pos (by omega)]
    have : l = [] := by cases l <;> simp_all
    subst this
    exact ⟨rfl, List.Pairwise.nil, fun _ => Iff.rfl⟩
  | succ n ih =>
    intro l h
    rw [sorted]
    split
    · rename_i hl
      refine ⟨rfl, ?_, fun _ => Iff.rfl⟩
      cases l with
      | nil => exact List.Pairwise.nil
      | cons x r =>
        cases r with
        | nil => exact List.pairwise_singleton _ _
        | cons y s => simp at hl; omega
    · have i1 := ih (l.take (l.length / 2)) (by rw [List.length_take]; omega)
      have i2 := ih (l.drop (l.length / 2)) (by rw [List.length_drop]; omega)
      refine ⟨?_, both_weak _ _ i1.2.1 i2.2.1, fun o => ?_⟩
      · rw [both_len, i1.1, i2.1, List.length_take, List.length_drop]; omega
      · rw [both_mem, i1.2.2, i2.2.2, ← List.mem_append, List.take_append_drop]
theorem sorted_len (l : List Op) : (sorted l).length = l.length := (sorted_all _ l (Nat.le_refl _)).1
theorem sorted_weak (l : List Op) : Weak (sorted l) := (sorted_all _ l (Nat.le_refl _)).2.1
theorem sorted_mem (l : List Op) (o : Op) : o ∈ sorted l ↔ o ∈ l := (sorted_all _ l (Nat.le_refl _)).2.2 o
theorem Inc.weak {l : List Op} (h : Inc l) : Weak l := h.imp fun g => less_asym g
theorem gather_unite {r : List Op} (h : Inc r) (l : List Op) : gather [] (both r (sorted l)) = unite r l := by
  refine (gather_U _ [] List.Pairwise.nil (both_weak _ _ h.weak (sorted_weak l)) fun p hp => by cases hp).uniq ((unite_U l r h).congr fun o => ?_)
  rw [both_mem, sorted_mem]; simp
end Go.Proofs.YtifpafbmfedpkaaDoor
end
section
set_option linter.unusedVariables false
set_option linter.unusedSimpArgs false
set_option linter.unusedSectionVars false
namespace Go.Proofs.YtifpafbmfedpkaaDoor
open Go.Ac
def td : TDs := [(2, ⟨.int .i64, 1, 8, [.int .i64 0]⟩),
  (3, ⟨.int .i64, 1, 8, [.int .i64 0]⟩),
  (4, ⟨.bool, 1, 1, [.bool false]⟩),
  (5, ⟨.int .u8, 1, 1, [.int .u8 0]⟩),
  (9, ⟨.str, 1, 16, [.string .empty]⟩),
  (12, ⟨.int .u64, 1, 8, [.int .u64 0]⟩),
  (20, ⟨.iface, 1, 16, [.nilIface]⟩),
  (21, ⟨.int .i32, 1, 4, [.int .i32 0]⟩),
  (22, ⟨.slice 3, 1, 24, [.slice none 0 0]⟩),
  (23, ⟨.slice 52, 1, 24, [.slice none 0 0]⟩),
  (24, ⟨.struct [(3, 0), (22, 1), (23, 2)], 3, 56, [.int .i64 0, .slice none 0 0, .slice none 0 0]⟩),
  (25, ⟨.struct [(3, 0), (22, 1), (23, 2)], 3, 56, [.int .i64 0, .slice none 0 0, .slice none 0 0]⟩),
  (33, ⟨.int .i64, 1, 8, [.int .i64 0]⟩),
  (44, ⟨.struct [(3, 0), (3, 1)], 2, 16, [.int .i64 0, .int .i64 0]⟩),
  (45, ⟨.struct [(3, 0), (3, 1)], 2, 16, [.int .i64 0, .int .i64 0]⟩),
  (46, ⟨.struct [(3, 0), (3, 1)], 2, 16, [.int .i64 0, .int .i64 0]⟩),
  (47, ⟨.struct [(3, 0), (3, 1)], 2, 16, [.int .i64 0, .int .i64 0]⟩),
  (48, ⟨.struct [(3, 0), (3, 1), (3, 2), (47, 3), (3, 5), (9, 6)], 7, 64, [.int .i64 0, .int .i64 0, .int .i64 0, .int .i64 0, .int .i64 0, .int .i64 0, .string .empty]⟩),
  (49, ⟨.struct [(3, 0), (3, 1), (3, 2), (47, 3), (3, 5), (9, 6)], 7, 64, [.int .i64 0, .int .i64 0, .int .i64 0, .int .i64 0, .int .i64 0, .int .i64 0, .string .empty]⟩),
  (50, ⟨.slice 45, 1, 24, [.slice none 0 0]⟩),
  (51, ⟨.struct [(45, 0), (3, 2), (3, 3), (49, 4), (3, 11), (3, 12), (9, 13), (50, 14)], 15, 152, [.int .i64 0, .int .i64 0, .int .i64 0, .int .i64 0, .int .i64 0, .int .i64 0, .int .i64 0, .int .i64 0, .int .i64 0, .int .i64 0, .string .empty, .int .i64 0, .int .i64 0, .string .empty, .slice none 0 0]⟩),
  (52, ⟨.struct [(45, 0), (3, 2), (3, 3), (49, 4), (3, 11), (3, 12), (9, 13), (50, 14)], 15, 152, [.int .i64 0, .int .i64 0, .int .i64 0, .int .i64 0, .int .i64 0, .int .i64 0, .int .i64 0, .int .i64 0, .int .i64 0, .int .i64 0, .string .empty, .int .i64 0, .int .i64 0, .string .empty, .slice none 0 0]⟩),
  (67, ⟨.map 45 52, 1, 8, [.map none]⟩),
  (69, ⟨.map 3 3, 1, 8, [.map none]⟩),
  (70, ⟨.map 84 4, 1, 8, [.map none]⟩),
  (71, ⟨.struct [(69, 0), (70, 1), (45, 2)], 4, 32, [.map none, .map none, .int .i64 0, .int .i64 0]⟩),
  (72, ⟨.struct [(69, 0), (70, 1), (45, 2)], 4, 32, [.map none, .map none, .int .i64 0, .int .i64 0]⟩),
  (80, ⟨.ptr 72, 1, 8, [.pointer none]⟩),
  (82, ⟨.arr 3 3, 3, 24, [.int .i64 0, .int .i64 0, .int .i64 0]⟩),
  (83, ⟨.struct [(45, 0), (3, 2), (3, 3)], 4, 32, [.int .i64 0, .int .i64 0, .int .i64 0, .int .i64 0]⟩),
  (84, ⟨.struct [(45, 0), (3, 2), (3, 3)], 4, 32, [.int .i64 0, .int .i64 0, .int .i64 0, .int .i64 0]⟩),
  (95, ⟨.slice 33, 1, 24, [.slice none 0 0]⟩),
  (111, ⟨.struct [(5, 0), (5, 1)], 2, 2, [.int .u8 0, .int .u8 0]⟩),
  (112, ⟨.struct [(5, 0), (5, 1)], 2, 2, [.int .u8 0, .int .u8 0]⟩),
  (113, ⟨.arr 16 112, 32, 32, [.int .u8 0, .int .u8 0, .int .u8 0, .int .u8 0, .int .u8 0, .int .u8 0, .int .u8 0, .int .u8 0, .int .u8 0, .int .u8 0, .int .u8 0, .int .u8 0, .int .u8 0, .int .u8 0, .int .u8 0, .int .u8 0, .int .u8 0, .int .u8 0, .int .u8 0, .int .u8 0, .int .u8 0, .int .u8 0, .int .u8 0, .int .u8 0, .int .u8 0, .int .u8 0, .int .u8 0, .int .u8 0, .int .u8 0, .int .u8 0, .int .u8 0, .int .u8 0]⟩),
  (114, ⟨.int .u64, 1, 8, [.int .u64 0]⟩),
  (117, ⟨.int .u64, 1, 8, [.int .u64 0]⟩),
  (118, ⟨.slice 5, 1, 24, [.slice none 0 0]⟩),
  (126, ⟨.int .u32, 1, 4, [.int .u32 0]⟩),
  (130, ⟨.ptr 5, 1, 8, [.pointer none]⟩)]
theorem td_eq : tdsOf Tryd.prog [2, 3, 4, 5, 9, 12, 20, 21, 22, 23, 24, 25, 33, 44, 45, 46, 47, 48, 49, 50, 51, 52, 67, 69, 70, 71, 72, 80, 82, 83, 84, 95, 111, 112, 113, 114, 117, 118, 126, 130] = td := by kernel_rfl
instance tok : TOK Tryd.prog td := TOK.mk' [2, 3, 4, 5, 9, 12, 20, 21, 22, 23, 24, 25, 33, 44, 45, 46, 47, 48, 49, 50, 51, 52, 67, 69, 70, 71, 72, 80, 82, 83, 84, 95, 111, 112, 113, 114, 117, 118, 126, 130] td_eq
def stampC (s : Stamp) : List AV := [.v (.int .i64 s.count), .v (.int .i64 s.dev)]
def noteC (n : Note) : List AV := [.v (.int .i64 n.id), .v (.int .i64 n.tier), .v (.int .i64 n.parent), .v (.int .i64 n.span.fro), .v (.int .i64 n.span.til), .v (.int .i64 n.rank), .v (.string n.text)]
abbrev encStamps (l : List Stamp) : AV := .fs 2 l.length (l.map stampC)
def opC (o : Op) : List AV := [.v (.int .i64 o.at_.count), .v (.int .i64 o.at_.dev), .v (.int .i64 o.kind), .v (.int .i64 o.rec_),
  .v (.int .i64 o.note.id), .v (.int .i64 o.note.tier), .v (.int .i64 o.note.parent), .v (.int .i64 o.note.span.fro), .v (.int .i64 o.note.span.til), .v (.int .i64 o.note.rank), .v (.string o.note.text),
  .v (.int .i64 o.set), .v (.int .i64 o.n), .v (.string o.text), encStamps o.over]
def intC (n : Int) : List AV := [.v (.int .i64 n)]
abbrev encIs (l : List Int) : AV := .fs 1 l.length (l.map intC)
abbrev encOps (l : List Op) : AV := .fs 15 l.length (l.map opC)
def repC (r : Replica) : List AV := [.v (.int .i64 r.dev), encIs r.seen, encOps r.ops]
theorem stamp_get {l : List Stamp} {k : Nat} {t : Stamp} (h : l[k]? = some t) : 0 ≤ (k : Int) ∧ (l.map stampC)[(k : Int).toNat]? = some (stampC t) := ⟨by omega, by simp [h]⟩
theorem op_get {l : List Op} {k : Nat} {t : Op} (h : l[k]? = some t) : 0 ≤ (k : Int) ∧ (l.map opC)[(k : Int).toNat]? = some (opC t) := ⟨by omega, by simp [h]⟩
theorem int_get {l : List Int} {k : Nat} {t : Int} (h : l[k]? = some t) : 0 ≤ (k : Int) ∧ (l.map intC)[(k : Int).toNat]? = some (intC t) := ⟨by omega, by simp [h]⟩
end Go.Proofs.YtifpafbmfedpkaaDoor
end
section
set_option linter.unusedVariables false
set_option linter.unusedSimpArgs false
set_option linter.unusedSectionVars false
namespace Go.Proofs.YtifpafbmfedpkaaDoor
open Go.Ac
attribute [local irreducible] awp awpL Ev Ev2 EvS thenQ blockQ retQ PCalls OCalls
set_option linter.unusedSimpArgs false
set_option linter.unusedVariables false
variable {g : List (Nat × List AV)}
def stampEq : List Value → List Value → Option Bool
  | [.int .i64 a, .int .i64 b], [.int .i64 a', .int .i64 b'] => some (a == a' && b == b')
  | _, _ => none
theorem stampEq_T : EqT Tryd.prog 45 stampEq := by
  intro xs ys b w h
  unfold stampEq at h
  split at h
  · rename_i a b a' b'
    have h := Option.some.inj h
    subst h
    have u3 := Tryd.underlying3
    have a3 := Tryd.isAgg3
    have z3 := Tryd.sizeOf3
    have hS : Tryd.prog.underlying 45 = some (.struct (Tryd.prog.fieldsOf 45)) := by kernel_rfl
    rw [show (10000 : Nat) = 9999 + 1 from rfl, run_equalIn_agg w 9999 _ _ _ hS (by kernel_rfl)]
    simp only [Program.fieldsOf, Tryd.underlying45]
    go_simp
    by_cases h1 : a = a' <;> by_cases h2 : b = b' <;> simp [h1, h2]
  · cases h
theorem isNaN_spec (a : Int) : PCalls Tryd.prog g 83 [vi a] (vb false) := by
  refine pcalls' Tryd.func83 Tryd.ntmps83 rfl rfl rfl ?_
  refine runn [] ?_
  all_goals refine retP rfl ?_
  all_goals simp [ex]
theorem cmp_spec (a b : Int) : PCalls Tryd.prog g 69 [vi a, vi b] (vi (cmp a b)) := by
  have h1 := isNaN_spec (g := g) a
  have h2 := isNaN_spec (g := g) b
  refine pcalls' Tryd.func69 Tryd.ntmps69 rfl rfl rfl ?_
  repeat' (first
   | refine stn [] ?_
   | ((with_reducible refine is_awp ?_); refine awp_cond rfl (fun h => ?_) (fun h => ?_))
   | fail)
  all_goals refine retP rfl ?_
  all_goals clear h1 h2
  all_goals simp_all [ex, cmp]
  all_goals first | omega | (intros; omega) | ((repeat' split) <;> omega)
set_option maxHeartbeats 400000 in
theorem or_spec (l : List Int) (hl : l.length ≤ 1000000) : PCalls Tryd.prog g 68 [encIs l] (vi ((l.find? (fun x => decide (x ≠ 0))).getD 0)) := by
  refine pcalls' Tryd.func68 Tryd.ntmps68 rfl rfl rfl ?_
  repeat' (first
   | refine stn [] ?_
   | ((with_reducible refine is_awp ?_); refine awp_cond rfl (fun h => ?_) (fun h => ?_))
   | fail)
  refine awp_for (α := Nat) 0 (fun k => [(6, encIs l), (7, vi l.length), (8, vi k), (3, vi 0)]) (fun _ => []) (fun k => k ≤ l.length ∧ l.find? (fun x => decide (x ≠ 0)) = (l.drop k).find? (fun x => decide (x ≠ 0))) (fun k => l.length - k) 0
    ⟨(.cons rfl rfl (.cons rfl rfl (.cons rfl rfl (.cons rfl rfl .nil)))), rfl, rfl, rfl⟩ ⟨Nat.zero_le _, rfl⟩ ?_
  rintro k ⟨hk, hf⟩
  cases ht : l[k]? with
  | none =>
    have hge : l.length ≤ k := by simpa using ht
    have c1 : decide ((k : Int) < l.length) = false := by simp; omega
    rw [List.drop_of_length_le hge] at hf
    refine runn [] ?_
    refine retP rfl ?_
    rw [hf]; rfl
  | some t =>
    have hlt : k < l.length := (List.getElem?_eq_some_iff.1 ht).1
    have c1 : decide ((k : Int) < l.length) = true := by simp; omega
    have h1 := int_get ht
    have hd : l.drop k = t :: l.drop (k + 1) := by
      obtain ⟨_, rfl⟩ := List.getElem?_eq_some_iff.1 ht
      exact List.drop_eq_getElem_cons hlt
    rw [hd] at hf
    repeat' (first
     | refine stn [] ?_
     | ((with_reducible refine is_awp ?_); refine awp_cond rfl (fun h => ?_) (fun h => ?_))
     | fail)
    · refine retP rfl ?_
      rw [hf]
      have : t ≠ 0 := by simpa using h
      simp [this, ex]
    · refine ⟨k + 1, ⟨(.cons rfl rfl (.cons rfl rfl (.cons rfl rfl (.cons rfl rfl .nil)))), rfl, rfl, rfl⟩, ⟨by omega, ?_⟩, by omega⟩
      rw [hf]
      have : t = 0 := by simpa using h
      simp [this]
theorem Right_spec (s : Stamp) : PCalls Tryd.prog g 53 [.agg (stampC s)] (vb (right s)) := by
  refine pcalls' Tryd.func53 Tryd.ntmps53 rfl rfl rfl ?_
  repeat' (first
   | refine stn [] ?_
   | ((with_reducible refine is_gd ?_); refine awpL_split rfl rfl (fun h => ?_) (fun h => ?_))
   | fail)
  all_goals refine retP rfl ?_
  all_goals simp_all [ex, right]
  all_goals first | omega | (intros; omega) | ((repeat' split) <;> omega)
theorem rRight_spec (s : Stamp) : PCalls Tryd.prog g 55 [.agg (stampC s)] (vb (right s)) := by
  refine pcalls' Tryd.func55 Tryd.ntmps55 rfl rfl rfl ?_
  repeat' (first
   | refine stn [] ?_
   | ((with_reducible refine is_gd ?_); refine awpL_split rfl rfl (fun h => ?_) (fun h => ?_))
   | fail)
  all_goals refine retP rfl ?_
  all_goals simp_all [ex, right]
  all_goals first | omega | (intros; omega) | ((repeat' split) <;> omega)
theorem cmp_lt {a b : Int} (h : a < b) : cmp a b = -1 := by simp [cmp, h]
theorem cmp_gt {a b : Int} (h : b < a) : cmp a b = 1 := by
  have : ¬ a < b := by omega
  simp [cmp, h, this]
theorem cmp_eq (a : Int) : cmp a a = 0 := by simp [cmp]
theorem less_cmp (a b : Stamp) : decide ((([cmp a.count b.count, cmp a.dev b.dev].find? (fun x => decide (x ≠ 0))).getD 0) < 0) = less a b := by
  unfold less
  rcases Int.lt_trichotomy a.count b.count with h1 | h1 | h1
  · simp [cmp_lt h1, h1]
  · rw [h1, cmp_eq]
    rcases Int.lt_trichotomy a.dev b.dev with h2 | h2 | h2
    · simp [cmp_lt h2, h2]
    · rw [h2, cmp_eq]; simp
    · have : ¬ a.dev < b.dev := by omega
      simp [cmp_gt h2, this]
  · have : ¬ a.count < b.count := by omega
    have h3 : a.count ≠ b.count := by omega
    simp [cmp_gt h1, this, h3]
theorem less_self {a b : Stamp} (h : (a.count == b.count && a.dev == b.dev) = true) : less a b = false := by
  simp at h
  simp [less, h.1, h.2]
set_option maxHeartbeats 400000 in
theorem Less_spec (a b : Stamp) : PCalls Tryd.prog g 58 [.agg (stampC a), .agg (stampC b)] (vb (less a b)) := by
  have h1 := cmp_spec (g := g) a.count b.count
  have h2 := cmp_spec (g := g) a.dev b.dev
  have h3 := or_spec (g := g) [cmp a.count b.count, cmp a.dev b.dev] (by simp)
  refine pcalls' Tryd.func58 Tryd.ntmps58 rfl rfl rfl ?_
  repeat' (first
   | ((with_reducible refine isD_un ?_); refine awpD_un (as_ev (fun _ => ev_eq_agg (neg := true) stampEq_T (by kernel_rfl) rfl rfl rfl rfl rfl) rfl rfl) (by (try simp only [List.nil_append, List.cons_append]); (try rfl)) ?_)
   | ((with_reducible refine isD_gd ?_); refine awpD_gd rfl rfl (by first | with_reducible rfl | with_reducible assumption) (as_ev (fun _ => ev_eq_agg (neg := true) stampEq_T (by kernel_rfl) rfl rfl rfl rfl rfl) rfl rfl) (by (try simp only [List.nil_append, List.cons_append]); (try rfl)) ?_)
   | refine st [] ?_
   | ((with_reducible refine isD_gd ?_); ((fail_if_success (refine isD_kn (c := true) rfl (by first | with_reducible rfl | with_reducible assumption) ?_)); (fail_if_success (refine isD_kn (c := false) rfl (by first | with_reducible rfl | with_reducible assumption) ?_)); refine awpD_split rfl (fun h => ?_) (fun h => ?_)))
   | fail)
  · refine retP rfl ?_
    show vb _ = vb _
    congr 2
    exact less_cmp a b
  · refine retP rfl ?_
    rw [less_self (by simpa using h)]
    rfl
theorem rLess_spec (a b : Stamp) : PCalls Tryd.prog g 60 [.agg (stampC a), .agg (stampC b)] (vb (less a b)) := by
  refine pcalls' Tryd.func60 Tryd.ntmps60 rfl rfl rfl ?_
  repeat' (first
   | refine stn [] ?_
   | ((with_reducible refine is_gd ?_); refine awpL_split rfl rfl (fun h => ?_) (fun h => ?_))
   | fail)
  all_goals refine retP rfl ?_
  all_goals simp_all [ex, less]
  all_goals first | omega | (intros; omega) | ((repeat' split) <;> omega)
theorem Id_spec (s : Stamp) : PCalls Tryd.prog g 84 [.agg (stampC s)] (vi (idOf s)) := by
  have h1 := Right_spec (g := g) s
  refine pcalls' Tryd.func84 Tryd.ntmps84 rfl rfl rfl ?_
  cases hr : right s with
  | false =>
    rw [hr] at h1
    have n1 : (!false) = true := rfl
    refine runn [] ?_
    all_goals refine retP rfl ?_
    all_goals simp [ex, idOf, hr]
  | true =>
    rw [hr] at h1
    have n1 : (!true) = false := rfl
    have hb : -9223372036854775808 ≤ 16 * s.count ∧ 16 * s.count ≤ 9223372036854775807 := by
      simp [right] at hr; omega
    have hb2 : -9223372036854775808 ≤ 16 * s.count + s.dev ∧ 16 * s.count + s.dev ≤ 9223372036854775807 := by
      simp [right] at hr; omega
    repeat' (first
     | ((with_reducible refine is_un ?_); refine awpL_ev (ev_mul rfl rfl hb) rfl ?_)
     | refine stn [] ?_
     | fail)
    all_goals refine retP rfl ?_
    all_goals simp [ex, idOf, hr]
theorem rId_spec (s : Stamp) : PCalls Tryd.prog g 89 [.agg (stampC s)] (vi (idOf s)) := by
  have h1 := rRight_spec (g := g) s
  refine pcalls' Tryd.func89 Tryd.ntmps89 rfl rfl rfl ?_
  cases hr : right s with
  | false =>
    rw [hr] at h1
    have n1 : (!false) = true := rfl
    refine runn [] ?_
    all_goals refine retP rfl ?_
    all_goals simp [ex, idOf, hr]
  | true =>
    rw [hr] at h1
    have n1 : (!true) = false := rfl
    have hb : -9223372036854775808 ≤ 16 * s.count ∧ 16 * s.count ≤ 9223372036854775807 := by
      simp [right] at hr; omega
    have hb2 : -9223372036854775808 ≤ 16 * s.count + s.dev ∧ 16 * s.count + s.dev ≤ 9223372036854775807 := by
      simp [right] at hr; omega
    repeat' (first
     | ((with_reducible refine is_un ?_); refine awpL_ev (ev_mul rfl rfl hb) rfl ?_)
     | refine stn [] ?_
     | fail)
    all_goals refine retP rfl ?_
    all_goals simp [ex, idOf, hr]
end Go.Proofs.YtifpafbmfedpkaaDoor
end
section
set_option linter.unusedVariables false
set_option linter.unusedSimpArgs false
set_option linter.unusedSectionVars false
namespace Go.Proofs.YtifpafbmfedpkaaDoor
open Go.Ac
attribute [local irreducible] awp awpL Ev Ev2 EvS thenQ blockQ retQ PCalls OCalls
set_option linter.unusedSimpArgs false
set_option linter.unusedVariables false
variable {g : List (Nat × List AV)}
abbrev ofR (id : Int) : AV := .tup [.agg (stampC (if right (stampOf id) then stampOf id else ⟨0, 0⟩)), vb (right (stampOf id))]
theorem Of_spec (id : Int) (hid : -9223372036854775808 ≤ id ∧ id ≤ 9223372036854775807) : PCalls Tryd.prog g 87 [vi id] (ofR id) := by
  have h1 := Right_spec (g := g) (stampOf id)
  have hq : (0 : Int) < 16 ∧ -9223372036854775808 ≤ id ∧ id ≤ 9223372036854775807 := ⟨by omega, hid⟩
  have hr : (0 : Int) < 16 := by omega
  refine pcalls' Tryd.func87 Tryd.ntmps87 rfl rfl rfl ?_
  cases hc : right (stampOf id) with
  | false =>
    rw [hc] at h1
    have n1 : (!false) = true := rfl
    repeat' (first
     | ((with_reducible refine is_un ?_); (first | refine awpL_ev (ev_tdiv rfl rfl hq) rfl ?_ | refine awpL_ev (ev_tmod rfl rfl hr) rfl ?_))
     | refine stn [2] ?_
     | fail)
    refine retP rfl ?_
    simp [ex, exL, ofR, hc, stampC]
  | true =>
    rw [hc] at h1
    have n1 : (!true) = false := rfl
    repeat' (first
     | ((with_reducible refine is_un ?_); (first | refine awpL_ev (ev_tdiv rfl rfl hq) rfl ?_ | refine awpL_ev (ev_tmod rfl rfl hr) rfl ?_))
     | refine stn [2] ?_
     | fail)
    refine retP rfl ?_
    rw [ofR, hc, if_pos rfl]
    simp [ex, exL, stampC, stampOf]
theorem rOf_spec (id : Int) (hid : -9223372036854775808 ≤ id ∧ id ≤ 9223372036854775807) : PCalls Tryd.prog g 88 [vi id] (ofR id) := by
  have h1 := rRight_spec (g := g) (stampOf id)
  have hq : (0 : Int) < 16 ∧ -9223372036854775808 ≤ id ∧ id ≤ 9223372036854775807 := ⟨by omega, hid⟩
  have hr : (0 : Int) < 16 := by omega
  refine pcalls' Tryd.func88 Tryd.ntmps88 rfl rfl rfl ?_
  cases hc : right (stampOf id) with
  | false =>
    rw [hc] at h1
    have n1 : (!false) = true := rfl
    repeat' (first
     | ((with_reducible refine is_un ?_); (first | refine awpL_ev (ev_tdiv rfl rfl hq) rfl ?_ | refine awpL_ev (ev_tmod rfl rfl hr) rfl ?_))
     | refine stn [2] ?_
     | fail)
    refine retP rfl ?_
    simp [ex, exL, ofR, hc, stampC]
  | true =>
    rw [hc] at h1
    have n1 : (!true) = false := rfl
    repeat' (first
     | ((with_reducible refine is_un ?_); (first | refine awpL_ev (ev_tdiv rfl rfl hq) rfl ?_ | refine awpL_ev (ev_tmod rfl rfl hr) rfl ?_))
     | refine stn [2] ?_
     | fail)
    refine retP rfl ?_
    rw [ofR, hc, if_pos rfl]
    simp [ex, exL, stampC, stampOf]
theorem number_spec (v : List Int) (i : Nat) (hv : v.length ≤ 1000000) : PCalls Tryd.prog g 54 [encIs v, vi i] (vi (num v i)) := by
  refine pcalls' Tryd.func54 Tryd.ntmps54 rfl rfl rfl ?_
  cases ht : v[i]? with
  | none =>
    have hge : v.length ≤ i := by simpa using ht
    have c1 : decide ((v.length : Int) ≤ i) = true := by simp; omega
    refine runn [] ?_
    refine retP rfl ?_
    simp [ex, num, ht]
  | some t =>
    have hlt : i < v.length := (List.getElem?_eq_some_iff.1 ht).1
    have c1 : decide ((v.length : Int) ≤ i) = false := by simp; omega
    have h1 := int_get ht
    refine runn [] ?_
    refine retP rfl ?_
    simp [ex, num, ht]
def rnum (v : List Int) (d : Int) : Int := if 1 ≤ d ∧ d ≤ 15 then num v (d - 1).toNat else 0
theorem At_spec (v : List Int) (d : Int) (hv : v.length ≤ 1000000) : PCalls Tryd.prog g 56 [encIs v, vi d] (vi (rnum v d)) := by
  refine pcalls' Tryd.func56 Tryd.ntmps56 rfl rfl rfl ?_
  by_cases h1 : d < 1
  · have c1 : decide (d < 1) = true := by simpa using h1
    refine runn [] ?_
    refine retP rfl ?_
    have : ¬ (1 ≤ d ∧ d ≤ 15) := by omega
    simp [ex, rnum, this]
  have c1 : decide (d < 1) = false := by simpa using h1
  by_cases h2 : 15 < d
  · have c2 : decide (15 < d) = true := by simpa using h2
    refine runn [] ?_
    refine retP rfl ?_
    have : ¬ (1 ≤ d ∧ d ≤ 15) := by omega
    simp [ex, rnum, this]
  have c2 : decide (15 < d) = false := by simpa using h2
  have hd : 1 ≤ d ∧ d ≤ 15 := by omega
  cases ht : v[(d - 1).toNat]? with
  | none =>
    have hge : v.length ≤ (d - 1).toNat := by simpa using ht
    have c3 : decide ((v.length : Int) < d) = true := by simp; omega
    refine runn [] ?_
    refine retP rfl ?_
    rw [rnum, if_pos hd, num, ht]
    simp [ex]
  | some t =>
    have hlt : (d - 1).toNat < v.length := (List.getElem?_eq_some_iff.1 ht).1
    have c3 : decide ((v.length : Int) < d) = false := by simp; omega
    have h1 : 0 ≤ d - 1 ∧ (v.map intC)[(d - 1).toNat]? = some (intC t) := ⟨by omega, by rw [List.getElem?_map, ht]; rfl⟩
    refine runn [] ?_
    refine retP rfl ?_
    rw [rnum, if_pos hd, num, ht]
    simp [ex, Int.max_comm]
theorem right_dev {s : Stamp} (h : right s = true) : 1 ≤ s.dev ∧ s.dev ≤ 15 ∧ 1 ≤ s.count ∧ s.count ≤ 1048576 := by simp [right] at h; omega
theorem Covers_spec (v : List Int) (s : Stamp) (hv : v.length ≤ 1000000) : PCalls Tryd.prog g 37 [encIs v, .agg (stampC s)] (vb (covers v s)) := by
  have h1 := Right_spec (g := g) s
  refine pcalls' Tryd.func37 Tryd.ntmps37 rfl rfl rfl ?_
  cases hr : right s with
  | false =>
    rw [hr] at h1
    refine run [] ?_
    refine retP rfl ?_
    simp [ex, covers, hr]
  | true =>
    rw [hr] at h1
    have hd := right_dev hr
    have h2 : PCalls Tryd.prog g 54 [encIs v, vi (s.dev - 1)] (vi (num v (s.dev - 1).toNat)) := by
      have := number_spec (g := g) v (s.dev - 1).toNat hv
      rwa [Int.toNat_of_nonneg (by omega)] at this
    refine run [] ?_
    refine retP rfl ?_
    simp [ex, covers, hr]
theorem rCovers_spec (v : List Int) (s : Stamp) (hv : v.length ≤ 1000000) : PCalls Tryd.prog g 38 [encIs v, .agg (stampC s)] (vb (covers v s)) := by
  have h1 := rRight_spec (g := g) s
  refine pcalls' Tryd.func38 Tryd.ntmps38 rfl rfl rfl ?_
  cases hr : right s with
  | false =>
    rw [hr] at h1
    refine run [] ?_
    refine retP rfl ?_
    simp [ex, covers, hr]
  | true =>
    rw [hr] at h1
    have hd := right_dev hr
    have h2 := At_spec (g := g) v s.dev hv
    rw [rnum, if_pos ⟨hd.1, hd.2.1⟩] at h2
    refine run [] ?_
    refine retP rfl ?_
    simp [ex, covers, hr]
end Go.Proofs.YtifpafbmfedpkaaDoor
end
section
set_option linter.unusedVariables false
set_option linter.unusedSimpArgs false
set_option linter.unusedSectionVars false
namespace Go.Proofs.YtifpafbmfedpkaaDoor
open Go.Ac
attribute [local irreducible] awp awpL Ev Ev2 EvS thenQ blockQ retQ PCalls OCalls
set_option linter.unusedSimpArgs false
set_option linter.unusedVariables false
variable {g : List (Nat × List AV)}
def joinC (a b : List Int) (k : Nat) : List (List AV) := (List.range 15).map fun i => intC (if i < k then max (num a i) (num b i) else 0)
theorem joinC_set (a b : List Int) (k : Nat) (hk : k < 15) : (joinC a b k).set k (intC (max (num a k) (num b k))) = joinC a b (k + 1) := by
  unfold joinC
  apply List.ext_getElem?
  intro i
  rw [List.getElem?_set]
  simp only [List.getElem?_map, List.length_map, List.length_range]
  by_cases e : k = i
  · subst e
    simp [hk]
  · simp only [e, if_false]
    rcases Nat.lt_or_ge i 15 with h | h
    · simp only [List.getElem?_range h, Option.map_some, Option.some.injEq]
      have : (i < k) = (i < k + 1) := by apply propext; omega
      simp only [this]
    · rw [List.getElem?_eq_none (by simpa using h)]; rfl
theorem joinC_get (a b : List Int) (k : Nat) (hk : k < 15) : (joinC a b k)[k]? = some (intC 0) := by
  unfold joinC
  simp [hk]
theorem joinC_end (a b : List Int) : joinC a b 15 = (join a b).map intC := by
  unfold joinC join
  rw [List.map_map]
  refine List.map_congr_left fun i hi => ?_
  simp only [List.mem_range] at hi
  simp [hi]
theorem joinC_len (a b : List Int) (k : Nat) : (joinC a b k).length = 15 := by simp [joinC]
set_option maxHeartbeats 400000 in
theorem Join_spec (a b : List Int) (ha : a.length ≤ 1000000) (hb : b.length ≤ 1000000) : OCalls Tryd.prog g 39 [encIs a, encIs b] 3 1 ((join a b).map intC) := by
  refine ocalls' Tryd.func39 Tryd.ntmps39 rfl rfl rfl ?_
  have hm : (0 : Int) ≤ 15 ∧ (8 : Nat) * (15 : Int) ≤ 281474976710656 ∧ (15 : Int) ≤ 9223372036854775807 := by omega
  repeat' (first
   | ((with_reducible refine is_un ?_); refine awpL_ev2 (ev_make (n := 15) (es := joinC a b 0) rfl rfl rfl rfl rfl rfl rfl rfl hm rfl (by simp only [List.length_nil]; rfl) (by simp only [List.nil_append]; rfl)) rfl ?_)
   | refine stn [] ?_
   | ((with_reducible refine is_awp ?_); refine awp_cond rfl (fun h => ?_) (fun h => ?_))
   | fail)
  refine awp_for (α := Nat) 1 (fun k => [(5, .os 0 0), (9, vi 15), (10, vi k), (0, encIs a), (1, encIs b)]) (fun k => [.own 0 3 1 (joinC a b k)]) (fun k => k ≤ 15) (fun k => 15 - k) 0
    ⟨(.cons rfl rfl (.cons rfl rfl (.cons rfl rfl (.cons rfl rfl (.cons rfl rfl .nil))))), rfl, rfl, rfl⟩ (Nat.zero_le _) ?_
  rintro k hk
  by_cases h15 : k = 15
  · subst h15
    have c1 : decide (((15 : Nat) : Int) < 15) = false := rfl
    refine runn [] ?_
    exact retO rfl (by rw [joinC_end]; rfl)
  · have c1 : decide ((k : Int) < 15) = true := by simp; omega
    have hlt : k < 15 := by omega
    have h1 := number_spec (g := g) a k ha
    have h2 := number_spec (g := g) b k hb
    have hc : 0 ≤ (k : Int) ∧ (k : Int) < (joinC a b k).length := by rw [joinC_len]; omega
    have hel : (joinC a b k)[(k : Int).toNat]? = some (intC 0) := by simpa using joinC_get a b k hlt
    have hset : (joinC a b k).set (k : Int).toNat (intC (max (num a k) (num b k))) = joinC a b (k + 1) := by simpa using joinC_set a b k hlt
    repeat' (first
     | ((with_reducible refine is_un ?_); refine awpL_evS (ev_st_ep (el' := intC (max (num a k) (num b k))) (L' := [.own 0 3 1 (joinC a b (k + 1))]) rfl rfl rfl rfl rfl rfl rfl rfl hel rfl (by rw [← hset]; rfl)) ?_)
     | refine stn [] ?_
     | fail)
    exact ⟨k + 1, ⟨(.cons rfl rfl (.cons rfl rfl (.cons rfl rfl (.cons rfl rfl (.cons rfl rfl .nil))))), rfl, rfl, rfl⟩, by omega, by omega⟩
theorem Join_nil (a : List Int) (ha : a.length ≤ 1000000) : OCalls Tryd.prog g 39 [encIs a, nilS] 3 1 ((join a []).map intC) :=
  (Join_spec a [] ha (by simp)).args (.cons (Le.of_eq rfl) (.cons (Le.nil 1) .nil))
theorem Join_nn : OCalls Tryd.prog g 39 [nilS, nilS] 3 1 ((join [] []).map intC) :=
  (Join_spec [] [] (by simp) (by simp)).args (.cons (Le.nil 1) (.cons (Le.nil 1) .nil))
theorem join_get (a b : List Int) (k : Nat) (hk : k < 15) : (join a b)[k]? = some (max (num a k) (num b k)) := by simp [join, hk]
theorem num_join (a : List Int) (k : Nat) (hk : k < 15) : max (num a k) (num [] k) = num a k := by simp [num]
theorem set_map_int (l : List Int) (k : Nat) (x : Int) : (l.map intC).set k (intC x) = (l.set k x).map intC := by rw [List.map_set]
set_option maxHeartbeats 400000 in
theorem See_spec (v : List Int) (s : Stamp) (hv : v.length ≤ 1000000) : OCalls Tryd.prog g 43 [encIs v, .agg (stampC s)] 3 1 ((see v s).map intC) := by
  have h1 := Right_spec (g := g) s
  have h2 := Join_nil (g := g) v hv
  refine ocalls' Tryd.func43 Tryd.ntmps43 rfl rfl rfl ?_
  cases hr : right s with
  | false =>
    rw [hr] at h1
    have hs : see v s = join v [] := by simp [see, hr]
    repeat' (first
     | ((with_reducible refine is_un ?_); refine awpL_ocall rfl rfl h2 rfl (by simp only [List.length_nil]; rfl) (by simp only [List.nil_append]; rfl) ?_)
     | refine st [] ?_
     | fail)
    exact retO rfl (by rw [hs]; rfl)
  | true =>
    rw [hr] at h1
    have hd := right_dev hr
    have hlt : (s.dev - 1).toNat < 15 := by omega
    have hs : see v s = (join v []).set (s.dev - 1).toNat (max (num v (s.dev - 1).toNat) s.count) := by simp [see, hr]
    have hc : 0 ≤ s.dev - 1 ∧ s.dev - 1 < ((join v []).map intC).length := by rw [List.length_map, join_len]; omega
    have hel : ((join v []).map intC)[(s.dev - 1).toNat]? = some (intC (num v (s.dev - 1).toNat)) := by rw [List.getElem?_map, join_get _ _ _ hlt, num_join _ _ hlt]; rfl
    repeat' (first
     | refine awpD_sS rfl rfl (ev_st_ep (el' := intC (max (num v (s.dev - 1).toNat) s.count)) (L' := [.own 0 3 1 ((see v s).map intC)]) rfl rfl rfl rfl rfl rfl rfl rfl hel rfl (by rw [hs, ← set_map_int]; rfl)) rfl rfl ?_
     | ((with_reducible refine is_un ?_); refine awpL_ocall rfl rfl h2 rfl (by simp only [List.length_nil]; rfl) (by simp only [List.nil_append]; rfl) ?_)
     | refine st [] ?_
     | fail)
    exact retO rfl rfl
end Go.Proofs.YtifpafbmfedpkaaDoor
end
section
set_option linter.unusedVariables false
set_option linter.unusedSimpArgs false
set_option linter.unusedSectionVars false
namespace Go.Proofs.YtifpafbmfedpkaaDoor
open Go.Ac
attribute [local irreducible] awp awpL Ev Ev2 EvS thenQ blockQ retQ PCalls OCalls
set_option linter.unusedSimpArgs false
set_option linter.unusedVariables false
variable {g : List (Nat × List AV)}
theorem rnum_succ (a : List Int) (k : Nat) (h : k < 15) : rnum a ((k : Int) + 1) = num a k := by
  rw [rnum, if_pos (by omega)]
  congr 1; omega
theorem join_take (a b : List Int) (k : Nat) (h : k < 15) : ((join a b).take k).map intC ++ [[vi (max (num a k) (num b k))]] = ((join a b).take (k + 1)).map intC := by
  rw [List.take_add_one, join_get _ _ _ h, List.map_append]; rfl
set_option maxHeartbeats 400000 in
theorem rJoin_spec (a b : List Int) (ha : a.length ≤ 1000000) (hb : b.length ≤ 1000000) : OCalls Tryd.prog g 61 [encIs a, encIs b] 3 1 ((join a b).map intC) := by
  refine ocalls' Tryd.func61 Tryd.ntmps61 rfl rfl rfl ?_
  repeat' (first
   | refine stn [] ?_
   | ((with_reducible refine is_awp ?_); refine awp_cond rfl (fun h => ?_) (fun h => ?_))
   | fail)
  refine awp_adopt (t := 5) (E := 3) (sz := 1) rfl rfl rfl ?_
  refine awp_for (α := Nat) 1 (fun k => [(5, .os 0 0), (6, vi (k + 1)), (0, encIs a), (1, encIs b)]) (fun k => [.own 0 3 1 (((join a b).take k).map intC)]) (fun k => k ≤ 15) (fun k => 15 - k) 0
    ⟨(.cons rfl rfl (.cons rfl rfl (.cons rfl rfl (.cons rfl rfl .nil)))), rfl, rfl, rfl⟩ (Nat.zero_le _) ?_
  rintro k hk
  by_cases h15 : k = 15
  · subst h15
    have c1 : decide (((15 : Nat) : Int) + 1 ≤ 15) = false := rfl
    refine runn [] ?_
    exact retO rfl (by rw [show (join a b).take 15 = join a b by rw [← join_len a b, List.take_length]]; rfl)
  · have c1 : decide ((k : Int) + 1 ≤ 15) = true := by simp; omega
    have hlt : k < 15 := by omega
    have h1 := At_spec (g := g) a (k + 1) ha
    have h2 := At_spec (g := g) b (k + 1) hb
    rw [rnum_succ _ _ hlt] at h1 h2
    have hj := join_take a b k hlt
    repeat' (first
     | ((with_reducible refine is_un ?_); refine awpL_ev2 (ev_app (es' := ((join a b).take (k + 1)).map intC) (L' := [.own 1 3 1 (((join a b).take (k + 1)).map intC)]) rfl rfl rfl rfl rfl rfl rfl rfl rfl rfl rfl rfl rfl (by simp only [List.length_map, List.length_cons, List.length_nil, List.length_append, List.length_take]; omega) hj rfl) rfl ?_)
     | refine stn [] ?_
     | fail)
    exact ⟨k + 1, ⟨(.cons rfl rfl (.cons rfl rfl (.cons rfl rfl (.cons rfl rfl .nil)))), rfl, rfl, rfl⟩, by omega, by omega⟩
theorem rJoin_nil (a : List Int) (ha : a.length ≤ 1000000) : OCalls Tryd.prog g 61 [encIs a, nilS] 3 1 ((join a []).map intC) :=
  (rJoin_spec a [] ha (by simp)).args (.cons (Le.of_eq rfl) (.cons (Le.nil 1) .nil))
theorem rJoin_nn : OCalls Tryd.prog g 61 [nilS, nilS] 3 1 ((join [] []).map intC) :=
  (rJoin_spec [] [] (by simp) (by simp)).args (.cons (Le.nil 1) (.cons (Le.nil 1) .nil))
set_option maxHeartbeats 400000 in
theorem rSee_spec (v : List Int) (s : Stamp) (hv : v.length ≤ 1000000) : OCalls Tryd.prog g 62 [encIs v, .agg (stampC s)] 3 1 ((see v s).map intC) := by
  have h1 := rRight_spec (g := g) s
  have h2 := rJoin_nil (g := g) v hv
  refine ocalls' Tryd.func62 Tryd.ntmps62 rfl rfl rfl ?_
  cases hr : right s with
  | false =>
    rw [hr] at h1
    have hs : see v s = join v [] := by simp [see, hr]
    repeat' (first
     | ((with_reducible refine is_un ?_); refine awpL_ocall rfl rfl h2 rfl (by simp only [List.length_nil]; rfl) (by simp only [List.nil_append]; rfl) ?_)
     | refine st [] ?_
     | fail)
    exact retO rfl (by rw [hs]; rfl)
  | true =>
    rw [hr] at h1
    have hd := right_dev hr
    have hlt : (s.dev - 1).toNat < 15 := by omega
    have hs : see v s = (join v []).set (s.dev - 1).toNat (max (num v (s.dev - 1).toNat) s.count) := by simp [see, hr]
    have hc : 0 ≤ s.dev - 1 ∧ s.dev - 1 < ((join v []).map intC).length := by rw [List.length_map, join_len]; omega
    have hel : ((join v []).map intC)[(s.dev - 1).toNat]? = some (intC (num v (s.dev - 1).toNat)) := by rw [List.getElem?_map, join_get _ _ _ hlt, num_join _ _ hlt]; rfl
    repeat' (first
     | refine awpD_sS rfl rfl (ev_st_ep (el' := intC (max (num v (s.dev - 1).toNat) s.count)) (L' := [.own 0 3 1 ((see v s).map intC)]) rfl rfl rfl rfl rfl rfl rfl rfl hel rfl (by rw [hs, ← set_map_int]; rfl)) rfl rfl ?_
     | ((with_reducible refine is_un ?_); refine awpL_ocall rfl rfl h2 rfl (by simp only [List.length_nil]; rfl) (by simp only [List.nil_append]; rfl) ?_)
     | refine st [] ?_
     | fail)
    exact retO rfl rfl
end Go.Proofs.YtifpafbmfedpkaaDoor
end
