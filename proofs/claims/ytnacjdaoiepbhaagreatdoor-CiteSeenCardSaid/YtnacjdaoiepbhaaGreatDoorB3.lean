/- A logic of trees over the model's steps, and the contracts of the functions that the laws reach: part 3 of 19. -/
import Derived.Test.YtnacjdaoiepbhaaGreatDoorB2
import Derived.Test.YtnacjdaoiepbhaaGreatDoorProg
set_option linter.unusedVariables false
set_option linter.unusedSimpArgs false
set_option linter.unusedSectionVars false
section
namespace Go.Ac
inductive Mut : List Nat → Prop
  | of (M : List Nat) : Mut M
section
variable {P : Program} {td : TDs} [T : TOK P td] {G : Glo} {N : Nat} {Q : AQ} {S : SL} {L : List LB} {ops : Array Oper} {rest : List Oper} {ty : TypeId} {pos : String} {af : Array Edge} {d : Nat} {x : AV}
theorem awpL_boxMm {M : List Nat} (m : Mut M) {t : TypeId} {u : Operand} (hm : notIn d M = true) (h : val G S u = some x) (hf : fit x = true) (hF : (cellsOf x).all isF = true) {x' : AV} (hx : AV.fp (cellsOf x) = x') (hd : Nat.blt d N = true)
    (k : awpL P G N ops rest Q ((d, x') :: S) L) : awpL P G N ops (⟨some d, .box t u, ty, pos, af, none⟩ :: rest) Q S L := awpL_boxM M hm h hf hF hx hd k
theorem awpL_stMm {M : List Nat} (m : Mut M) {t p : Nat} {d : TD} {e : Operand} {k : Nat} {bs : List AV} {L' : List LB} (hm : notIn p M = true) (h : get S p = some (.lp k 0)) (hk : L[k]? = some (.box bs)) (he : val G S e = some x) (hfx : fit x = true) (hF : (cellsOf x).all isF = true) (ht : lk td t = some d)
    (hn : (cellsOf x).length = d.size) (hq : bs.length = d.size) {x' : AV} (hx : AV.fp (cellsOf x) = x') (hL : L.set k .dead = L') (kk : awpL P G N ops rest Q ((p, x') :: S) L') : awpL P G N ops (⟨none, .store t (.tmp p) e, ty, pos, af, none⟩ :: rest) Q S L := awpL_stM M hm h hk he hfx hF ht hn hq hx hL kk
end
structure Left (B : Prop) : Prop where
  out : B
theorem run (M : List Nat) {A B : Prop} (k : B) (h : Mut M → Left B → A := by
    intro m k
    repeat' (first
     | ((with_reducible refine is_un ?_); (first | ((with_reducible refine is_move ?_); (first | refine awpL_ev (ev_move rfl) rfl ?_ | fail)) | ((with_reducible refine is_bin ?_); (first | refine awpL_ev (ev_add rfl rfl (by omega)) rfl ?_ | refine awpL_ev (ev_sub rfl rfl (by omega)) rfl ?_ | refine awpL_ev (ev_bin rfl rfl rfl) rfl ?_ | refine awpL_ev (ev_eq_bool rfl rfl rfl rfl) rfl ?_ | fail)) | ((with_reducible refine is_fa ?_); (first | refine awpL_ev (ev_fa_fp rfl rfl rfl rfl rfl rfl) rfl ?_ | refine awpL_ev (ev_fa_lp rfl rfl rfl rfl rfl rfl rfl) rfl ?_ | refine awpL_ev (ev_fa_ep rfl rfl rfl rfl rfl rfl rfl) rfl ?_ | fail)) | ((with_reducible refine is_load ?_); (first | refine awpL_ev (ev_load_agg rfl rfl rfl rfl) rfl ?_ | refine awpL_ev (ev_load_sub rfl rfl rfl rfl rfl) rfl ?_ | refine awpL_ev (ev_load_one rfl rfl rfl rfl) rfl ?_ | refine awpL_ev (ev_ll_agg rfl rfl rfl rfl rfl rfl rfl) rfl ?_ | refine awpL_ev (ev_ll_lag rfl rfl rfl rfl rfl rfl) rfl ?_ | refine awpL_ev (ev_ll_one rfl rfl rfl rfl rfl) rfl ?_ | refine awpL_ev (ev_el_one rfl rfl rfl rfl (by with_reducible assumption) rfl) rfl ?_ | fail)) | ((with_reducible refine is_pick ?_); (first | refine awpL_ev (ev_pick_t rfl (by first | with_reducible rfl | with_reducible assumption) rfl) rfl ?_ | refine awpL_ev (ev_pick_f rfl (by first | with_reducible rfl | with_reducible assumption) rfl) rfl ?_ | fail)) | ((with_reducible refine is_assign ?_); (first | refine awpL_ev (ev_assign rfl) rfl ?_ | fail)) | ((with_reducible refine is_call ?_); (first | refine awpL_call rfl rfl (by assumption) rfl ?_ | refine awpL_ev (ev_len rfl rfl rfl rfl rfl) rfl ?_ | refine awpL_ev (ev_max rfl rfl) rfl ?_ | refine awpL_ev (ev_min rfl rfl) rfl ?_ | refine awpL_ev (ev_len_os rfl rfl rfl rfl rfl) rfl ?_ | refine awpL_ev2 (ev_append_zf rfl rfl rfl rfl rfl rfl rfl rfl rfl rfl rfl rfl rfl (by simp only [List.length_map, List.length_cons, List.length_nil]; omega) rfl) rfl ?_ | fail)) | ((with_reducible refine is_store ?_); (first | refine awpL_stMm m rfl rfl rfl rfl rfl rfl rfl rfl rfl (by (try simp only [cellsOf, List.map_cons, List.map_nil]); (try rfl)) (by (try simp only [List.set_cons_zero, List.set_cons_succ, List.nil_append, List.cons_append, List.append_nil, cellsOf, List.take_zero, List.drop_zero, List.take_succ_cons, List.drop_succ_cons, Nat.zero_add, Nat.reduceAdd, List.drop_nil, List.map_cons, List.map_nil]); (try rfl)) ?_ | refine awpL_evS (ev_st_lp rfl rfl rfl rfl rfl rfl rfl (by (try simp only [List.set_cons_zero, List.set_cons_succ, List.nil_append, List.cons_append, List.append_nil, cellsOf, List.take_zero, List.drop_zero, List.take_succ_cons, List.drop_succ_cons, Nat.zero_add, Nat.reduceAdd, List.drop_nil, List.map_cons, List.map_nil]); (try rfl))) ?_ | fail)) | ((with_reducible refine is_alloc ?_); (first | refine awpL_ev2 (ev_alloc rfl rfl (by (try simp only [List.length_nil, List.length_cons, Nat.reduceAdd]); (try rfl)) (by (try simp only [List.set_cons_zero, List.set_cons_succ, List.nil_append, List.cons_append, List.append_nil, cellsOf, List.take_zero, List.drop_zero, List.take_succ_cons, List.drop_succ_cons, Nat.zero_add, Nat.reduceAdd, List.drop_nil, List.map_cons, List.map_nil]); (try rfl))) rfl ?_ | fail)) | ((with_reducible refine is_box ?_); (first | refine awpL_boxMm m rfl rfl rfl rfl (by (try simp only [cellsOf, List.map_cons, List.map_nil]); (try rfl)) rfl ?_ | refine awpL_ev2 (ev_box rfl rfl (by (try simp only [List.length_nil, List.length_cons, Nat.reduceAdd]); (try rfl)) (by (try simp only [List.set_cons_zero, List.set_cons_succ, List.nil_append, List.cons_append, List.append_nil, cellsOf, List.take_zero, List.drop_zero, List.take_succ_cons, List.drop_succ_cons, Nat.zero_add, Nat.reduceAdd, List.drop_nil, List.map_cons, List.map_nil]); (try rfl))) rfl ?_ | fail)) | refine awpL_ev (ev_ia_fs rfl rfl rfl rfl rfl rfl (by with_reducible assumption)) rfl ?_ | refine awpL_ev (ev_not rfl) rfl ?_ | refine awpL_ev (ev_extract rfl rfl) rfl ?_ | refine awpL_ev (ev_index_str rfl rfl rfl rfl (by with_reducible assumption)) rfl ?_ | refine awpL_ev (ev_build rfl rfl rfl rfl rfl rfl rfl) rfl ?_ | refine awpL_ev (ev_slice_fs rfl rfl rfl rfl rfl rfl rfl (by with_reducible assumption) rfl rfl) rfl ?_ | refine awpL_ev (ev_makeFunc rfl rfl) rfl ?_ | refine awpL_ev (ev_nilCheck_fp rfl) rfl ?_ | refine awpL_ev (ev_index_arr rfl rfl rfl rfl rfl rfl rfl (by with_reducible assumption)) rfl ?_ | refine awpL_ev (ev_ia_os rfl rfl rfl rfl rfl rfl rfl (by with_reducible assumption)) rfl ?_ | refine awpL_ev (ev_build_lag rfl rfl rfl rfl rfl rfl) rfl ?_ | refine awpL_ev (ev_nilCheck_lp rfl rfl) rfl ?_ | refine awpL_ev2 (ev_bslice_z rfl rfl rfl rfl rfl rfl rfl) rfl ?_ | refine awpL_ev2 (ev_bslice_in rfl rfl rfl rfl rfl rfl rfl rfl rfl rfl rfl rfl (by (try simp only [List.map_cons, List.map_nil, cellsOf]); (try rfl))) rfl ?_))
     | ((with_reducible refine is_gd ?_); (first | refine awpL_run rfl rfl rfl (by first | with_reducible rfl | with_reducible assumption) ?_ | refine awpL_passT rfl rfl rfl rfl (by first | with_reducible rfl | with_reducible assumption) ?_ | refine awpL_passF rfl rfl rfl rfl (by first | with_reducible rfl | with_reducible assumption) ?_ | refine awpL_passU rfl rfl rfl rfl ?_ | fail))
     | ((with_reducible refine is_nil ?_); refine awpL_nil ?_)
     | ((with_reducible refine is_then ?_); (first | refine thenQ_n ?_ | refine thenQ_r ?_ | refine thenQ_e ?_ | fail))
     | ((with_reducible refine is_block ?_); (first | refine blockQ_n ?_ | refine blockQ_r ?_ | refine blockQ_e ?_ | refine blockQ_o rfl ?_ | fail))
     | ((with_reducible refine is_draw ?_); (first | refine awp_drawA (by kernel_rfl) rfl rfl (by repeat' (first | exact Strip.nil | apply Strip.keep rfl | apply Strip.drop rfl)) ?_ | fail))
     | ((with_reducible refine isD_un ?_); (first | ((with_reducible refine isD_st ?_); refine awpD_sS rfl (by (try simp only [List.set_cons_zero, List.set_cons_succ, List.nil_append, List.cons_append, List.append_nil, cellsOf, List.take_zero, List.drop_zero, List.take_succ_cons, List.drop_succ_cons, Nat.zero_add, Nat.reduceAdd, List.drop_nil, List.map_cons, List.map_nil]); (try rfl)) (ev_st_lp rfl rfl rfl rfl rfl rfl rfl (by (try simp only [List.set_cons_zero, List.set_cons_succ, List.nil_append, List.cons_append, List.append_nil, cellsOf, List.take_zero, List.drop_zero, List.take_succ_cons, List.drop_succ_cons, Nat.zero_add, Nat.reduceAdd, List.drop_nil, List.map_cons, List.map_nil]); (try rfl))) rfl (by (try simp only [List.nil_append, List.cons_append]); (try rfl)) ?_) | ((with_reducible refine isD_al ?_); refine awpD_nw rfl (by repeat' (first | exact Msk.nil | apply Msk.base | apply Msk.vis rfl | apply Msk.hid rfl)) (ev_alloc rfl rfl (by (try simp only [List.length_nil, List.length_cons, Nat.reduceAdd]); (try rfl)) (by (try simp only [List.set_cons_zero, List.set_cons_succ, List.nil_append, List.cons_append, List.append_nil, cellsOf, List.take_zero, List.drop_zero, List.take_succ_cons, List.drop_succ_cons, Nat.zero_add, Nat.reduceAdd, List.drop_nil, List.map_cons, List.map_nil]); (try rfl))) rfl rfl rfl rfl rfl (by (try simp only [List.set_cons_zero, List.set_cons_succ, List.nil_append, List.cons_append, List.append_nil, cellsOf, List.take_zero, List.drop_zero, List.take_succ_cons, List.drop_succ_cons, Nat.zero_add, Nat.reduceAdd, List.drop_nil, List.map_cons, List.map_nil]); (try rfl)) (by (try simp only [List.nil_append, List.cons_append]); (try rfl)) ?_) | ((with_reducible refine isDs_move ?_); (first | refine awpD_un (as_ev (fun _ => ev_move rfl) rfl rfl) (by (try simp only [List.nil_append, List.cons_append]); (try rfl)) ?_ | fail)) | ((with_reducible refine isDs_bin ?_); (first | refine awpD_un (as_ev (fun _ => ev_add rfl rfl (by omega)) rfl rfl) (by (try simp only [List.nil_append, List.cons_append]); (try rfl)) ?_ | refine awpD_un (as_ev (fun _ => ev_sub rfl rfl (by omega)) rfl rfl) (by (try simp only [List.nil_append, List.cons_append]); (try rfl)) ?_ | refine awpD_un (as_ev (fun _ => ev_bin rfl rfl rfl) rfl rfl) (by (try simp only [List.nil_append, List.cons_append]); (try rfl)) ?_ | refine awpD_un (as_ev (fun _ => ev_eq_bool rfl rfl rfl rfl) rfl rfl) (by (try simp only [List.nil_append, List.cons_append]); (try rfl)) ?_ | fail)) | ((with_reducible refine isDs_fa ?_); (first | refine awpD_un (as_ev (fun _ => ev_fa_fp rfl rfl rfl rfl rfl rfl) rfl rfl) (by (try simp only [List.nil_append, List.cons_append]); (try rfl)) ?_ | refine awpD_un (as_pure rfl (by repeat' (first | exact Msk.nil | apply Msk.base | apply Msk.vis rfl | apply Msk.hid rfl)) (ev_fa_lp rfl rfl rfl rfl rfl rfl rfl) rfl rfl rfl) (by (try simp only [List.nil_append, List.cons_append]); (try rfl)) ?_ | refine awpD_un (as_pure rfl (by repeat' (first | exact Msk.nil | apply Msk.base | apply Msk.vis rfl | apply Msk.hid rfl)) (ev_fa_ep rfl rfl rfl rfl rfl rfl rfl) rfl rfl rfl) (by (try simp only [List.nil_append, List.cons_append]); (try rfl)) ?_ | fail)) | ((with_reducible refine isDs_load ?_); (first | refine awpD_un (as_ev (fun _ => ev_load_agg rfl rfl rfl rfl) rfl rfl) (by (try simp only [List.nil_append, List.cons_append]); (try rfl)) ?_ | refine awpD_un (as_ev (fun _ => ev_load_sub rfl rfl rfl rfl rfl) rfl rfl) (by (try simp only [List.nil_append, List.cons_append]); (try rfl)) ?_ | refine awpD_un (as_ev (fun _ => ev_load_one rfl rfl rfl rfl) rfl rfl) (by (try simp only [List.nil_append, List.cons_append]); (try rfl)) ?_ | refine awpD_un (as_pure rfl (by repeat' (first | exact Msk.nil | apply Msk.base | apply Msk.vis rfl | apply Msk.hid rfl)) (ev_ll_agg rfl rfl rfl rfl rfl rfl rfl) rfl rfl rfl) (by (try simp only [List.nil_append, List.cons_append]); (try rfl)) ?_ | refine awpD_un (as_pure rfl (by repeat' (first | exact Msk.nil | apply Msk.base | apply Msk.vis rfl | apply Msk.hid rfl)) (ev_ll_lag rfl rfl rfl rfl rfl rfl) rfl rfl rfl) (by (try simp only [List.nil_append, List.cons_append]); (try rfl)) ?_ | refine awpD_un (as_pure rfl (by repeat' (first | exact Msk.nil | apply Msk.base | apply Msk.vis rfl | apply Msk.hid rfl)) (ev_ll_one rfl rfl rfl rfl rfl) rfl rfl rfl) (by (try simp only [List.nil_append, List.cons_append]); (try rfl)) ?_ | refine awpD_un (as_pure rfl (by repeat' (first | exact Msk.nil | apply Msk.base | apply Msk.vis rfl | apply Msk.hid rfl)) (ev_el_one rfl rfl rfl rfl (by with_reducible assumption) rfl) rfl rfl rfl) (by (try simp only [List.nil_append, List.cons_append]); (try rfl)) ?_ | fail)) | ((with_reducible refine isDs_pick ?_); (first | refine awpD_un (as_ev (fun _ => ev_pick_t rfl (by first | with_reducible rfl | with_reducible assumption) rfl) rfl rfl) (by (try simp only [List.nil_append, List.cons_append]); (try rfl)) ?_ | refine awpD_un (as_ev (fun _ => ev_pick_f rfl (by first | with_reducible rfl | with_reducible assumption) rfl) rfl rfl) (by (try simp only [List.nil_append, List.cons_append]); (try rfl)) ?_ | fail)) | ((with_reducible refine isDs_assign ?_); (first | refine awpD_un (as_ev (fun _ => ev_assign rfl) rfl rfl) (by (try simp only [List.nil_append, List.cons_append]); (try rfl)) ?_ | fail)) | ((with_reducible refine isDs_call ?_); (first | refine awpD_un (as_call rfl rfl (by assumption) rfl) (by (try simp only [List.nil_append, List.cons_append]); (try rfl)) ?_ | refine awpD_un (as_ev (fun _ => ev_len rfl rfl rfl rfl rfl) rfl rfl) (by (try simp only [List.nil_append, List.cons_append]); (try rfl)) ?_ | refine awpD_un (as_ev (fun _ => ev_max rfl rfl) rfl rfl) (by (try simp only [List.nil_append, List.cons_append]); (try rfl)) ?_ | refine awpD_un (as_ev (fun _ => ev_min rfl rfl) rfl rfl) (by (try simp only [List.nil_append, List.cons_append]); (try rfl)) ?_ | refine awpD_un (as_pure rfl (by repeat' (first | exact Msk.nil | apply Msk.base | apply Msk.vis rfl | apply Msk.hid rfl)) (ev_len_os rfl rfl rfl rfl rfl) rfl rfl rfl) (by (try simp only [List.nil_append, List.cons_append]); (try rfl)) ?_ | refine awpD_un (as_ev2 (fun _ => ev_append_zf rfl rfl rfl rfl rfl rfl rfl rfl rfl rfl rfl rfl rfl (by simp only [List.length_map, List.length_cons, List.length_nil]; omega) rfl) rfl rfl) (by (try simp only [List.nil_append, List.cons_append]); (try rfl)) ?_ | fail)) | refine awpD_un (as_ev (fun _ => ev_ia_fs rfl rfl rfl rfl rfl rfl (by with_reducible assumption)) rfl rfl) (by (try simp only [List.nil_append, List.cons_append]); (try rfl)) ?_ | refine awpD_un (as_ev (fun _ => ev_not rfl) rfl rfl) (by (try simp only [List.nil_append, List.cons_append]); (try rfl)) ?_ | refine awpD_un (as_ev (fun _ => ev_extract rfl rfl) rfl rfl) (by (try simp only [List.nil_append, List.cons_append]); (try rfl)) ?_ | refine awpD_un (as_ev (fun _ => ev_index_str rfl rfl rfl rfl (by with_reducible assumption)) rfl rfl) (by (try simp only [List.nil_append, List.cons_append]); (try rfl)) ?_ | refine awpD_un (as_ev (fun _ => ev_build rfl rfl rfl rfl rfl rfl rfl) rfl rfl) (by (try simp only [List.nil_append, List.cons_append]); (try rfl)) ?_ | refine awpD_un (as_ev (fun _ => ev_slice_fs rfl rfl rfl rfl rfl rfl rfl (by with_reducible assumption) rfl rfl) rfl rfl) (by (try simp only [List.nil_append, List.cons_append]); (try rfl)) ?_ | refine awpD_un (as_ev (fun _ => ev_makeFunc rfl rfl) rfl rfl) (by (try simp only [List.nil_append, List.cons_append]); (try rfl)) ?_ | refine awpD_un (as_ev (fun _ => ev_nilCheck_fp rfl) rfl rfl) (by (try simp only [List.nil_append, List.cons_append]); (try rfl)) ?_ | refine awpD_un (as_ev (fun _ => ev_index_arr rfl rfl rfl rfl rfl rfl rfl (by with_reducible assumption)) rfl rfl) (by (try simp only [List.nil_append, List.cons_append]); (try rfl)) ?_ | refine awpD_un (as_pure rfl (by repeat' (first | exact Msk.nil | apply Msk.base | apply Msk.vis rfl | apply Msk.hid rfl)) (ev_ia_os rfl rfl rfl rfl rfl rfl rfl (by with_reducible assumption)) rfl rfl rfl) (by (try simp only [List.nil_append, List.cons_append]); (try rfl)) ?_ | refine awpD_un (as_pure rfl (by repeat' (first | exact Msk.nil | apply Msk.base | apply Msk.vis rfl | apply Msk.hid rfl)) (ev_build_lag rfl rfl rfl rfl rfl rfl) rfl rfl rfl) (by (try simp only [List.nil_append, List.cons_append]); (try rfl)) ?_ | refine awpD_un (as_pure rfl (by repeat' (first | exact Msk.nil | apply Msk.base | apply Msk.vis rfl | apply Msk.hid rfl)) (ev_nilCheck_lp rfl rfl) rfl rfl rfl) (by (try simp only [List.nil_append, List.cons_append]); (try rfl)) ?_ | refine awpD_un (as_ev2 (fun _ => ev_bslice_z rfl rfl rfl rfl rfl rfl rfl) rfl rfl) (by (try simp only [List.nil_append, List.cons_append]); (try rfl)) ?_ | refine awpD_un (as_ev2 (fun _ => ev_bslice_in rfl rfl rfl rfl rfl rfl rfl rfl rfl rfl rfl rfl (by (try simp only [List.map_cons, List.map_nil, cellsOf]); (try rfl))) rfl rfl) (by (try simp only [List.nil_append, List.cons_append]); (try rfl)) ?_ | fail))
     | ((with_reducible refine isD_gd ?_); (first | refine awpD_pT rfl rfl (by first | with_reducible rfl | with_reducible assumption) (by (try simp only [List.nil_append, List.cons_append]); (try rfl)) ?_ | refine awpD_pF rfl rfl (by first | with_reducible rfl | with_reducible assumption) (by (try simp only [List.nil_append, List.cons_append]); (try rfl)) ?_ | refine awpD_pU rfl rfl (by (try simp only [List.nil_append, List.cons_append]); (try rfl)) ?_ | (refine isD_go rfl rfl (by first | with_reducible rfl | with_reducible assumption) ?_; (first | ((with_reducible refine isDs_move ?_); (first | refine awpD_gd rfl rfl (by first | with_reducible rfl | with_reducible assumption) (as_ev (fun _ => ev_move rfl) rfl rfl) (by (try simp only [List.nil_append, List.cons_append]); (try rfl)) ?_ | fail)) | ((with_reducible refine isDs_bin ?_); (first | refine awpD_gd rfl rfl (by first | with_reducible rfl | with_reducible assumption) (as_ev (fun _ => ev_add rfl rfl (by omega)) rfl rfl) (by (try simp only [List.nil_append, List.cons_append]); (try rfl)) ?_ | refine awpD_gd rfl rfl (by first | with_reducible rfl | with_reducible assumption) (as_ev (fun _ => ev_sub rfl rfl (by omega)) rfl rfl) (by (try simp only [List.nil_append, List.cons_append]); (try rfl)) ?_ | refine awpD_gd rfl rfl (by first | with_reducible rfl | with_reducible assumption) (as_ev (fun _ => ev_bin rfl rfl rfl) rfl rfl) (by (try simp only [List.nil_append, List.cons_append]); (try rfl)) ?_ | refine awpD_gd rfl rfl (by first | with_reducible rfl | with_reducible assumption) (as_ev (fun _ => ev_eq_bool rfl rfl rfl rfl) rfl rfl) (by (try simp only [List.nil_append, List.cons_append]); (try rfl)) ?_ | fail)) | ((with_reducible refine isDs_fa ?_); (first | refine awpD_gd rfl rfl (by first | with_reducible rfl | with_reducible assumption) (as_ev (fun _ => ev_fa_fp rfl rfl rfl rfl rfl rfl) rfl rfl) (by (try simp only [List.nil_append, List.cons_append]); (try rfl)) ?_ | refine awpD_gd rfl rfl (by first | with_reducible rfl | with_reducible assumption) (as_pure rfl (by repeat' (first | exact Msk.nil | apply Msk.base | apply Msk.vis rfl | apply Msk.hid rfl)) (ev_fa_lp rfl rfl rfl rfl rfl rfl rfl) rfl rfl rfl) (by (try simp only [List.nil_append, List.cons_append]); (try rfl)) ?_ | refine awpD_gd rfl rfl (by first | with_reducible rfl | with_reducible assumption) (as_pure rfl (by repeat' (first | exact Msk.nil | apply Msk.base | apply Msk.vis rfl | apply Msk.hid rfl)) (ev_fa_ep rfl rfl rfl rfl rfl rfl rfl) rfl rfl rfl) (by (try simp only [List.nil_append, List.cons_append]); (try rfl)) ?_ | fail)) | ((with_reducible refine isDs_load ?_); (first | refine awpD_gd rfl rfl (by first | with_reducible rfl | with_reducible assumption) (as_ev (fun _ => ev_load_agg rfl rfl rfl rfl) rfl rfl) (by (try simp only [List.nil_append, List.cons_append]); (try rfl)) ?_ | refine awpD_gd rfl rfl (by first | with_reducible rfl | with_reducible assumption) (as_ev (fun _ => ev_load_sub rfl rfl rfl rfl rfl) rfl rfl) (by (try simp only [List.nil_append, List.cons_append]); (try rfl)) ?_ | refine awpD_gd rfl rfl (by first | with_reducible rfl | with_reducible assumption) (as_ev (fun _ => ev_load_one rfl rfl rfl rfl) rfl rfl) (by (try simp only [List.nil_append, List.cons_append]); (try rfl)) ?_ | refine awpD_gd rfl rfl (by first | with_reducible rfl | with_reducible assumption) (as_pure rfl (by repeat' (first | exact Msk.nil | apply Msk.base | apply Msk.vis rfl | apply Msk.hid rfl)) (ev_ll_agg rfl rfl rfl rfl rfl rfl rfl) rfl rfl rfl) (by (try simp only [List.nil_append, List.cons_append]); (try rfl)) ?_ | refine awpD_gd rfl rfl (by first | with_reducible rfl | with_reducible assumption) (as_pure rfl (by repeat' (first | exact Msk.nil | apply Msk.base | apply Msk.vis rfl | apply Msk.hid rfl)) (ev_ll_lag rfl rfl rfl rfl rfl rfl) rfl rfl rfl) (by (try simp only [List.nil_append, List.cons_append]); (try rfl)) ?_ | refine awpD_gd rfl rfl (by first | with_reducible rfl | with_reducible assumption) (as_pure rfl (by repeat' (first | exact Msk.nil | apply Msk.base | apply Msk.vis rfl | apply Msk.hid rfl)) (ev_ll_one rfl rfl rfl rfl rfl) rfl rfl rfl) (by (try simp only [List.nil_append, List.cons_append]); (try rfl)) ?_ | refine awpD_gd rfl rfl (by first | with_reducible rfl | with_reducible assumption) (as_pure rfl (by repeat' (first | exact Msk.nil | apply Msk.base | apply Msk.vis rfl | apply Msk.hid rfl)) (ev_el_one rfl rfl rfl rfl (by with_reducible assumption) rfl) rfl rfl rfl) (by (try simp only [List.nil_append, List.cons_append]); (try rfl)) ?_ | fail)) | ((with_reducible refine isDs_pick ?_); (first | refine awpD_gd rfl rfl (by first | with_reducible rfl | with_reducible assumption) (as_ev (fun _ => ev_pick_t rfl (by first | with_reducible rfl | with_reducible assumption) rfl) rfl rfl) (by (try simp only [List.nil_append, List.cons_append]); (try rfl)) ?_ | refine awpD_gd rfl rfl (by first | with_reducible rfl | with_reducible assumption) (as_ev (fun _ => ev_pick_f rfl (by first | with_reducible rfl | with_reducible assumption) rfl) rfl rfl) (by (try simp only [List.nil_append, List.cons_append]); (try rfl)) ?_ | fail)) | ((with_reducible refine isDs_assign ?_); (first | refine awpD_gd rfl rfl (by first | with_reducible rfl | with_reducible assumption) (as_ev (fun _ => ev_assign rfl) rfl rfl) (by (try simp only [List.nil_append, List.cons_append]); (try rfl)) ?_ | fail)) | ((with_reducible refine isDs_call ?_); (first | refine awpD_gd rfl rfl (by first | with_reducible rfl | with_reducible assumption) (as_call rfl rfl (by assumption) rfl) (by (try simp only [List.nil_append, List.cons_append]); (try rfl)) ?_ | refine awpD_gd rfl rfl (by first | with_reducible rfl | with_reducible assumption) (as_ev (fun _ => ev_len rfl rfl rfl rfl rfl) rfl rfl) (by (try simp only [List.nil_append, List.cons_append]); (try rfl)) ?_ | refine awpD_gd rfl rfl (by first | with_reducible rfl | with_reducible assumption) (as_ev (fun _ => ev_max rfl rfl) rfl rfl) (by (try simp only [List.nil_append, List.cons_append]); (try rfl)) ?_ | refine awpD_gd rfl rfl (by first | with_reducible rfl | with_reducible assumption) (as_ev (fun _ => ev_min rfl rfl) rfl rfl) (by (try simp only [List.nil_append, List.cons_append]); (try rfl)) ?_ | refine awpD_gd rfl rfl (by first | with_reducible rfl | with_reducible assumption) (as_pure rfl (by repeat' (first | exact Msk.nil | apply Msk.base | apply Msk.vis rfl | apply Msk.hid rfl)) (ev_len_os rfl rfl rfl rfl rfl) rfl rfl rfl) (by (try simp only [List.nil_append, List.cons_append]); (try rfl)) ?_ | refine awpD_gd rfl rfl (by first | with_reducible rfl | with_reducible assumption) (as_ev2 (fun _ => ev_append_zf rfl rfl rfl rfl rfl rfl rfl rfl rfl rfl rfl rfl rfl (by simp only [List.length_map, List.length_cons, List.length_nil]; omega) rfl) rfl rfl) (by (try simp only [List.nil_append, List.cons_append]); (try rfl)) ?_ | fail)) | refine awpD_gd rfl rfl (by first | with_reducible rfl | with_reducible assumption) (as_ev (fun _ => ev_ia_fs rfl rfl rfl rfl rfl rfl (by with_reducible assumption)) rfl rfl) (by (try simp only [List.nil_append, List.cons_append]); (try rfl)) ?_ | refine awpD_gd rfl rfl (by first | with_reducible rfl | with_reducible assumption) (as_ev (fun _ => ev_not rfl) rfl rfl) (by (try simp only [List.nil_append, List.cons_append]); (try rfl)) ?_ | refine awpD_gd rfl rfl (by first | with_reducible rfl | with_reducible assumption) (as_ev (fun _ => ev_extract rfl rfl) rfl rfl) (by (try simp only [List.nil_append, List.cons_append]); (try rfl)) ?_ | refine awpD_gd rfl rfl (by first | with_reducible rfl | with_reducible assumption) (as_ev (fun _ => ev_index_str rfl rfl rfl rfl (by with_reducible assumption)) rfl rfl) (by (try simp only [List.nil_append, List.cons_append]); (try rfl)) ?_ | refine awpD_gd rfl rfl (by first | with_reducible rfl | with_reducible assumption) (as_ev (fun _ => ev_build rfl rfl rfl rfl rfl rfl rfl) rfl rfl) (by (try simp only [List.nil_append, List.cons_append]); (try rfl)) ?_ | refine awpD_gd rfl rfl (by first | with_reducible rfl | with_reducible assumption) (as_ev (fun _ => ev_slice_fs rfl rfl rfl rfl rfl rfl rfl (by with_reducible assumption) rfl rfl) rfl rfl) (by (try simp only [List.nil_append, List.cons_append]); (try rfl)) ?_ | refine awpD_gd rfl rfl (by first | with_reducible rfl | with_reducible assumption) (as_ev (fun _ => ev_makeFunc rfl rfl) rfl rfl) (by (try simp only [List.nil_append, List.cons_append]); (try rfl)) ?_ | refine awpD_gd rfl rfl (by first | with_reducible rfl | with_reducible assumption) (as_ev (fun _ => ev_nilCheck_fp rfl) rfl rfl) (by (try simp only [List.nil_append, List.cons_append]); (try rfl)) ?_ | refine awpD_gd rfl rfl (by first | with_reducible rfl | with_reducible assumption) (as_ev (fun _ => ev_index_arr rfl rfl rfl rfl rfl rfl rfl (by with_reducible assumption)) rfl rfl) (by (try simp only [List.nil_append, List.cons_append]); (try rfl)) ?_ | refine awpD_gd rfl rfl (by first | with_reducible rfl | with_reducible assumption) (as_pure rfl (by repeat' (first | exact Msk.nil | apply Msk.base | apply Msk.vis rfl | apply Msk.hid rfl)) (ev_ia_os rfl rfl rfl rfl rfl rfl rfl (by with_reducible assumption)) rfl rfl rfl) (by (try simp only [List.nil_append, List.cons_append]); (try rfl)) ?_ | refine awpD_gd rfl rfl (by first | with_reducible rfl | with_reducible assumption) (as_pure rfl (by repeat' (first | exact Msk.nil | apply Msk.base | apply Msk.vis rfl | apply Msk.hid rfl)) (ev_build_lag rfl rfl rfl rfl rfl rfl) rfl rfl rfl) (by (try simp only [List.nil_append, List.cons_append]); (try rfl)) ?_ | refine awpD_gd rfl rfl (by first | with_reducible rfl | with_reducible assumption) (as_pure rfl (by repeat' (first | exact Msk.nil | apply Msk.base | apply Msk.vis rfl | apply Msk.hid rfl)) (ev_nilCheck_lp rfl rfl) rfl rfl rfl) (by (try simp only [List.nil_append, List.cons_append]); (try rfl)) ?_ | refine awpD_gd rfl rfl (by first | with_reducible rfl | with_reducible assumption) (as_ev2 (fun _ => ev_bslice_z rfl rfl rfl rfl rfl rfl rfl) rfl rfl) (by (try simp only [List.nil_append, List.cons_append]); (try rfl)) ?_ | refine awpD_gd rfl rfl (by first | with_reducible rfl | with_reducible assumption) (as_ev2 (fun _ => ev_bslice_in rfl rfl rfl rfl rfl rfl rfl rfl rfl rfl rfl rfl (by (try simp only [List.map_cons, List.map_nil, cellsOf]); (try rfl))) rfl rfl) (by (try simp only [List.nil_append, List.cons_append]); (try rfl)) ?_ | fail)) | fail))
     | ((with_reducible refine isD_nl ?_); refine awpD_done (by (try simp only [List.nil_append, List.cons_append]); (try rfl)) (by (try simp only [List.set_cons_zero, List.set_cons_succ, List.nil_append, List.cons_append, List.append_nil, cellsOf, List.take_zero, List.drop_zero, List.take_succ_cons, List.drop_succ_cons, Nat.zero_add, Nat.reduceAdd, List.drop_nil, List.map_cons, List.map_nil]); (try rfl)) ?_)
     | ((with_reducible refine is_awp ?_); (first | refine awp_seq ?_ | refine awp_ret ?_ | refine awp_skip ?_ | refine awp_exit ?_ | refine awp_label ?_ | refine awp_block ?_ | refine awp_region ?_ | refine awp_cond_t rfl (by first | with_reducible rfl | with_reducible assumption) ?_ | refine awp_cond_f rfl (by first | with_reducible rfl | with_reducible assumption) ?_ | fail))
     | fail)
    exact k.out) : A := h (.of M) ⟨k⟩
theorem st (M : List Nat) {A B : Prop} (k : B) (h : Mut M → Left B → A := by
    intro m k
    (first
     | ((with_reducible refine is_un ?_); (first | ((with_reducible refine is_move ?_); (first | refine awpL_ev (ev_move rfl) rfl ?_ | fail)) | ((with_reducible refine is_bin ?_); (first | refine awpL_ev (ev_add rfl rfl (by omega)) rfl ?_ | refine awpL_ev (ev_sub rfl rfl (by omega)) rfl ?_ | refine awpL_ev (ev_bin rfl rfl rfl) rfl ?_ | refine awpL_ev (ev_eq_bool rfl rfl rfl rfl) rfl ?_ | fail)) | ((with_reducible refine is_fa ?_); (first | refine awpL_ev (ev_fa_fp rfl rfl rfl rfl rfl rfl) rfl ?_ | refine awpL_ev (ev_fa_lp rfl rfl rfl rfl rfl rfl rfl) rfl ?_ | refine awpL_ev (ev_fa_ep rfl rfl rfl rfl rfl rfl rfl) rfl ?_ | fail)) | ((with_reducible refine is_load ?_); (first | refine awpL_ev (ev_load_agg rfl rfl rfl rfl) rfl ?_ | refine awpL_ev (ev_load_sub rfl rfl rfl rfl rfl) rfl ?_ | refine awpL_ev (ev_load_one rfl rfl rfl rfl) rfl ?_ | refine awpL_ev (ev_ll_agg rfl rfl rfl rfl rfl rfl rfl) rfl ?_ | refine awpL_ev (ev_ll_lag rfl rfl rfl rfl rfl rfl) rfl ?_ | refine awpL_ev (ev_ll_one rfl rfl rfl rfl rfl) rfl ?_ | refine awpL_ev (ev_el_one rfl rfl rfl rfl (by with_reducible assumption) rfl) rfl ?_ | fail)) | ((with_reducible refine is_pick ?_); (first | refine awpL_ev (ev_pick_t rfl (by first | with_reducible rfl | with_reducible assumption) rfl) rfl ?_ | refine awpL_ev (ev_pick_f rfl (by first | with_reducible rfl | with_reducible assumption) rfl) rfl ?_ | fail)) | ((with_reducible refine is_assign ?_); (first | refine awpL_ev (ev_assign rfl) rfl ?_ | fail)) | ((with_reducible refine is_call ?_); (first | refine awpL_call rfl rfl (by assumption) rfl ?_ | refine awpL_ev (ev_len rfl rfl rfl rfl rfl) rfl ?_ | refine awpL_ev (ev_max rfl rfl) rfl ?_ | refine awpL_ev (ev_min rfl rfl) rfl ?_ | refine awpL_ev (ev_len_os rfl rfl rfl rfl rfl) rfl ?_ | refine awpL_ev2 (ev_append_zf rfl rfl rfl rfl rfl rfl rfl rfl rfl rfl rfl rfl rfl (by simp only [List.length_map, List.length_cons, List.length_nil]; omega) rfl) rfl ?_ | fail)) | ((with_reducible refine is_store ?_); (first | refine awpL_stMm m rfl rfl rfl rfl rfl rfl rfl rfl rfl (by (try simp only [cellsOf, List.map_cons, List.map_nil]); (try rfl)) (by (try simp only [List.set_cons_zero, List.set_cons_succ, List.nil_append, List.cons_append, List.append_nil, cellsOf, List.take_zero, List.drop_zero, List.take_succ_cons, List.drop_succ_cons, Nat.zero_add, Nat.reduceAdd, List.drop_nil, List.map_cons, List.map_nil]); (try rfl)) ?_ | refine awpL_evS (ev_st_lp rfl rfl rfl rfl rfl rfl rfl (by (try simp only [List.set_cons_zero, List.set_cons_succ, List.nil_append, List.cons_append, List.append_nil, cellsOf, List.take_zero, List.drop_zero, List.take_succ_cons, List.drop_succ_cons, Nat.zero_add, Nat.reduceAdd, List.drop_nil, List.map_cons, List.map_nil]); (try rfl))) ?_ | fail)) | ((with_reducible refine is_alloc ?_); (first | refine awpL_ev2 (ev_alloc rfl rfl (by (try simp only [List.length_nil, List.length_cons, Nat.reduceAdd]); (try rfl)) (by (try simp only [List.set_cons_zero, List.set_cons_succ, List.nil_append, List.cons_append, List.append_nil, cellsOf, List.take_zero, List.drop_zero, List.take_succ_cons, List.drop_succ_cons, Nat.zero_add, Nat.reduceAdd, List.drop_nil, List.map_cons, List.map_nil]); (try rfl))) rfl ?_ | fail)) | ((with_reducible refine is_box ?_); (first | refine awpL_boxMm m rfl rfl rfl rfl (by (try simp only [cellsOf, List.map_cons, List.map_nil]); (try rfl)) rfl ?_ | refine awpL_ev2 (ev_box rfl rfl (by (try simp only [List.length_nil, List.length_cons, Nat.reduceAdd]); (try rfl)) (by (try simp only [List.set_cons_zero, List.set_cons_succ, List.nil_append, List.cons_append, List.append_nil, cellsOf, List.take_zero, List.drop_zero, List.take_succ_cons, List.drop_succ_cons, Nat.zero_add, Nat.reduceAdd, List.drop_nil, List.map_cons, List.map_nil]); (try rfl))) rfl ?_ | fail)) | refine awpL_ev (ev_ia_fs rfl rfl rfl rfl rfl rfl (by with_reducible assumption)) rfl ?_ | refine awpL_ev (ev_not rfl) rfl ?_ | refine awpL_ev (ev_extract rfl rfl) rfl ?_ | refine awpL_ev (ev_index_str rfl rfl rfl rfl (by with_reducible assumption)) rfl ?_ | refine awpL_ev (ev_build rfl rfl rfl rfl rfl rfl rfl) rfl ?_ | refine awpL_ev (ev_slice_fs rfl rfl rfl rfl rfl rfl rfl (by with_reducible assumption) rfl rfl) rfl ?_ | refine awpL_ev (ev_makeFunc rfl rfl) rfl ?_ | refine awpL_ev (ev_nilCheck_fp rfl) rfl ?_ | refine awpL_ev (ev_index_arr rfl rfl rfl rfl rfl rfl rfl (by with_reducible assumption)) rfl ?_ | refine awpL_ev (ev_ia_os rfl rfl rfl rfl rfl rfl rfl (by with_reducible assumption)) rfl ?_ | refine awpL_ev (ev_build_lag rfl rfl rfl rfl rfl rfl) rfl ?_ | refine awpL_ev (ev_nilCheck_lp rfl rfl) rfl ?_ | refine awpL_ev2 (ev_bslice_z rfl rfl rfl rfl rfl rfl rfl) rfl ?_ | refine awpL_ev2 (ev_bslice_in rfl rfl rfl rfl rfl rfl rfl rfl rfl rfl rfl rfl (by (try simp only [List.map_cons, List.map_nil, cellsOf]); (try rfl))) rfl ?_))
     | ((with_reducible refine is_gd ?_); (first | refine awpL_run rfl rfl rfl (by first | with_reducible rfl | with_reducible assumption) ?_ | refine awpL_passT rfl rfl rfl rfl (by first | with_reducible rfl | with_reducible assumption) ?_ | refine awpL_passF rfl rfl rfl rfl (by first | with_reducible rfl | with_reducible assumption) ?_ | refine awpL_passU rfl rfl rfl rfl ?_ | fail))
     | ((with_reducible refine is_nil ?_); refine awpL_nil ?_)
     | ((with_reducible refine is_then ?_); (first | refine thenQ_n ?_ | refine thenQ_r ?_ | refine thenQ_e ?_ | fail))
     | ((with_reducible refine is_block ?_); (first | refine blockQ_n ?_ | refine blockQ_r ?_ | refine blockQ_e ?_ | refine blockQ_o rfl ?_ | fail))
     | ((with_reducible refine is_draw ?_); (first | refine awp_drawA (by kernel_rfl) rfl rfl (by repeat' (first | exact Strip.nil | apply Strip.keep rfl | apply Strip.drop rfl)) ?_ | fail))
     | ((with_reducible refine isD_un ?_); (first | ((with_reducible refine isD_st ?_); refine awpD_sS rfl (by (try simp only [List.set_cons_zero, List.set_cons_succ, List.nil_append, List.cons_append, List.append_nil, cellsOf, List.take_zero, List.drop_zero, List.take_succ_cons, List.drop_succ_cons, Nat.zero_add, Nat.reduceAdd, List.drop_nil, List.map_cons, List.map_nil]); (try rfl)) (ev_st_lp rfl rfl rfl rfl rfl rfl rfl (by (try simp only [List.set_cons_zero, List.set_cons_succ, List.nil_append, List.cons_append, List.append_nil, cellsOf, List.take_zero, List.drop_zero, List.take_succ_cons, List.drop_succ_cons, Nat.zero_add, Nat.reduceAdd, List.drop_nil, List.map_cons, List.map_nil]); (try rfl))) rfl (by (try simp only [List.nil_append, List.cons_append]); (try rfl)) ?_) | ((with_reducible refine isD_al ?_); refine awpD_nw rfl (by repeat' (first | exact Msk.nil | apply Msk.base | apply Msk.vis rfl | apply Msk.hid rfl)) (ev_alloc rfl rfl (by (try simp only [List.length_nil, List.length_cons, Nat.reduceAdd]); (try rfl)) (by (try simp only [List.set_cons_zero, List.set_cons_succ, List.nil_append, List.cons_append, List.append_nil, cellsOf, List.take_zero, List.drop_zero, List.take_succ_cons, List.drop_succ_cons, Nat.zero_add, Nat.reduceAdd, List.drop_nil, List.map_cons, List.map_nil]); (try rfl))) rfl rfl rfl rfl rfl (by (try simp only [List.set_cons_zero, List.set_cons_succ, List.nil_append, List.cons_append, List.append_nil, cellsOf, List.take_zero, List.drop_zero, List.take_succ_cons, List.drop_succ_cons, Nat.zero_add, Nat.reduceAdd, List.drop_nil, List.map_cons, List.map_nil]); (try rfl)) (by (try simp only [List.nil_append, List.cons_append]); (try rfl)) ?_) | ((with_reducible refine isDs_move ?_); (first | refine awpD_un (as_ev (fun _ => ev_move rfl) rfl rfl) (by (try simp only [List.nil_append, List.cons_append]); (try rfl)) ?_ | fail)) | ((with_reducible refine isDs_bin ?_); (first | refine awpD_un (as_ev (fun _ => ev_add rfl rfl (by omega)) rfl rfl) (by (try simp only [List.nil_append, List.cons_append]); (try rfl)) ?_ | refine awpD_un (as_ev (fun _ => ev_sub rfl rfl (by omega)) rfl rfl) (by (try simp only [List.nil_append, List.cons_append]); (try rfl)) ?_ | refine awpD_un (as_ev (fun _ => ev_bin rfl rfl rfl) rfl rfl) (by (try simp only [List.nil_append, List.cons_append]); (try rfl)) ?_ | refine awpD_un (as_ev (fun _ => ev_eq_bool rfl rfl rfl rfl) rfl rfl) (by (try simp only [List.nil_append, List.cons_append]); (try rfl)) ?_ | fail)) | ((with_reducible refine isDs_fa ?_); (first | refine awpD_un (as_ev (fun _ => ev_fa_fp rfl rfl rfl rfl rfl rfl) rfl rfl) (by (try simp only [List.nil_append, List.cons_append]); (try rfl)) ?_ | refine awpD_un (as_pure rfl (by repeat' (first | exact Msk.nil | apply Msk.base | apply Msk.vis rfl | apply Msk.hid rfl)) (ev_fa_lp rfl rfl rfl rfl rfl rfl rfl) rfl rfl rfl) (by (try simp only [List.nil_append, List.cons_append]); (try rfl)) ?_ | refine awpD_un (as_pure rfl (by repeat' (first | exact Msk.nil | apply Msk.base | apply Msk.vis rfl | apply Msk.hid rfl)) (ev_fa_ep rfl rfl rfl rfl rfl rfl rfl) rfl rfl rfl) (by (try simp only [List.nil_append, List.cons_append]); (try rfl)) ?_ | fail)) | ((with_reducible refine isDs_load ?_); (first | refine awpD_un (as_ev (fun _ => ev_load_agg rfl rfl rfl rfl) rfl rfl) (by (try simp only [List.nil_append, List.cons_append]); (try rfl)) ?_ | refine awpD_un (as_ev (fun _ => ev_load_sub rfl rfl rfl rfl rfl) rfl rfl) (by (try simp only [List.nil_append, List.cons_append]); (try rfl)) ?_ | refine awpD_un (as_ev (fun _ => ev_load_one rfl rfl rfl rfl) rfl rfl) (by (try simp only [List.nil_append, List.cons_append]); (try rfl)) ?_ | refine awpD_un (as_pure rfl (by repeat' (first | exact Msk.nil | apply Msk.base | apply Msk.vis rfl | apply Msk.hid rfl)) (ev_ll_agg rfl rfl rfl rfl rfl rfl rfl) rfl rfl rfl) (by (try simp only [List.nil_append, List.cons_append]); (try rfl)) ?_ | refine awpD_un (as_pure rfl (by repeat' (first | exact Msk.nil | apply Msk.base | apply Msk.vis rfl | apply Msk.hid rfl)) (ev_ll_lag rfl rfl rfl rfl rfl rfl) rfl rfl rfl) (by (try simp only [List.nil_append, List.cons_append]); (try rfl)) ?_ | refine awpD_un (as_pure rfl (by repeat' (first | exact Msk.nil | apply Msk.base | apply Msk.vis rfl | apply Msk.hid rfl)) (ev_ll_one rfl rfl rfl rfl rfl) rfl rfl rfl) (by (try simp only [List.nil_append, List.cons_append]); (try rfl)) ?_ | refine awpD_un (as_pure rfl (by repeat' (first | exact Msk.nil | apply Msk.base | apply Msk.vis rfl | apply Msk.hid rfl)) (ev_el_one rfl rfl rfl rfl (by with_reducible assumption) rfl) rfl rfl rfl) (by (try simp only [List.nil_append, List.cons_append]); (try rfl)) ?_ | fail)) | ((with_reducible refine isDs_pick ?_); (first | refine awpD_un (as_ev (fun _ => ev_pick_t rfl (by first | with_reducible rfl | with_reducible assumption) rfl) rfl rfl) (by (try simp only [List.nil_append, List.cons_append]); (try rfl)) ?_ | refine awpD_un (as_ev (fun _ => ev_pick_f rfl (by first | with_reducible rfl | with_reducible assumption) rfl) rfl rfl) (by (try simp only [List.nil_append, List.cons_append]); (try rfl)) ?_ | fail)) | ((with_reducible refine isDs_assign ?_); (first | refine awpD_un (as_ev (fun _ => ev_assign rfl) rfl rfl) (by (try simp only [List.nil_append, List.cons_append]); (try rfl)) ?_ | fail)) | ((with_reducible refine isDs_call ?_); (first | refine awpD_un (as_call rfl rfl (by assumption) rfl) (by (try simp only [List.nil_append, List.cons_append]); (try rfl)) ?_ | refine awpD_un (as_ev (fun _ => ev_len rfl rfl rfl rfl rfl) rfl rfl) (by (try simp only [List.nil_append, List.cons_append]); (try rfl)) ?_ | refine awpD_un (as_ev (fun _ => ev_max rfl rfl) rfl rfl) (by (try simp only [List.nil_append, List.cons_append]); (try rfl)) ?_ | refine awpD_un (as_ev (fun _ => ev_min rfl rfl) rfl rfl) (by (try simp only [List.nil_append, List.cons_append]); (try rfl)) ?_ | refine awpD_un (as_pure rfl (by repeat' (first | exact Msk.nil | apply Msk.base | apply Msk.vis rfl | apply Msk.hid rfl)) (ev_len_os rfl rfl rfl rfl rfl) rfl rfl rfl) (by (try simp only [List.nil_append, List.cons_append]); (try rfl)) ?_ | refine awpD_un (as_ev2 (fun _ => ev_append_zf rfl rfl rfl rfl rfl rfl rfl rfl rfl rfl rfl rfl rfl (by simp only [List.length_map, List.length_cons, List.length_nil]; omega) rfl) rfl rfl) (by (try simp only [List.nil_append, List.cons_append]); (try rfl)) ?_ | fail)) | refine awpD_un (as_ev (fun _ => ev_ia_fs rfl rfl rfl rfl rfl rfl (by with_reducible assumption)) rfl rfl) (by (try simp only [List.nil_append, List.cons_append]); (try rfl)) ?_ | refine awpD_un (as_ev (fun _ => ev_not rfl) rfl rfl) (by (try simp only [List.nil_append, List.cons_append]); (try rfl)) ?_ | refine awpD_un (as_ev (fun _ => ev_extract rfl rfl) rfl rfl) (by (try simp only [List.nil_append, List.cons_append]); (try rfl)) ?_ | refine awpD_un (as_ev (fun _ => ev_index_str rfl rfl rfl rfl (by with_reducible assumption)) rfl rfl) (by (try simp only [List.nil_append, List.cons_append]); (try rfl)) ?_ | refine awpD_un (as_ev (fun _ => ev_build rfl rfl rfl rfl rfl rfl rfl) rfl rfl) (by (try simp only [List.nil_append, List.cons_append]); (try rfl)) ?_ | refine awpD_un (as_ev (fun _ => ev_slice_fs rfl rfl rfl rfl rfl rfl rfl (by with_reducible assumption) rfl rfl) rfl rfl) (by (try simp only [List.nil_append, List.cons_append]); (try rfl)) ?_ | refine awpD_un (as_ev (fun _ => ev_makeFunc rfl rfl) rfl rfl) (by (try simp only [List.nil_append, List.cons_append]); (try rfl)) ?_ | refine awpD_un (as_ev (fun _ => ev_nilCheck_fp rfl) rfl rfl) (by (try simp only [List.nil_append, List.cons_append]); (try rfl)) ?_ | refine awpD_un (as_ev (fun _ => ev_index_arr rfl rfl rfl rfl rfl rfl rfl (by with_reducible assumption)) rfl rfl) (by (try simp only [List.nil_append, List.cons_append]); (try rfl)) ?_ | refine awpD_un (as_pure rfl (by repeat' (first | exact Msk.nil | apply Msk.base | apply Msk.vis rfl | apply Msk.hid rfl)) (ev_ia_os rfl rfl rfl rfl rfl rfl rfl (by with_reducible assumption)) rfl rfl rfl) (by (try simp only [List.nil_append, List.cons_append]); (try rfl)) ?_ | refine awpD_un (as_pure rfl (by repeat' (first | exact Msk.nil | apply Msk.base | apply Msk.vis rfl | apply Msk.hid rfl)) (ev_build_lag rfl rfl rfl rfl rfl rfl) rfl rfl rfl) (by (try simp only [List.nil_append, List.cons_append]); (try rfl)) ?_ | refine awpD_un (as_pure rfl (by repeat' (first | exact Msk.nil | apply Msk.base | apply Msk.vis rfl | apply Msk.hid rfl)) (ev_nilCheck_lp rfl rfl) rfl rfl rfl) (by (try simp only [List.nil_append, List.cons_append]); (try rfl)) ?_ | refine awpD_un (as_ev2 (fun _ => ev_bslice_z rfl rfl rfl rfl rfl rfl rfl) rfl rfl) (by (try simp only [List.nil_append, List.cons_append]); (try rfl)) ?_ | refine awpD_un (as_ev2 (fun _ => ev_bslice_in rfl rfl rfl rfl rfl rfl rfl rfl rfl rfl rfl rfl (by (try simp only [List.map_cons, List.map_nil, cellsOf]); (try rfl))) rfl rfl) (by (try simp only [List.nil_append, List.cons_append]); (try rfl)) ?_ | fail))
     | ((with_reducible refine isD_gd ?_); (first | refine awpD_pT rfl rfl (by first | with_reducible rfl | with_reducible assumption) (by (try simp only [List.nil_append, List.cons_append]); (try rfl)) ?_ | refine awpD_pF rfl rfl (by first | with_reducible rfl | with_reducible assumption) (by (try simp only [List.nil_append, List.cons_append]); (try rfl)) ?_ | refine awpD_pU rfl rfl (by (try simp only [List.nil_append, List.cons_append]); (try rfl)) ?_ | (refine isD_go rfl rfl (by first | with_reducible rfl | with_reducible assumption) ?_; (first | ((with_reducible refine isDs_move ?_); (first | refine awpD_gd rfl rfl (by first | with_reducible rfl | with_reducible assumption) (as_ev (fun _ => ev_move rfl) rfl rfl) (by (try simp only [List.nil_append, List.cons_append]); (try rfl)) ?_ | fail)) | ((with_reducible refine isDs_bin ?_); (first | refine awpD_gd rfl rfl (by first | with_reducible rfl | with_reducible assumption) (as_ev (fun _ => ev_add rfl rfl (by omega)) rfl rfl) (by (try simp only [List.nil_append, List.cons_append]); (try rfl)) ?_ | refine awpD_gd rfl rfl (by first | with_reducible rfl | with_reducible assumption) (as_ev (fun _ => ev_sub rfl rfl (by omega)) rfl rfl) (by (try simp only [List.nil_append, List.cons_append]); (try rfl)) ?_ | refine awpD_gd rfl rfl (by first | with_reducible rfl | with_reducible assumption) (as_ev (fun _ => ev_bin rfl rfl rfl) rfl rfl) (by (try simp only [List.nil_append, List.cons_append]); (try rfl)) ?_ | refine awpD_gd rfl rfl (by first | with_reducible rfl | with_reducible assumption) (as_ev (fun _ => ev_eq_bool rfl rfl rfl rfl) rfl rfl) (by (try simp only [List.nil_append, List.cons_append]); (try rfl)) ?_ | fail)) | ((with_reducible refine isDs_fa ?_); (first | refine awpD_gd rfl rfl (by first | with_reducible rfl | with_reducible assumption) (as_ev (fun _ => ev_fa_fp rfl rfl rfl rfl rfl rfl) rfl rfl) (by (try simp only [List.nil_append, List.cons_append]); (try rfl)) ?_ | refine awpD_gd rfl rfl (by first | with_reducible rfl | with_reducible assumption) (as_pure rfl (by repeat' (first | exact Msk.nil | apply Msk.base | apply Msk.vis rfl | apply Msk.hid rfl)) (ev_fa_lp rfl rfl rfl rfl rfl rfl rfl) rfl rfl rfl) (by (try simp only [List.nil_append, List.cons_append]); (try rfl)) ?_ | refine awpD_gd rfl rfl (by first | with_reducible rfl | with_reducible assumption) (as_pure rfl (by repeat' (first | exact Msk.nil | apply Msk.base | apply Msk.vis rfl | apply Msk.hid rfl)) (ev_fa_ep rfl rfl rfl rfl rfl rfl rfl) rfl rfl rfl) (by (try simp only [List.nil_append, List.cons_append]); (try rfl)) ?_ | fail)) | ((with_reducible refine isDs_load ?_); (first | refine awpD_gd rfl rfl (by first | with_reducible rfl | with_reducible assumption) (as_ev (fun _ => ev_load_agg rfl rfl rfl rfl) rfl rfl) (by (try simp only [List.nil_append, List.cons_append]); (try rfl)) ?_ | refine awpD_gd rfl rfl (by first | with_reducible rfl | with_reducible assumption) (as_ev (fun _ => ev_load_sub rfl rfl rfl rfl rfl) rfl rfl) (by (try simp only [List.nil_append, List.cons_append]); (try rfl)) ?_ | refine awpD_gd rfl rfl (by first | with_reducible rfl | with_reducible assumption) (as_ev (fun _ => ev_load_one rfl rfl rfl rfl) rfl rfl) (by (try simp only [List.nil_append, List.cons_append]); (try rfl)) ?_ | refine awpD_gd rfl rfl (by first | with_reducible rfl | with_reducible assumption) (as_pure rfl (by repeat' (first | exact Msk.nil | apply Msk.base | apply Msk.vis rfl | apply Msk.hid rfl)) (ev_ll_agg rfl rfl rfl rfl rfl rfl rfl) rfl rfl rfl) (by (try simp only [List.nil_append, List.cons_append]); (try rfl)) ?_ | refine awpD_gd rfl rfl (by first | with_reducible rfl | with_reducible assumption) (as_pure rfl (by repeat' (first | exact Msk.nil | apply Msk.base | apply Msk.vis rfl | apply Msk.hid rfl)) (ev_ll_lag rfl rfl rfl rfl rfl rfl) rfl rfl rfl) (by (try simp only [List.nil_append, List.cons_append]); (try rfl)) ?_ | refine awpD_gd rfl rfl (by first | with_reducible rfl | with_reducible assumption) (as_pure rfl (by repeat' (first | exact Msk.nil | apply Msk.base | apply Msk.vis rfl | apply Msk.hid rfl)) (ev_ll_one rfl rfl rfl rfl rfl) rfl rfl rfl) (by (try simp only [List.nil_append, List.cons_append]); (try rfl)) ?_ | refine awpD_gd rfl rfl (by first | with_reducible rfl | with_reducible assumption) (as_pure rfl (by repeat' (first | exact Msk.nil | apply Msk.base | apply Msk.vis rfl | apply Msk.hid rfl)) (ev_el_one rfl rfl rfl rfl (by with_reducible assumption) rfl) rfl rfl rfl) (by (try simp only [List.nil_append, List.cons_append]); (try rfl)) ?_ | fail)) | ((with_reducible refine isDs_pick ?_); (first | refine awpD_gd rfl rfl (by first | with_reducible rfl | with_reducible assumption) (as_ev (fun _ => ev_pick_t rfl (by first | with_reducible rfl | with_reducible assumption) rfl) rfl rfl) (by (try simp only [List.nil_append, List.cons_append]); (try rfl)) ?_ | refine awpD_gd rfl rfl (by first | with_reducible rfl | with_reducible assumption) (as_ev (fun _ => ev_pick_f rfl (by first | with_reducible rfl | with_reducible assumption) rfl) rfl rfl) (by (try simp only [List.nil_append, List.cons_append]); (try rfl)) ?_ | fail)) | ((with_reducible refine isDs_assign ?_); (first | refine awpD_gd rfl rfl (by first | with_reducible rfl | with_reducible assumption) (as_ev (fun _ => ev_assign rfl) rfl rfl) (by (try simp only [List.nil_append, List.cons_append]); (try rfl)) ?_ | fail)) | ((with_reducible refine isDs_call ?_); (first | refine awpD_gd rfl rfl (by first | with_reducible rfl | with_reducible assumption) (as_call rfl rfl (by assumption) rfl) (by (try simp only [List.nil_append, List.cons_append]); (try rfl)) ?_ | refine awpD_gd rfl rfl (by first | with_reducible rfl | with_reducible assumption) (as_ev (fun _ => ev_len rfl rfl rfl rfl rfl) rfl rfl) (by (try simp only [List.nil_append, List.cons_append]); (try rfl)) ?_ | refine awpD_gd rfl rfl (by first | with_reducible rfl | with_reducible assumption) (as_ev (fun _ => ev_max rfl rfl) rfl rfl) (by (try simp only [List.nil_append, List.cons_append]); (try rfl)) ?_ | refine awpD_gd rfl rfl (by first | with_reducible rfl | with_reducible assumption) (as_ev (fun _ => ev_min rfl rfl) rfl rfl) (by (try simp only [List.nil_append, List.cons_append]); (try rfl)) ?_ | refine awpD_gd rfl rfl (by first | with_reducible rfl | with_reducible assumption) (as_pure rfl (by repeat' (first | exact Msk.nil | apply Msk.base | apply Msk.vis rfl | apply Msk.hid rfl)) (ev_len_os rfl rfl rfl rfl rfl) rfl rfl rfl) (by (try simp only [List.nil_append, List.cons_append]); (try rfl)) ?_ | refine awpD_gd rfl rfl (by first | with_reducible rfl | with_reducible assumption) (as_ev2 (fun _ => ev_append_zf rfl rfl rfl rfl rfl rfl rfl rfl rfl rfl rfl rfl rfl (by simp only [List.length_map, List.length_cons, List.length_nil]; omega) rfl) rfl rfl) (by (try simp only [List.nil_append, List.cons_append]); (try rfl)) ?_ | fail)) | refine awpD_gd rfl rfl (by first | with_reducible rfl | with_reducible assumption) (as_ev (fun _ => ev_ia_fs rfl rfl rfl rfl rfl rfl (by with_reducible assumption)) rfl rfl) (by (try simp only [List.nil_append, List.cons_append]); (try rfl)) ?_ | refine awpD_gd rfl rfl (by first | with_reducible rfl | with_reducible assumption) (as_ev (fun _ => ev_not rfl) rfl rfl) (by (try simp only [List.nil_append, List.cons_append]); (try rfl)) ?_ | refine awpD_gd rfl rfl (by first | with_reducible rfl | with_reducible assumption) (as_ev (fun _ => ev_extract rfl rfl) rfl rfl) (by (try simp only [List.nil_append, List.cons_append]); (try rfl)) ?_ | refine awpD_gd rfl rfl (by first | with_reducible rfl | with_reducible assumption) (as_ev (fun _ => ev_index_str rfl rfl rfl rfl (by with_reducible assumption)) rfl rfl) (by (try simp only [List.nil_append, List.cons_append]); (try rfl)) ?_ | refine awpD_gd rfl rfl (by first | with_reducible rfl | with_reducible assumption) (as_ev (fun _ => ev_build rfl rfl rfl rfl rfl rfl rfl) rfl rfl) (by (try simp only [List.nil_append, List.cons_append]); (try rfl)) ?_ | refine awpD_gd rfl rfl (by first | with_reducible rfl | with_reducible assumption) (as_ev (fun _ => ev_slice_fs rfl rfl rfl rfl rfl rfl rfl (by with_reducible assumption) rfl rfl) rfl rfl) (by (try simp only [List.nil_append, List.cons_append]); (try rfl)) ?_ | refine awpD_gd rfl rfl (by first | with_reducible rfl | with_reducible assumption) (as_ev (fun _ => ev_makeFunc rfl rfl) rfl rfl) (by (try simp only [List.nil_append, List.cons_append]); (try rfl)) ?_ | refine awpD_gd rfl rfl (by first | with_reducible rfl | with_reducible assumption) (as_ev (fun _ => ev_nilCheck_fp rfl) rfl rfl) (by (try simp only [List.nil_append, List.cons_append]); (try rfl)) ?_ | refine awpD_gd rfl rfl (by first | with_reducible rfl | with_reducible assumption) (as_ev (fun _ => ev_index_arr rfl rfl rfl rfl rfl rfl rfl (by with_reducible assumption)) rfl rfl) (by (try simp only [List.nil_append, List.cons_append]); (try rfl)) ?_ | refine awpD_gd rfl rfl (by first | with_reducible rfl | with_reducible assumption) (as_pure rfl (by repeat' (first | exact Msk.nil | apply Msk.base | apply Msk.vis rfl | apply Msk.hid rfl)) (ev_ia_os rfl rfl rfl rfl rfl rfl rfl (by with_reducible assumption)) rfl rfl rfl) (by (try simp only [List.nil_append, List.cons_append]); (try rfl)) ?_ | refine awpD_gd rfl rfl (by first | with_reducible rfl | with_reducible assumption) (as_pure rfl (by repeat' (first | exact Msk.nil | apply Msk.base | apply Msk.vis rfl | apply Msk.hid rfl)) (ev_build_lag rfl rfl rfl rfl rfl rfl) rfl rfl rfl) (by (try simp only [List.nil_append, List.cons_append]); (try rfl)) ?_ | refine awpD_gd rfl rfl (by first | with_reducible rfl | with_reducible assumption) (as_pure rfl (by repeat' (first | exact Msk.nil | apply Msk.base | apply Msk.vis rfl | apply Msk.hid rfl)) (ev_nilCheck_lp rfl rfl) rfl rfl rfl) (by (try simp only [List.nil_append, List.cons_append]); (try rfl)) ?_ | refine awpD_gd rfl rfl (by first | with_reducible rfl | with_reducible assumption) (as_ev2 (fun _ => ev_bslice_z rfl rfl rfl rfl rfl rfl rfl) rfl rfl) (by (try simp only [List.nil_append, List.cons_append]); (try rfl)) ?_ | refine awpD_gd rfl rfl (by first | with_reducible rfl | with_reducible assumption) (as_ev2 (fun _ => ev_bslice_in rfl rfl rfl rfl rfl rfl rfl rfl rfl rfl rfl rfl (by (try simp only [List.map_cons, List.map_nil, cellsOf]); (try rfl))) rfl rfl) (by (try simp only [List.nil_append, List.cons_append]); (try rfl)) ?_ | fail)) | fail))
     | ((with_reducible refine isD_nl ?_); refine awpD_done (by (try simp only [List.nil_append, List.cons_append]); (try rfl)) (by (try simp only [List.set_cons_zero, List.set_cons_succ, List.nil_append, List.cons_append, List.append_nil, cellsOf, List.take_zero, List.drop_zero, List.take_succ_cons, List.drop_succ_cons, Nat.zero_add, Nat.reduceAdd, List.drop_nil, List.map_cons, List.map_nil]); (try rfl)) ?_)
     | ((with_reducible refine is_awp ?_); (first | refine awp_seq ?_ | refine awp_ret ?_ | refine awp_skip ?_ | refine awp_exit ?_ | refine awp_label ?_ | refine awp_block ?_ | refine awp_region ?_ | refine awp_cond_t rfl (by first | with_reducible rfl | with_reducible assumption) ?_ | refine awp_cond_f rfl (by first | with_reducible rfl | with_reducible assumption) ?_ | fail))
     | fail)
    exact k.out) : A := h (.of M) ⟨k⟩
theorem runn (M : List Nat) {A B : Prop} (k : B) (h : Mut M → Left B → A := by
    intro m k
    repeat' (first
     | ((with_reducible refine is_un ?_); (first | ((with_reducible refine is_move ?_); (first | refine awpL_ev (ev_move rfl) rfl ?_ | fail)) | ((with_reducible refine is_bin ?_); (first | refine awpL_ev (ev_add rfl rfl (by omega)) rfl ?_ | refine awpL_ev (ev_sub rfl rfl (by omega)) rfl ?_ | refine awpL_ev (ev_bin rfl rfl rfl) rfl ?_ | refine awpL_ev (ev_eq_bool rfl rfl rfl rfl) rfl ?_ | fail)) | ((with_reducible refine is_fa ?_); (first | refine awpL_ev (ev_fa_fp rfl rfl rfl rfl rfl rfl) rfl ?_ | refine awpL_ev (ev_fa_lp rfl rfl rfl rfl rfl rfl rfl) rfl ?_ | refine awpL_ev (ev_fa_ep rfl rfl rfl rfl rfl rfl rfl) rfl ?_ | fail)) | ((with_reducible refine is_load ?_); (first | refine awpL_ev (ev_load_agg rfl rfl rfl rfl) rfl ?_ | refine awpL_ev (ev_load_sub rfl rfl rfl rfl rfl) rfl ?_ | refine awpL_ev (ev_load_one rfl rfl rfl rfl) rfl ?_ | refine awpL_ev (ev_ll_agg rfl rfl rfl rfl rfl rfl rfl) rfl ?_ | refine awpL_ev (ev_ll_lag rfl rfl rfl rfl rfl rfl) rfl ?_ | refine awpL_ev (ev_ll_one rfl rfl rfl rfl rfl) rfl ?_ | refine awpL_ev (ev_el_one rfl rfl rfl rfl (by with_reducible assumption) rfl) rfl ?_ | fail)) | ((with_reducible refine is_pick ?_); (first | refine awpL_ev (ev_pick_t rfl (by first | with_reducible rfl | with_reducible assumption) rfl) rfl ?_ | refine awpL_ev (ev_pick_f rfl (by first | with_reducible rfl | with_reducible assumption) rfl) rfl ?_ | fail)) | ((with_reducible refine is_assign ?_); (first | refine awpL_ev (ev_assign rfl) rfl ?_ | fail)) | ((with_reducible refine is_call ?_); (first | refine awpL_call rfl rfl (by assumption) rfl ?_ | refine awpL_ev (ev_len rfl rfl rfl rfl rfl) rfl ?_ | refine awpL_ev (ev_max rfl rfl) rfl ?_ | refine awpL_ev (ev_min rfl rfl) rfl ?_ | refine awpL_ev (ev_len_os rfl rfl rfl rfl rfl) rfl ?_ | refine awpL_ev2 (ev_append_zf rfl rfl rfl rfl rfl rfl rfl rfl rfl rfl rfl rfl rfl (by simp only [List.length_map, List.length_cons, List.length_nil]; omega) rfl) rfl ?_ | fail)) | ((with_reducible refine is_store ?_); (first | refine awpL_stMm m rfl rfl rfl rfl rfl rfl rfl rfl rfl (by (try simp only [cellsOf, List.map_cons, List.map_nil]); (try rfl)) (by (try simp only [List.set_cons_zero, List.set_cons_succ, List.nil_append, List.cons_append, List.append_nil, cellsOf, List.take_zero, List.drop_zero, List.take_succ_cons, List.drop_succ_cons, Nat.zero_add, Nat.reduceAdd, List.drop_nil, List.map_cons, List.map_nil]); (try rfl)) ?_ | refine awpL_evS (ev_st_lp rfl rfl rfl rfl rfl rfl rfl (by (try simp only [List.set_cons_zero, List.set_cons_succ, List.nil_append, List.cons_append, List.append_nil, cellsOf, List.take_zero, List.drop_zero, List.take_succ_cons, List.drop_succ_cons, Nat.zero_add, Nat.reduceAdd, List.drop_nil, List.map_cons, List.map_nil]); (try rfl))) ?_ | fail)) | ((with_reducible refine is_alloc ?_); (first | refine awpL_ev2 (ev_alloc rfl rfl (by (try simp only [List.length_nil, List.length_cons, Nat.reduceAdd]); (try rfl)) (by (try simp only [List.set_cons_zero, List.set_cons_succ, List.nil_append, List.cons_append, List.append_nil, cellsOf, List.take_zero, List.drop_zero, List.take_succ_cons, List.drop_succ_cons, Nat.zero_add, Nat.reduceAdd, List.drop_nil, List.map_cons, List.map_nil]); (try rfl))) rfl ?_ | fail)) | ((with_reducible refine is_box ?_); (first | refine awpL_boxMm m rfl rfl rfl rfl (by (try simp only [cellsOf, List.map_cons, List.map_nil]); (try rfl)) rfl ?_ | refine awpL_ev2 (ev_box rfl rfl (by (try simp only [List.length_nil, List.length_cons, Nat.reduceAdd]); (try rfl)) (by (try simp only [List.set_cons_zero, List.set_cons_succ, List.nil_append, List.cons_append, List.append_nil, cellsOf, List.take_zero, List.drop_zero, List.take_succ_cons, List.drop_succ_cons, Nat.zero_add, Nat.reduceAdd, List.drop_nil, List.map_cons, List.map_nil]); (try rfl))) rfl ?_ | fail)) | refine awpL_ev (ev_ia_fs rfl rfl rfl rfl rfl rfl (by with_reducible assumption)) rfl ?_ | refine awpL_ev (ev_not rfl) rfl ?_ | refine awpL_ev (ev_extract rfl rfl) rfl ?_ | refine awpL_ev (ev_index_str rfl rfl rfl rfl (by with_reducible assumption)) rfl ?_ | refine awpL_ev (ev_build rfl rfl rfl rfl rfl rfl rfl) rfl ?_ | refine awpL_ev (ev_slice_fs rfl rfl rfl rfl rfl rfl rfl (by with_reducible assumption) rfl rfl) rfl ?_ | refine awpL_ev (ev_makeFunc rfl rfl) rfl ?_ | refine awpL_ev (ev_nilCheck_fp rfl) rfl ?_ | refine awpL_ev (ev_index_arr rfl rfl rfl rfl rfl rfl rfl (by with_reducible assumption)) rfl ?_ | refine awpL_ev (ev_ia_os rfl rfl rfl rfl rfl rfl rfl (by with_reducible assumption)) rfl ?_ | refine awpL_ev (ev_build_lag rfl rfl rfl rfl rfl rfl) rfl ?_ | refine awpL_ev (ev_nilCheck_lp rfl rfl) rfl ?_ | refine awpL_ev2 (ev_bslice_z rfl rfl rfl rfl rfl rfl rfl) rfl ?_ | refine awpL_ev2 (ev_bslice_in rfl rfl rfl rfl rfl rfl rfl rfl rfl rfl rfl rfl (by (try simp only [List.map_cons, List.map_nil, cellsOf]); (try rfl))) rfl ?_))
     | ((with_reducible refine is_gd ?_); (first | refine awpL_run rfl rfl rfl (by first | with_reducible rfl | with_reducible assumption) ?_ | refine awpL_passT rfl rfl rfl rfl (by first | with_reducible rfl | with_reducible assumption) ?_ | refine awpL_passF rfl rfl rfl rfl (by first | with_reducible rfl | with_reducible assumption) ?_ | refine awpL_passU rfl rfl rfl rfl ?_ | fail))
     | ((with_reducible refine is_nil ?_); refine awpL_nil ?_)
     | ((with_reducible refine is_then ?_); (first | refine thenQ_n ?_ | refine thenQ_r ?_ | refine thenQ_e ?_ | fail))
     | ((with_reducible refine is_block ?_); (first | refine blockQ_n ?_ | refine blockQ_r ?_ | refine blockQ_e ?_ | refine blockQ_o rfl ?_ | fail))
     | ((with_reducible refine is_awp ?_); (first | refine awp_seq ?_ | refine awp_ret ?_ | refine awp_skip ?_ | refine awp_exit ?_ | refine awp_label ?_ | refine awp_block ?_ | refine awp_region ?_ | refine awp_cond_t rfl (by first | with_reducible rfl | with_reducible assumption) ?_ | refine awp_cond_f rfl (by first | with_reducible rfl | with_reducible assumption) ?_ | fail))
     | fail)
    exact k.out) : A := h (.of M) ⟨k⟩
theorem stn (M : List Nat) {A B : Prop} (k : B) (h : Mut M → Left B → A := by
    intro m k
    (first
     | ((with_reducible refine is_un ?_); (first | ((with_reducible refine is_move ?_); (first | refine awpL_ev (ev_move rfl) rfl ?_ | fail)) | ((with_reducible refine is_bin ?_); (first | refine awpL_ev (ev_add rfl rfl (by omega)) rfl ?_ | refine awpL_ev (ev_sub rfl rfl (by omega)) rfl ?_ | refine awpL_ev (ev_bin rfl rfl rfl) rfl ?_ | refine awpL_ev (ev_eq_bool rfl rfl rfl rfl) rfl ?_ | fail)) | ((with_reducible refine is_fa ?_); (first | refine awpL_ev (ev_fa_fp rfl rfl rfl rfl rfl rfl) rfl ?_ | refine awpL_ev (ev_fa_lp rfl rfl rfl rfl rfl rfl rfl) rfl ?_ | refine awpL_ev (ev_fa_ep rfl rfl rfl rfl rfl rfl rfl) rfl ?_ | fail)) | ((with_reducible refine is_load ?_); (first | refine awpL_ev (ev_load_agg rfl rfl rfl rfl) rfl ?_ | refine awpL_ev (ev_load_sub rfl rfl rfl rfl rfl) rfl ?_ | refine awpL_ev (ev_load_one rfl rfl rfl rfl) rfl ?_ | refine awpL_ev (ev_ll_agg rfl rfl rfl rfl rfl rfl rfl) rfl ?_ | refine awpL_ev (ev_ll_lag rfl rfl rfl rfl rfl rfl) rfl ?_ | refine awpL_ev (ev_ll_one rfl rfl rfl rfl rfl) rfl ?_ | refine awpL_ev (ev_el_one rfl rfl rfl rfl (by with_reducible assumption) rfl) rfl ?_ | fail)) | ((with_reducible refine is_pick ?_); (first | refine awpL_ev (ev_pick_t rfl (by first | with_reducible rfl | with_reducible assumption) rfl) rfl ?_ | refine awpL_ev (ev_pick_f rfl (by first | with_reducible rfl | with_reducible assumption) rfl) rfl ?_ | fail)) | ((with_reducible refine is_assign ?_); (first | refine awpL_ev (ev_assign rfl) rfl ?_ | fail)) | ((with_reducible refine is_call ?_); (first | refine awpL_call rfl rfl (by assumption) rfl ?_ | refine awpL_ev (ev_len rfl rfl rfl rfl rfl) rfl ?_ | refine awpL_ev (ev_max rfl rfl) rfl ?_ | refine awpL_ev (ev_min rfl rfl) rfl ?_ | refine awpL_ev (ev_len_os rfl rfl rfl rfl rfl) rfl ?_ | refine awpL_ev2 (ev_append_zf rfl rfl rfl rfl rfl rfl rfl rfl rfl rfl rfl rfl rfl (by simp only [List.length_map, List.length_cons, List.length_nil]; omega) rfl) rfl ?_ | fail)) | ((with_reducible refine is_store ?_); (first | refine awpL_stMm m rfl rfl rfl rfl rfl rfl rfl rfl rfl (by (try simp only [cellsOf, List.map_cons, List.map_nil]); (try rfl)) (by (try simp only [List.set_cons_zero, List.set_cons_succ, List.nil_append, List.cons_append, List.append_nil, cellsOf, List.take_zero, List.drop_zero, List.take_succ_cons, List.drop_succ_cons, Nat.zero_add, Nat.reduceAdd, List.drop_nil, List.map_cons, List.map_nil]); (try rfl)) ?_ | refine awpL_evS (ev_st_lp rfl rfl rfl rfl rfl rfl rfl (by (try simp only [List.set_cons_zero, List.set_cons_succ, List.nil_append, List.cons_append, List.append_nil, cellsOf, List.take_zero, List.drop_zero, List.take_succ_cons, List.drop_succ_cons, Nat.zero_add, Nat.reduceAdd, List.drop_nil, List.map_cons, List.map_nil]); (try rfl))) ?_ | fail)) | ((with_reducible refine is_alloc ?_); (first | refine awpL_ev2 (ev_alloc rfl rfl (by (try simp only [List.length_nil, List.length_cons, Nat.reduceAdd]); (try rfl)) (by (try simp only [List.set_cons_zero, List.set_cons_succ, List.nil_append, List.cons_append, List.append_nil, cellsOf, List.take_zero, List.drop_zero, List.take_succ_cons, List.drop_succ_cons, Nat.zero_add, Nat.reduceAdd, List.drop_nil, List.map_cons, List.map_nil]); (try rfl))) rfl ?_ | fail)) | ((with_reducible refine is_box ?_); (first | refine awpL_boxMm m rfl rfl rfl rfl (by (try simp only [cellsOf, List.map_cons, List.map_nil]); (try rfl)) rfl ?_ | refine awpL_ev2 (ev_box rfl rfl (by (try simp only [List.length_nil, List.length_cons, Nat.reduceAdd]); (try rfl)) (by (try simp only [List.set_cons_zero, List.set_cons_succ, List.nil_append, List.cons_append, List.append_nil, cellsOf, List.take_zero, List.drop_zero, List.take_succ_cons, List.drop_succ_cons, Nat.zero_add, Nat.reduceAdd, List.drop_nil, List.map_cons, List.map_nil]); (try rfl))) rfl ?_ | fail)) | refine awpL_ev (ev_ia_fs rfl rfl rfl rfl rfl rfl (by with_reducible assumption)) rfl ?_ | refine awpL_ev (ev_not rfl) rfl ?_ | refine awpL_ev (ev_extract rfl rfl) rfl ?_ | refine awpL_ev (ev_index_str rfl rfl rfl rfl (by with_reducible assumption)) rfl ?_ | refine awpL_ev (ev_build rfl rfl rfl rfl rfl rfl rfl) rfl ?_ | refine awpL_ev (ev_slice_fs rfl rfl rfl rfl rfl rfl rfl (by with_reducible assumption) rfl rfl) rfl ?_ | refine awpL_ev (ev_makeFunc rfl rfl) rfl ?_ | refine awpL_ev (ev_nilCheck_fp rfl) rfl ?_ | refine awpL_ev (ev_index_arr rfl rfl rfl rfl rfl rfl rfl (by with_reducible assumption)) rfl ?_ | refine awpL_ev (ev_ia_os rfl rfl rfl rfl rfl rfl rfl (by with_reducible assumption)) rfl ?_ | refine awpL_ev (ev_build_lag rfl rfl rfl rfl rfl rfl) rfl ?_ | refine awpL_ev (ev_nilCheck_lp rfl rfl) rfl ?_ | refine awpL_ev2 (ev_bslice_z rfl rfl rfl rfl rfl rfl rfl) rfl ?_ | refine awpL_ev2 (ev_bslice_in rfl rfl rfl rfl rfl rfl rfl rfl rfl rfl rfl rfl (by (try simp only [List.map_cons, List.map_nil, cellsOf]); (try rfl))) rfl ?_))
     | ((with_reducible refine is_gd ?_); (first | refine awpL_run rfl rfl rfl (by first | with_reducible rfl | with_reducible assumption) ?_ | refine awpL_passT rfl rfl rfl rfl (by first | with_reducible rfl | with_reducible assumption) ?_ | refine awpL_passF rfl rfl rfl rfl (by first | with_reducible rfl | with_reducible assumption) ?_ | refine awpL_passU rfl rfl rfl rfl ?_ | fail))
     | ((with_reducible refine is_nil ?_); refine awpL_nil ?_)
     | ((with_reducible refine is_then ?_); (first | refine thenQ_n ?_ | refine thenQ_r ?_ | refine thenQ_e ?_ | fail))
     | ((with_reducible refine is_block ?_); (first | refine blockQ_n ?_ | refine blockQ_r ?_ | refine blockQ_e ?_ | refine blockQ_o rfl ?_ | fail))
     | ((with_reducible refine is_awp ?_); (first | refine awp_seq ?_ | refine awp_ret ?_ | refine awp_skip ?_ | refine awp_exit ?_ | refine awp_label ?_ | refine awp_block ?_ | refine awp_region ?_ | refine awp_cond_t rfl (by first | with_reducible rfl | with_reducible assumption) ?_ | refine awp_cond_f rfl (by first | with_reducible rfl | with_reducible assumption) ?_ | fail))
     | fail)
    exact k.out) : A := h (.of M) ⟨k⟩
end Go.Ac
end
section
namespace Go.Proofs.YtnacjdaoiepbhaaGreatDoor
open Go.Ac
def td : TDs := [(2, ⟨.int .i64, 1, 8, [.int .i64 0]⟩),
  (3, ⟨.int .i64, 1, 8, [.int .i64 0]⟩),
  (4, ⟨.bool, 1, 1, [.bool false]⟩),
  (5, ⟨.int .u8, 1, 1, [.int .u8 0]⟩),
  (9, ⟨.str, 1, 16, [.string .empty]⟩),
  (12, ⟨.int .u64, 1, 8, [.int .u64 0]⟩),
  (20, ⟨.iface, 1, 16, [.nilIface]⟩),
  (21, ⟨.int .i32, 1, 4, [.int .i32 0]⟩),
  (22, ⟨.struct [(3, 0), (3, 1)], 2, 16, [.int .i64 0, .int .i64 0]⟩),
  (23, ⟨.struct [(3, 0), (3, 1)], 2, 16, [.int .i64 0, .int .i64 0]⟩),
  (24, ⟨.struct [(3, 0), (3, 1), (23, 2)], 4, 32, [.int .i64 0, .int .i64 0, .int .i64 0, .int .i64 0]⟩),
  (25, ⟨.struct [(3, 0), (3, 1), (23, 2)], 4, 32, [.int .i64 0, .int .i64 0, .int .i64 0, .int .i64 0]⟩),
  (27, ⟨.int .i64, 1, 8, [.int .i64 0]⟩),
  (30, ⟨.slice 3, 1, 24, [.slice none 0 0]⟩),
  (35, ⟨.slice 74, 1, 24, [.slice none 0 0]⟩),
  (36, ⟨.struct [(3, 0), (30, 1), (35, 2)], 3, 56, [.int .i64 0, .slice none 0 0, .slice none 0 0]⟩),
  (37, ⟨.struct [(3, 0), (30, 1), (35, 2)], 3, 56, [.int .i64 0, .slice none 0 0, .slice none 0 0]⟩),
  (42, ⟨.slice 25, 1, 24, [.slice none 0 0]⟩),
  (48, ⟨.struct [(3, 0), (9, 1), (3, 2), (3, 3), (30, 4)], 5, 64, [.int .i64 0, .string .empty, .int .i64 0, .int .i64 0, .slice none 0 0]⟩),
  (49, ⟨.struct [(3, 0), (9, 1), (3, 2), (3, 3), (30, 4)], 5, 64, [.int .i64 0, .string .empty, .int .i64 0, .int .i64 0, .slice none 0 0]⟩),
  (50, ⟨.slice 88, 1, 24, [.slice none 0 0]⟩),
  (51, ⟨.slice 65, 1, 24, [.slice none 0 0]⟩),
  (52, ⟨.struct [(49, 0), (50, 5), (51, 6)], 7, 112, [.int .i64 0, .string .empty, .int .i64 0, .int .i64 0, .slice none 0 0, .slice none 0 0, .slice none 0 0]⟩),
  (53, ⟨.struct [(49, 0), (50, 5), (51, 6)], 7, 112, [.int .i64 0, .string .empty, .int .i64 0, .int .i64 0, .slice none 0 0, .slice none 0 0, .slice none 0 0]⟩),
  (54, ⟨.slice 63, 1, 24, [.slice none 0 0]⟩),
  (55, ⟨.struct [(53, 0), (54, 7)], 8, 136, [.int .i64 0, .string .empty, .int .i64 0, .int .i64 0, .slice none 0 0, .slice none 0 0, .slice none 0 0, .slice none 0 0]⟩),
  (56, ⟨.struct [(53, 0), (54, 7)], 8, 136, [.int .i64 0, .string .empty, .int .i64 0, .int .i64 0, .slice none 0 0, .slice none 0 0, .slice none 0 0, .slice none 0 0]⟩),
  (62, ⟨.struct [(3, 0), (3, 1)], 2, 16, [.int .i64 0, .int .i64 0]⟩),
  (63, ⟨.struct [(3, 0), (3, 1)], 2, 16, [.int .i64 0, .int .i64 0]⟩),
  (64, ⟨.struct [(3, 0), (3, 1), (3, 2), (63, 3), (3, 5), (9, 6)], 7, 64, [.int .i64 0, .int .i64 0, .int .i64 0, .int .i64 0, .int .i64 0, .int .i64 0, .string .empty]⟩),
  (65, ⟨.struct [(3, 0), (3, 1), (3, 2), (63, 3), (3, 5), (9, 6)], 7, 64, [.int .i64 0, .int .i64 0, .int .i64 0, .int .i64 0, .int .i64 0, .int .i64 0, .string .empty]⟩),
  (66, ⟨.slice 93, 1, 24, [.slice none 0 0]⟩),
  (67, ⟨.struct [(3, 0), (65, 1), (66, 8), (66, 9), (66, 10)], 11, 144, [.int .i64 0, .int .i64 0, .int .i64 0, .int .i64 0, .int .i64 0, .int .i64 0, .int .i64 0, .string .empty, .slice none 0 0, .slice none 0 0, .slice none 0 0]⟩),
  (68, ⟨.struct [(3, 0), (65, 1), (66, 8), (66, 9), (66, 10)], 11, 144, [.int .i64 0, .int .i64 0, .int .i64 0, .int .i64 0, .int .i64 0, .int .i64 0, .int .i64 0, .string .empty, .slice none 0 0, .slice none 0 0, .slice none 0 0]⟩),
  (72, ⟨.slice 23, 1, 24, [.slice none 0 0]⟩),
  (73, ⟨.struct [(23, 0), (3, 2), (3, 3), (65, 4), (3, 11), (3, 12), (9, 13), (72, 14)], 15, 152, [.int .i64 0, .int .i64 0, .int .i64 0, .int .i64 0, .int .i64 0, .int .i64 0, .int .i64 0, .int .i64 0, .int .i64 0, .int .i64 0, .string .empty, .int .i64 0, .int .i64 0, .string .empty, .slice none 0 0]⟩),
  (74, ⟨.struct [(23, 0), (3, 2), (3, 3), (65, 4), (3, 11), (3, 12), (9, 13), (72, 14)], 15, 152, [.int .i64 0, .int .i64 0, .int .i64 0, .int .i64 0, .int .i64 0, .int .i64 0, .int .i64 0, .int .i64 0, .int .i64 0, .int .i64 0, .string .empty, .int .i64 0, .int .i64 0, .string .empty, .slice none 0 0]⟩),
  (87, ⟨.struct [(9, 0), (3, 1), (3, 2), (3, 3)], 4, 40, [.string .empty, .int .i64 0, .int .i64 0, .int .i64 0]⟩),
  (88, ⟨.struct [(9, 0), (3, 1), (3, 2), (3, 3)], 4, 40, [.string .empty, .int .i64 0, .int .i64 0, .int .i64 0]⟩),
  (92, ⟨.struct [(23, 0), (3, 2), (9, 3)], 4, 40, [.int .i64 0, .int .i64 0, .int .i64 0, .string .empty]⟩),
  (93, ⟨.struct [(23, 0), (3, 2), (9, 3)], 4, 40, [.int .i64 0, .int .i64 0, .int .i64 0, .string .empty]⟩),
  (102, ⟨.map 23 4, 1, 8, [.map none]⟩),
  (104, ⟨.slice 66, 1, 24, [.slice none 0 0]⟩),
  (116, ⟨.slice 5, 1, 24, [.slice none 0 0]⟩),
  (129, ⟨.map 23 93, 1, 8, [.map none]⟩),
  (137, ⟨.map 3 3, 1, 8, [.map none]⟩),
  (138, ⟨.map 172 4, 1, 8, [.map none]⟩),
  (139, ⟨.struct [(137, 0), (138, 1), (23, 2)], 4, 32, [.map none, .map none, .int .i64 0, .int .i64 0]⟩),
  (140, ⟨.struct [(137, 0), (138, 1), (23, 2)], 4, 32, [.map none, .map none, .int .i64 0, .int .i64 0]⟩),
  (147, ⟨.iface, 1, 16, [.nilIface]⟩),
  (148, ⟨.iface, 1, 16, [.nilIface]⟩),
  (151, ⟨.arr 2 3, 2, 16, [.int .i64 0, .int .i64 0]⟩),
  (167, ⟨.int .u64, 1, 8, [.int .u64 0]⟩),
  (169, ⟨.ptr 140, 1, 8, [.pointer none]⟩),
  (170, ⟨.arr 3 3, 3, 24, [.int .i64 0, .int .i64 0, .int .i64 0]⟩),
  (171, ⟨.struct [(23, 0), (3, 2), (3, 3)], 4, 32, [.int .i64 0, .int .i64 0, .int .i64 0, .int .i64 0]⟩),
  (172, ⟨.struct [(23, 0), (3, 2), (3, 3)], 4, 32, [.int .i64 0, .int .i64 0, .int .i64 0, .int .i64 0]⟩),
  (186, ⟨.int .i64, 1, 8, [.int .i64 0]⟩),
  (193, ⟨.int .u32, 1, 4, [.int .u32 0]⟩),
  (195, ⟨.int .u64, 1, 8, [.int .u64 0]⟩),
  (203, ⟨.arr 24 5, 24, 24, [.int .u8 0, .int .u8 0, .int .u8 0, .int .u8 0, .int .u8 0, .int .u8 0, .int .u8 0, .int .u8 0, .int .u8 0, .int .u8 0, .int .u8 0, .int .u8 0, .int .u8 0, .int .u8 0, .int .u8 0, .int .u8 0, .int .u8 0, .int .u8 0, .int .u8 0, .int .u8 0, .int .u8 0, .int .u8 0, .int .u8 0, .int .u8 0]⟩),
  (207, ⟨.int .i64, 1, 8, [.int .i64 0]⟩),
  (210, ⟨.ptr 239, 1, 8, [.pointer none]⟩),
  (223, ⟨.int .u64, 1, 8, [.int .u64 0]⟩),
  (227, ⟨.ptr 3, 1, 8, [.pointer none]⟩),
  (229, ⟨.slice 27, 1, 24, [.slice none 0 0]⟩),
  (233, ⟨.arr 20 195, 20, 160, [.int .u64 0, .int .u64 0, .int .u64 0, .int .u64 0, .int .u64 0, .int .u64 0, .int .u64 0, .int .u64 0, .int .u64 0, .int .u64 0, .int .u64 0, .int .u64 0, .int .u64 0, .int .u64 0, .int .u64 0, .int .u64 0, .int .u64 0, .int .u64 0, .int .u64 0, .int .u64 0]⟩),
  (238, ⟨.struct [(9, 0), (9, 1), (148, 2)], 3, 48, [.string .empty, .string .empty, .nilIface]⟩),
  (239, ⟨.struct [(9, 0), (9, 1), (148, 2)], 3, 48, [.string .empty, .string .empty, .nilIface]⟩),
  (245, ⟨.ptr 223, 1, 8, [.pointer none]⟩),
  (249, ⟨.ptr 5, 1, 8, [.pointer none]⟩),
  (250, ⟨.ptr 252, 1, 8, [.pointer none]⟩),
  (251, ⟨.struct [(9, 0)], 1, 16, [.string .empty]⟩),
  (252, ⟨.struct [(9, 0)], 1, 16, [.string .empty]⟩),
  (257, ⟨.arr 32 5, 32, 32, [.int .u8 0, .int .u8 0, .int .u8 0, .int .u8 0, .int .u8 0, .int .u8 0, .int .u8 0, .int .u8 0, .int .u8 0, .int .u8 0, .int .u8 0, .int .u8 0, .int .u8 0, .int .u8 0, .int .u8 0, .int .u8 0, .int .u8 0, .int .u8 0, .int .u8 0, .int .u8 0, .int .u8 0, .int .u8 0, .int .u8 0, .int .u8 0, .int .u8 0, .int .u8 0, .int .u8 0, .int .u8 0, .int .u8 0, .int .u8 0, .int .u8 0, .int .u8 0]⟩),
  (261, ⟨.struct [(5, 0), (5, 1)], 2, 2, [.int .u8 0, .int .u8 0]⟩),
  (262, ⟨.struct [(5, 0), (5, 1)], 2, 2, [.int .u8 0, .int .u8 0]⟩),
  (263, ⟨.arr 16 262, 32, 32, [.int .u8 0, .int .u8 0, .int .u8 0, .int .u8 0, .int .u8 0, .int .u8 0, .int .u8 0, .int .u8 0, .int .u8 0, .int .u8 0, .int .u8 0, .int .u8 0, .int .u8 0, .int .u8 0, .int .u8 0, .int .u8 0, .int .u8 0, .int .u8 0, .int .u8 0, .int .u8 0, .int .u8 0, .int .u8 0, .int .u8 0, .int .u8 0, .int .u8 0, .int .u8 0, .int .u8 0, .int .u8 0, .int .u8 0, .int .u8 0, .int .u8 0, .int .u8 0]⟩)]
theorem td_eq : tdsOf Tryz.prog [2, 3, 4, 5, 9, 12, 20, 21, 22, 23, 24, 25, 27, 30, 35, 36, 37, 42, 48, 49, 50, 51, 52, 53, 54, 55, 56, 62, 63, 64, 65, 66, 67, 68, 72, 73, 74, 87, 88, 92, 93, 102, 104, 116, 129, 137, 138, 139, 140, 147, 148, 151, 167, 169, 170, 171, 172, 186, 193, 195, 203, 207, 210, 223, 227, 229, 233, 238, 239, 245, 249, 250, 251, 252, 257, 261, 262, 263] = td := by kernel_rfl
instance tok : TOK Tryz.prog td := TOK.mk' [2, 3, 4, 5, 9, 12, 20, 21, 22, 23, 24, 25, 27, 30, 35, 36, 37, 42, 48, 49, 50, 51, 52, 53, 54, 55, 56, 62, 63, 64, 65, 66, 67, 68, 72, 73, 74, 87, 88, 92, 93, 102, 104, 116, 129, 137, 138, 139, 140, 147, 148, 151, 167, 169, 170, 171, 172, 186, 193, 195, 203, 207, 210, 223, 227, 229, 233, 238, 239, 245, 249, 250, 251, 252, 257, 261, 262, 263] td_eq
def stampC (s : Stamp) : List AV := [.v (.int .i64 s.count), .v (.int .i64 s.dev)]
def noteC (n : Note) : List AV := [.v (.int .i64 n.id), .v (.int .i64 n.tier), .v (.int .i64 n.parent), .v (.int .i64 n.span.fro), .v (.int .i64 n.span.til), .v (.int .i64 n.rank), .v (.string n.text)]
abbrev encStamps (l : List Stamp) : AV := .fs 2 l.length (l.map stampC)
def opC (o : Op) : List AV := [.v (.int .i64 o.at_.count), .v (.int .i64 o.at_.dev), .v (.int .i64 o.kind), .v (.int .i64 o.rec_),
  .v (.int .i64 o.note.id), .v (.int .i64 o.note.tier), .v (.int .i64 o.note.parent), .v (.int .i64 o.note.span.fro), .v (.int .i64 o.note.span.til), .v (.int .i64 o.note.rank), .v (.string o.note.text),
  .v (.int .i64 o.set), .v (.int .i64 o.n), .v (.string o.text), encStamps o.over]
def intC (n : Int) : List AV := [.v (.int .i64 n)]
abbrev encIs (l : List Int) : AV := .fs 1 l.length (l.map intC)
abbrev encOps (l : List Op) : AV := .fs 15 l.length (l.map opC)
def repC (r : Replica) : List AV := [.v (.int .i64 r.dev), encIs r.seen, encOps r.ops]
theorem stamp_get {l : List Stamp} {k : Nat} {t : Stamp} (h : l[k]? = some t) : 0 ≤ (k : Int) ∧ (l.map stampC)[(k : Int).toNat]? = some (stampC t) := ⟨by omega, by simp [h]⟩
theorem op_get {l : List Op} {k : Nat} {t : Op} (h : l[k]? = some t) : 0 ≤ (k : Int) ∧ (l.map opC)[(k : Int).toNat]? = some (opC t) := ⟨by omega, by simp [h]⟩
theorem int_get {l : List Int} {k : Nat} {t : Int} (h : l[k]? = some t) : 0 ≤ (k : Int) ∧ (l.map intC)[(k : Int).toNat]? = some (intC t) := ⟨by omega, by simp [h]⟩
end Go.Proofs.YtnacjdaoiepbhaaGreatDoor
end
section
namespace Go.Proofs.YtnacjdaoiepbhaaGreatDoor
open Go.Ac
attribute [local irreducible] awp awpL Ev Ev2 EvS thenQ blockQ retQ PCalls OCalls
variable {g : List (Nat × List AV)}
def stampEq : List Value → List Value → Option Bool
  | [.int .i64 a, .int .i64 b], [.int .i64 a', .int .i64 b'] => some (a == a' && b == b')
  | _, _ => none
theorem stampEq_T : EqT Tryz.prog 23 stampEq := by
  intro xs ys b w h
  unfold stampEq at h
  split at h
  · rename_i a b a' b'
    have h := Option.some.inj h
    subst h
    have u3 := Tryz.underlying3
    have a3 := Tryz.isAgg3
    have z3 := Tryz.sizeOf3
    have hS : Tryz.prog.underlying 23 = some (.struct (Tryz.prog.fieldsOf 23)) := by kernel_rfl
    rw [show (10000 : Nat) = 9999 + 1 from rfl, run_equalIn_agg w 9999 _ _ _ hS (by kernel_rfl)]
    simp only [Program.fieldsOf, Tryz.underlying23]
    go_simp
    by_cases h1 : a = a' <;> by_cases h2 : b = b' <;> simp [h1, h2]
  · cases h
theorem rRight_spec (s : Stamp) : PCalls Tryz.prog g 134 [.agg (stampC s)] (vb (right s)) := by
  refine pcalls' Tryz.func134 Tryz.ntmps134 rfl rfl rfl ?_
  repeat' (first
   | refine stn [] ?_
   | ((with_reducible refine is_gd ?_); refine awpL_split rfl rfl (fun h => ?_) (fun h => ?_))
   | fail)
  all_goals refine retP rfl ?_
  all_goals simp_all [ex, right]
  all_goals first | omega | (intros; omega) | ((repeat' split) <;> omega)
theorem rLess_spec (a b : Stamp) : PCalls Tryz.prog g 106 [.agg (stampC a), .agg (stampC b)] (vb (less a b)) := by
  refine pcalls' Tryz.func106 Tryz.ntmps106 rfl rfl rfl ?_
  repeat' (first
   | refine stn [] ?_
   | ((with_reducible refine is_gd ?_); refine awpL_split rfl rfl (fun h => ?_) (fun h => ?_))
   | fail)
  all_goals refine retP rfl ?_
  all_goals simp_all [ex, less]
  all_goals first | omega | (intros; omega) | ((repeat' split) <;> omega)
theorem rId_spec (s : Stamp) : PCalls Tryz.prog g 187 [.agg (stampC s)] (vi (idOf s)) := by
  have h1 := rRight_spec (g := g) s
  refine pcalls' Tryz.func187 Tryz.ntmps187 rfl rfl rfl ?_
  cases hr : right s with
  | false =>
    rw [hr] at h1
    have n1 : (!false) = true := rfl
    refine runn [] ?_
    all_goals refine retP rfl ?_
    all_goals simp [ex, idOf, hr]
  | true =>
    rw [hr] at h1
    have n1 : (!true) = false := rfl
    have hb : -9223372036854775808 ≤ 16 * s.count ∧ 16 * s.count ≤ 9223372036854775807 := by
      simp [right] at hr; omega
    have hb2 : -9223372036854775808 ≤ 16 * s.count + s.dev ∧ 16 * s.count + s.dev ≤ 9223372036854775807 := by
      simp [right] at hr; omega
    repeat' (first
     | ((with_reducible refine is_un ?_); refine awpL_ev (ev_mul rfl rfl hb) rfl ?_)
     | refine stn [] ?_
     | fail)
    all_goals refine retP rfl ?_
    all_goals simp [ex, idOf, hr]
end Go.Proofs.YtnacjdaoiepbhaaGreatDoor
end
section
namespace Go.Proofs.YtnacjdaoiepbhaaGreatDoor
open Go.Ac
attribute [local irreducible] awp awpL Ev Ev2 EvS thenQ blockQ retQ PCalls OCalls
variable {g : List (Nat × List AV)}
abbrev ofR (id : Int) : AV := .tup [.agg (stampC (if right (stampOf id) then stampOf id else ⟨0, 0⟩)), vb (right (stampOf id))]
theorem rOf_spec (id : Int) (hid : -9223372036854775808 ≤ id ∧ id ≤ 9223372036854775807) : PCalls Tryz.prog g 186 [vi id] (ofR id) := by
  have h1 := rRight_spec (g := g) (stampOf id)
  have hq : (0 : Int) < 16 ∧ -9223372036854775808 ≤ id ∧ id ≤ 9223372036854775807 := ⟨by omega, hid⟩
  have hr : (0 : Int) < 16 := by omega
  refine pcalls' Tryz.func186 Tryz.ntmps186 rfl rfl rfl ?_
  cases hc : right (stampOf id) with
  | false =>
    rw [hc] at h1
    have n1 : (!false) = true := rfl
    repeat' (first
     | ((with_reducible refine is_un ?_); (first | refine awpL_ev (ev_tdiv rfl rfl hq) rfl ?_ | refine awpL_ev (ev_tmod rfl rfl hr) rfl ?_))
     | refine stn [2] ?_
     | fail)
    refine retP rfl ?_
    simp [ex, exL, ofR, hc, stampC]
  | true =>
    rw [hc] at h1
    have n1 : (!true) = false := rfl
    repeat' (first
     | ((with_reducible refine is_un ?_); (first | refine awpL_ev (ev_tdiv rfl rfl hq) rfl ?_ | refine awpL_ev (ev_tmod rfl rfl hr) rfl ?_))
     | refine stn [2] ?_
     | fail)
    refine retP rfl ?_
    rw [ofR, hc, if_pos rfl]
    simp [ex, exL, stampC, stampOf]
def rnum (v : List Int) (d : Int) : Int := if 1 ≤ d ∧ d ≤ 15 then num v (d - 1).toNat else 0
theorem right_dev {s : Stamp} (h : right s = true) : 1 ≤ s.dev ∧ s.dev ≤ 15 ∧ 1 ≤ s.count ∧ s.count ≤ 1048576 := by simp [right] at h; omega
end Go.Proofs.YtnacjdaoiepbhaaGreatDoor
end
section
namespace Go.Proofs.YtnacjdaoiepbhaaGreatDoor
open Go.Ac
attribute [local irreducible] awp awpL Ev Ev2 EvS thenQ blockQ retQ PCalls OCalls
variable {g : List (Nat × List AV)}
def joinC (a b : List Int) (k : Nat) : List (List AV) := (List.range 15).map fun i => intC (if i < k then max (num a i) (num b i) else 0)
theorem set_map_int (l : List Int) (k : Nat) (x : Int) : (l.map intC).set k (intC x) = (l.set k x).map intC := by rw [List.map_set]
end Go.Proofs.YtnacjdaoiepbhaaGreatDoor
end
section
namespace Go.Proofs.YtnacjdaoiepbhaaGreatDoor
open Go.Ac
attribute [local irreducible] awp awpL Ev Ev2 EvS thenQ blockQ retQ PCalls OCalls
variable {g : List (Nat × List AV)}
end Go.Proofs.YtnacjdaoiepbhaaGreatDoor
end
section
namespace Go.Proofs.YtnacjdaoiepbhaaGreatDoor
open Go.Ac
attribute [local irreducible] awp awpL Ev Ev2 EvS thenQ blockQ retQ PCalls OCalls
variable {g : List (Nat × List AV)}
theorem stamp_ext {x y : Stamp} (h : x.count = y.count ∧ x.dev = y.dev) : x = y := by cases x; cases y; simp_all
def noteEq : List Value → List Value → Option Bool
  | [.int .i64 a, .int .i64 b, .int .i64 c, .int .i64 d, .int .i64 e, .int .i64 f, .string s], [.int .i64 a', .int .i64 b', .int .i64 c', .int .i64 d', .int .i64 e', .int .i64 f', .string s'] =>
    some (a == a' && (b == b' && (c == c' && ((d == d' && e == e') && (f == f' && s.toList == s'.toList)))))
  | _, _ => none
theorem noteEq_T : EqT Tryz.prog 65 noteEq := by
  intro xs ys b w h
  unfold noteEq at h
  split at h
  · rename_i a b c d e f s a' b' c' d' e' f' s'
    have h := Option.some.inj h
    subst h
    have u3 := Tryz.underlying3
    have a3 := Tryz.isAgg3
    have z3 := Tryz.sizeOf3
    have u9 := Tryz.underlying9
    have a9 := Tryz.isAgg9
    have z9 := Tryz.sizeOf9
    have a7 := Tryz.isAgg63
    have z7 := Tryz.sizeOf63
    have hS : Tryz.prog.underlying 65 = some (.struct (Tryz.prog.fieldsOf 65)) := by kernel_rfl
    have hsp : ∀ w, (Op.equalIn 9999 63 (.agg #[.int .i64 d, .int .i64 e]) (.agg #[.int .i64 d', .int .i64 e'])).run Tryz.prog w = .ok (d == d' && e == e') w := by
      intro w
      rw [show (9999 : Nat) = 9998 + 1 from rfl, run_equalIn_agg w 9998 _ _ _ (show Tryz.prog.underlying 63 = some (.struct (Tryz.prog.fieldsOf 63)) by kernel_rfl) (by kernel_rfl)]
      simp only [Program.fieldsOf, Tryz.underlying63]
      go_simp
      by_cases h1 : d = d' <;> by_cases h2 : e = e' <;> simp [h1, h2]
    rw [show (10000 : Nat) = 9999 + 1 from rfl, run_equalIn_agg w 9999 _ _ _ hS (by kernel_rfl)]
    simp only [Program.fieldsOf, Tryz.underlying65]
    go_simp
    by_cases h1 : a = a' <;> by_cases h2 : b = b' <;> by_cases h3 : c = c' <;> by_cases h4 : d = d' <;> by_cases h5 : e = e' <;> by_cases h6 : f = f' <;> by_cases h7 : s.toList = s'.toList <;> simp [h1, h2, h3, h4, h5, h6, h7]
  · cases h
set_option maxHeartbeats 400000 in
theorem rSameInts_spec (a b : List Int) (ha : a.length ≤ 1000000) (hb : b.length ≤ 1000000) : PCalls Tryz.prog g 74 [encIs a, encIs b] (vb (decide (a = b))) := by
  refine pcalls' Tryz.func74 Tryz.ntmps74 rfl rfl rfl ?_
  by_cases hl : a.length = b.length
  · have c0 : (!decide ((a.length : Int) = b.length)) = false := by simp; omega
    repeat' (first
     | refine stn [] ?_
     | ((with_reducible refine is_awp ?_); refine awp_cond rfl (fun h => ?_) (fun h => ?_))
     | fail)
    refine awp_for (α := Nat) 0 (fun k => [(0, encIs a), (1, encIs b), (12, vi a.length), (13, vi k)]) (fun _ => []) (fun k => k ≤ a.length ∧ a.take k = b.take k) (fun k => a.length - k) 0
      ⟨(.cons rfl rfl (.cons rfl rfl (.cons rfl rfl (.cons rfl rfl .nil)))), rfl, rfl, rfl⟩ ⟨Nat.zero_le _, rfl⟩ ?_
    rintro k ⟨hk, hf⟩
    cases ht : a[k]? with
    | none =>
      have hge : a.length ≤ k := by simpa using ht
      have c1 : decide ((k : Int) < a.length) = false := by simp; omega
      have he : a = b := by
        rw [List.take_of_length_le hge, List.take_of_length_le (by omega)] at hf; exact hf
      refine runn [] ?_
      refine retP rfl ?_
      simp [ex, he]
    | some x =>
      have hlt : k < a.length := (List.getElem?_eq_some_iff.1 ht).1
      obtain ⟨y, hy⟩ : ∃ y, b[k]? = some y := ⟨_, List.getElem?_eq_getElem (by omega)⟩
      have c1 : decide ((k : Int) < a.length) = true := by simp; omega
      have h1 := int_get ht
      have h2 := int_get hy
      repeat' (first
       | refine st [] ?_
       | ((with_reducible refine is_awp ?_); refine awp_cond rfl (fun h => ?_) (fun h => ?_))
       | fail)
      · refine retP rfl ?_
        have hne : x ≠ y := by simpa using h
        have : a ≠ b := fun e => hne (by rw [e, hy] at ht; exact (Option.some.inj ht).symm)
        simp [ex, this]
      · have he : x = y := by simpa using h
        exact ⟨k + 1, ⟨(.cons rfl rfl (.cons rfl rfl (.cons rfl rfl (.cons rfl rfl .nil)))), rfl, rfl, rfl⟩, ⟨by omega, by rw [List.take_add_one, List.take_add_one, hf, ht, hy, he]⟩, by omega⟩
  · have c0 : (!decide ((a.length : Int) = b.length)) = true := by simp; omega
    refine runn [] ?_
    refine retP rfl ?_
    have : a ≠ b := fun e => hl (by rw [e])
    simp [ex, this]
end Go.Proofs.YtnacjdaoiepbhaaGreatDoor
end
section
namespace Go.Proofs.YtnacjdaoiepbhaaGreatDoor
open Go.Ac
attribute [local irreducible] awp awpL Ev Ev2 EvS thenQ blockQ retQ PCalls OCalls
variable {g : List (Nat × List AV)}
end Go.Proofs.YtnacjdaoiepbhaaGreatDoor
end
section
namespace Go.Proofs.YtnacjdaoiepbhaaGreatDoor
open Go.Ac
attribute [local irreducible] awp awpL Ev Ev2 EvS thenQ blockQ retQ PCalls OCalls
variable {g : List (Nat × List AV)}
end Go.Proofs.YtnacjdaoiepbhaaGreatDoor
end
section
namespace Go.Proofs.YtnacjdaoiepbhaaGreatDoor
open Go.Ac
attribute [local irreducible] awp awpL Ev Ev2 EvS thenQ blockQ retQ PCalls OCalls
variable {g : List (Nat × List AV)}
def Fit (l : List Op) : Prop := l.length ≤ 100000 ∧ ∀ o ∈ l, o.over.length ≤ 100000
theorem Fit.get {l : List Op} (h : Fit l) {k : Nat} {o : Op} (hk : l[k]? = some o) : o.over.length ≤ 1000000 := by
  have := h.2 o (List.mem_of_getElem? hk); omega
theorem any_drop {α : Type} (f : α → Bool) (l : List α) (k : Nat) (x : α) (h : l[k]? = some x) : (l.drop k).any f = (f x || (l.drop (k + 1)).any f) := by
  obtain ⟨hlt, rfl⟩ := List.getElem?_eq_some_iff.1 h
  rw [List.drop_eq_getElem_cons hlt]; rfl
end Go.Proofs.YtnacjdaoiepbhaaGreatDoor
end
section
namespace Go.Proofs.YtnacjdaoiepbhaaGreatDoor
open Go.Ac
attribute [local irreducible] awp awpL Ev Ev2 EvS thenQ blockQ retQ PCalls OCalls
variable {g : List (Nat × List AV)}
theorem take_map {α : Type} (f : α → List AV) (l : List α) (k : Nat) (x : α) (h : l[k]? = some x) : (l.take k).map f ++ [f x] = (l.take (k + 1)).map f := by
  rw [List.take_add_one, h, List.map_append]; rfl
set_option maxHeartbeats 1000000 in
theorem CopyOps_spec (l : List Op) (hl : Fit l) : OCalls Tryz.prog g 35 [encOps l] 74 15 (l.map opC) := by
  refine ocalls' Tryz.func35 Tryz.ntmps35 rfl rfl rfl ?_
  have hl1 := hl.1
  repeat' (first
   | ((with_reducible refine is_un ?_); refine awpL_ev2 (ev_bslice_o (t := 35) (n := 0) (es := []) rfl rfl rfl rfl rfl rfl rfl rfl rfl rfl rfl (by (try simp only [List.length_nil, List.length_cons, Nat.reduceAdd]); (try rfl)) (by (try simp only [List.set_cons_zero, List.set_cons_succ, List.nil_append, List.cons_append, List.append_nil, cellsOf, List.take_zero, List.drop_zero, List.take_succ_cons, List.drop_succ_cons, Nat.zero_add, Nat.reduceAdd, List.drop_nil, List.map_cons, List.map_nil]); (try rfl))) rfl ?_)
   | refine stn [5] ?_
   | ((with_reducible refine is_awp ?_); refine awp_cond rfl (fun h => ?_) (fun h => ?_))
   | fail)
  refine awp_for (α := Nat) 1 (fun k => [(0, encOps l), (3, .os 0 0), (4, vi k)]) (fun k => [.own 0 74 15 ((l.take k).map opC)]) (fun k => k ≤ l.length) (fun k => l.length - k) 0
    ⟨(.cons rfl rfl (.cons rfl rfl (.cons rfl rfl .nil))), rfl, rfl, rfl⟩ (Nat.zero_le _) ?_
  rintro k hk
  cases ht : l[k]? with
  | none =>
    have hge : l.length ≤ k := by simpa using ht
    have c1 : decide ((k : Int) < l.length) = false := by simp; omega
    refine runn [5] ?_
    exact retO rfl (by rw [List.take_of_length_le hge]; rfl)
  | some x =>
    have hlt : k < l.length := (List.getElem?_eq_some_iff.1 ht).1
    have c1 : decide ((k : Int) < l.length) = true := by simp; omega
    have h1 := op_get ht
    have hj := take_map opC l k x ht
    have ho := hl.get ht
    repeat' (first
     | ((with_reducible refine is_un ?_); (first | refine awpL_ev2 (ev_append_zf (n := x.over.length) rfl rfl rfl rfl rfl rfl rfl rfl rfl rfl rfl rfl rfl (by simp only [List.length_map, List.length_cons, List.length_nil, List.length_append, List.length_take]; omega) (by simp only [List.length_map])) rfl ?_ | refine awpL_ev2 (ev_app (es' := (l.take (k + 1)).map opC) (L' := [.own 1 74 15 ((l.take (k + 1)).map opC), .box (opC x)]) rfl rfl rfl rfl rfl rfl rfl rfl rfl rfl rfl rfl rfl (by simp only [List.length_map, List.length_cons, List.length_nil, List.length_append, List.length_take]; omega) hj rfl) rfl ?_ | refine awpL_evS (ev_st_lp (L' := [.own 0 74 15 ((l.take k).map opC), .box (opC x)]) rfl rfl rfl rfl rfl rfl rfl rfl) ?_))
     | refine stn [5] ?_
     | fail)
    exact ⟨k + 1, ⟨(.cons rfl rfl (.cons rfl rfl (.cons rfl rfl .nil))), rfl, rfl, rfl⟩, by omega, by omega⟩
end Go.Proofs.YtnacjdaoiepbhaaGreatDoor
end
section
namespace Go.Proofs.YtnacjdaoiepbhaaGreatDoor
open Go.Ac
attribute [local irreducible] awp awpL Ev Ev2 EvS thenQ blockQ retQ PCalls OCalls
variable {g : List (Nat × List AV)}
theorem CopyOps_P (l : List Op) (hl : Fit l) : PCalls Tryz.prog g 35 [encOps l] (encOps l) := by
  have := (CopyOps_spec (g := g) l hl).toP
  rw [List.length_map] at this
  exact this
def FitR (r : Replica) : Prop := Fit r.ops ∧ r.seen.length ≤ 100000
set_option maxHeartbeats 1000000 in
theorem Copy_spec (r : Replica) (hr : FitR r) : PCalls Tryz.prog g 20 [.agg (repC r)] (.agg (repC r)) := by
  have h1 := CopyOps_P (g := g) r.ops hr.1
  have hs := hr.2
  refine pcalls' Tryz.func20 Tryz.ntmps20 rfl rfl rfl ?_
  repeat' (first
   | refine awpD_sS rfl rfl (ev_st_lp (L' := [.box (repC r)]) rfl rfl rfl rfl rfl rfl rfl rfl) rfl rfl ?_
   | ((with_reducible refine isD_un ?_); refine awpD_un (as_ev2 (fun _ => ev_append_zf (n := r.seen.length) rfl rfl rfl rfl rfl rfl rfl rfl rfl rfl rfl rfl rfl (by simp only [List.length_map, List.length_cons, List.length_nil, List.length_append, List.length_take]; omega) (by simp only [List.length_map])) rfl rfl) (by (try simp only [List.nil_append, List.cons_append]); (try rfl)) ?_)
   | refine st [2] ?_
   | fail)
  refine retP rfl ?_
  rfl
end Go.Proofs.YtnacjdaoiepbhaaGreatDoor
end
section
namespace Go.Proofs.YtnacjdaoiepbhaaGreatDoor
open Go.Ac
attribute [local irreducible] awp awpL Ev Ev2 EvS thenQ blockQ retQ PCalls OCalls
variable {g : List (Nat × List AV)}
def start (dev : Int) : Replica := ⟨dev, List.replicate 15 0, []⟩
def addOp (c d : Int) (t : ByteArray) : Op := ⟨⟨c, d⟩, 0, 1, ⟨16 * c + d, 0, 0, ⟨0, 0⟩, 0, t⟩, 0, 0, .empty, []⟩
def opOk (o : Op) : Bool := decide (o.over.length ≤ 20) && decide (o.text.size ≤ 300) && decide (o.note.text.size ≤ 300)
def opsOk (l : List Op) : Bool := decide (l.length ≤ 16) && l.all opOk
theorem all_drop {α : Type} (f : α → Bool) (l : List α) (k : Nat) (x : α) (h : l[k]? = some x) : (l.drop k).all f = (f x && (l.drop (k + 1)).all f) := by
  obtain ⟨hlt, rfl⟩ := List.getElem?_eq_some_iff.1 h
  rw [List.drop_eq_getElem_cons hlt]; rfl
end Go.Proofs.YtnacjdaoiepbhaaGreatDoor
end
section
namespace Go.Proofs.YtnacjdaoiepbhaaGreatDoor
open Go.Ac
attribute [local irreducible] awp awpL Ev Ev2 EvS thenQ blockQ retQ PCalls OCalls
variable {g : List (Nat × List AV)}
def missStep (seen : List Int) (most : Int) (out : List Op) (o : Op) : List Op := if (out.length : Int) < most ∧ covers seen o.at_ = false then out ++ [o] else out
def missing (l : List Op) (seen : List Int) (most : Int) : List Op := l.foldl (missStep seen most) []
theorem miss_full (seen : List Int) (most : Int) : ∀ (l out : List Op), most ≤ out.length → l.foldl (missStep seen most) out = out
  | [], out, _ => rfl
  | o :: r, out, h => by
    have : missStep seen most out o = out := by unfold missStep; rw [if_neg (by omega)]
    rw [List.foldl_cons, this, miss_full seen most r out h]
abbrev missK (l : List Op) (seen : List Int) (most : Int) (k : Nat) : List Op := (l.take k).foldl (missStep seen most) []
end Go.Proofs.YtnacjdaoiepbhaaGreatDoor
end
section
namespace Go.Proofs.YtnacjdaoiepbhaaGreatDoor
open Go.Ac
attribute [local irreducible] awp awpL Ev Ev2 EvS thenQ blockQ retQ PCalls OCalls
variable {g : List (Nat × List AV)}
end Go.Proofs.YtnacjdaoiepbhaaGreatDoor
end
section
namespace Go.Proofs.YtnacjdaoiepbhaaGreatDoor
open Go.Ac
attribute [local irreducible] awp awpL Ev Ev2 EvS thenQ blockQ retQ PCalls OCalls
variable {g : List (Nat × List AV)}
def behind (a b : List Op) : Nat := b.countP fun o => !has a o
abbrev behK (a b : List Op) (k : Nat) : Nat := (b.take k).countP fun o => !has a o
end Go.Proofs.YtnacjdaoiepbhaaGreatDoor
end
section
namespace Go.Proofs.YtnacjdaoiepbhaaGreatDoor
open Go.Ac
theorem int_chk (b : Bool) (n : Nat) (a : Int) (w : World) : (Instr.checkKey b (n + 1) 3 (.int .i64 a)).run Tryz.prog w = .ok () w := by
  unfold Instr.checkKey
  simp [run_underlying Tryz.underlying3, Result.andThen]
theorem stamp_chk (b : Bool) (a c : Int) (w : World) : (Instr.checkKey b 10000 23 (.agg #[.int .i64 a, .int .i64 c])).run Tryz.prog w = .ok () w := by
  have h1 := int_chk b 9998 a w
  have h2 := int_chk b 9998 c w
  have a3 := Tryz.isAgg3
  have z3 := Tryz.sizeOf3
  rw [show (10000 : Nat) = 9999 + 1 from rfl]
  unfold Instr.checkKey
  simp only [Sem.run_bind, run_underlying Tryz.underlying23, Result.andThen_ok]
  have p0 : (part 3 #[Value.int IntKind.i64 a, Value.int IntKind.i64 c] 0).run Tryz.prog w = .ok (.int .i64 a) w := by simp [part, a3, Result.andThen]
  have p1 : (part 3 #[Value.int IntKind.i64 a, Value.int IntKind.i64 c] 1).run Tryz.prog w = .ok (.int .i64 c) w := by simp [part, a3, Result.andThen]
  simp [p0, p1, h1, h2, Result.andThen]
def isStampV (v : Value) : Prop := ∃ a b, v = .agg #[.int .i64 a, .int .i64 b]
def stampV (s : Stamp) : Value := .agg #[.int .i64 s.count, .int .i64 s.dev]
theorem stampKey : KeyOk Tryz.prog 23 isStampV := by
  refine KeyOk.asks Tryz.underlying23 (fun a b _ _ => by rfl) (fun x y w hx hy => ?_) (fun b k w hk => ?_) (fun k hk => ?_)
  · obtain ⟨a, b, rfl⟩ := hx
    obtain ⟨c, d, rfl⟩ := hy
    refine ⟨_, stampEq_T [.int .i64 a, .int .i64 b] [.int .i64 c, .int .i64 d] _ w rfl, ?_⟩
    simp
  · obtain ⟨a, c, rfl⟩ := hk
    exact stamp_chk b a c w
  · obtain ⟨a, c, rfl⟩ := hk
    simp [Instr.sameBits]
theorem stampV_inj (a b : Stamp) (h : stampV a = stampV b) : a = b := by
  simp [stampV] at h
  exact stamp_ext h
theorem stampV_R (s : Stamp) : ∀ c y, R c (.agg (stampC s)) y → y = stampV s := by
  intro c y h
  simp only [R, RF, stampC, LF] at h
  obtain ⟨xs, rfl, y1, s1, e1, rfl, _, y2, s2, e2, rfl, _, e3⟩ := h
  subst e3 e2
  unfold stampV
  congr 1
  apply Array.ext'
  simpa using e1
theorem stampV_ok (s : Stamp) : isStampV (stampV s) := ⟨_, _, rfl⟩
end Go.Proofs.YtnacjdaoiepbhaaGreatDoor
end
section
namespace Go.Proofs.YtnacjdaoiepbhaaGreatDoor
open Go.Ac
attribute [local irreducible] awp awpL Ev Ev2 EvS thenQ blockQ retQ PCalls OCalls
variable {g : List (Nat × List AV)}
abbrev ownM (l : List Op) (k : Nat) : List (Stamp × Op) := (l.take k).foldl (fun m o => aput m o.at_ o) []
def mks (m : List (Stamp × Op)) : List Value := m.map fun p => stampV p.1
def mxs (m : List (Stamp × Op)) : List AV := m.map fun p => .agg (opC p.2)
def unlike (m : List (Stamp × Op)) (o : Op) : Bool := match aget m o.at_ with
  | none => true
  | some y => !decide (y = o)
def behindM (a b : List Op) : Nat := b.countP (unlike (ownM a a.length))
abbrev bmK (m : List (Stamp × Op)) (b : List Op) (k : Nat) : Nat := (b.take k).countP (unlike m)
end Go.Proofs.YtnacjdaoiepbhaaGreatDoor
namespace Go.Proofs.YtnacjdaoiepbhaaGreatDoor
open Go.Ac
end Go.Proofs.YtnacjdaoiepbhaaGreatDoor
end
section
namespace Go.Proofs.YtnacjdaoiepbhaaGreatDoor
open Go.Ac
attribute [local irreducible] awp awpL Ev Ev2 EvS thenQ blockQ retQ PCalls OCalls YieldOk
variable {g : List (Nat × List AV)}
end Go.Proofs.YtnacjdaoiepbhaaGreatDoor
end
section
namespace Go.Proofs.YtnacjdaoiepbhaaGreatDoor
open Go.Ac
attribute [local irreducible] awp awpL Ev Ev2 EvS thenQ blockQ retQ PCalls OCalls YieldOk IterC
variable {g : List (Nat × List AV)}
abbrev bothV (a b : List Op) : AV := .fn 93 [] [.fp [encOps a], .fp [encOps b]]
end Go.Proofs.YtnacjdaoiepbhaaGreatDoor
end
section
namespace Go.Proofs.YtnacjdaoiepbhaaGreatDoor
open Go.Ac
attribute [local irreducible] awp awpL Ev Ev2 EvS thenQ blockQ retQ PCalls OCalls YieldOk IterC
variable {g : List (Nat × List AV)}
theorem Fit.take {l : List Op} (h : Fit l) (k : Nat) : Fit (l.take k) := ⟨by have := h.1; rw [List.length_take]; omega, fun o ho => h.2 o (List.mem_of_mem_take ho)⟩
theorem Fit.drop {l : List Op} (h : Fit l) (k : Nat) : Fit (l.drop k) := ⟨by have := h.1; rw [List.length_drop]; omega, fun o ho => h.2 o (List.mem_of_mem_drop ho)⟩
theorem Fit.of_mem {l m : List Op} (h : Fit l) (hl : m.length ≤ l.length) (hm : ∀ o, o ∈ m → o ∈ l) : Fit m := ⟨by have := h.1; omega, fun o ho => h.2 o (hm o ho)⟩
theorem Fit.sorted {l : List Op} (h : Fit l) : Fit (sorted l) := h.of_mem (by rw [sorted_len]; exact Nat.le_refl _) fun o ho => (sorted_mem l o).1 ho
end Go.Proofs.YtnacjdaoiepbhaaGreatDoor
end
section
namespace Go.Proofs.YtnacjdaoiepbhaaGreatDoor
open Go.Ac
attribute [local irreducible] awp awpL Ev Ev2 EvS thenQ blockQ retQ PCalls OCalls YieldOk IterC
variable {g : List (Nat × List AV)}
theorem within_spec (a b c : Int) : PCalls Tryz.prog g 109 [vi a, vi b, vi c] (vb (within a b c)) := by
  refine pcalls' Tryz.func109 Tryz.ntmps109 rfl rfl rfl ?_
  repeat' (first
   | refine stn [] ?_
   | ((with_reducible refine is_gd ?_); refine awpL_split rfl rfl (fun h => ?_) (fun h => ?_))
   | fail)
  all_goals refine retP rfl ?_
  all_goals simp_all [ex, within]
  all_goals (intros; omega)
theorem ident_spec (a : Int) : PCalls Tryz.prog g 135 [vi a] (vb (within a 1 1099511627776)) := by
  refine pcalls' Tryz.func135 Tryz.ntmps135 rfl rfl rfl ?_
  repeat' (first
   | refine stn [] ?_
   | ((with_reducible refine is_gd ?_); refine awpL_split rfl rfl (fun h => ?_) (fun h => ?_))
   | fail)
  all_goals refine retP rfl ?_
  all_goals simp_all [ex, within]
  all_goals (intros; omega)
abbrev spanC (s : Span) : List AV := [.v (.int .i64 s.fro), .v (.int .i64 s.til)]
theorem spanR_spec (s : Span) : PCalls Tryz.prog g 85 [.agg (spanC s)] (vb (spanRight s)) := by
  refine pcalls' Tryz.func85 Tryz.ntmps85 rfl rfl rfl ?_
  repeat' (first
   | refine stn [] ?_
   | ((with_reducible refine is_gd ?_); refine awpL_split rfl rfl (fun h => ?_) (fun h => ?_))
   | fail)
  all_goals refine retP rfl ?_
  all_goals simp_all [ex, spanRight]
  all_goals omega
theorem rspanR_spec (s : Span) : PCalls Tryz.prog g 115 [.agg (spanC s)] (vb (spanRight s)) := by
  refine pcalls' Tryz.func115 Tryz.ntmps115 rfl rfl rfl ?_
  repeat' (first
   | refine stn [] ?_
   | ((with_reducible refine is_gd ?_); refine awpL_split rfl rfl (fun h => ?_) (fun h => ?_))
   | fail)
  all_goals refine retP rfl ?_
  all_goals simp_all [ex, spanRight]
  all_goals omega
theorem wr_spec (o : Op) (f : Int) : PCalls Tryz.prog g 79 [.agg (opC o), vi f] (vb (wrt o f)) := by
  refine pcalls' Tryz.func79 Tryz.ntmps79 rfl rfl rfl ?_
  repeat' (first
   | refine stn [] ?_
   | ((with_reducible refine is_gd ?_); refine awpL_split rfl rfl (fun h => ?_) (fun h => ?_))
   | ((with_reducible refine is_awp ?_); refine awp_cond rfl (fun h => ?_) (fun h => ?_))
   | fail)
  all_goals refine retP rfl ?_
  all_goals simp_all [ex, wrt, within]
  all_goals omega
theorem rwr_spec (o : Op) (f : Int) : PCalls Tryz.prog g 80 [.agg (opC o), vi f] (vb (wrt o f)) := by
  have h1 := within_spec (g := g) f 0 2
  refine pcalls' Tryz.func80 Tryz.ntmps80 rfl rfl rfl ?_
  cases hw : within f 0 2 with
  | false =>
    rw [hw] at h1
    refine runn [] ?_
    all_goals refine retP rfl ?_
    all_goals clear h1
    all_goals simp_all [ex, wrt]
  | true =>
    rw [hw] at h1
    repeat' (first
     | refine stn [] ?_
     | ((with_reducible refine is_gd ?_); refine awpL_split rfl rfl (fun h => ?_) (fun h => ?_))
     | fail)
    all_goals refine retP rfl ?_
    all_goals clear h1
    all_goals simp_all [ex, wrt]
theorem Writes_spec (o : Op) (n f : Int) : PCalls Tryz.prog g 48 [.agg (opC o), vi n, vi f] (vb (writes o n f)) := by
  have h1 := wr_spec (g := g) o f
  refine pcalls' Tryz.func48 Tryz.ntmps48 rfl rfl rfl ?_
  repeat' (first
   | refine stn [] ?_
   | ((with_reducible refine is_gd ?_); refine awpL_split rfl rfl (fun h => ?_) (fun h => ?_))
   | fail)
  all_goals refine retP rfl ?_
  all_goals clear h1
  all_goals simp_all [ex, writes]
theorem rWrites_spec (o : Op) (n f : Int) : PCalls Tryz.prog g 49 [.agg (opC o), vi n, vi f] (vb (writes o n f)) := by
  have h1 := rwr_spec (g := g) o f
  refine pcalls' Tryz.func49 Tryz.ntmps49 rfl rfl rfl ?_
  repeat' (first
   | refine stn [] ?_
   | ((with_reducible refine is_gd ?_); refine awpL_split rfl rfl (fun h => ?_) (fun h => ?_))
   | fail)
  all_goals refine retP rfl ?_
  all_goals clear h1
  all_goals simp_all [ex, writes]
end Go.Proofs.YtnacjdaoiepbhaaGreatDoor
end
section
namespace Go.Proofs.YtnacjdaoiepbhaaGreatDoor
open Go.Ac
attribute [local irreducible] awp awpL Ev Ev2 EvS thenQ blockQ retQ PCalls OCalls YieldOk IterC
variable {g : List (Nat × List AV)}
theorem overK_nil (a : Stamp) (p : Option Stamp) : overK a p [] = 0 := by cases p <;> rfl
theorem overK_bad {a s : Stamp} {p : Option Stamp} {r : List Stamp} (h : right s = false ∨ less s a = false) : overK a p (s :: r) = 27 := by cases p <;> rw [overK, if_pos h]
theorem overK_first {a s : Stamp} {r : List Stamp} (h1 : right s = true) (h2 : less s a = true) : overK a none (s :: r) = overK a (some s) r := by rw [overK, if_neg (by simp [h1, h2])]
theorem overK_ord {a s q : Stamp} {r : List Stamp} (h1 : right s = true) (h2 : less s a = true) (h3 : less q s = false) : overK a (some q) (s :: r) = 10 := by rw [overK, if_neg (by simp [h1, h2])]; simp [h3]
theorem overK_next {a s q : Stamp} {r : List Stamp} (h1 : right s = true) (h2 : less s a = true) (h3 : less q s = true) : overK a (some q) (s :: r) = overK a (some s) r := by rw [overK, if_neg (by simp [h1, h2])]; simp [h3]
abbrev prevS (l : List Stamp) (k : Nat) : Option Stamp := if k = 0 then none else l[k - 1]?
theorem prevS_succ {l : List Stamp} {k : Nat} {t : Stamp} (h : l[k]? = some t) : prevS l (k + 1) = some t := by simp [prevS, h]
theorem prevS_pos {l : List Stamp} {k : Nat} (h : k ≠ 0) : prevS l k = l[k - 1]? := by simp [prevS, h]
theorem prevS_zero {l : List Stamp} {k : Nat} (h : k = 0) : prevS l k = none := by simp [prevS, h]
end Go.Proofs.YtnacjdaoiepbhaaGreatDoor
end
