/- A logic of trees over the model's steps, and the contracts of the functions that the laws reach: part 3 of 14. -/
import Derived.Test.YtekkpfbjnjjcbaaGreatDoorB2
import Derived.KernelRfl
import Derived.Test.YtekkpfbjnjjcbaaGreatDoorProg
import Derived.Lib.ValidLaws
section
set_option linter.unusedVariables false
set_option linter.unusedSimpArgs false
set_option linter.unusedSectionVars false
namespace Go.Ac
inductive Mut : List Nat → Prop
  | of (M : List Nat) : Mut M
section
variable {P : Program} {td : TDs} [T : TOK P td] {G : Glo} {N : Nat} {Q : AQ} {S : SL} {L : List LB} {ops : Array Oper} {rest : List Oper} {ty : TypeId} {pos : String} {af : Array Edge} {d : Nat} {x : AV}
theorem awpL_boxMm {M : List Nat} (m : Mut M) {t : TypeId} {u : Operand} (hm : notIn d M = true) (h : val G S u = some x) (hf : fit x = true) (hF : (cellsOf x).all isF = true) {x' : AV} (hx : AV.fp (cellsOf x) = x') (hd : Nat.blt d N = true)
    (k : awpL P G N ops rest Q ((d, x') :: S) L) : awpL P G N ops (⟨some d, .box t u, ty, pos, af, none⟩ :: rest) Q S L := awpL_boxM M hm h hf hF hx hd k
theorem awpL_stMm {M : List Nat} (m : Mut M) {t p : Nat} {d : TD} {e : Operand} {k : Nat} {bs : List AV} {L' : List LB} (hm : notIn p M = true) (h : get S p = some (.lp k 0)) (hk : L[k]? = some (.box bs)) (he : val G S e = some x) (hfx : fit x = true) (hF : (cellsOf x).all isF = true) (ht : lk td t = some d)
    (hn : (cellsOf x).length = d.size) (hq : bs.length = d.size) {x' : AV} (hx : AV.fp (cellsOf x) = x') (hL : L.set k .dead = L') (kk : awpL P G N ops rest Q ((p, x') :: S) L') : awpL P G N ops (⟨none, .store t (.tmp p) e, ty, pos, af, none⟩ :: rest) Q S L := awpL_stM M hm h hk he hfx hF ht hn hq hx hL kk
end
structure Left (B : Prop) : Prop where
  out : B
theorem run (M : List Nat) {A B : Prop} (k : B) (h : Mut M → Left B → A := by
    intro m k
    repeat' (first
     | ((with_reducible refine is_un ?_); (first | ((with_reducible refine is_move ?_); (first | refine awpL_ev (ev_move rfl) rfl ?_ | fail)) | ((with_reducible refine is_bin ?_); (first | refine awpL_ev (ev_add rfl rfl (by omega)) rfl ?_ | refine awpL_ev (ev_sub rfl rfl (by omega)) rfl ?_ | refine awpL_ev (ev_bin rfl rfl rfl) rfl ?_ | refine awpL_ev (ev_eq_bool rfl rfl rfl rfl) rfl ?_ | fail)) | ((with_reducible refine is_fa ?_); (first | refine awpL_ev (ev_fa_fp rfl rfl rfl rfl rfl rfl) rfl ?_ | refine awpL_ev (ev_fa_lp rfl rfl rfl rfl rfl rfl rfl) rfl ?_ | refine awpL_ev (ev_fa_ep rfl rfl rfl rfl rfl rfl rfl) rfl ?_ | fail)) | ((with_reducible refine is_load ?_); (first | refine awpL_ev (ev_load_agg rfl rfl rfl rfl) rfl ?_ | refine awpL_ev (ev_load_sub rfl rfl rfl rfl rfl) rfl ?_ | refine awpL_ev (ev_load_one rfl rfl rfl rfl) rfl ?_ | refine awpL_ev (ev_ll_agg rfl rfl rfl rfl rfl rfl rfl) rfl ?_ | refine awpL_ev (ev_ll_lag rfl rfl rfl rfl rfl rfl) rfl ?_ | refine awpL_ev (ev_ll_one rfl rfl rfl rfl rfl) rfl ?_ | refine awpL_ev (ev_el_one rfl rfl rfl rfl (by with_reducible assumption) rfl) rfl ?_ | fail)) | ((with_reducible refine is_pick ?_); (first | refine awpL_ev (ev_pick_t rfl (by first | with_reducible rfl | with_reducible assumption) rfl) rfl ?_ | refine awpL_ev (ev_pick_f rfl (by first | with_reducible rfl | with_reducible assumption) rfl) rfl ?_ | fail)) | ((with_reducible refine is_assign ?_); (first | refine awpL_ev (ev_assign rfl) rfl ?_ | fail)) | ((with_reducible refine is_call ?_); (first | refine awpL_call rfl rfl (by assumption) rfl ?_ | refine awpL_ev (ev_len rfl rfl rfl rfl rfl) rfl ?_ | refine awpL_ev (ev_max rfl rfl) rfl ?_ | refine awpL_ev (ev_min rfl rfl) rfl ?_ | refine awpL_ev (ev_len_os rfl rfl rfl rfl rfl) rfl ?_ | refine awpL_ev2 (ev_append_zf rfl rfl rfl rfl rfl rfl rfl rfl rfl rfl rfl rfl rfl (by simp only [List.length_map, List.length_cons, List.length_nil]; omega) rfl) rfl ?_ | fail)) | ((with_reducible refine is_store ?_); (first | refine awpL_stMm m rfl rfl rfl rfl rfl rfl rfl rfl rfl (by (try simp only [cellsOf, List.map_cons, List.map_nil]); (try rfl)) (by (try simp only [List.set_cons_zero, List.set_cons_succ, List.nil_append, List.cons_append, List.append_nil, cellsOf, List.take_zero, List.drop_zero, List.take_succ_cons, List.drop_succ_cons, Nat.zero_add, Nat.reduceAdd, List.drop_nil, List.map_cons, List.map_nil]); (try rfl)) ?_ | refine awpL_evS (ev_st_lp rfl rfl rfl rfl rfl rfl rfl (by (try simp only [List.set_cons_zero, List.set_cons_succ, List.nil_append, List.cons_append, List.append_nil, cellsOf, List.take_zero, List.drop_zero, List.take_succ_cons, List.drop_succ_cons, Nat.zero_add, Nat.reduceAdd, List.drop_nil, List.map_cons, List.map_nil]); (try rfl))) ?_ | fail)) | ((with_reducible refine is_alloc ?_); (first | refine awpL_ev2 (ev_alloc rfl rfl (by (try simp only [List.length_nil, List.length_cons, Nat.reduceAdd]); (try rfl)) (by (try simp only [List.set_cons_zero, List.set_cons_succ, List.nil_append, List.cons_append, List.append_nil, cellsOf, List.take_zero, List.drop_zero, List.take_succ_cons, List.drop_succ_cons, Nat.zero_add, Nat.reduceAdd, List.drop_nil, List.map_cons, List.map_nil]); (try rfl))) rfl ?_ | fail)) | ((with_reducible refine is_box ?_); (first | refine awpL_boxMm m rfl rfl rfl rfl (by (try simp only [cellsOf, List.map_cons, List.map_nil]); (try rfl)) rfl ?_ | refine awpL_ev2 (ev_box rfl rfl (by (try simp only [List.length_nil, List.length_cons, Nat.reduceAdd]); (try rfl)) (by (try simp only [List.set_cons_zero, List.set_cons_succ, List.nil_append, List.cons_append, List.append_nil, cellsOf, List.take_zero, List.drop_zero, List.take_succ_cons, List.drop_succ_cons, Nat.zero_add, Nat.reduceAdd, List.drop_nil, List.map_cons, List.map_nil]); (try rfl))) rfl ?_ | fail)) | refine awpL_ev (ev_ia_fs rfl rfl rfl rfl rfl rfl (by with_reducible assumption)) rfl ?_ | refine awpL_ev (ev_not rfl) rfl ?_ | refine awpL_ev (ev_extract rfl rfl) rfl ?_ | refine awpL_ev (ev_index_str rfl rfl rfl rfl (by with_reducible assumption)) rfl ?_ | refine awpL_ev (ev_build rfl rfl rfl rfl rfl rfl rfl) rfl ?_ | refine awpL_ev (ev_slice_fs rfl rfl rfl rfl rfl rfl rfl (by with_reducible assumption) rfl rfl) rfl ?_ | refine awpL_ev (ev_makeFunc rfl rfl) rfl ?_ | refine awpL_ev (ev_nilCheck_fp rfl) rfl ?_ | refine awpL_ev (ev_index_arr rfl rfl rfl rfl rfl rfl rfl (by with_reducible assumption)) rfl ?_ | refine awpL_ev (ev_ia_os rfl rfl rfl rfl rfl rfl rfl (by with_reducible assumption)) rfl ?_ | refine awpL_ev (ev_build_lag rfl rfl rfl rfl rfl rfl) rfl ?_ | refine awpL_ev (ev_nilCheck_lp rfl rfl) rfl ?_ | refine awpL_ev2 (ev_bslice_z rfl rfl rfl rfl rfl rfl rfl) rfl ?_ | refine awpL_ev2 (ev_bslice_in rfl rfl rfl rfl rfl rfl rfl rfl rfl rfl rfl rfl (by (try simp only [List.map_cons, List.map_nil, cellsOf]); (try rfl))) rfl ?_))
     | ((with_reducible refine is_gd ?_); (first | refine awpL_run rfl rfl rfl (by first | with_reducible rfl | with_reducible assumption) ?_ | refine awpL_passT rfl rfl rfl rfl (by first | with_reducible rfl | with_reducible assumption) ?_ | refine awpL_passF rfl rfl rfl rfl (by first | with_reducible rfl | with_reducible assumption) ?_ | refine awpL_passU rfl rfl rfl rfl ?_ | fail))
     | ((with_reducible refine is_nil ?_); refine awpL_nil ?_)
     | ((with_reducible refine is_then ?_); (first | refine thenQ_n ?_ | refine thenQ_r ?_ | refine thenQ_e ?_ | fail))
     | ((with_reducible refine is_block ?_); (first | refine blockQ_n ?_ | refine blockQ_r ?_ | refine blockQ_e ?_ | refine blockQ_o rfl ?_ | fail))
     | ((with_reducible refine is_draw ?_); (first | refine awp_drawA (by kernel_rfl) rfl rfl (by repeat' (first | exact Strip.nil | apply Strip.keep rfl | apply Strip.drop rfl)) ?_ | fail))
     | ((with_reducible refine isD_un ?_); (first | ((with_reducible refine isD_st ?_); refine awpD_sS rfl (by (try simp only [List.set_cons_zero, List.set_cons_succ, List.nil_append, List.cons_append, List.append_nil, cellsOf, List.take_zero, List.drop_zero, List.take_succ_cons, List.drop_succ_cons, Nat.zero_add, Nat.reduceAdd, List.drop_nil, List.map_cons, List.map_nil]); (try rfl)) (ev_st_lp rfl rfl rfl rfl rfl rfl rfl (by (try simp only [List.set_cons_zero, List.set_cons_succ, List.nil_append, List.cons_append, List.append_nil, cellsOf, List.take_zero, List.drop_zero, List.take_succ_cons, List.drop_succ_cons, Nat.zero_add, Nat.reduceAdd, List.drop_nil, List.map_cons, List.map_nil]); (try rfl))) rfl (by (try simp only [List.nil_append, List.cons_append]); (try rfl)) ?_) | ((with_reducible refine isD_al ?_); refine awpD_nw rfl (by repeat' (first | exact Msk.nil | apply Msk.base | apply Msk.vis rfl | apply Msk.hid rfl)) (ev_alloc rfl rfl (by (try simp only [List.length_nil, List.length_cons, Nat.reduceAdd]); (try rfl)) (by (try simp only [List.set_cons_zero, List.set_cons_succ, List.nil_append, List.cons_append, List.append_nil, cellsOf, List.take_zero, List.drop_zero, List.take_succ_cons, List.drop_succ_cons, Nat.zero_add, Nat.reduceAdd, List.drop_nil, List.map_cons, List.map_nil]); (try rfl))) rfl rfl rfl rfl rfl (by (try simp only [List.set_cons_zero, List.set_cons_succ, List.nil_append, List.cons_append, List.append_nil, cellsOf, List.take_zero, List.drop_zero, List.take_succ_cons, List.drop_succ_cons, Nat.zero_add, Nat.reduceAdd, List.drop_nil, List.map_cons, List.map_nil]); (try rfl)) (by (try simp only [List.nil_append, List.cons_append]); (try rfl)) ?_) | ((with_reducible refine isDs_move ?_); (first | refine awpD_un (as_ev (fun _ => ev_move rfl) rfl rfl) (by (try simp only [List.nil_append, List.cons_append]); (try rfl)) ?_ | fail)) | ((with_reducible refine isDs_bin ?_); (first | refine awpD_un (as_ev (fun _ => ev_add rfl rfl (by omega)) rfl rfl) (by (try simp only [List.nil_append, List.cons_append]); (try rfl)) ?_ | refine awpD_un (as_ev (fun _ => ev_sub rfl rfl (by omega)) rfl rfl) (by (try simp only [List.nil_append, List.cons_append]); (try rfl)) ?_ | refine awpD_un (as_ev (fun _ => ev_bin rfl rfl rfl) rfl rfl) (by (try simp only [List.nil_append, List.cons_append]); (try rfl)) ?_ | refine awpD_un (as_ev (fun _ => ev_eq_bool rfl rfl rfl rfl) rfl rfl) (by (try simp only [List.nil_append, List.cons_append]); (try rfl)) ?_ | fail)) | ((with_reducible refine isDs_fa ?_); (first | refine awpD_un (as_ev (fun _ => ev_fa_fp rfl rfl rfl rfl rfl rfl) rfl rfl) (by (try simp only [List.nil_append, List.cons_append]); (try rfl)) ?_ | refine awpD_un (as_pure rfl (by repeat' (first | exact Msk.nil | apply Msk.base | apply Msk.vis rfl | apply Msk.hid rfl)) (ev_fa_lp rfl rfl rfl rfl rfl rfl rfl) rfl rfl rfl) (by (try simp only [List.nil_append, List.cons_append]); (try rfl)) ?_ | refine awpD_un (as_pure rfl (by repeat' (first | exact Msk.nil | apply Msk.base | apply Msk.vis rfl | apply Msk.hid rfl)) (ev_fa_ep rfl rfl rfl rfl rfl rfl rfl) rfl rfl rfl) (by (try simp only [List.nil_append, List.cons_append]); (try rfl)) ?_ | fail)) | ((with_reducible refine isDs_load ?_); (first | refine awpD_un (as_ev (fun _ => ev_load_agg rfl rfl rfl rfl) rfl rfl) (by (try simp only [List.nil_append, List.cons_append]); (try rfl)) ?_ | refine awpD_un (as_ev (fun _ => ev_load_sub rfl rfl rfl rfl rfl) rfl rfl) (by (try simp only [List.nil_append, List.cons_append]); (try rfl)) ?_ | refine awpD_un (as_ev (fun _ => ev_load_one rfl rfl rfl rfl) rfl rfl) (by (try simp only [List.nil_append, List.cons_append]); (try rfl)) ?_ | refine awpD_un (as_pure rfl (by repeat' (first | exact Msk.nil | apply Msk.base | apply Msk.vis rfl | apply Msk.hid rfl)) (ev_ll_agg rfl rfl rfl rfl rfl rfl rfl) rfl rfl rfl) (by (try simp only [List.nil_append, List.cons_append]); (try rfl)) ?_ | refine awpD_un (as_pure rfl (by repeat' (first | exact Msk.nil | apply Msk.base | apply Msk.vis rfl | apply Msk.hid rfl)) (ev_ll_lag rfl rfl rfl rfl rfl rfl) rfl rfl rfl) (by (try simp only [List.nil_append, List.cons_append]); (try rfl)) ?_ | refine awpD_un (as_pure rfl (by repeat' (first | exact Msk.nil | apply Msk.base | apply Msk.vis rfl | apply Msk.hid rfl)) (ev_ll_one rfl rfl rfl rfl rfl) rfl rfl rfl) (by (try simp only [List.nil_append, List.cons_append]); (try rfl)) ?_ | refine awpD_un (as_pure rfl (by repeat' (first | exact Msk.nil | apply Msk.base | apply Msk.vis rfl | apply Msk.hid rfl)) (ev_el_one rfl rfl rfl rfl (by with_reducible assumption) rfl) rfl rfl rfl) (by (try simp only [List.nil_append, List.cons_append]); (try rfl)) ?_ | fail)) | ((with_reducible refine isDs_pick ?_); (first | refine awpD_un (as_ev (fun _ => ev_pick_t rfl (by first | with_reducible rfl | with_reducible assumption) rfl) rfl rfl) (by (try simp only [List.nil_append, List.cons_append]); (try rfl)) ?_ | refine awpD_un (as_ev (fun _ => ev_pick_f rfl (by first | with_reducible rfl | with_reducible assumption) rfl) rfl rfl) (by (try simp only [List.nil_append, List.cons_append]); (try rfl)) ?_ | fail)) | ((with_reducible refine isDs_assign ?_); (first | refine awpD_un (as_ev (fun _ => ev_assign rfl) rfl rfl) (by (try simp only [List.nil_append, List.cons_append]); (try rfl)) ?_ | fail)) | ((with_reducible refine isDs_call ?_); (first | refine awpD_un (as_call rfl rfl (by assumption) rfl) (by (try simp only [List.nil_append, List.cons_append]); (try rfl)) ?_ | refine awpD_un (as_ev (fun _ => ev_len rfl rfl rfl rfl rfl) rfl rfl) (by (try simp only [List.nil_append, List.cons_append]); (try rfl)) ?_ | refine awpD_un (as_ev (fun _ => ev_max rfl rfl) rfl rfl) (by (try simp only [List.nil_append, List.cons_append]); (try rfl)) ?_ | refine awpD_un (as_ev (fun _ => ev_min rfl rfl) rfl rfl) (by (try simp only [List.nil_append, List.cons_append]); (try rfl)) ?_ | refine awpD_un (as_pure rfl (by repeat' (first | exact Msk.nil | apply Msk.base | apply Msk.vis rfl | apply Msk.hid rfl)) (ev_len_os rfl rfl rfl rfl rfl) rfl rfl rfl) (by (try simp only [List.nil_append, List.cons_append]); (try rfl)) ?_ | refine awpD_un (as_ev2 (fun _ => ev_append_zf rfl rfl rfl rfl rfl rfl rfl rfl rfl rfl rfl rfl rfl (by simp only [List.length_map, List.length_cons, List.length_nil]; omega) rfl) rfl rfl) (by (try simp only [List.nil_append, List.cons_append]); (try rfl)) ?_ | fail)) | refine awpD_un (as_ev (fun _ => ev_ia_fs rfl rfl rfl rfl rfl rfl (by with_reducible assumption)) rfl rfl) (by (try simp only [List.nil_append, List.cons_append]); (try rfl)) ?_ | refine awpD_un (as_ev (fun _ => ev_not rfl) rfl rfl) (by (try simp only [List.nil_append, List.cons_append]); (try rfl)) ?_ | refine awpD_un (as_ev (fun _ => ev_extract rfl rfl) rfl rfl) (by (try simp only [List.nil_append, List.cons_append]); (try rfl)) ?_ | refine awpD_un (as_ev (fun _ => ev_index_str rfl rfl rfl rfl (by with_reducible assumption)) rfl rfl) (by (try simp only [List.nil_append, List.cons_append]); (try rfl)) ?_ | refine awpD_un (as_ev (fun _ => ev_build rfl rfl rfl rfl rfl rfl rfl) rfl rfl) (by (try simp only [List.nil_append, List.cons_append]); (try rfl)) ?_ | refine awpD_un (as_ev (fun _ => ev_slice_fs rfl rfl rfl rfl rfl rfl rfl (by with_reducible assumption) rfl rfl) rfl rfl) (by (try simp only [List.nil_append, List.cons_append]); (try rfl)) ?_ | refine awpD_un (as_ev (fun _ => ev_makeFunc rfl rfl) rfl rfl) (by (try simp only [List.nil_append, List.cons_append]); (try rfl)) ?_ | refine awpD_un (as_ev (fun _ => ev_nilCheck_fp rfl) rfl rfl) (by (try simp only [List.nil_append, List.cons_append]); (try rfl)) ?_ | refine awpD_un (as_ev (fun _ => ev_index_arr rfl rfl rfl rfl rfl rfl rfl (by with_reducible assumption)) rfl rfl) (by (try simp only [List.nil_append, List.cons_append]); (try rfl)) ?_ | refine awpD_un (as_pure rfl (by repeat' (first | exact Msk.nil | apply Msk.base | apply Msk.vis rfl | apply Msk.hid rfl)) (ev_ia_os rfl rfl rfl rfl rfl rfl rfl (by with_reducible assumption)) rfl rfl rfl) (by (try simp only [List.nil_append, List.cons_append]); (try rfl)) ?_ | refine awpD_un (as_pure rfl (by repeat' (first | exact Msk.nil | apply Msk.base | apply Msk.vis rfl | apply Msk.hid rfl)) (ev_build_lag rfl rfl rfl rfl rfl rfl) rfl rfl rfl) (by (try simp only [List.nil_append, List.cons_append]); (try rfl)) ?_ | refine awpD_un (as_pure rfl (by repeat' (first | exact Msk.nil | apply Msk.base | apply Msk.vis rfl | apply Msk.hid rfl)) (ev_nilCheck_lp rfl rfl) rfl rfl rfl) (by (try simp only [List.nil_append, List.cons_append]); (try rfl)) ?_ | refine awpD_un (as_ev2 (fun _ => ev_bslice_z rfl rfl rfl rfl rfl rfl rfl) rfl rfl) (by (try simp only [List.nil_append, List.cons_append]); (try rfl)) ?_ | refine awpD_un (as_ev2 (fun _ => ev_bslice_in rfl rfl rfl rfl rfl rfl rfl rfl rfl rfl rfl rfl (by (try simp only [List.map_cons, List.map_nil, cellsOf]); (try rfl))) rfl rfl) (by (try simp only [List.nil_append, List.cons_append]); (try rfl)) ?_ | fail))
     | ((with_reducible refine isD_gd ?_); (first | refine awpD_pT rfl rfl (by first | with_reducible rfl | with_reducible assumption) (by (try simp only [List.nil_append, List.cons_append]); (try rfl)) ?_ | refine awpD_pF rfl rfl (by first | with_reducible rfl | with_reducible assumption) (by (try simp only [List.nil_append, List.cons_append]); (try rfl)) ?_ | refine awpD_pU rfl rfl (by (try simp only [List.nil_append, List.cons_append]); (try rfl)) ?_ | (refine isD_go rfl rfl (by first | with_reducible rfl | with_reducible assumption) ?_; (first | ((with_reducible refine isDs_move ?_); (first | refine awpD_gd rfl rfl (by first | with_reducible rfl | with_reducible assumption) (as_ev (fun _ => ev_move rfl) rfl rfl) (by (try simp only [List.nil_append, List.cons_append]); (try rfl)) ?_ | fail)) | ((with_reducible refine isDs_bin ?_); (first | refine awpD_gd rfl rfl (by first | with_reducible rfl | with_reducible assumption) (as_ev (fun _ => ev_add rfl rfl (by omega)) rfl rfl) (by (try simp only [List.nil_append, List.cons_append]); (try rfl)) ?_ | refine awpD_gd rfl rfl (by first | with_reducible rfl | with_reducible assumption) (as_ev (fun _ => ev_sub rfl rfl (by omega)) rfl rfl) (by (try simp only [List.nil_append, List.cons_append]); (try rfl)) ?_ | refine awpD_gd rfl rfl (by first | with_reducible rfl | with_reducible assumption) (as_ev (fun _ => ev_bin rfl rfl rfl) rfl rfl) (by (try simp only [List.nil_append, List.cons_append]); (try rfl)) ?_ | refine awpD_gd rfl rfl (by first | with_reducible rfl | with_reducible assumption) (as_ev (fun _ => ev_eq_bool rfl rfl rfl rfl) rfl rfl) (by (try simp only [List.nil_append, List.cons_append]); (try rfl)) ?_ | fail)) | ((with_reducible refine isDs_fa ?_); (first | refine awpD_gd rfl rfl (by first | with_reducible rfl | with_reducible assumption) (as_ev (fun _ => ev_fa_fp rfl rfl rfl rfl rfl rfl) rfl rfl) (by (try simp only [List.nil_append, List.cons_append]); (try rfl)) ?_ | refine awpD_gd rfl rfl (by first | with_reducible rfl | with_reducible assumption) (as_pure rfl (by repeat' (first | exact Msk.nil | apply Msk.base | apply Msk.vis rfl | apply Msk.hid rfl)) (ev_fa_lp rfl rfl rfl rfl rfl rfl rfl) rfl rfl rfl) (by (try simp only [List.nil_append, List.cons_append]); (try rfl)) ?_ | refine awpD_gd rfl rfl (by first | with_reducible rfl | with_reducible assumption) (as_pure rfl (by repeat' (first | exact Msk.nil | apply Msk.base | apply Msk.vis rfl | apply Msk.hid rfl)) (ev_fa_ep rfl rfl rfl rfl rfl rfl rfl) rfl rfl rfl) (by (try simp only [List.nil_append, List.cons_append]); (try rfl)) ?_ | fail)) | ((with_reducible refine isDs_load ?_); (first | refine awpD_gd rfl rfl (by first | with_reducible rfl | with_reducible assumption) (as_ev (fun _ => ev_load_agg rfl rfl rfl rfl) rfl rfl) (by (try simp only [List.nil_append, List.cons_append]); (try rfl)) ?_ | refine awpD_gd rfl rfl (by first | with_reducible rfl | with_reducible assumption) (as_ev (fun _ => ev_load_sub rfl rfl rfl rfl rfl) rfl rfl) (by (try simp only [List.nil_append, List.cons_append]); (try rfl)) ?_ | refine awpD_gd rfl rfl (by first | with_reducible rfl | with_reducible assumption) (as_ev (fun _ => ev_load_one rfl rfl rfl rfl) rfl rfl) (by (try simp only [List.nil_append, List.cons_append]); (try rfl)) ?_ | refine awpD_gd rfl rfl (by first | with_reducible rfl | with_reducible assumption) (as_pure rfl (by repeat' (first | exact Msk.nil | apply Msk.base | apply Msk.vis rfl | apply Msk.hid rfl)) (ev_ll_agg rfl rfl rfl rfl rfl rfl rfl) rfl rfl rfl) (by (try simp only [List.nil_append, List.cons_append]); (try rfl)) ?_ | refine awpD_gd rfl rfl (by first | with_reducible rfl | with_reducible assumption) (as_pure rfl (by repeat' (first | exact Msk.nil | apply Msk.base | apply Msk.vis rfl | apply Msk.hid rfl)) (ev_ll_lag rfl rfl rfl rfl rfl rfl) rfl rfl rfl) (by (try simp only [List.nil_append, List.cons_append]); (try rfl)) ?_ | refine awpD_gd rfl rfl (by first | with_reducible rfl | with_reducible assumption) (as_pure rfl (by repeat' (first | exact Msk.nil | apply Msk.base | apply Msk.vis rfl | apply Msk.hid rfl)) (ev_ll_one rfl rfl rfl rfl rfl) rfl rfl rfl) (by (try simp only [List.nil_append, List.cons_append]); (try rfl)) ?_ | refine awpD_gd rfl rfl (by first | with_reducible rfl | with_reducible assumption) (as_pure rfl (by repeat' (first | exact Msk.nil | apply Msk.base | apply Msk.vis rfl | apply Msk.hid rfl)) (ev_el_one rfl rfl rfl rfl (by with_reducible assumption) rfl) rfl rfl rfl) (by (try simp only [List.nil_append, List.cons_append]); (try rfl)) ?_ | fail)) | ((with_reducible refine isDs_pick ?_); (first | refine awpD_gd rfl rfl (by first | with_reducible rfl | with_reducible assumption) (as_ev (fun _ => ev_pick_t rfl (by first | with_reducible rfl | with_reducible assumption) rfl) rfl rfl) (by (try simp only [List.nil_append, List.cons_append]); (try rfl)) ?_ | refine awpD_gd rfl rfl (by first | with_reducible rfl | with_reducible assumption) (as_ev (fun _ => ev_pick_f rfl (by first | with_reducible rfl | with_reducible assumption) rfl) rfl rfl) (by (try simp only [List.nil_append, List.cons_append]); (try rfl)) ?_ | fail)) | ((with_reducible refine isDs_assign ?_); (first | refine awpD_gd rfl rfl (by first | with_reducible rfl | with_reducible assumption) (as_ev (fun _ => ev_assign rfl) rfl rfl) (by (try simp only [List.nil_append, List.cons_append]); (try rfl)) ?_ | fail)) | ((with_reducible refine isDs_call ?_); (first | refine awpD_gd rfl rfl (by first | with_reducible rfl | with_reducible assumption) (as_call rfl rfl (by assumption) rfl) (by (try simp only [List.nil_append, List.cons_append]); (try rfl)) ?_ | refine awpD_gd rfl rfl (by first | with_reducible rfl | with_reducible assumption) (as_ev (fun _ => ev_len rfl rfl rfl rfl rfl) rfl rfl) (by (try simp only [List.nil_append, List.cons_append]); (try rfl)) ?_ | refine awpD_gd rfl rfl (by first | with_reducible rfl | with_reducible assumption) (as_ev (fun _ => ev_max rfl rfl) rfl rfl) (by (try simp only [List.nil_append, List.cons_append]); (try rfl)) ?_ | refine awpD_gd rfl rfl (by first | with_reducible rfl | with_reducible assumption) (as_ev (fun _ => ev_min rfl rfl) rfl rfl) (by (try simp only [List.nil_append, List.cons_append]); (try rfl)) ?_ | refine awpD_gd rfl rfl (by first | with_reducible rfl | with_reducible assumption) (as_pure rfl (by repeat' (first | exact Msk.nil | apply Msk.base | apply Msk.vis rfl | apply Msk.hid rfl)) (ev_len_os rfl rfl rfl rfl rfl) rfl rfl rfl) (by (try simp only [List.nil_append, List.cons_append]); (try rfl)) ?_ | refine awpD_gd rfl rfl (by first | with_reducible rfl | with_reducible assumption) (as_ev2 (fun _ => ev_append_zf rfl rfl rfl rfl rfl rfl rfl rfl rfl rfl rfl rfl rfl (by simp only [List.length_map, List.length_cons, List.length_nil]; omega) rfl) rfl rfl) (by (try simp only [List.nil_append, List.cons_append]); (try rfl)) ?_ | fail)) | refine awpD_gd rfl rfl (by first | with_reducible rfl | with_reducible assumption) (as_ev (fun _ => ev_ia_fs rfl rfl rfl rfl rfl rfl (by with_reducible assumption)) rfl rfl) (by (try simp only [List.nil_append, List.cons_append]); (try rfl)) ?_ | refine awpD_gd rfl rfl (by first | with_reducible rfl | with_reducible assumption) (as_ev (fun _ => ev_not rfl) rfl rfl) (by (try simp only [List.nil_append, List.cons_append]); (try rfl)) ?_ | refine awpD_gd rfl rfl (by first | with_reducible rfl | with_reducible assumption) (as_ev (fun _ => ev_extract rfl rfl) rfl rfl) (by (try simp only [List.nil_append, List.cons_append]); (try rfl)) ?_ | refine awpD_gd rfl rfl (by first | with_reducible rfl | with_reducible assumption) (as_ev (fun _ => ev_index_str rfl rfl rfl rfl (by with_reducible assumption)) rfl rfl) (by (try simp only [List.nil_append, List.cons_append]); (try rfl)) ?_ | refine awpD_gd rfl rfl (by first | with_reducible rfl | with_reducible assumption) (as_ev (fun _ => ev_build rfl rfl rfl rfl rfl rfl rfl) rfl rfl) (by (try simp only [List.nil_append, List.cons_append]); (try rfl)) ?_ | refine awpD_gd rfl rfl (by first | with_reducible rfl | with_reducible assumption) (as_ev (fun _ => ev_slice_fs rfl rfl rfl rfl rfl rfl rfl (by with_reducible assumption) rfl rfl) rfl rfl) (by (try simp only [List.nil_append, List.cons_append]); (try rfl)) ?_ | refine awpD_gd rfl rfl (by first | with_reducible rfl | with_reducible assumption) (as_ev (fun _ => ev_makeFunc rfl rfl) rfl rfl) (by (try simp only [List.nil_append, List.cons_append]); (try rfl)) ?_ | refine awpD_gd rfl rfl (by first | with_reducible rfl | with_reducible assumption) (as_ev (fun _ => ev_nilCheck_fp rfl) rfl rfl) (by (try simp only [List.nil_append, List.cons_append]); (try rfl)) ?_ | refine awpD_gd rfl rfl (by first | with_reducible rfl | with_reducible assumption) (as_ev (fun _ => ev_index_arr rfl rfl rfl rfl rfl rfl rfl (by with_reducible assumption)) rfl rfl) (by (try simp only [List.nil_append, List.cons_append]); (try rfl)) ?_ | refine awpD_gd rfl rfl (by first | with_reducible rfl | with_reducible assumption) (as_pure rfl (by repeat' (first | exact Msk.nil | apply Msk.base | apply Msk.vis rfl | apply Msk.hid rfl)) (ev_ia_os rfl rfl rfl rfl rfl rfl rfl (by with_reducible assumption)) rfl rfl rfl) (by (try simp only [List.nil_append, List.cons_append]); (try rfl)) ?_ | refine awpD_gd rfl rfl (by first | with_reducible rfl | with_reducible assumption) (as_pure rfl (by repeat' (first | exact Msk.nil | apply Msk.base | apply Msk.vis rfl | apply Msk.hid rfl)) (ev_build_lag rfl rfl rfl rfl rfl rfl) rfl rfl rfl) (by (try simp only [List.nil_append, List.cons_append]); (try rfl)) ?_ | refine awpD_gd rfl rfl (by first | with_reducible rfl | with_reducible assumption) (as_pure rfl (by repeat' (first | exact Msk.nil | apply Msk.base | apply Msk.vis rfl | apply Msk.hid rfl)) (ev_nilCheck_lp rfl rfl) rfl rfl rfl) (by (try simp only [List.nil_append, List.cons_append]); (try rfl)) ?_ | refine awpD_gd rfl rfl (by first | with_reducible rfl | with_reducible assumption) (as_ev2 (fun _ => ev_bslice_z rfl rfl rfl rfl rfl rfl rfl) rfl rfl) (by (try simp only [List.nil_append, List.cons_append]); (try rfl)) ?_ | refine awpD_gd rfl rfl (by first | with_reducible rfl | with_reducible assumption) (as_ev2 (fun _ => ev_bslice_in rfl rfl rfl rfl rfl rfl rfl rfl rfl rfl rfl rfl (by (try simp only [List.map_cons, List.map_nil, cellsOf]); (try rfl))) rfl rfl) (by (try simp only [List.nil_append, List.cons_append]); (try rfl)) ?_ | fail)) | fail))
     | ((with_reducible refine isD_nl ?_); refine awpD_done (by (try simp only [List.nil_append, List.cons_append]); (try rfl)) (by (try simp only [List.set_cons_zero, List.set_cons_succ, List.nil_append, List.cons_append, List.append_nil, cellsOf, List.take_zero, List.drop_zero, List.take_succ_cons, List.drop_succ_cons, Nat.zero_add, Nat.reduceAdd, List.drop_nil, List.map_cons, List.map_nil]); (try rfl)) ?_)
     | ((with_reducible refine is_awp ?_); (first | refine awp_seq ?_ | refine awp_ret ?_ | refine awp_skip ?_ | refine awp_exit ?_ | refine awp_label ?_ | refine awp_block ?_ | refine awp_region ?_ | refine awp_cond_t rfl (by first | with_reducible rfl | with_reducible assumption) ?_ | refine awp_cond_f rfl (by first | with_reducible rfl | with_reducible assumption) ?_ | fail))
     | fail)
    exact k.out) : A := h (.of M) ⟨k⟩
theorem st (M : List Nat) {A B : Prop} (k : B) (h : Mut M → Left B → A := by
    intro m k
    (first
     | ((with_reducible refine is_un ?_); (first | ((with_reducible refine is_move ?_); (first | refine awpL_ev (ev_move rfl) rfl ?_ | fail)) | ((with_reducible refine is_bin ?_); (first | refine awpL_ev (ev_add rfl rfl (by omega)) rfl ?_ | refine awpL_ev (ev_sub rfl rfl (by omega)) rfl ?_ | refine awpL_ev (ev_bin rfl rfl rfl) rfl ?_ | refine awpL_ev (ev_eq_bool rfl rfl rfl rfl) rfl ?_ | fail)) | ((with_reducible refine is_fa ?_); (first | refine awpL_ev (ev_fa_fp rfl rfl rfl rfl rfl rfl) rfl ?_ | refine awpL_ev (ev_fa_lp rfl rfl rfl rfl rfl rfl rfl) rfl ?_ | refine awpL_ev (ev_fa_ep rfl rfl rfl rfl rfl rfl rfl) rfl ?_ | fail)) | ((with_reducible refine is_load ?_); (first | refine awpL_ev (ev_load_agg rfl rfl rfl rfl) rfl ?_ | refine awpL_ev (ev_load_sub rfl rfl rfl rfl rfl) rfl ?_ | refine awpL_ev (ev_load_one rfl rfl rfl rfl) rfl ?_ | refine awpL_ev (ev_ll_agg rfl rfl rfl rfl rfl rfl rfl) rfl ?_ | refine awpL_ev (ev_ll_lag rfl rfl rfl rfl rfl rfl) rfl ?_ | refine awpL_ev (ev_ll_one rfl rfl rfl rfl rfl) rfl ?_ | refine awpL_ev (ev_el_one rfl rfl rfl rfl (by with_reducible assumption) rfl) rfl ?_ | fail)) | ((with_reducible refine is_pick ?_); (first | refine awpL_ev (ev_pick_t rfl (by first | with_reducible rfl | with_reducible assumption) rfl) rfl ?_ | refine awpL_ev (ev_pick_f rfl (by first | with_reducible rfl | with_reducible assumption) rfl) rfl ?_ | fail)) | ((with_reducible refine is_assign ?_); (first | refine awpL_ev (ev_assign rfl) rfl ?_ | fail)) | ((with_reducible refine is_call ?_); (first | refine awpL_call rfl rfl (by assumption) rfl ?_ | refine awpL_ev (ev_len rfl rfl rfl rfl rfl) rfl ?_ | refine awpL_ev (ev_max rfl rfl) rfl ?_ | refine awpL_ev (ev_min rfl rfl) rfl ?_ | refine awpL_ev (ev_len_os rfl rfl rfl rfl rfl) rfl ?_ | refine awpL_ev2 (ev_append_zf rfl rfl rfl rfl rfl rfl rfl rfl rfl rfl rfl rfl rfl (by simp only [List.length_map, List.length_cons, List.length_nil]; omega) rfl) rfl ?_ | fail)) | ((with_reducible refine is_store ?_); (first | refine awpL_stMm m rfl rfl rfl rfl rfl rfl rfl rfl rfl (by (try simp only [cellsOf, List.map_cons, List.map_nil]); (try rfl)) (by (try simp only [List.set_cons_zero, List.set_cons_succ, List.nil_append, List.cons_append, List.append_nil, cellsOf, List.take_zero, List.drop_zero, List.take_succ_cons, List.drop_succ_cons, Nat.zero_add, Nat.reduceAdd, List.drop_nil, List.map_cons, List.map_nil]); (try rfl)) ?_ | refine awpL_evS (ev_st_lp rfl rfl rfl rfl rfl rfl rfl (by (try simp only [List.set_cons_zero, List.set_cons_succ, List.nil_append, List.cons_append, List.append_nil, cellsOf, List.take_zero, List.drop_zero, List.take_succ_cons, List.drop_succ_cons, Nat.zero_add, Nat.reduceAdd, List.drop_nil, List.map_cons, List.map_nil]); (try rfl))) ?_ | fail)) | ((with_reducible refine is_alloc ?_); (first | refine awpL_ev2 (ev_alloc rfl rfl (by (try simp only [List.length_nil, List.length_cons, Nat.reduceAdd]); (try rfl)) (by (try simp only [List.set_cons_zero, List.set_cons_succ, List.nil_append, List.cons_append, List.append_nil, cellsOf, List.take_zero, List.drop_zero, List.take_succ_cons, List.drop_succ_cons, Nat.zero_add, Nat.reduceAdd, List.drop_nil, List.map_cons, List.map_nil]); (try rfl))) rfl ?_ | fail)) | ((with_reducible refine is_box ?_); (first | refine awpL_boxMm m rfl rfl rfl rfl (by (try simp only [cellsOf, List.map_cons, List.map_nil]); (try rfl)) rfl ?_ | refine awpL_ev2 (ev_box rfl rfl (by (try simp only [List.length_nil, List.length_cons, Nat.reduceAdd]); (try rfl)) (by (try simp only [List.set_cons_zero, List.set_cons_succ, List.nil_append, List.cons_append, List.append_nil, cellsOf, List.take_zero, List.drop_zero, List.take_succ_cons, List.drop_succ_cons, Nat.zero_add, Nat.reduceAdd, List.drop_nil, List.map_cons, List.map_nil]); (try rfl))) rfl ?_ | fail)) | refine awpL_ev (ev_ia_fs rfl rfl rfl rfl rfl rfl (by with_reducible assumption)) rfl ?_ | refine awpL_ev (ev_not rfl) rfl ?_ | refine awpL_ev (ev_extract rfl rfl) rfl ?_ | refine awpL_ev (ev_index_str rfl rfl rfl rfl (by with_reducible assumption)) rfl ?_ | refine awpL_ev (ev_build rfl rfl rfl rfl rfl rfl rfl) rfl ?_ | refine awpL_ev (ev_slice_fs rfl rfl rfl rfl rfl rfl rfl (by with_reducible assumption) rfl rfl) rfl ?_ | refine awpL_ev (ev_makeFunc rfl rfl) rfl ?_ | refine awpL_ev (ev_nilCheck_fp rfl) rfl ?_ | refine awpL_ev (ev_index_arr rfl rfl rfl rfl rfl rfl rfl (by with_reducible assumption)) rfl ?_ | refine awpL_ev (ev_ia_os rfl rfl rfl rfl rfl rfl rfl (by with_reducible assumption)) rfl ?_ | refine awpL_ev (ev_build_lag rfl rfl rfl rfl rfl rfl) rfl ?_ | refine awpL_ev (ev_nilCheck_lp rfl rfl) rfl ?_ | refine awpL_ev2 (ev_bslice_z rfl rfl rfl rfl rfl rfl rfl) rfl ?_ | refine awpL_ev2 (ev_bslice_in rfl rfl rfl rfl rfl rfl rfl rfl rfl rfl rfl rfl (by (try simp only [List.map_cons, List.map_nil, cellsOf]); (try rfl))) rfl ?_))
     | ((with_reducible refine is_gd ?_); (first | refine awpL_run rfl rfl rfl (by first | with_reducible rfl | with_reducible assumption) ?_ | refine awpL_passT rfl rfl rfl rfl (by first | with_reducible rfl | with_reducible assumption) ?_ | refine awpL_passF rfl rfl rfl rfl (by first | with_reducible rfl | with_reducible assumption) ?_ | refine awpL_passU rfl rfl rfl rfl ?_ | fail))
     | ((with_reducible refine is_nil ?_); refine awpL_nil ?_)
     | ((with_reducible refine is_then ?_); (first | refine thenQ_n ?_ | refine thenQ_r ?_ | refine thenQ_e ?_ | fail))
     | ((with_reducible refine is_block ?_); (first | refine blockQ_n ?_ | refine blockQ_r ?_ | refine blockQ_e ?_ | refine blockQ_o rfl ?_ | fail))
     | ((with_reducible refine is_draw ?_); (first | refine awp_drawA (by kernel_rfl) rfl rfl (by repeat' (first | exact Strip.nil | apply Strip.keep rfl | apply Strip.drop rfl)) ?_ | fail))
     | ((with_reducible refine isD_un ?_); (first | ((with_reducible refine isD_st ?_); refine awpD_sS rfl (by (try simp only [List.set_cons_zero, List.set_cons_succ, List.nil_append, List.cons_append, List.append_nil, cellsOf, List.take_zero, List.drop_zero, List.take_succ_cons, List.drop_succ_cons, Nat.zero_add, Nat.reduceAdd, List.drop_nil, List.map_cons, List.map_nil]); (try rfl)) (ev_st_lp rfl rfl rfl rfl rfl rfl rfl (by (try simp only [List.set_cons_zero, List.set_cons_succ, List.nil_append, List.cons_append, List.append_nil, cellsOf, List.take_zero, List.drop_zero, List.take_succ_cons, List.drop_succ_cons, Nat.zero_add, Nat.reduceAdd, List.drop_nil, List.map_cons, List.map_nil]); (try rfl))) rfl (by (try simp only [List.nil_append, List.cons_append]); (try rfl)) ?_) | ((with_reducible refine isD_al ?_); refine awpD_nw rfl (by repeat' (first | exact Msk.nil | apply Msk.base | apply Msk.vis rfl | apply Msk.hid rfl)) (ev_alloc rfl rfl (by (try simp only [List.length_nil, List.length_cons, Nat.reduceAdd]); (try rfl)) (by (try simp only [List.set_cons_zero, List.set_cons_succ, List.nil_append, List.cons_append, List.append_nil, cellsOf, List.take_zero, List.drop_zero, List.take_succ_cons, List.drop_succ_cons, Nat.zero_add, Nat.reduceAdd, List.drop_nil, List.map_cons, List.map_nil]); (try rfl))) rfl rfl rfl rfl rfl (by (try simp only [List.set_cons_zero, List.set_cons_succ, List.nil_append, List.cons_append, List.append_nil, cellsOf, List.take_zero, List.drop_zero, List.take_succ_cons, List.drop_succ_cons, Nat.zero_add, Nat.reduceAdd, List.drop_nil, List.map_cons, List.map_nil]); (try rfl)) (by (try simp only [List.nil_append, List.cons_append]); (try rfl)) ?_) | ((with_reducible refine isDs_move ?_); (first | refine awpD_un (as_ev (fun _ => ev_move rfl) rfl rfl) (by (try simp only [List.nil_append, List.cons_append]); (try rfl)) ?_ | fail)) | ((with_reducible refine isDs_bin ?_); (first | refine awpD_un (as_ev (fun _ => ev_add rfl rfl (by omega)) rfl rfl) (by (try simp only [List.nil_append, List.cons_append]); (try rfl)) ?_ | refine awpD_un (as_ev (fun _ => ev_sub rfl rfl (by omega)) rfl rfl) (by (try simp only [List.nil_append, List.cons_append]); (try rfl)) ?_ | refine awpD_un (as_ev (fun _ => ev_bin rfl rfl rfl) rfl rfl) (by (try simp only [List.nil_append, List.cons_append]); (try rfl)) ?_ | refine awpD_un (as_ev (fun _ => ev_eq_bool rfl rfl rfl rfl) rfl rfl) (by (try simp only [List.nil_append, List.cons_append]); (try rfl)) ?_ | fail)) | ((with_reducible refine isDs_fa ?_); (first | refine awpD_un (as_ev (fun _ => ev_fa_fp rfl rfl rfl rfl rfl rfl) rfl rfl) (by (try simp only [List.nil_append, List.cons_append]); (try rfl)) ?_ | refine awpD_un (as_pure rfl (by repeat' (first | exact Msk.nil | apply Msk.base | apply Msk.vis rfl | apply Msk.hid rfl)) (ev_fa_lp rfl rfl rfl rfl rfl rfl rfl) rfl rfl rfl) (by (try simp only [List.nil_append, List.cons_append]); (try rfl)) ?_ | refine awpD_un (as_pure rfl (by repeat' (first | exact Msk.nil | apply Msk.base | apply Msk.vis rfl | apply Msk.hid rfl)) (ev_fa_ep rfl rfl rfl rfl rfl rfl rfl) rfl rfl rfl) (by (try simp only [List.nil_append, List.cons_append]); (try rfl)) ?_ | fail)) | ((with_reducible refine isDs_load ?_); (first | refine awpD_un (as_ev (fun _ => ev_load_agg rfl rfl rfl rfl) rfl rfl) (by (try simp only [List.nil_append, List.cons_append]); (try rfl)) ?_ | refine awpD_un (as_ev (fun _ => ev_load_sub rfl rfl rfl rfl rfl) rfl rfl) (by (try simp only [List.nil_append, List.cons_append]); (try rfl)) ?_ | refine awpD_un (as_ev (fun _ => ev_load_one rfl rfl rfl rfl) rfl rfl) (by (try simp only [List.nil_append, List.cons_append]); (try rfl)) ?_ | refine awpD_un (as_pure rfl (by repeat' (first | exact Msk.nil | apply Msk.base | apply Msk.vis rfl | apply Msk.hid rfl)) (ev_ll_agg rfl rfl rfl rfl rfl rfl rfl) rfl rfl rfl) (by (try simp only [List.nil_append, List.cons_append]); (try rfl)) ?_ | refine awpD_un (as_pure rfl (by repeat' (first | exact Msk.nil | apply Msk.base | apply Msk.vis rfl | apply Msk.hid rfl)) (ev_ll_lag rfl rfl rfl rfl rfl rfl) rfl rfl rfl) (by (try simp only [List.nil_append, List.cons_append]); (try rfl)) ?_ | refine awpD_un (as_pure rfl (by repeat' (first | exact Msk.nil | apply Msk.base | apply Msk.vis rfl | apply Msk.hid rfl)) (ev_ll_one rfl rfl rfl rfl rfl) rfl rfl rfl) (by (try simp only [List.nil_append, List.cons_append]); (try rfl)) ?_ | refine awpD_un (as_pure rfl (by repeat' (first | exact Msk.nil | apply Msk.base | apply Msk.vis rfl | apply Msk.hid rfl)) (ev_el_one rfl rfl rfl rfl (by with_reducible assumption) rfl) rfl rfl rfl) (by (try simp only [List.nil_append, List.cons_append]); (try rfl)) ?_ | fail)) | ((with_reducible refine isDs_pick ?_); (first | refine awpD_un (as_ev (fun _ => ev_pick_t rfl (by first | with_reducible rfl | with_reducible assumption) rfl) rfl rfl) (by (try simp only [List.nil_append, List.cons_append]); (try rfl)) ?_ | refine awpD_un (as_ev (fun _ => ev_pick_f rfl (by first | with_reducible rfl | with_reducible assumption) rfl) rfl rfl) (by (try simp only [List.nil_append, List.cons_append]); (try rfl)) ?_ | fail)) | ((with_reducible refine isDs_assign ?_); (first | refine awpD_un (as_ev (fun _ => ev_assign rfl) rfl rfl) (by (try simp only [List.nil_append, List.cons_append]); (try rfl)) ?_ | fail)) | ((with_reducible refine isDs_call ?_); (first | refine awpD_un (as_call rfl rfl (by assumption) rfl) (by (try simp only [List.nil_append, List.cons_append]); (try rfl)) ?_ | refine awpD_un (as_ev (fun _ => ev_len rfl rfl rfl rfl rfl) rfl rfl) (by (try simp only [List.nil_append, List.cons_append]); (try rfl)) ?_ | refine awpD_un (as_ev (fun _ => ev_max rfl rfl) rfl rfl) (by (try simp only [List.nil_append, List.cons_append]); (try rfl)) ?_ | refine awpD_un (as_ev (fun _ => ev_min rfl rfl) rfl rfl) (by (try simp only [List.nil_append, List.cons_append]); (try rfl)) ?_ | refine awpD_un (as_pure rfl (by repeat' (first | exact Msk.nil | apply Msk.base | apply Msk.vis rfl | apply Msk.hid rfl)) (ev_len_os rfl rfl rfl rfl rfl) rfl rfl rfl) (by (try simp only [List.nil_append, List.cons_append]); (try rfl)) ?_ | refine awpD_un (as_ev2 (fun _ => ev_append_zf rfl rfl rfl rfl rfl rfl rfl rfl rfl rfl rfl rfl rfl (by simp only [List.length_map, List.length_cons, List.length_nil]; omega) rfl) rfl rfl) (by (try simp only [List.nil_append, List.cons_append]); (try rfl)) ?_ | fail)) | refine awpD_un (as_ev (fun _ => ev_ia_fs rfl rfl rfl rfl rfl rfl (by with_reducible assumption)) rfl rfl) (by (try simp only [List.nil_append, List.cons_append]); (try rfl)) ?_ | refine awpD_un (as_ev (fun _ => ev_not rfl) rfl rfl) (by (try simp only [List.nil_append, List.cons_append]); (try rfl)) ?_ | refine awpD_un (as_ev (fun _ => ev_extract rfl rfl) rfl rfl) (by (try simp only [List.nil_append, List.cons_append]); (try rfl)) ?_ | refine awpD_un (as_ev (fun _ => ev_index_str rfl rfl rfl rfl (by with_reducible assumption)) rfl rfl) (by (try simp only [List.nil_append, List.cons_append]); (try rfl)) ?_ | refine awpD_un (as_ev (fun _ => ev_build rfl rfl rfl rfl rfl rfl rfl) rfl rfl) (by (try simp only [List.nil_append, List.cons_append]); (try rfl)) ?_ | refine awpD_un (as_ev (fun _ => ev_slice_fs rfl rfl rfl rfl rfl rfl rfl (by with_reducible assumption) rfl rfl) rfl rfl) (by (try simp only [List.nil_append, List.cons_append]); (try rfl)) ?_ | refine awpD_un (as_ev (fun _ => ev_makeFunc rfl rfl) rfl rfl) (by (try simp only [List.nil_append, List.cons_append]); (try rfl)) ?_ | refine awpD_un (as_ev (fun _ => ev_nilCheck_fp rfl) rfl rfl) (by (try simp only [List.nil_append, List.cons_append]); (try rfl)) ?_ | refine awpD_un (as_ev (fun _ => ev_index_arr rfl rfl rfl rfl rfl rfl rfl (by with_reducible assumption)) rfl rfl) (by (try simp only [List.nil_append, List.cons_append]); (try rfl)) ?_ | refine awpD_un (as_pure rfl (by repeat' (first | exact Msk.nil | apply Msk.base | apply Msk.vis rfl | apply Msk.hid rfl)) (ev_ia_os rfl rfl rfl rfl rfl rfl rfl (by with_reducible assumption)) rfl rfl rfl) (by (try simp only [List.nil_append, List.cons_append]); (try rfl)) ?_ | refine awpD_un (as_pure rfl (by repeat' (first | exact Msk.nil | apply Msk.base | apply Msk.vis rfl | apply Msk.hid rfl)) (ev_build_lag rfl rfl rfl rfl rfl rfl) rfl rfl rfl) (by (try simp only [List.nil_append, List.cons_append]); (try rfl)) ?_ | refine awpD_un (as_pure rfl (by repeat' (first | exact Msk.nil | apply Msk.base | apply Msk.vis rfl | apply Msk.hid rfl)) (ev_nilCheck_lp rfl rfl) rfl rfl rfl) (by (try simp only [List.nil_append, List.cons_append]); (try rfl)) ?_ | refine awpD_un (as_ev2 (fun _ => ev_bslice_z rfl rfl rfl rfl rfl rfl rfl) rfl rfl) (by (try simp only [List.nil_append, List.cons_append]); (try rfl)) ?_ | refine awpD_un (as_ev2 (fun _ => ev_bslice_in rfl rfl rfl rfl rfl rfl rfl rfl rfl rfl rfl rfl (by (try simp only [List.map_cons, List.map_nil, cellsOf]); (try rfl))) rfl rfl) (by (try simp only [List.nil_append, List.cons_append]); (try rfl)) ?_ | fail))
     | ((with_reducible refine isD_gd ?_); (first | refine awpD_pT rfl rfl (by first | with_reducible rfl | with_reducible assumption) (by (try simp only [List.nil_append, List.cons_append]); (try rfl)) ?_ | refine awpD_pF rfl rfl (by first | with_reducible rfl | with_reducible assumption) (by (try simp only [List.nil_append, List.cons_append]); (try rfl)) ?_ | refine awpD_pU rfl rfl (by (try simp only [List.nil_append, List.cons_append]); (try rfl)) ?_ | (refine isD_go rfl rfl (by first | with_reducible rfl | with_reducible assumption) ?_; (first | ((with_reducible refine isDs_move ?_); (first | refine awpD_gd rfl rfl (by first | with_reducible rfl | with_reducible assumption) (as_ev (fun _ => ev_move rfl) rfl rfl) (by (try simp only [List.nil_append, List.cons_append]); (try rfl)) ?_ | fail)) | ((with_reducible refine isDs_bin ?_); (first | refine awpD_gd rfl rfl (by first | with_reducible rfl | with_reducible assumption) (as_ev (fun _ => ev_add rfl rfl (by omega)) rfl rfl) (by (try simp only [List.nil_append, List.cons_append]); (try rfl)) ?_ | refine awpD_gd rfl rfl (by first | with_reducible rfl | with_reducible assumption) (as_ev (fun _ => ev_sub rfl rfl (by omega)) rfl rfl) (by (try simp only [List.nil_append, List.cons_append]); (try rfl)) ?_ | refine awpD_gd rfl rfl (by first | with_reducible rfl | with_reducible assumption) (as_ev (fun _ => ev_bin rfl rfl rfl) rfl rfl) (by (try simp only [List.nil_append, List.cons_append]); (try rfl)) ?_ | refine awpD_gd rfl rfl (by first | with_reducible rfl | with_reducible assumption) (as_ev (fun _ => ev_eq_bool rfl rfl rfl rfl) rfl rfl) (by (try simp only [List.nil_append, List.cons_append]); (try rfl)) ?_ | fail)) | ((with_reducible refine isDs_fa ?_); (first | refine awpD_gd rfl rfl (by first | with_reducible rfl | with_reducible assumption) (as_ev (fun _ => ev_fa_fp rfl rfl rfl rfl rfl rfl) rfl rfl) (by (try simp only [List.nil_append, List.cons_append]); (try rfl)) ?_ | refine awpD_gd rfl rfl (by first | with_reducible rfl | with_reducible assumption) (as_pure rfl (by repeat' (first | exact Msk.nil | apply Msk.base | apply Msk.vis rfl | apply Msk.hid rfl)) (ev_fa_lp rfl rfl rfl rfl rfl rfl rfl) rfl rfl rfl) (by (try simp only [List.nil_append, List.cons_append]); (try rfl)) ?_ | refine awpD_gd rfl rfl (by first | with_reducible rfl | with_reducible assumption) (as_pure rfl (by repeat' (first | exact Msk.nil | apply Msk.base | apply Msk.vis rfl | apply Msk.hid rfl)) (ev_fa_ep rfl rfl rfl rfl rfl rfl rfl) rfl rfl rfl) (by (try simp only [List.nil_append, List.cons_append]); (try rfl)) ?_ | fail)) | ((with_reducible refine isDs_load ?_); (first | refine awpD_gd rfl rfl (by first | with_reducible rfl | with_reducible assumption) (as_ev (fun _ => ev_load_agg rfl rfl rfl rfl) rfl rfl) (by (try simp only [List.nil_append, List.cons_append]); (try rfl)) ?_ | refine awpD_gd rfl rfl (by first | with_reducible rfl | with_reducible assumption) (as_ev (fun _ => ev_load_sub rfl rfl rfl rfl rfl) rfl rfl) (by (try simp only [List.nil_append, List.cons_append]); (try rfl)) ?_ | refine awpD_gd rfl rfl (by first | with_reducible rfl | with_reducible assumption) (as_ev (fun _ => ev_load_one rfl rfl rfl rfl) rfl rfl) (by (try simp only [List.nil_append, List.cons_append]); (try rfl)) ?_ | refine awpD_gd rfl rfl (by first | with_reducible rfl | with_reducible assumption) (as_pure rfl (by repeat' (first | exact Msk.nil | apply Msk.base | apply Msk.vis rfl | apply Msk.hid rfl)) (ev_ll_agg rfl rfl rfl rfl rfl rfl rfl) rfl rfl rfl) (by (try simp only [List.nil_append, List.cons_append]); (try rfl)) ?_ | refine awpD_gd rfl rfl (by first | with_reducible rfl | with_reducible assumption) (as_pure rfl (by repeat' (first | exact Msk.nil | apply Msk.base | apply Msk.vis rfl | apply Msk.hid rfl)) (ev_ll_lag rfl rfl rfl rfl rfl rfl) rfl rfl rfl) (by (try simp only [List.nil_append, List.cons_append]); (try rfl)) ?_ | refine awpD_gd rfl rfl (by first | with_reducible rfl | with_reducible assumption) (as_pure rfl (by repeat' (first | exact Msk.nil | apply Msk.base | apply Msk.vis rfl | apply Msk.hid rfl)) (ev_ll_one rfl rfl rfl rfl rfl) rfl rfl rfl) (by (try simp only [List.nil_append, List.cons_append]); (try rfl)) ?_ | refine awpD_gd rfl rfl (by first | with_reducible rfl | with_reducible assumption) (as_pure rfl (by repeat' (first | exact Msk.nil | apply Msk.base | apply Msk.vis rfl | apply Msk.hid rfl)) (ev_el_one rfl rfl rfl rfl (by with_reducible assumption) rfl) rfl rfl rfl) (by (try simp only [List.nil_append, List.cons_append]); (try rfl)) ?_ | fail)) | ((with_reducible refine isDs_pick ?_); (first | refine awpD_gd rfl rfl (by first | with_reducible rfl | with_reducible assumption) (as_ev (fun _ => ev_pick_t rfl (by first | with_reducible rfl | with_reducible assumption) rfl) rfl rfl) (by (try simp only [List.nil_append, List.cons_append]); (try rfl)) ?_ | refine awpD_gd rfl rfl (by first | with_reducible rfl | with_reducible assumption) (as_ev (fun _ => ev_pick_f rfl (by first | with_reducible rfl | with_reducible assumption) rfl) rfl rfl) (by (try simp only [List.nil_append, List.cons_append]); (try rfl)) ?_ | fail)) | ((with_reducible refine isDs_assign ?_); (first | refine awpD_gd rfl rfl (by first | with_reducible rfl | with_reducible assumption) (as_ev (fun _ => ev_assign rfl) rfl rfl) (by (try simp only [List.nil_append, List.cons_append]); (try rfl)) ?_ | fail)) | ((with_reducible refine isDs_call ?_); (first | refine awpD_gd rfl rfl (by first | with_reducible rfl | with_reducible assumption) (as_call rfl rfl (by assumption) rfl) (by (try simp only [List.nil_append, List.cons_append]); (try rfl)) ?_ | refine awpD_gd rfl rfl (by first | with_reducible rfl | with_reducible assumption) (as_ev (fun _ => ev_len rfl rfl rfl rfl rfl) rfl rfl) (by (try simp only [List.nil_append, List.cons_append]); (try rfl)) ?_ | refine awpD_gd rfl rfl (by first | with_reducible rfl | with_reducible assumption) (as_ev (fun _ => ev_max rfl rfl) rfl rfl) (by (try simp only [List.nil_append, List.cons_append]); (try rfl)) ?_ | refine awpD_gd rfl rfl (by first | with_reducible rfl | with_reducible assumption) (as_ev (fun _ => ev_min rfl rfl) rfl rfl) (by (try simp only [List.nil_append, List.cons_append]); (try rfl)) ?_ | refine awpD_gd rfl rfl (by first | with_reducible rfl | with_reducible assumption) (as_pure rfl (by repeat' (first | exact Msk.nil | apply Msk.base | apply Msk.vis rfl | apply Msk.hid rfl)) (ev_len_os rfl rfl rfl rfl rfl) rfl rfl rfl) (by (try simp only [List.nil_append, List.cons_append]); (try rfl)) ?_ | refine awpD_gd rfl rfl (by first | with_reducible rfl | with_reducible assumption) (as_ev2 (fun _ => ev_append_zf rfl rfl rfl rfl rfl rfl rfl rfl rfl rfl rfl rfl rfl (by simp only [List.length_map, List.length_cons, List.length_nil]; omega) rfl) rfl rfl) (by (try simp only [List.nil_append, List.cons_append]); (try rfl)) ?_ | fail)) | refine awpD_gd rfl rfl (by first | with_reducible rfl | with_reducible assumption) (as_ev (fun _ => ev_ia_fs rfl rfl rfl rfl rfl rfl (by with_reducible assumption)) rfl rfl) (by (try simp only [List.nil_append, List.cons_append]); (try rfl)) ?_ | refine awpD_gd rfl rfl (by first | with_reducible rfl | with_reducible assumption) (as_ev (fun _ => ev_not rfl) rfl rfl) (by (try simp only [List.nil_append, List.cons_append]); (try rfl)) ?_ | refine awpD_gd rfl rfl (by first | with_reducible rfl | with_reducible assumption) (as_ev (fun _ => ev_extract rfl rfl) rfl rfl) (by (try simp only [List.nil_append, List.cons_append]); (try rfl)) ?_ | refine awpD_gd rfl rfl (by first | with_reducible rfl | with_reducible assumption) (as_ev (fun _ => ev_index_str rfl rfl rfl rfl (by with_reducible assumption)) rfl rfl) (by (try simp only [List.nil_append, List.cons_append]); (try rfl)) ?_ | refine awpD_gd rfl rfl (by first | with_reducible rfl | with_reducible assumption) (as_ev (fun _ => ev_build rfl rfl rfl rfl rfl rfl rfl) rfl rfl) (by (try simp only [List.nil_append, List.cons_append]); (try rfl)) ?_ | refine awpD_gd rfl rfl (by first | with_reducible rfl | with_reducible assumption) (as_ev (fun _ => ev_slice_fs rfl rfl rfl rfl rfl rfl rfl (by with_reducible assumption) rfl rfl) rfl rfl) (by (try simp only [List.nil_append, List.cons_append]); (try rfl)) ?_ | refine awpD_gd rfl rfl (by first | with_reducible rfl | with_reducible assumption) (as_ev (fun _ => ev_makeFunc rfl rfl) rfl rfl) (by (try simp only [List.nil_append, List.cons_append]); (try rfl)) ?_ | refine awpD_gd rfl rfl (by first | with_reducible rfl | with_reducible assumption) (as_ev (fun _ => ev_nilCheck_fp rfl) rfl rfl) (by (try simp only [List.nil_append, List.cons_append]); (try rfl)) ?_ | refine awpD_gd rfl rfl (by first | with_reducible rfl | with_reducible assumption) (as_ev (fun _ => ev_index_arr rfl rfl rfl rfl rfl rfl rfl (by with_reducible assumption)) rfl rfl) (by (try simp only [List.nil_append, List.cons_append]); (try rfl)) ?_ | refine awpD_gd rfl rfl (by first | with_reducible rfl | with_reducible assumption) (as_pure rfl (by repeat' (first | exact Msk.nil | apply Msk.base | apply Msk.vis rfl | apply Msk.hid rfl)) (ev_ia_os rfl rfl rfl rfl rfl rfl rfl (by with_reducible assumption)) rfl rfl rfl) (by (try simp only [List.nil_append, List.cons_append]); (try rfl)) ?_ | refine awpD_gd rfl rfl (by first | with_reducible rfl | with_reducible assumption) (as_pure rfl (by repeat' (first | exact Msk.nil | apply Msk.base | apply Msk.vis rfl | apply Msk.hid rfl)) (ev_build_lag rfl rfl rfl rfl rfl rfl) rfl rfl rfl) (by (try simp only [List.nil_append, List.cons_append]); (try rfl)) ?_ | refine awpD_gd rfl rfl (by first | with_reducible rfl | with_reducible assumption) (as_pure rfl (by repeat' (first | exact Msk.nil | apply Msk.base | apply Msk.vis rfl | apply Msk.hid rfl)) (ev_nilCheck_lp rfl rfl) rfl rfl rfl) (by (try simp only [List.nil_append, List.cons_append]); (try rfl)) ?_ | refine awpD_gd rfl rfl (by first | with_reducible rfl | with_reducible assumption) (as_ev2 (fun _ => ev_bslice_z rfl rfl rfl rfl rfl rfl rfl) rfl rfl) (by (try simp only [List.nil_append, List.cons_append]); (try rfl)) ?_ | refine awpD_gd rfl rfl (by first | with_reducible rfl | with_reducible assumption) (as_ev2 (fun _ => ev_bslice_in rfl rfl rfl rfl rfl rfl rfl rfl rfl rfl rfl rfl (by (try simp only [List.map_cons, List.map_nil, cellsOf]); (try rfl))) rfl rfl) (by (try simp only [List.nil_append, List.cons_append]); (try rfl)) ?_ | fail)) | fail))
     | ((with_reducible refine isD_nl ?_); refine awpD_done (by (try simp only [List.nil_append, List.cons_append]); (try rfl)) (by (try simp only [List.set_cons_zero, List.set_cons_succ, List.nil_append, List.cons_append, List.append_nil, cellsOf, List.take_zero, List.drop_zero, List.take_succ_cons, List.drop_succ_cons, Nat.zero_add, Nat.reduceAdd, List.drop_nil, List.map_cons, List.map_nil]); (try rfl)) ?_)
     | ((with_reducible refine is_awp ?_); (first | refine awp_seq ?_ | refine awp_ret ?_ | refine awp_skip ?_ | refine awp_exit ?_ | refine awp_label ?_ | refine awp_block ?_ | refine awp_region ?_ | refine awp_cond_t rfl (by first | with_reducible rfl | with_reducible assumption) ?_ | refine awp_cond_f rfl (by first | with_reducible rfl | with_reducible assumption) ?_ | fail))
     | fail)
    exact k.out) : A := h (.of M) ⟨k⟩
theorem runn (M : List Nat) {A B : Prop} (k : B) (h : Mut M → Left B → A := by
    intro m k
    repeat' (first
     | ((with_reducible refine is_un ?_); (first | ((with_reducible refine is_move ?_); (first | refine awpL_ev (ev_move rfl) rfl ?_ | fail)) | ((with_reducible refine is_bin ?_); (first | refine awpL_ev (ev_add rfl rfl (by omega)) rfl ?_ | refine awpL_ev (ev_sub rfl rfl (by omega)) rfl ?_ | refine awpL_ev (ev_bin rfl rfl rfl) rfl ?_ | refine awpL_ev (ev_eq_bool rfl rfl rfl rfl) rfl ?_ | fail)) | ((with_reducible refine is_fa ?_); (first | refine awpL_ev (ev_fa_fp rfl rfl rfl rfl rfl rfl) rfl ?_ | refine awpL_ev (ev_fa_lp rfl rfl rfl rfl rfl rfl rfl) rfl ?_ | refine awpL_ev (ev_fa_ep rfl rfl rfl rfl rfl rfl rfl) rfl ?_ | fail)) | ((with_reducible refine is_load ?_); (first | refine awpL_ev (ev_load_agg rfl rfl rfl rfl) rfl ?_ | refine awpL_ev (ev_load_sub rfl rfl rfl rfl rfl) rfl ?_ | refine awpL_ev (ev_load_one rfl rfl rfl rfl) rfl ?_ | refine awpL_ev (ev_ll_agg rfl rfl rfl rfl rfl rfl rfl) rfl ?_ | refine awpL_ev (ev_ll_lag rfl rfl rfl rfl rfl rfl) rfl ?_ | refine awpL_ev (ev_ll_one rfl rfl rfl rfl rfl) rfl ?_ | refine awpL_ev (ev_el_one rfl rfl rfl rfl (by with_reducible assumption) rfl) rfl ?_ | fail)) | ((with_reducible refine is_pick ?_); (first | refine awpL_ev (ev_pick_t rfl (by first | with_reducible rfl | with_reducible assumption) rfl) rfl ?_ | refine awpL_ev (ev_pick_f rfl (by first | with_reducible rfl | with_reducible assumption) rfl) rfl ?_ | fail)) | ((with_reducible refine is_assign ?_); (first | refine awpL_ev (ev_assign rfl) rfl ?_ | fail)) | ((with_reducible refine is_call ?_); (first | refine awpL_call rfl rfl (by assumption) rfl ?_ | refine awpL_ev (ev_len rfl rfl rfl rfl rfl) rfl ?_ | refine awpL_ev (ev_max rfl rfl) rfl ?_ | refine awpL_ev (ev_min rfl rfl) rfl ?_ | refine awpL_ev (ev_len_os rfl rfl rfl rfl rfl) rfl ?_ | refine awpL_ev2 (ev_append_zf rfl rfl rfl rfl rfl rfl rfl rfl rfl rfl rfl rfl rfl (by simp only [List.length_map, List.length_cons, List.length_nil]; omega) rfl) rfl ?_ | fail)) | ((with_reducible refine is_store ?_); (first | refine awpL_stMm m rfl rfl rfl rfl rfl rfl rfl rfl rfl (by (try simp only [cellsOf, List.map_cons, List.map_nil]); (try rfl)) (by (try simp only [List.set_cons_zero, List.set_cons_succ, List.nil_append, List.cons_append, List.append_nil, cellsOf, List.take_zero, List.drop_zero, List.take_succ_cons, List.drop_succ_cons, Nat.zero_add, Nat.reduceAdd, List.drop_nil, List.map_cons, List.map_nil]); (try rfl)) ?_ | refine awpL_evS (ev_st_lp rfl rfl rfl rfl rfl rfl rfl (by (try simp only [List.set_cons_zero, List.set_cons_succ, List.nil_append, List.cons_append, List.append_nil, cellsOf, List.take_zero, List.drop_zero, List.take_succ_cons, List.drop_succ_cons, Nat.zero_add, Nat.reduceAdd, List.drop_nil, List.map_cons, List.map_nil]); (try rfl))) ?_ | fail)) | ((with_reducible refine is_alloc ?_); (first | refine awpL_ev2 (ev_alloc rfl rfl (by (try simp only [List.length_nil, List.length_cons, Nat.reduceAdd]); (try rfl)) (by (try simp only [List.set_cons_zero, List.set_cons_succ, List.nil_append, List.cons_append, List.append_nil, cellsOf, List.take_zero, List.drop_zero, List.take_succ_cons, List.drop_succ_cons, Nat.zero_add, Nat.reduceAdd, List.drop_nil, List.map_cons, List.map_nil]); (try rfl))) rfl ?_ | fail)) | ((with_reducible refine is_box ?_); (first | refine awpL_boxMm m rfl rfl rfl rfl (by (try simp only [cellsOf, List.map_cons, List.map_nil]); (try rfl)) rfl ?_ | refine awpL_ev2 (ev_box rfl rfl (by (try simp only [List.length_nil, List.length_cons, Nat.reduceAdd]); (try rfl)) (by (try simp only [List.set_cons_zero, List.set_cons_succ, List.nil_append, List.cons_append, List.append_nil, cellsOf, List.take_zero, List.drop_zero, List.take_succ_cons, List.drop_succ_cons, Nat.zero_add, Nat.reduceAdd, List.drop_nil, List.map_cons, List.map_nil]); (try rfl))) rfl ?_ | fail)) | refine awpL_ev (ev_ia_fs rfl rfl rfl rfl rfl rfl (by with_reducible assumption)) rfl ?_ | refine awpL_ev (ev_not rfl) rfl ?_ | refine awpL_ev (ev_extract rfl rfl) rfl ?_ | refine awpL_ev (ev_index_str rfl rfl rfl rfl (by with_reducible assumption)) rfl ?_ | refine awpL_ev (ev_build rfl rfl rfl rfl rfl rfl rfl) rfl ?_ | refine awpL_ev (ev_slice_fs rfl rfl rfl rfl rfl rfl rfl (by with_reducible assumption) rfl rfl) rfl ?_ | refine awpL_ev (ev_makeFunc rfl rfl) rfl ?_ | refine awpL_ev (ev_nilCheck_fp rfl) rfl ?_ | refine awpL_ev (ev_index_arr rfl rfl rfl rfl rfl rfl rfl (by with_reducible assumption)) rfl ?_ | refine awpL_ev (ev_ia_os rfl rfl rfl rfl rfl rfl rfl (by with_reducible assumption)) rfl ?_ | refine awpL_ev (ev_build_lag rfl rfl rfl rfl rfl rfl) rfl ?_ | refine awpL_ev (ev_nilCheck_lp rfl rfl) rfl ?_ | refine awpL_ev2 (ev_bslice_z rfl rfl rfl rfl rfl rfl rfl) rfl ?_ | refine awpL_ev2 (ev_bslice_in rfl rfl rfl rfl rfl rfl rfl rfl rfl rfl rfl rfl (by (try simp only [List.map_cons, List.map_nil, cellsOf]); (try rfl))) rfl ?_))
     | ((with_reducible refine is_gd ?_); (first | refine awpL_run rfl rfl rfl (by first | with_reducible rfl | with_reducible assumption) ?_ | refine awpL_passT rfl rfl rfl rfl (by first | with_reducible rfl | with_reducible assumption) ?_ | refine awpL_passF rfl rfl rfl rfl (by first | with_reducible rfl | with_reducible assumption) ?_ | refine awpL_passU rfl rfl rfl rfl ?_ | fail))
     | ((with_reducible refine is_nil ?_); refine awpL_nil ?_)
     | ((with_reducible refine is_then ?_); (first | refine thenQ_n ?_ | refine thenQ_r ?_ | refine thenQ_e ?_ | fail))
     | ((with_reducible refine is_block ?_); (first | refine blockQ_n ?_ | refine blockQ_r ?_ | refine blockQ_e ?_ | refine blockQ_o rfl ?_ | fail))
     | ((with_reducible refine is_awp ?_); (first | refine awp_seq ?_ | refine awp_ret ?_ | refine awp_skip ?_ | refine awp_exit ?_ | refine awp_label ?_ | refine awp_block ?_ | refine awp_region ?_ | refine awp_cond_t rfl (by first | with_reducible rfl | with_reducible assumption) ?_ | refine awp_cond_f rfl (by first | with_reducible rfl | with_reducible assumption) ?_ | fail))
     | fail)
    exact k.out) : A := h (.of M) ⟨k⟩
theorem stn (M : List Nat) {A B : Prop} (k : B) (h : Mut M → Left B → A := by
    intro m k
    (first
     | ((with_reducible refine is_un ?_); (first | ((with_reducible refine is_move ?_); (first | refine awpL_ev (ev_move rfl) rfl ?_ | fail)) | ((with_reducible refine is_bin ?_); (first | refine awpL_ev (ev_add rfl rfl (by omega)) rfl ?_ | refine awpL_ev (ev_sub rfl rfl (by omega)) rfl ?_ | refine awpL_ev (ev_bin rfl rfl rfl) rfl ?_ | refine awpL_ev (ev_eq_bool rfl rfl rfl rfl) rfl ?_ | fail)) | ((with_reducible refine is_fa ?_); (first | refine awpL_ev (ev_fa_fp rfl rfl rfl rfl rfl rfl) rfl ?_ | refine awpL_ev (ev_fa_lp rfl rfl rfl rfl rfl rfl rfl) rfl ?_ | refine awpL_ev (ev_fa_ep rfl rfl rfl rfl rfl rfl rfl) rfl ?_ | fail)) | ((with_reducible refine is_load ?_); (first | refine awpL_ev (ev_load_agg rfl rfl rfl rfl) rfl ?_ | refine awpL_ev (ev_load_sub rfl rfl rfl rfl rfl) rfl ?_ | refine awpL_ev (ev_load_one rfl rfl rfl rfl) rfl ?_ | refine awpL_ev (ev_ll_agg rfl rfl rfl rfl rfl rfl rfl) rfl ?_ | refine awpL_ev (ev_ll_lag rfl rfl rfl rfl rfl rfl) rfl ?_ | refine awpL_ev (ev_ll_one rfl rfl rfl rfl rfl) rfl ?_ | refine awpL_ev (ev_el_one rfl rfl rfl rfl (by with_reducible assumption) rfl) rfl ?_ | fail)) | ((with_reducible refine is_pick ?_); (first | refine awpL_ev (ev_pick_t rfl (by first | with_reducible rfl | with_reducible assumption) rfl) rfl ?_ | refine awpL_ev (ev_pick_f rfl (by first | with_reducible rfl | with_reducible assumption) rfl) rfl ?_ | fail)) | ((with_reducible refine is_assign ?_); (first | refine awpL_ev (ev_assign rfl) rfl ?_ | fail)) | ((with_reducible refine is_call ?_); (first | refine awpL_call rfl rfl (by assumption) rfl ?_ | refine awpL_ev (ev_len rfl rfl rfl rfl rfl) rfl ?_ | refine awpL_ev (ev_max rfl rfl) rfl ?_ | refine awpL_ev (ev_min rfl rfl) rfl ?_ | refine awpL_ev (ev_len_os rfl rfl rfl rfl rfl) rfl ?_ | refine awpL_ev2 (ev_append_zf rfl rfl rfl rfl rfl rfl rfl rfl rfl rfl rfl rfl rfl (by simp only [List.length_map, List.length_cons, List.length_nil]; omega) rfl) rfl ?_ | fail)) | ((with_reducible refine is_store ?_); (first | refine awpL_stMm m rfl rfl rfl rfl rfl rfl rfl rfl rfl (by (try simp only [cellsOf, List.map_cons, List.map_nil]); (try rfl)) (by (try simp only [List.set_cons_zero, List.set_cons_succ, List.nil_append, List.cons_append, List.append_nil, cellsOf, List.take_zero, List.drop_zero, List.take_succ_cons, List.drop_succ_cons, Nat.zero_add, Nat.reduceAdd, List.drop_nil, List.map_cons, List.map_nil]); (try rfl)) ?_ | refine awpL_evS (ev_st_lp rfl rfl rfl rfl rfl rfl rfl (by (try simp only [List.set_cons_zero, List.set_cons_succ, List.nil_append, List.cons_append, List.append_nil, cellsOf, List.take_zero, List.drop_zero, List.take_succ_cons, List.drop_succ_cons, Nat.zero_add, Nat.reduceAdd, List.drop_nil, List.map_cons, List.map_nil]); (try rfl))) ?_ | fail)) | ((with_reducible refine is_alloc ?_); (first | refine awpL_ev2 (ev_alloc rfl rfl (by (try simp only [List.length_nil, List.length_cons, Nat.reduceAdd]); (try rfl)) (by (try simp only [List.set_cons_zero, List.set_cons_succ, List.nil_append, List.cons_append, List.append_nil, cellsOf, List.take_zero, List.drop_zero, List.take_succ_cons, List.drop_succ_cons, Nat.zero_add, Nat.reduceAdd, List.drop_nil, List.map_cons, List.map_nil]); (try rfl))) rfl ?_ | fail)) | ((with_reducible refine is_box ?_); (first | refine awpL_boxMm m rfl rfl rfl rfl (by (try simp only [cellsOf, List.map_cons, List.map_nil]); (try rfl)) rfl ?_ | refine awpL_ev2 (ev_box rfl rfl (by (try simp only [List.length_nil, List.length_cons, Nat.reduceAdd]); (try rfl)) (by (try simp only [List.set_cons_zero, List.set_cons_succ, List.nil_append, List.cons_append, List.append_nil, cellsOf, List.take_zero, List.drop_zero, List.take_succ_cons, List.drop_succ_cons, Nat.zero_add, Nat.reduceAdd, List.drop_nil, List.map_cons, List.map_nil]); (try rfl))) rfl ?_ | fail)) | refine awpL_ev (ev_ia_fs rfl rfl rfl rfl rfl rfl (by with_reducible assumption)) rfl ?_ | refine awpL_ev (ev_not rfl) rfl ?_ | refine awpL_ev (ev_extract rfl rfl) rfl ?_ | refine awpL_ev (ev_index_str rfl rfl rfl rfl (by with_reducible assumption)) rfl ?_ | refine awpL_ev (ev_build rfl rfl rfl rfl rfl rfl rfl) rfl ?_ | refine awpL_ev (ev_slice_fs rfl rfl rfl rfl rfl rfl rfl (by with_reducible assumption) rfl rfl) rfl ?_ | refine awpL_ev (ev_makeFunc rfl rfl) rfl ?_ | refine awpL_ev (ev_nilCheck_fp rfl) rfl ?_ | refine awpL_ev (ev_index_arr rfl rfl rfl rfl rfl rfl rfl (by with_reducible assumption)) rfl ?_ | refine awpL_ev (ev_ia_os rfl rfl rfl rfl rfl rfl rfl (by with_reducible assumption)) rfl ?_ | refine awpL_ev (ev_build_lag rfl rfl rfl rfl rfl rfl) rfl ?_ | refine awpL_ev (ev_nilCheck_lp rfl rfl) rfl ?_ | refine awpL_ev2 (ev_bslice_z rfl rfl rfl rfl rfl rfl rfl) rfl ?_ | refine awpL_ev2 (ev_bslice_in rfl rfl rfl rfl rfl rfl rfl rfl rfl rfl rfl rfl (by (try simp only [List.map_cons, List.map_nil, cellsOf]); (try rfl))) rfl ?_))
     | ((with_reducible refine is_gd ?_); (first | refine awpL_run rfl rfl rfl (by first | with_reducible rfl | with_reducible assumption) ?_ | refine awpL_passT rfl rfl rfl rfl (by first | with_reducible rfl | with_reducible assumption) ?_ | refine awpL_passF rfl rfl rfl rfl (by first | with_reducible rfl | with_reducible assumption) ?_ | refine awpL_passU rfl rfl rfl rfl ?_ | fail))
     | ((with_reducible refine is_nil ?_); refine awpL_nil ?_)
     | ((with_reducible refine is_then ?_); (first | refine thenQ_n ?_ | refine thenQ_r ?_ | refine thenQ_e ?_ | fail))
     | ((with_reducible refine is_block ?_); (first | refine blockQ_n ?_ | refine blockQ_r ?_ | refine blockQ_e ?_ | refine blockQ_o rfl ?_ | fail))
     | ((with_reducible refine is_awp ?_); (first | refine awp_seq ?_ | refine awp_ret ?_ | refine awp_skip ?_ | refine awp_exit ?_ | refine awp_label ?_ | refine awp_block ?_ | refine awp_region ?_ | refine awp_cond_t rfl (by first | with_reducible rfl | with_reducible assumption) ?_ | refine awp_cond_f rfl (by first | with_reducible rfl | with_reducible assumption) ?_ | fail))
     | fail)
    exact k.out) : A := h (.of M) ⟨k⟩
end Go.Ac
end
section
set_option linter.unusedVariables false
set_option linter.unusedSimpArgs false
set_option linter.unusedSectionVars false
namespace Go.Proofs.YtekkpfbjnjjcbaaGreatDoor
structure Stamp where
  count : Int
  dev : Int
  deriving Inhabited, DecidableEq
structure Span where
  fro : Int
  til : Int
  deriving Inhabited, DecidableEq
structure Note where
  id : Int
  tier : Int
  parent : Int
  span : Span
  rank : Int
  text : ByteArray
  deriving Inhabited, DecidableEq
structure Op where
  at_ : Stamp
  kind : Int
  rec_ : Int
  note : Note
  set : Int
  n : Int
  text : ByteArray
  over : List Stamp
  deriving Inhabited, DecidableEq
structure Replica where
  dev : Int
  seen : List Int
  ops : List Op
  deriving Inhabited, DecidableEq
def right (s : Stamp) : Bool := decide (1 ≤ s.count) && decide (s.count ≤ 1048576) && decide (1 ≤ s.dev) && decide (s.dev ≤ 15)
def less (a b : Stamp) : Bool := decide (a.count < b.count) || (decide (a.count = b.count) && decide (a.dev < b.dev))
def idOf (s : Stamp) : Int := if right s then 16 * s.count + s.dev else 0
def stampOf (id : Int) : Stamp := ⟨id.tdiv 16, id.tmod 16⟩
def num (v : List Int) (i : Nat) : Int := max ((v[i]?).getD 0) 0
def covers (v : List Int) (s : Stamp) : Bool := right s && decide (s.count ≤ num v (s.dev - 1).toNat)
def join (a b : List Int) : List Int := (List.range 15).map fun i => max (num a i) (num b i)
def see (v : List Int) (s : Stamp) : List Int := if right s then (join v []).set (s.dev - 1).toNat (max (num v (s.dev - 1).toNat) s.count) else join v []
def cmp (a b : Int) : Int := if a < b then -1 else if b < a then 1 else 0
theorem join_len (a b : List Int) : (join a b).length = 15 := by simp [join]
theorem see_len (v : List Int) (s : Stamp) : (see v s).length = 15 := by unfold see; split <;> simp [join]
end Go.Proofs.YtekkpfbjnjjcbaaGreatDoor
end
section
set_option linter.unusedVariables false
set_option linter.unusedSimpArgs false
set_option linter.unusedSectionVars false
namespace Go.Proofs.YtekkpfbjnjjcbaaGreatDoor
def has (l : List Op) (o : Op) : Bool := l.any fun p => decide (p = o)
def clash (l : List Op) (o : Op) : Bool := l.any fun p => decide (p.at_ = o.at_) && !decide (p = o)
theorem has_iff {l : List Op} {o : Op} : has l o = true ↔ o ∈ l := by
  simp [has]
theorem has_false {l : List Op} {o : Op} : has l o = false ↔ o ∉ l := by
  rw [← has_iff]; simp
theorem clash_iff {l : List Op} {o : Op} : clash l o = true ↔ ∃ p ∈ l, p.at_ = o.at_ ∧ p ≠ o := by
  simp [clash]
theorem less_irr (a : Stamp) : less a a = false := by simp [less]
theorem less_trans {a b c : Stamp} (h : less a b = true) (g : less b c = true) : less a c = true := by
  simp [less] at *; omega
theorem less_asym {a b : Stamp} (h : less a b = true) : less b a = false := by
  simp [less] at *; omega
theorem less_tri (a b : Stamp) : less a b = true ∨ a = b ∨ less b a = true := by
  rcases a with ⟨a1, a2⟩
  rcases b with ⟨b1, b2⟩
  simp [less]; omega
theorem less_ne {a b : Stamp} (h : less a b = true) : a ≠ b := by
  rintro rfl; rw [less_irr] at h; cases h
theorem nless_iff {a b : Stamp} : less b a = false ↔ less a b = true ∨ a = b := by
  constructor
  · intro h
    rcases less_tri a b with g | g | g
    · exact .inl g
    · exact .inr g
    · rw [h] at g; cases g
  · rintro (h | rfl)
    · exact less_asym h
    · exact less_irr a
theorem le_less {a b c : Stamp} (h : less b a = false) (g : less b c = true) : less a c = true := by
  rcases nless_iff.1 h with h | rfl
  · exact less_trans h g
  · exact g
theorem less_le {a b c : Stamp} (h : less a b = true) (g : less c b = false) : less a c = true := by
  rcases nless_iff.1 g with g | rfl
  · exact less_trans h g
  · exact h
def Inc (l : List Op) : Prop := l.Pairwise fun a b => less a.at_ b.at_ = true
def Weak (l : List Op) : Prop := l.Pairwise fun a b => less b.at_ a.at_ = false
theorem Inc.uniq : ∀ {l : List Op}, Inc l → ∀ {a b : Op}, a ∈ l → b ∈ l → a.at_ = b.at_ → a = b
  | [], _, a, _, ha, _, _ => by cases ha
  | x :: r, h, a, b, ha, hb, e => by
    obtain ⟨h1, h2⟩ := List.pairwise_cons.1 h
    rcases List.mem_cons.1 ha with ea | ga
    · rcases List.mem_cons.1 hb with eb | gb
      · rw [ea, eb]
      · exact absurd (ea ▸ e) (less_ne (h1 _ gb))
    · rcases List.mem_cons.1 hb with eb | gb
      · exact absurd (eb ▸ e).symm (less_ne (h1 _ ga))
      · exact Inc.uniq h2 ga gb e
theorem Inc.ext : ∀ {l m : List Op}, Inc l → Inc m → (∀ o, o ∈ l ↔ o ∈ m) → l = m
  | [], [], _, _, _ => rfl
  | [], y :: s, _, _, h => by have := (h y).2 (List.mem_cons_self ..); cases this
  | x :: r, [], _, _, h => by have := (h x).1 (List.mem_cons_self ..); cases this
  | x :: r, y :: s, hl, hm, h => by
    obtain ⟨l1, l2⟩ := List.pairwise_cons.1 hl
    obtain ⟨m1, m2⟩ := List.pairwise_cons.1 hm
    have hxy : x = y := by
      rcases List.mem_cons.1 ((h x).1 (List.mem_cons_self ..)) with e | hx
      · exact e
      · rcases List.mem_cons.1 ((h y).2 (List.mem_cons_self ..)) with e | hy
        · exact e.symm
        · have := less_asym (l1 _ hy); rw [m1 _ hx] at this; cases this
    subst hxy
    have : r = s := by
      refine Inc.ext l2 m2 fun o => ⟨fun ho => ?_, fun ho => ?_⟩
      · rcases List.mem_cons.1 ((h o).1 (List.mem_cons_of_mem _ ho)) with e | g
        · subst e; exact absurd rfl (less_ne (l1 _ ho))
        · exact g
      · rcases List.mem_cons.1 ((h o).2 (List.mem_cons_of_mem _ ho)) with e | g
        · subst e; exact absurd rfl (less_ne (m1 _ ho))
        · exact g
    rw [this]
def U (p : Op → Prop) : Option (List Op) → Prop
  | none => ∃ a b, p a ∧ p b ∧ a.at_ = b.at_ ∧ a ≠ b
  | some m => Inc m ∧ ∀ o, o ∈ m ↔ p o
theorem U.uniq {p : Op → Prop} : ∀ {x y : Option (List Op)}, U p x → U p y → x = y
  | none, none, _, _ => rfl
  | some m, none, ⟨hi, hm⟩, ⟨a, b, ha, hb, e, hne⟩ => absurd (hi.uniq ((hm a).2 ha) ((hm b).2 hb) e) hne
  | none, some m, ⟨a, b, ha, hb, e, hne⟩, ⟨hi, hm⟩ => absurd (hi.uniq ((hm a).2 ha) ((hm b).2 hb) e) hne
  | some l, some m, ⟨h1, h2⟩, ⟨g1, g2⟩ => by rw [Inc.ext h1 g1 fun o => (h2 o).trans (g2 o).symm]
theorem U.congr {p q : Op → Prop} (h : ∀ o, p o ↔ q o) {x : Option (List Op)} (hx : U p x) : U q x := by
  have : p = q := funext fun o => propext (h o)
  rwa [← this]
def putIx (l : List Op) (o : Op) : Nat → Nat
  | 0 => 0
  | k + 1 => match l[k]? with
    | some x => if less o.at_ x.at_ then putIx l o k else k + 1
    | none => k + 1
def put (l : List Op) (o : Op) : List Op := l.take (putIx l o l.length) ++ [o] ++ l.drop (putIx l o l.length)
theorem putIx_le (l : List Op) (o : Op) : ∀ k, putIx l o k ≤ k
  | 0 => Nat.le_refl _
  | k + 1 => by
    rw [putIx]
    split
    · split
      · exact Nat.le_succ_of_le (putIx_le l o k)
      · exact Nat.le_refl _
    · exact Nat.le_refl _
theorem putIx_hi (l : List Op) (o : Op) : ∀ k, k ≤ l.length → ∀ j x, putIx l o k ≤ j → j < k → l[j]? = some x → less o.at_ x.at_ = true
  | 0, _, j, x, _, h, _ => by omega
  | k + 1, hk, j, x, h1, h2, hx => by
    rw [putIx] at h1
    split at h1
    · rename_i y hy
      split at h1
      · rename_i hl
        rcases Nat.lt_or_ge j k with h | h
        · exact putIx_hi l o k (by omega) j x h1 h hx
        · have : j = k := by omega
          subst this
          rw [hy] at hx; cases hx; exact hl
      · omega
    · rename_i hn
      rw [List.getElem?_eq_none_iff] at hn; omega
theorem putIx_lo (l : List Op) (o : Op) : ∀ k j x, putIx l o k = j + 1 → l[j]? = some x → less o.at_ x.at_ = false
  | 0, j, x, h, _ => by simp [putIx] at h
  | k + 1, j, x, h, hx => by
    rw [putIx] at h
    split at h
    · rename_i y hy
      split at h
      · exact putIx_lo l o k j x h hx
      · rename_i hl
        have : k = j := by omega
        subst this
        rw [hy] at hx; cases hx; simpa using hl
    · rename_i hn
      have : k = j := by omega
      subst this
      rw [hn] at hx; cases hx
theorem mem_put (l : List Op) (o p : Op) : p ∈ put l o ↔ p ∈ l ∨ p = o := by
  unfold put
  generalize putIx l o l.length = k
  constructor
  · intro h
    rcases List.mem_append.1 h with h | h
    · rcases List.mem_append.1 h with h | h
      · exact .inl (List.mem_of_mem_take h)
      · exact .inr (by simpa using h)
    · exact .inl (List.mem_of_mem_drop h)
  · rintro (h | rfl)
    · rw [← List.take_append_drop k l] at h
      rcases List.mem_append.1 h with h | h
      · exact List.mem_append_left _ (List.mem_append_left _ h)
      · exact List.mem_append_right _ h
    · simp
theorem put_length (l : List Op) (o : Op) : (put l o).length = l.length + 1 := by
  unfold put
  have := putIx_le l o l.length
  simp; omega
theorem Inc.put {l : List Op} (h : Inc l) {o : Op} (hn : ∀ p ∈ l, p.at_ ≠ o.at_) : Inc (put l o) := by
  have hle := putIx_le l o l.length
  have hhi := putIx_hi l o l.length (Nat.le_refl _)
  have hlo := putIx_lo l o l.length
  unfold Go.Proofs.YtekkpfbjnjjcbaaGreatDoor.put
  generalize putIx l o l.length = k at hle hhi hlo
  have hT : ∀ p ∈ l.take k, less p.at_ o.at_ = true := by
    intro p hp
    have hpl := List.mem_of_mem_take hp
    obtain ⟨j, hj⟩ := List.getElem?_of_mem hp
    rw [List.getElem?_take] at hj
    split at hj
    · rename_i hjk
      cases k with
      | zero => omega
      | succ k =>
        obtain ⟨x, hx⟩ : ∃ x, l[k]? = some x := ⟨_, List.getElem?_eq_getElem (by omega)⟩
        have h1 := hlo k x rfl hx
        have h2 : less x.at_ o.at_ = true := by
          rcases nless_iff.1 h1 with g | g
          · exact g
          · exact absurd g (hn x (List.mem_of_getElem? hx))
        rcases Nat.lt_or_ge j k with hlt | hge
        · exact less_trans ((List.pairwise_iff_getElem.1 h) j k (by omega) (by omega) hlt |> fun q => by
            rw [List.getElem?_eq_getElem (by omega)] at hj hx
            cases hj; cases hx; exact q) h2
        · have : j = k := by omega
          subst this
          rw [hx] at hj; cases hj; exact h2
    · cases hj
  have hD : ∀ p ∈ l.drop k, less o.at_ p.at_ = true := by
    intro p hp
    obtain ⟨j, hj⟩ := List.getElem?_of_mem hp
    rw [List.getElem?_drop] at hj
    have hlt : k + j < l.length := (List.getElem?_eq_some_iff.1 hj).1
    exact hhi (k + j) p (by omega) hlt hj
  have h' : Inc (l.take k ++ l.drop k) := by rw [List.take_append_drop]; exact h
  obtain ⟨a1, a2, a3⟩ := List.pairwise_append.1 h'
  refine List.pairwise_append.2 ⟨List.pairwise_append.2 ⟨a1, List.pairwise_singleton _ _, fun a ha b hb => ?_⟩, a2, fun a ha b hb => ?_⟩
  · simp only [List.mem_singleton] at hb; subst hb; exact hT a ha
  · rcases List.mem_append.1 ha with ha | ha
    · exact a3 a ha b hb
    · simp only [List.mem_singleton] at ha; subst ha; exact hD b hb
def unite : List Op → List Op → Option (List Op)
  | out, [] => some out
  | out, o :: r => if clash out o then none else if has out o then unite out r else unite (put out o) r
theorem unite_U : ∀ (l out : List Op), Inc out → U (fun o => o ∈ out ∨ o ∈ l) (unite out l)
  | [], out, h => by
    rw [unite]; exact ⟨h, fun o => by simp⟩
  | o :: r, out, h => by
    rw [unite]
    split
    · rename_i hc
      obtain ⟨p, hp, e, hne⟩ := clash_iff.1 hc
      exact ⟨p, o, .inl hp, .inr (List.mem_cons_self ..), e, hne⟩
    · rename_i hc
      split
      · rename_i hh
        have ho := has_iff.1 hh
        refine (unite_U r out h).congr fun q => ⟨?_, ?_⟩
        · rintro (g | g)
          · exact .inl g
          · exact .inr (List.mem_cons_of_mem _ g)
        · rintro (g | g)
          · exact .inl g
          · rcases List.mem_cons.1 g with rfl | g
            · exact .inl ho
            · exact .inr g
      · rename_i hh
        have ho := has_false.1 (by simpa using hh)
        have hi : Inc (put out o) := h.put fun p hp e => hc (clash_iff.2 ⟨p, hp, e, fun q => ho (q ▸ hp)⟩)
        refine (unite_U r _ hi).congr fun q => ⟨?_, ?_⟩
        · rintro (g | g)
          · rcases (mem_put out o q).1 g with g | rfl
            · exact .inl g
            · exact .inr (List.mem_cons_self ..)
          · exact .inr (List.mem_cons_of_mem _ g)
        · rintro (g | g)
          · exact .inl ((mem_put out o q).2 (.inl g))
          · rcases List.mem_cons.1 g with rfl | g
            · exact .inl ((mem_put out q q).2 (.inr rfl))
            · exact .inr g
theorem unite_len : ∀ (l out m : List Op), unite out l = some m → m.length ≤ out.length + l.length
  | [], out, m, h => by rw [unite] at h; cases h; simp
  | o :: r, out, m, h => by
    rw [unite] at h
    split at h
    · cases h
    · split at h
      · have := unite_len r out m h; simp; omega
      · have := unite_len r _ m h; rw [put_length] at this; simp; omega
def gather : List Op → List Op → Option (List Op)
  | out, [] => some out
  | out, o :: r => match out.getLast? with
    | some p => if p.at_ = o.at_ then (if p = o then gather out r else none) else gather (out ++ [o]) r
    | none => gather (out ++ [o]) r
theorem Inc.snoc {l : List Op} (h : Inc l) {o : Op} (hn : ∀ p ∈ l, less p.at_ o.at_ = true) : Inc (l ++ [o]) :=
  List.pairwise_append.2 ⟨h, List.pairwise_singleton _ _, fun a ha b hb => by simp only [List.mem_singleton] at hb; subst hb; exact hn a ha⟩
theorem Inc.last_le {l : List Op} (h : Inc l) {p : Op} (hp : l.getLast? = some p) : ∀ q ∈ l, less p.at_ q.at_ = false := by
  intro q hq
  have hne : l ≠ [] := by rintro rfl; cases hp
  have hs : l = l.dropLast ++ [p] := by
    have h1 := List.dropLast_concat_getLast hne
    rw [List.getLast?_eq_some_getLast hne] at hp
    cases hp; exact h1.symm
  rw [hs] at hq h
  obtain ⟨_, _, h3⟩ := List.pairwise_append.1 h
  rcases List.mem_append.1 hq with hq | hq
  · exact less_asym (h3 q hq p (List.mem_singleton_self _))
  · simp only [List.mem_singleton] at hq; subst hq; exact less_irr _
def both : List Op → List Op → List Op
  | [], b => b
  | x :: r, [] => x :: r
  | x :: r, y :: s => if less y.at_ x.at_ then y :: both (x :: r) s else x :: both r (y :: s)
termination_by a b => a.length + b.length
theorem both_nil (b : List Op) : both [] b = b := by rw [both]
theorem both_nil' (a : List Op) : both a [] = a := by cases a <;> rw [both]
theorem both_left {x y : Op} {r s : List Op} (h : less y.at_ x.at_ = false) : both (x :: r) (y :: s) = x :: both r (y :: s) := by rw [both, h]; simp
theorem both_right {x y : Op} {r s : List Op} (h : less y.at_ x.at_ = true) : both (x :: r) (y :: s) = y :: both (x :: r) s := by rw [both, h]; simp
theorem both_len : ∀ (a b : List Op), (both a b).length = a.length + b.length
  | [], b => by simp [both_nil]
  | x :: r, [] => by simp [both_nil']
  | x :: r, y :: s => by
    cases h : less y.at_ x.at_ with
    | true => rw [both_right h]; have := both_len (x :: r) s; simp at this ⊢; omega
    | false => rw [both_left h]; have := both_len r (y :: s); simp at this ⊢; omega
termination_by a b => a.length + b.length
theorem both_mem {o : Op} : ∀ (a b : List Op), o ∈ both a b ↔ o ∈ a ∨ o ∈ b
  | [], b => by rw [both_nil]; simp
  | x :: r, [] => by rw [both_nil']; simp
  | x :: r, y :: s => by
    cases hc : less y.at_ x.at_ with
    | true =>
      rw [both_right hc, List.mem_cons, both_mem (x :: r) s]
      simp only [List.mem_cons]
      constructor
      · rintro (h | (h | h) | h) <;> simp [h]
      · rintro ((h | h) | h | h) <;> simp [h]
    | false =>
      rw [both_left hc, List.mem_cons, both_mem r (y :: s)]
      simp only [List.mem_cons]
      constructor
      · rintro (h | h | h | h) <;> simp [h]
      · rintro ((h | h) | h | h) <;> simp [h]
termination_by a b => a.length + b.length
theorem both_weak : ∀ (a b : List Op), Weak a → Weak b → Weak (both a b)
  | [], b, _, h => by rw [both_nil]; exact h
  | x :: r, [], h, _ => by rw [both_nil']; exact h
  | x :: r, y :: s, ha, hb => by
    obtain ⟨a1, a2⟩ := List.pairwise_cons.1 ha
    obtain ⟨b1, b2⟩ := List.pairwise_cons.1 hb
    cases hc : less y.at_ x.at_ with
    | true =>
      rw [both_right hc]
      refine List.pairwise_cons.2 ⟨fun q hq => ?_, both_weak (x :: r) s ha b2⟩
      rcases (both_mem _ _).1 hq with h | h
      · rcases List.mem_cons.1 h with rfl | h
        · exact less_asym hc
        · exact less_asym (less_le hc (a1 q h))
      · exact b1 q h
    | false =>
      rw [both_left hc]
      refine List.pairwise_cons.2 ⟨fun q hq => ?_, both_weak r (y :: s) a2 hb⟩
      rcases (both_mem _ _).1 hq with h | h
      · exact a1 q h
      · rcases List.mem_cons.1 h with rfl | h
        · exact hc
        · rcases nless_iff.1 hc with g | g
          · exact less_asym (less_le g (b1 q h))
          · rw [g]; exact b1 q h
termination_by a b => a.length + b.length
def sorted (l : List Op) : List Op := if l.length < 2 then l else both (sorted (l.take (l.length / 2))) (sorted (l.drop (l.length / 2)))
termination_by l.length
decreasing_by
  · simp only [List.length_take]; omega
  · simp only [List.length_drop]; omega
theorem sorted_all : ∀ (n : Nat) (l : List Op), l.length ≤ n → (sorted l).length = l.length ∧ Weak (sorted l) ∧ ∀ o, o ∈ sorted l ↔ o ∈ l := by
  intro n
  induction n with
  | zero =>
    intro l h
    rw [sorted, if_pos (by omega)]
    have : l = [] := by cases l <;> simp_all
    subst this
    exact ⟨rfl, List.Pairwise.nil, fun _ => Iff.rfl⟩
  | succ n ih =>
    intro l h
    rw [sorted]
    split
    · rename_i hl
      refine ⟨rfl, ?_, fun _ => Iff.rfl⟩
      cases l with
      | nil => exact List.Pairwise.nil
      | cons x r =>
        cases r with
        | nil => exact List.pairwise_singleton _ _
        | cons y s => simp at hl; omega
    · have i1 := ih (l.take (l.length / 2)) (by rw [List.length_take]; omega)
      have i2 := ih (l.drop (l.length / 2)) (by rw [List.length_drop]; omega)
      refine ⟨?_, both_weak _ _ i1.2.1 i2.2.1, fun o => ?_⟩
      · rw [both_len, i1.1, i2.1, List.length_take, List.length_drop]; omega
      · rw [both_mem, i1.2.2, i2.2.2, ← List.mem_append, List.take_append_drop]
theorem sorted_len (l : List Op) : (sorted l).length = l.length := (sorted_all _ l (Nat.le_refl _)).1
theorem sorted_mem (l : List Op) (o : Op) : o ∈ sorted l ↔ o ∈ l := (sorted_all _ l (Nat.le_refl _)).2.2 o
theorem Inc.weak {l : List Op} (h : Inc l) : Weak l := h.imp fun g => less_asym g
end Go.Proofs.YtekkpfbjnjjcbaaGreatDoor
end
section
set_option linter.unusedVariables false
set_option linter.unusedSimpArgs false
set_option linter.unusedSectionVars false
namespace Go.Proofs.YtekkpfbjnjjcbaaGreatDoor
open Go.Ac
def td : TDs := [(2, ⟨.int .i64, 1, 8, [.int .i64 0]⟩),
  (3, ⟨.int .i64, 1, 8, [.int .i64 0]⟩),
  (4, ⟨.bool, 1, 1, [.bool false]⟩),
  (5, ⟨.int .u8, 1, 1, [.int .u8 0]⟩),
  (9, ⟨.str, 1, 16, [.string .empty]⟩),
  (12, ⟨.int .u64, 1, 8, [.int .u64 0]⟩),
  (20, ⟨.iface, 1, 16, [.nilIface]⟩),
  (21, ⟨.int .i32, 1, 4, [.int .i32 0]⟩),
  (22, ⟨.slice 3, 1, 24, [.slice none 0 0]⟩),
  (23, ⟨.slice 62, 1, 24, [.slice none 0 0]⟩),
  (24, ⟨.struct [(3, 0), (22, 1), (23, 2)], 3, 56, [.int .i64 0, .slice none 0 0, .slice none 0 0]⟩),
  (25, ⟨.struct [(3, 0), (22, 1), (23, 2)], 3, 56, [.int .i64 0, .slice none 0 0, .slice none 0 0]⟩),
  (28, ⟨.int .i64, 1, 8, [.int .i64 0]⟩),
  (30, ⟨.struct [(3, 0), (3, 1)], 2, 16, [.int .i64 0, .int .i64 0]⟩),
  (31, ⟨.struct [(3, 0), (3, 1)], 2, 16, [.int .i64 0, .int .i64 0]⟩),
  (32, ⟨.struct [(3, 0), (3, 1), (3, 2), (31, 3), (3, 5), (9, 6)], 7, 64, [.int .i64 0, .int .i64 0, .int .i64 0, .int .i64 0, .int .i64 0, .int .i64 0, .string .empty]⟩),
  (33, ⟨.struct [(3, 0), (3, 1), (3, 2), (31, 3), (3, 5), (9, 6)], 7, 64, [.int .i64 0, .int .i64 0, .int .i64 0, .int .i64 0, .int .i64 0, .int .i64 0, .string .empty]⟩),
  (34, ⟨.slice 59, 1, 24, [.slice none 0 0]⟩),
  (35, ⟨.struct [(3, 0), (33, 1), (34, 8), (34, 9), (34, 10)], 11, 144, [.int .i64 0, .int .i64 0, .int .i64 0, .int .i64 0, .int .i64 0, .int .i64 0, .int .i64 0, .string .empty, .slice none 0 0, .slice none 0 0, .slice none 0 0]⟩),
  (36, ⟨.struct [(3, 0), (33, 1), (34, 8), (34, 9), (34, 10)], 11, 144, [.int .i64 0, .int .i64 0, .int .i64 0, .int .i64 0, .int .i64 0, .int .i64 0, .int .i64 0, .string .empty, .slice none 0 0, .slice none 0 0, .slice none 0 0]⟩),
  (40, ⟨.slice 36, 1, 24, [.slice none 0 0]⟩),
  (49, ⟨.struct [(25, 0), (3, 3), (3, 4), (3, 5), (9, 6)], 7, 96, [.int .i64 0, .slice none 0 0, .slice none 0 0, .int .i64 0, .int .i64 0, .int .i64 0, .string .empty]⟩),
  (50, ⟨.struct [(25, 0), (3, 3), (3, 4), (3, 5), (9, 6)], 7, 96, [.int .i64 0, .slice none 0 0, .slice none 0 0, .int .i64 0, .int .i64 0, .int .i64 0, .string .empty]⟩),
  (56, ⟨.struct [(3, 0), (3, 1)], 2, 16, [.int .i64 0, .int .i64 0]⟩),
  (57, ⟨.struct [(3, 0), (3, 1)], 2, 16, [.int .i64 0, .int .i64 0]⟩),
  (58, ⟨.struct [(57, 0), (3, 2), (9, 3)], 4, 40, [.int .i64 0, .int .i64 0, .int .i64 0, .string .empty]⟩),
  (59, ⟨.struct [(57, 0), (3, 2), (9, 3)], 4, 40, [.int .i64 0, .int .i64 0, .int .i64 0, .string .empty]⟩),
  (60, ⟨.slice 57, 1, 24, [.slice none 0 0]⟩),
  (61, ⟨.struct [(57, 0), (3, 2), (3, 3), (33, 4), (3, 11), (3, 12), (9, 13), (60, 14)], 15, 152, [.int .i64 0, .int .i64 0, .int .i64 0, .int .i64 0, .int .i64 0, .int .i64 0, .int .i64 0, .int .i64 0, .int .i64 0, .int .i64 0, .string .empty, .int .i64 0, .int .i64 0, .string .empty, .slice none 0 0]⟩),
  (62, ⟨.struct [(57, 0), (3, 2), (3, 3), (33, 4), (3, 11), (3, 12), (9, 13), (60, 14)], 15, 152, [.int .i64 0, .int .i64 0, .int .i64 0, .int .i64 0, .int .i64 0, .int .i64 0, .int .i64 0, .int .i64 0, .int .i64 0, .int .i64 0, .string .empty, .int .i64 0, .int .i64 0, .string .empty, .slice none 0 0]⟩),
  (70, ⟨.map 3 3, 1, 8, [.map none]⟩),
  (71, ⟨.map 108 4, 1, 8, [.map none]⟩),
  (72, ⟨.struct [(70, 0), (71, 1), (57, 2)], 4, 32, [.map none, .map none, .int .i64 0, .int .i64 0]⟩),
  (73, ⟨.struct [(70, 0), (71, 1), (57, 2)], 4, 32, [.map none, .map none, .int .i64 0, .int .i64 0]⟩),
  (80, ⟨.map 57 4, 1, 8, [.map none]⟩),
  (82, ⟨.slice 34, 1, 24, [.slice none 0 0]⟩),
  (104, ⟨.ptr 73, 1, 8, [.pointer none]⟩),
  (106, ⟨.arr 3 3, 3, 24, [.int .i64 0, .int .i64 0, .int .i64 0]⟩),
  (107, ⟨.struct [(57, 0), (3, 2), (3, 3)], 4, 32, [.int .i64 0, .int .i64 0, .int .i64 0, .int .i64 0]⟩),
  (108, ⟨.struct [(57, 0), (3, 2), (3, 3)], 4, 32, [.int .i64 0, .int .i64 0, .int .i64 0, .int .i64 0]⟩),
  (111, ⟨.map 57 59, 1, 8, [.map none]⟩),
  (129, ⟨.int .u64, 1, 8, [.int .u64 0]⟩),
  (132, ⟨.slice 28, 1, 24, [.slice none 0 0]⟩),
  (137, ⟨.int .i64, 1, 8, [.int .i64 0]⟩),
  (144, ⟨.int .u32, 1, 4, [.int .u32 0]⟩),
  (146, ⟨.int .u64, 1, 8, [.int .u64 0]⟩),
  (154, ⟨.int .u64, 1, 8, [.int .u64 0]⟩),
  (158, ⟨.ptr 3, 1, 8, [.pointer none]⟩),
  (168, ⟨.ptr 154, 1, 8, [.pointer none]⟩),
  (173, ⟨.struct [(5, 0), (5, 1)], 2, 2, [.int .u8 0, .int .u8 0]⟩),
  (174, ⟨.struct [(5, 0), (5, 1)], 2, 2, [.int .u8 0, .int .u8 0]⟩),
  (175, ⟨.arr 16 174, 32, 32, [.int .u8 0, .int .u8 0, .int .u8 0, .int .u8 0, .int .u8 0, .int .u8 0, .int .u8 0, .int .u8 0, .int .u8 0, .int .u8 0, .int .u8 0, .int .u8 0, .int .u8 0, .int .u8 0, .int .u8 0, .int .u8 0, .int .u8 0, .int .u8 0, .int .u8 0, .int .u8 0, .int .u8 0, .int .u8 0, .int .u8 0, .int .u8 0, .int .u8 0, .int .u8 0, .int .u8 0, .int .u8 0, .int .u8 0, .int .u8 0, .int .u8 0, .int .u8 0]⟩),
  (178, ⟨.slice 5, 1, 24, [.slice none 0 0]⟩),
  (189, ⟨.ptr 5, 1, 8, [.pointer none]⟩)]
theorem td_eq : tdsOf Tryz.prog [2, 3, 4, 5, 9, 12, 20, 21, 22, 23, 24, 25, 28, 30, 31, 32, 33, 34, 35, 36, 40, 49, 50, 56, 57, 58, 59, 60, 61, 62, 70, 71, 72, 73, 80, 82, 104, 106, 107, 108, 111, 129, 132, 137, 144, 146, 154, 158, 168, 173, 174, 175, 178, 189] = td := by kernel_rfl
instance tok : TOK Tryz.prog td := TOK.mk' [2, 3, 4, 5, 9, 12, 20, 21, 22, 23, 24, 25, 28, 30, 31, 32, 33, 34, 35, 36, 40, 49, 50, 56, 57, 58, 59, 60, 61, 62, 70, 71, 72, 73, 80, 82, 104, 106, 107, 108, 111, 129, 132, 137, 144, 146, 154, 158, 168, 173, 174, 175, 178, 189] td_eq
def stampC (s : Stamp) : List AV := [.v (.int .i64 s.count), .v (.int .i64 s.dev)]
def noteC (n : Note) : List AV := [.v (.int .i64 n.id), .v (.int .i64 n.tier), .v (.int .i64 n.parent), .v (.int .i64 n.span.fro), .v (.int .i64 n.span.til), .v (.int .i64 n.rank), .v (.string n.text)]
abbrev encStamps (l : List Stamp) : AV := .fs 2 l.length (l.map stampC)
def opC (o : Op) : List AV := [.v (.int .i64 o.at_.count), .v (.int .i64 o.at_.dev), .v (.int .i64 o.kind), .v (.int .i64 o.rec_),
  .v (.int .i64 o.note.id), .v (.int .i64 o.note.tier), .v (.int .i64 o.note.parent), .v (.int .i64 o.note.span.fro), .v (.int .i64 o.note.span.til), .v (.int .i64 o.note.rank), .v (.string o.note.text),
  .v (.int .i64 o.set), .v (.int .i64 o.n), .v (.string o.text), encStamps o.over]
def intC (n : Int) : List AV := [.v (.int .i64 n)]
abbrev encIs (l : List Int) : AV := .fs 1 l.length (l.map intC)
abbrev encOps (l : List Op) : AV := .fs 15 l.length (l.map opC)
def repC (r : Replica) : List AV := [.v (.int .i64 r.dev), encIs r.seen, encOps r.ops]
theorem stamp_get {l : List Stamp} {k : Nat} {t : Stamp} (h : l[k]? = some t) : 0 ≤ (k : Int) ∧ (l.map stampC)[(k : Int).toNat]? = some (stampC t) := ⟨by omega, by simp [h]⟩
theorem op_get {l : List Op} {k : Nat} {t : Op} (h : l[k]? = some t) : 0 ≤ (k : Int) ∧ (l.map opC)[(k : Int).toNat]? = some (opC t) := ⟨by omega, by simp [h]⟩
theorem int_get {l : List Int} {k : Nat} {t : Int} (h : l[k]? = some t) : 0 ≤ (k : Int) ∧ (l.map intC)[(k : Int).toNat]? = some (intC t) := ⟨by omega, by simp [h]⟩
end Go.Proofs.YtekkpfbjnjjcbaaGreatDoor
end
section
set_option linter.unusedVariables false
set_option linter.unusedSimpArgs false
set_option linter.unusedSectionVars false
namespace Go.Proofs.YtekkpfbjnjjcbaaGreatDoor
open Go.Ac
attribute [local irreducible] awp awpL Ev Ev2 EvS thenQ blockQ retQ PCalls OCalls
set_option linter.unusedSimpArgs false
set_option linter.unusedVariables false
variable {g : List (Nat × List AV)}
def stampEq : List Value → List Value → Option Bool
  | [.int .i64 a, .int .i64 b], [.int .i64 a', .int .i64 b'] => some (a == a' && b == b')
  | _, _ => none
theorem stampEq_T : EqT Tryz.prog 57 stampEq := by
  intro xs ys b w h
  unfold stampEq at h
  split at h
  · rename_i a b a' b'
    have h := Option.some.inj h
    subst h
    have u3 := Tryz.underlying3
    have a3 := Tryz.isAgg3
    have z3 := Tryz.sizeOf3
    have hS : Tryz.prog.underlying 57 = some (.struct (Tryz.prog.fieldsOf 57)) := by kernel_rfl
    rw [show (10000 : Nat) = 9999 + 1 from rfl, run_equalIn_agg w 9999 _ _ _ hS (by kernel_rfl)]
    simp only [Program.fieldsOf, Tryz.underlying57]
    go_simp
    by_cases h1 : a = a' <;> by_cases h2 : b = b' <;> simp [h1, h2]
  · cases h
theorem isNaN_spec (a : Int) : PCalls Tryz.prog g 110 [vi a] (vb false) := by
  refine pcalls' Tryz.func110 Tryz.ntmps110 rfl rfl rfl ?_
  refine runn [] ?_
  all_goals refine retP rfl ?_
  all_goals simp [ex]
theorem cmp_spec (a b : Int) : PCalls Tryz.prog g 95 [vi a, vi b] (vi (cmp a b)) := by
  have h1 := isNaN_spec (g := g) a
  have h2 := isNaN_spec (g := g) b
  refine pcalls' Tryz.func95 Tryz.ntmps95 rfl rfl rfl ?_
  repeat' (first
   | refine stn [] ?_
   | ((with_reducible refine is_awp ?_); refine awp_cond rfl (fun h => ?_) (fun h => ?_))
   | fail)
  all_goals refine retP rfl ?_
  all_goals clear h1 h2
  all_goals simp_all [ex, cmp]
  all_goals first | omega | (intros; omega) | ((repeat' split) <;> omega)
set_option maxHeartbeats 400000 in
theorem or_spec (l : List Int) (hl : l.length ≤ 1000000) : PCalls Tryz.prog g 94 [encIs l] (vi ((l.find? (fun x => decide (x ≠ 0))).getD 0)) := by
  refine pcalls' Tryz.func94 Tryz.ntmps94 rfl rfl rfl ?_
  repeat' (first
   | refine stn [] ?_
   | ((with_reducible refine is_awp ?_); refine awp_cond rfl (fun h => ?_) (fun h => ?_))
   | fail)
  refine awp_for (α := Nat) 0 (fun k => [(6, encIs l), (7, vi l.length), (8, vi k), (3, vi 0)]) (fun _ => []) (fun k => k ≤ l.length ∧ l.find? (fun x => decide (x ≠ 0)) = (l.drop k).find? (fun x => decide (x ≠ 0))) (fun k => l.length - k) 0
    ⟨(.cons rfl rfl (.cons rfl rfl (.cons rfl rfl (.cons rfl rfl .nil)))), rfl, rfl, rfl⟩ ⟨Nat.zero_le _, rfl⟩ ?_
  rintro k ⟨hk, hf⟩
  cases ht : l[k]? with
  | none =>
    have hge : l.length ≤ k := by simpa using ht
    have c1 : decide ((k : Int) < l.length) = false := by simp; omega
    rw [List.drop_of_length_le hge] at hf
    refine runn [] ?_
    refine retP rfl ?_
    rw [hf]; rfl
  | some t =>
    have hlt : k < l.length := (List.getElem?_eq_some_iff.1 ht).1
    have c1 : decide ((k : Int) < l.length) = true := by simp; omega
    have h1 := int_get ht
    have hd : l.drop k = t :: l.drop (k + 1) := by
      obtain ⟨_, rfl⟩ := List.getElem?_eq_some_iff.1 ht
      exact List.drop_eq_getElem_cons hlt
    rw [hd] at hf
    repeat' (first
     | refine stn [] ?_
     | ((with_reducible refine is_awp ?_); refine awp_cond rfl (fun h => ?_) (fun h => ?_))
     | fail)
    · refine retP rfl ?_
      rw [hf]
      have : t ≠ 0 := by simpa using h
      simp [this, ex]
    · refine ⟨k + 1, ⟨(.cons rfl rfl (.cons rfl rfl (.cons rfl rfl (.cons rfl rfl .nil)))), rfl, rfl, rfl⟩, ⟨by omega, ?_⟩, by omega⟩
      rw [hf]
      have : t = 0 := by simpa using h
      simp [this]
theorem Right_spec (s : Stamp) : PCalls Tryz.prog g 66 [.agg (stampC s)] (vb (right s)) := by
  refine pcalls' Tryz.func66 Tryz.ntmps66 rfl rfl rfl ?_
  repeat' (first
   | refine stn [] ?_
   | ((with_reducible refine is_gd ?_); refine awpL_split rfl rfl (fun h => ?_) (fun h => ?_))
   | fail)
  all_goals refine retP rfl ?_
  all_goals simp_all [ex, right]
  all_goals first | omega | (intros; omega) | ((repeat' split) <;> omega)
theorem rRight_spec (s : Stamp) : PCalls Tryz.prog g 82 [.agg (stampC s)] (vb (right s)) := by
  refine pcalls' Tryz.func82 Tryz.ntmps82 rfl rfl rfl ?_
  repeat' (first
   | refine stn [] ?_
   | ((with_reducible refine is_gd ?_); refine awpL_split rfl rfl (fun h => ?_) (fun h => ?_))
   | fail)
  all_goals refine retP rfl ?_
  all_goals simp_all [ex, right]
  all_goals first | omega | (intros; omega) | ((repeat' split) <;> omega)
theorem cmp_lt {a b : Int} (h : a < b) : cmp a b = -1 := by simp [cmp, h]
theorem cmp_gt {a b : Int} (h : b < a) : cmp a b = 1 := by
  have : ¬ a < b := by omega
  simp [cmp, h, this]
theorem cmp_eq (a : Int) : cmp a a = 0 := by simp [cmp]
theorem less_cmp (a b : Stamp) : decide ((([cmp a.count b.count, cmp a.dev b.dev].find? (fun x => decide (x ≠ 0))).getD 0) < 0) = less a b := by
  unfold less
  rcases Int.lt_trichotomy a.count b.count with h1 | h1 | h1
  · simp [cmp_lt h1, h1]
  · rw [h1, cmp_eq]
    rcases Int.lt_trichotomy a.dev b.dev with h2 | h2 | h2
    · simp [cmp_lt h2, h2]
    · rw [h2, cmp_eq]; simp
    · have : ¬ a.dev < b.dev := by omega
      simp [cmp_gt h2, this]
  · have : ¬ a.count < b.count := by omega
    have h3 : a.count ≠ b.count := by omega
    simp [cmp_gt h1, this, h3]
theorem less_self {a b : Stamp} (h : (a.count == b.count && a.dev == b.dev) = true) : less a b = false := by
  simp at h
  simp [less, h.1, h.2]
set_option maxHeartbeats 400000 in
theorem Less_spec (a b : Stamp) : PCalls Tryz.prog g 71 [.agg (stampC a), .agg (stampC b)] (vb (less a b)) := by
  have h1 := cmp_spec (g := g) a.count b.count
  have h2 := cmp_spec (g := g) a.dev b.dev
  have h3 := or_spec (g := g) [cmp a.count b.count, cmp a.dev b.dev] (by simp)
  refine pcalls' Tryz.func71 Tryz.ntmps71 rfl rfl rfl ?_
  repeat' (first
   | ((with_reducible refine isD_un ?_); refine awpD_un (as_ev (fun _ => ev_eq_agg (neg := true) stampEq_T (by kernel_rfl) rfl rfl rfl rfl rfl) rfl rfl) (by (try simp only [List.nil_append, List.cons_append]); (try rfl)) ?_)
   | ((with_reducible refine isD_gd ?_); refine awpD_gd rfl rfl (by first | with_reducible rfl | with_reducible assumption) (as_ev (fun _ => ev_eq_agg (neg := true) stampEq_T (by kernel_rfl) rfl rfl rfl rfl rfl) rfl rfl) (by (try simp only [List.nil_append, List.cons_append]); (try rfl)) ?_)
   | refine st [] ?_
   | ((with_reducible refine isD_gd ?_); ((fail_if_success (refine isD_kn (c := true) rfl (by first | with_reducible rfl | with_reducible assumption) ?_)); (fail_if_success (refine isD_kn (c := false) rfl (by first | with_reducible rfl | with_reducible assumption) ?_)); refine awpD_split rfl (fun h => ?_) (fun h => ?_)))
   | fail)
  · refine retP rfl ?_
    show vb _ = vb _
    congr 2
    exact less_cmp a b
  · refine retP rfl ?_
    rw [less_self (by simpa using h)]
    rfl
theorem rLess_spec (a b : Stamp) : PCalls Tryz.prog g 32 [.agg (stampC a), .agg (stampC b)] (vb (less a b)) := by
  refine pcalls' Tryz.func32 Tryz.ntmps32 rfl rfl rfl ?_
  repeat' (first
   | refine stn [] ?_
   | ((with_reducible refine is_gd ?_); refine awpL_split rfl rfl (fun h => ?_) (fun h => ?_))
   | fail)
  all_goals refine retP rfl ?_
  all_goals simp_all [ex, less]
  all_goals first | omega | (intros; omega) | ((repeat' split) <;> omega)
theorem Id_spec (s : Stamp) : PCalls Tryz.prog g 53 [.agg (stampC s)] (vi (idOf s)) := by
  have h1 := Right_spec (g := g) s
  refine pcalls' Tryz.func53 Tryz.ntmps53 rfl rfl rfl ?_
  cases hr : right s with
  | false =>
    rw [hr] at h1
    have n1 : (!false) = true := rfl
    refine runn [] ?_
    all_goals refine retP rfl ?_
    all_goals simp [ex, idOf, hr]
  | true =>
    rw [hr] at h1
    have n1 : (!true) = false := rfl
    have hb : -9223372036854775808 ≤ 16 * s.count ∧ 16 * s.count ≤ 9223372036854775807 := by
      simp [right] at hr; omega
    have hb2 : -9223372036854775808 ≤ 16 * s.count + s.dev ∧ 16 * s.count + s.dev ≤ 9223372036854775807 := by
      simp [right] at hr; omega
    repeat' (first
     | ((with_reducible refine is_un ?_); refine awpL_ev (ev_mul rfl rfl hb) rfl ?_)
     | refine stn [] ?_
     | fail)
    all_goals refine retP rfl ?_
    all_goals simp [ex, idOf, hr]
theorem rId_spec (s : Stamp) : PCalls Tryz.prog g 56 [.agg (stampC s)] (vi (idOf s)) := by
  have h1 := rRight_spec (g := g) s
  refine pcalls' Tryz.func56 Tryz.ntmps56 rfl rfl rfl ?_
  cases hr : right s with
  | false =>
    rw [hr] at h1
    have n1 : (!false) = true := rfl
    refine runn [] ?_
    all_goals refine retP rfl ?_
    all_goals simp [ex, idOf, hr]
  | true =>
    rw [hr] at h1
    have n1 : (!true) = false := rfl
    have hb : -9223372036854775808 ≤ 16 * s.count ∧ 16 * s.count ≤ 9223372036854775807 := by
      simp [right] at hr; omega
    have hb2 : -9223372036854775808 ≤ 16 * s.count + s.dev ∧ 16 * s.count + s.dev ≤ 9223372036854775807 := by
      simp [right] at hr; omega
    repeat' (first
     | ((with_reducible refine is_un ?_); refine awpL_ev (ev_mul rfl rfl hb) rfl ?_)
     | refine stn [] ?_
     | fail)
    all_goals refine retP rfl ?_
    all_goals simp [ex, idOf, hr]
end Go.Proofs.YtekkpfbjnjjcbaaGreatDoor
end
section
set_option linter.unusedVariables false
set_option linter.unusedSimpArgs false
set_option linter.unusedSectionVars false
namespace Go.Proofs.YtekkpfbjnjjcbaaGreatDoor
open Go.Ac
attribute [local irreducible] awp awpL Ev Ev2 EvS thenQ blockQ retQ PCalls OCalls
set_option linter.unusedSimpArgs false
set_option linter.unusedVariables false
variable {g : List (Nat × List AV)}
abbrev ofR (id : Int) : AV := .tup [.agg (stampC (if right (stampOf id) then stampOf id else ⟨0, 0⟩)), vb (right (stampOf id))]
theorem Of_spec (id : Int) (hid : -9223372036854775808 ≤ id ∧ id ≤ 9223372036854775807) : PCalls Tryz.prog g 109 [vi id] (ofR id) := by
  have h1 := Right_spec (g := g) (stampOf id)
  have hq : (0 : Int) < 16 ∧ -9223372036854775808 ≤ id ∧ id ≤ 9223372036854775807 := ⟨by omega, hid⟩
  have hr : (0 : Int) < 16 := by omega
  refine pcalls' Tryz.func109 Tryz.ntmps109 rfl rfl rfl ?_
  cases hc : right (stampOf id) with
  | false =>
    rw [hc] at h1
    have n1 : (!false) = true := rfl
    repeat' (first
     | ((with_reducible refine is_un ?_); (first | refine awpL_ev (ev_tdiv rfl rfl hq) rfl ?_ | refine awpL_ev (ev_tmod rfl rfl hr) rfl ?_))
     | refine stn [2] ?_
     | fail)
    refine retP rfl ?_
    simp [ex, exL, ofR, hc, stampC]
  | true =>
    rw [hc] at h1
    have n1 : (!true) = false := rfl
    repeat' (first
     | ((with_reducible refine is_un ?_); (first | refine awpL_ev (ev_tdiv rfl rfl hq) rfl ?_ | refine awpL_ev (ev_tmod rfl rfl hr) rfl ?_))
     | refine stn [2] ?_
     | fail)
    refine retP rfl ?_
    rw [ofR, hc, if_pos rfl]
    simp [ex, exL, stampC, stampOf]
theorem rOf_spec (id : Int) (hid : -9223372036854775808 ≤ id ∧ id ≤ 9223372036854775807) : PCalls Tryz.prog g 111 [vi id] (ofR id) := by
  have h1 := rRight_spec (g := g) (stampOf id)
  have hq : (0 : Int) < 16 ∧ -9223372036854775808 ≤ id ∧ id ≤ 9223372036854775807 := ⟨by omega, hid⟩
  have hr : (0 : Int) < 16 := by omega
  refine pcalls' Tryz.func111 Tryz.ntmps111 rfl rfl rfl ?_
  cases hc : right (stampOf id) with
  | false =>
    rw [hc] at h1
    have n1 : (!false) = true := rfl
    repeat' (first
     | ((with_reducible refine is_un ?_); (first | refine awpL_ev (ev_tdiv rfl rfl hq) rfl ?_ | refine awpL_ev (ev_tmod rfl rfl hr) rfl ?_))
     | refine stn [2] ?_
     | fail)
    refine retP rfl ?_
    simp [ex, exL, ofR, hc, stampC]
  | true =>
    rw [hc] at h1
    have n1 : (!true) = false := rfl
    repeat' (first
     | ((with_reducible refine is_un ?_); (first | refine awpL_ev (ev_tdiv rfl rfl hq) rfl ?_ | refine awpL_ev (ev_tmod rfl rfl hr) rfl ?_))
     | refine stn [2] ?_
     | fail)
    refine retP rfl ?_
    rw [ofR, hc, if_pos rfl]
    simp [ex, exL, stampC, stampOf]
theorem number_spec (v : List Int) (i : Nat) (hv : v.length ≤ 1000000) : PCalls Tryz.prog g 69 [encIs v, vi i] (vi (num v i)) := by
  refine pcalls' Tryz.func69 Tryz.ntmps69 rfl rfl rfl ?_
  cases ht : v[i]? with
  | none =>
    have hge : v.length ≤ i := by simpa using ht
    have c1 : decide ((v.length : Int) ≤ i) = true := by simp; omega
    refine runn [] ?_
    refine retP rfl ?_
    simp [ex, num, ht]
  | some t =>
    have hlt : i < v.length := (List.getElem?_eq_some_iff.1 ht).1
    have c1 : decide ((v.length : Int) ≤ i) = false := by simp; omega
    have h1 := int_get ht
    refine runn [] ?_
    refine retP rfl ?_
    simp [ex, num, ht]
def rnum (v : List Int) (d : Int) : Int := if 1 ≤ d ∧ d ≤ 15 then num v (d - 1).toNat else 0
theorem At_spec (v : List Int) (d : Int) (hv : v.length ≤ 1000000) : PCalls Tryz.prog g 65 [encIs v, vi d] (vi (rnum v d)) := by
  refine pcalls' Tryz.func65 Tryz.ntmps65 rfl rfl rfl ?_
  by_cases h1 : d < 1
  · have c1 : decide (d < 1) = true := by simpa using h1
    refine runn [] ?_
    refine retP rfl ?_
    have : ¬ (1 ≤ d ∧ d ≤ 15) := by omega
    simp [ex, rnum, this]
  have c1 : decide (d < 1) = false := by simpa using h1
  by_cases h2 : 15 < d
  · have c2 : decide (15 < d) = true := by simpa using h2
    refine runn [] ?_
    refine retP rfl ?_
    have : ¬ (1 ≤ d ∧ d ≤ 15) := by omega
    simp [ex, rnum, this]
  have c2 : decide (15 < d) = false := by simpa using h2
  have hd : 1 ≤ d ∧ d ≤ 15 := by omega
  cases ht : v[(d - 1).toNat]? with
  | none =>
    have hge : v.length ≤ (d - 1).toNat := by simpa using ht
    have c3 : decide ((v.length : Int) < d) = true := by simp; omega
    refine runn [] ?_
    refine retP rfl ?_
    rw [rnum, if_pos hd, num, ht]
    simp [ex]
  | some t =>
    have hlt : (d - 1).toNat < v.length := (List.getElem?_eq_some_iff.1 ht).1
    have c3 : decide ((v.length : Int) < d) = false := by simp; omega
    have h1 : 0 ≤ d - 1 ∧ (v.map intC)[(d - 1).toNat]? = some (intC t) := ⟨by omega, by rw [List.getElem?_map, ht]; rfl⟩
    refine runn [] ?_
    refine retP rfl ?_
    rw [rnum, if_pos hd, num, ht]
    simp [ex, Int.max_comm]
theorem right_dev {s : Stamp} (h : right s = true) : 1 ≤ s.dev ∧ s.dev ≤ 15 ∧ 1 ≤ s.count ∧ s.count ≤ 1048576 := by simp [right] at h; omega
theorem rCovers_spec (v : List Int) (s : Stamp) (hv : v.length ≤ 1000000) : PCalls Tryz.prog g 64 [encIs v, .agg (stampC s)] (vb (covers v s)) := by
  have h1 := rRight_spec (g := g) s
  refine pcalls' Tryz.func64 Tryz.ntmps64 rfl rfl rfl ?_
  cases hr : right s with
  | false =>
    rw [hr] at h1
    refine run [] ?_
    refine retP rfl ?_
    simp [ex, covers, hr]
  | true =>
    rw [hr] at h1
    have hd := right_dev hr
    have h2 := At_spec (g := g) v s.dev hv
    rw [rnum, if_pos ⟨hd.1, hd.2.1⟩] at h2
    refine run [] ?_
    refine retP rfl ?_
    simp [ex, covers, hr]
end Go.Proofs.YtekkpfbjnjjcbaaGreatDoor
end
section
set_option linter.unusedVariables false
set_option linter.unusedSimpArgs false
set_option linter.unusedSectionVars false
namespace Go.Proofs.YtekkpfbjnjjcbaaGreatDoor
theorem emptyB : (ByteArray.mk #[]) = ByteArray.empty := rfl
def spanRight (s : Span) : Bool := decide (0 ≤ s.fro) && decide (s.fro < s.til) && decide (s.til ≤ 86400000)
def within (n lo hi : Int) : Bool := decide (lo ≤ n) && decide (n ≤ hi)
def firstE (l : List Int) : Int := (l.find? (fun x => decide (x ≠ 0))).getD 0
def wanted (b : Bool) : Int := if b then 0 else 1
def lowB (s : ByteArray) : Bool := s.data.toList.any fun b => decide (b.toNat < 32) || decide (b.toNat = 127)
def textE (s : ByteArray) : Int := if 200 < s.size then 5 else if Go.Lib.validD s.data.toList = false then 3 else if lowB s then 3 else 0
def noteOk (n : Note) : Bool := within n.tier 0 11 && within n.parent 0 1099511627776 && within n.rank 0 300
def addedE (o : Op) : Int :=
  if o.note.id ≠ idOf o.at_ then 1 else if noteOk o.note = false then 2
  else if o.note.span ≠ ⟨0, 0⟩ ∧ spanRight o.note.span = false then 12 else textE o.note.text
def bareNote (id : Int) : Note := ⟨id, 0, 0, ⟨0, 0⟩, 0, .empty⟩
def namedE (o : Op) : Int :=
  if right (stampOf o.note.id) = false ∨ less (stampOf o.note.id) o.at_ = false ∨ o.note ≠ bareNote o.note.id then 1 else 0
def plainE (o : Op) : Int := wanted (decide (o.set = 0) && (decide (o.n = 0) && decide (o.text = .empty)))
def setE (o : Op) : Int :=
  if o.set = 0 then (if o.n ≠ 0 then 1 else textE o.text)
  else if o.set = 1 ∨ o.set = 2 then (if within o.n 0 86400000 = false then 2 else if o.text ≠ .empty then 1 else 0)
  else 14
def overK (at_ : Stamp) : Option Stamp → List Stamp → Int
  | _, [] => 0
  | p, s :: r => if right s = false ∨ less s at_ = false then 27 else
    match p with
    | some q => if less q s = false then 10 else overK at_ (some s) r
    | none => overK at_ (some s) r
def overE (o : Op) : Int := if o.over.length = 0 then 4 else if 16 < o.over.length then 11 else overK o.at_ none o.over
def opE (o : Op) : Int :=
  if right o.at_ = false then 27
  else if o.kind = 0 then (if within o.rec_ 1 1099511627776 = false then 2 else firstE [addedE o, plainE o, wanted (decide (o.over.length = 0))])
  else if o.kind = 1 then (if within o.rec_ 1 1099511627776 = false then 2 else firstE [namedE o, setE o, overE o])
  else if o.kind = 2 then (if within o.rec_ 1 1099511627776 = false then 2 else firstE [namedE o, plainE o, overE o])
  else 14
def wrt (o : Op) (f : Int) : Bool := within f 0 2 && (decide (o.kind = 0) || decide (o.kind = 1) && decide (o.set = f))
def writes (o : Op) (note f : Int) : Bool := decide (o.note.id = note) && wrt o f
def addedO (l : List Op) (note : Int) : Option Op := l.find? fun o => decide (o.kind = 0) && decide (o.note.id = note)
def writer (l : List Op) (s : Stamp) (note f : Int) : Bool := l.any fun o => decide (o.at_ = s) && writes o note f
def overOk (pre : List Op) (o : Op) (s : Stamp) : Bool := ([0, 1, 2] : List Int).any fun f => (decide (o.kind = 2) || decide (f = o.set)) && writer pre s o.note.id f
def oneE (pre : List Op) (o : Op) : Int :=
  if opE o ≠ 0 then opE o
  else if (match pre.getLast? with | some p => less p.at_ o.at_ | none => true) = false then 10
  else if o.kind = 0 then 0
  else if (match addedO pre o.note.id with | some a => decide (a.rec_ = o.rec_) | none => false) = false then 9
  else if o.over.all (overOk pre o) = false then 27
  else 0
def allE : List Op → List Op → Int
  | _, [] => 0
  | pre, o :: r => if oneE pre o ≠ 0 then oneE pre o else allE (pre ++ [o]) r
def seenL (l : List Op) : List Int := l.foldl (fun v o => see v o.at_) (join [] [])
def repE (r : Replica) : Int :=
  if within r.dev 1 15 = false then 1 else if 400 < r.ops.length then 11
  else if allE [] r.ops ≠ 0 then allE [] r.ops else if r.seen ≠ seenL r.ops then 1 else 0
theorem allE_split : ∀ (l pre : List Op), allE pre l = 0 → ∀ k o, l[k]? = some o → oneE (pre ++ l.take k) o = 0
  | [], _, _, k, o, h => by cases h
  | x :: r, pre, h, k, o, hk => by
    rw [allE] at h
    split at h
    · rename_i h1; exact absurd h h1
    · rename_i h1
      cases k with
      | zero => simp at hk; subst hk; simp at h1; simpa using h1
      | succ k =>
        have := allE_split r (pre ++ [x]) h k o (by simpa using hk)
        simpa using this
theorem oneE_opE {pre : List Op} {o : Op} (h : oneE pre o = 0) : opE o = 0 := by
  unfold oneE at h
  split at h
  · rename_i h1; exact absurd h h1
  · rename_i h1; simpa using h1
theorem opE_right {o : Op} (h : opE o = 0) : right o.at_ = true := by
  unfold opE at h
  split at h
  · omega
  · rename_i h1; simpa using h1
theorem oneE_less {pre : List Op} {o p : Op} (h : oneE pre o = 0) (hp : pre.getLast? = some p) : less p.at_ o.at_ = true := by
  have h0 := oneE_opE h
  unfold oneE at h
  rw [if_neg (by simpa using h0), hp] at h
  cases hl : less p.at_ o.at_ with
  | true => rfl
  | false => simp [hl] at h
theorem allE_inc : ∀ (l pre : List Op), Inc pre → allE pre l = 0 → Inc (pre ++ l)
  | [], pre, hp, _ => by simpa using hp
  | o :: r, pre, hp, h => by
    rw [allE] at h
    split at h
    · rename_i h1; exact absurd h h1
    · rename_i h1
      have h1 : oneE pre o = 0 := by simpa using h1
      have hi : Inc (pre ++ [o]) := by
        cases hl : pre.getLast? with
        | none =>
          have : pre = [] := by simpa using hl
          subst this; exact List.pairwise_singleton _ _
        | some p => exact hp.snoc fun q hq => le_less (hp.last_le hl q hq) (oneE_less h1 hl)
      have := allE_inc r _ hi h
      simpa using this
theorem repE_all {r : Replica} (h : repE r = 0) : allE [] r.ops = 0 ∧ r.seen = seenL r.ops ∧ 1 ≤ r.dev ∧ r.dev ≤ 15 ∧ r.ops.length ≤ 400 := by
  unfold repE at h
  split at h
  · omega
  · rename_i h1
    split at h
    · omega
    · rename_i h2
      split at h
      · rename_i h3; exact absurd h h3
      · rename_i h3
        split at h
        · omega
        · rename_i h4
          simp [within] at h1
          refine ⟨by simpa using h3, by simpa using h4, by omega, by omega, by omega⟩
theorem repE_inc {r : Replica} (h : repE r = 0) : Inc r.ops := by
  have := allE_inc r.ops [] List.Pairwise.nil (repE_all h).1
  simpa using this
theorem seenL_len (l : List Op) : (seenL l).length = 15 := by
  unfold seenL
  have : ∀ (l : List Op) (v : List Int), v.length = 15 → (l.foldl (fun v o => see v o.at_) v).length = 15 := by
    intro l
    induction l with
    | nil => intro v h; exact h
    | cons o r ih => intro v h; exact ih _ (see_len _ _)
  exact this l _ (join_len _ _)
end Go.Proofs.YtekkpfbjnjjcbaaGreatDoor
end
section
set_option linter.unusedVariables false
set_option linter.unusedSimpArgs false
set_option linter.unusedSectionVars false
namespace Go.Proofs.YtekkpfbjnjjcbaaGreatDoor
open Go.Ac
theorem idOf_inj {a b : Stamp} (ha : right a = true) (hb : right b = true) (h : idOf a = idOf b) : a = b := by
  rcases a with ⟨a1, a2⟩
  rcases b with ⟨b1, b2⟩
  rw [idOf, idOf, if_pos ha, if_pos hb] at h
  simp only [right, Bool.and_eq_true, decide_eq_true_eq] at ha hb
  simp only at h
  have : a1 = b1 ∧ a2 = b2 := by omega
  rw [this.1, this.2]
theorem opE_id {o : Op} (h : opE o = 0) (hk : o.kind = 0) : o.note.id = idOf o.at_ := by
  have hr := opE_right h
  unfold opE at h
  rw [if_neg (by simp [hr]), if_pos hk] at h
  split at h
  · omega
  · by_cases he : addedE o = 0
    · unfold addedE at he
      split at he
      · omega
      · rename_i hn; exact Decidable.of_not_not hn
    · simp [firstE, he] at h
structure WK where
  at_ : Stamp
  note : Int
  f : Int
  deriving DecidableEq
def addM (m : List (Int × Int)) (o : Op) : List (Int × Int) := if o.kind = 0 then aput m o.note.id o.rec_ else m
def wrF (o : Op) (m : List (WK × Unit)) (f : Int) : List (WK × Unit) := if writes o o.note.id f then aput m ⟨o.at_, o.note.id, f⟩ () else m
def wrK (o : Op) (m : List (WK × Unit)) (j : Nat) : List (WK × Unit) := (([0, 1, 2] : List Int).take j).foldl (wrF o) m
def wrM (m : List (WK × Unit)) (o : Op) : List (WK × Unit) := wrK o m 3
def addedM (pre : List Op) : List (Int × Int) := pre.foldl addM []
def writesM (pre : List Op) : List (WK × Unit) := pre.foldl wrM []
theorem addedM_snoc (pre : List Op) (o : Op) : addedM (pre ++ [o]) = addM (addedM pre) o := by simp [addedM]
theorem writesM_snoc (pre : List Op) (o : Op) : writesM (pre ++ [o]) = wrM (writesM pre) o := by simp [writesM]
theorem wrK_succ (o : Op) (m : List (WK × Unit)) (j : Nat) (hj : j < 3) : wrK o m (j + 1) = wrF o (wrK o m j) j := by
  have : j = 0 ∨ j = 1 ∨ j = 2 := by omega
  rcases this with rfl | rfl | rfl <;> rfl
theorem addedM_nd (pre : List Op) : ANd (addedM pre) := by
  unfold addedM
  have : ∀ (l : List Op) (m : List (Int × Int)), ANd m → ANd (l.foldl addM m) := by
    intro l
    induction l with
    | nil => intro m h; exact h
    | cons o r ih =>
      intro m h
      refine ih _ ?_
      unfold addM
      split
      · exact h.put _ _
      · exact h
  exact this pre [] List.nodup_nil
theorem wrF_nd {o : Op} {m : List (WK × Unit)} (h : ANd m) (f : Int) : ANd (wrF o m f) := by
  unfold wrF
  split
  · exact h.put _ _
  · exact h
theorem wrK_nd {o : Op} {m : List (WK × Unit)} (h : ANd m) (j : Nat) : ANd (wrK o m j) := by
  unfold wrK
  have : ∀ (l : List Int) (m : List (WK × Unit)), ANd m → ANd (l.foldl (wrF o) m) := by
    intro l
    induction l with
    | nil => intro m h; exact h
    | cons f r ih => intro m h; exact ih _ (wrF_nd h f)
  exact this _ _ h
theorem writesM_nd (pre : List Op) : ANd (writesM pre) := by
  unfold writesM
  have : ∀ (l : List Op) (m : List (WK × Unit)), ANd m → ANd (l.foldl wrM m) := by
    intro l
    induction l with
    | nil => intro m h; exact h
    | cons o r ih => intro m h; exact ih _ (wrK_nd h 3)
  exact this pre [] List.nodup_nil
def Good (pre : List Op) : Prop := Inc pre ∧ ∀ o ∈ pre, opE o = 0
theorem Good.nil : Good [] := ⟨List.Pairwise.nil, fun _ h => by cases h⟩
theorem Good.snoc {pre : List Op} {o : Op} (h : Good pre) (ho : oneE pre o = 0) : Good (pre ++ [o]) := by
  have h0 := oneE_opE ho
  refine ⟨?_, fun p hp => ?_⟩
  · cases hl : pre.getLast? with
    | none =>
      have : pre = [] := by simpa using hl
      subst this; exact List.pairwise_singleton _ _
    | some p => exact h.1.snoc fun q hq => le_less (h.1.last_le hl q hq) (oneE_less ho hl)
  · rcases List.mem_append.1 hp with hp | hp
    · exact h.2 p hp
    · simp only [List.mem_singleton] at hp; subst hp; exact h0
theorem find_snoc {α : Type} (f : α → Bool) (l : List α) (x : α) : (l ++ [x]).find? f = (l.find? f).or (if f x then some x else none) := by
  induction l with
  | nil => simp [List.find?]
  | cons y r ih =>
    simp only [List.cons_append, List.find?_cons]
    cases f y with
    | true => rfl
    | false => exact ih
theorem get_added {pre : List Op} (h : Good pre) (id : Int) : aget (addedM pre) id = (addedO pre id).map (·.rec_) := by
  suffices H : ∀ (n : Nat) (pre : List Op), pre.length = n → Good pre → aget (addedM pre) id = (addedO pre id).map (·.rec_) from H _ pre rfl h
  intro n
  induction n with
  | zero =>
    intro pre hn _
    have : pre = [] := List.eq_nil_of_length_eq_zero hn
    subst this; rfl
  | succ n ih =>
    intro pre hn h
    have hne : pre ≠ [] := by intro e; rw [e] at hn; cases hn
    obtain ⟨q, o, rfl⟩ : ∃ q o, pre = q ++ [o] := ⟨_, _, (List.dropLast_concat_getLast hne).symm⟩
    obtain ⟨hi, ha⟩ := h
    obtain ⟨i1, i2, i3⟩ := List.pairwise_append.1 hi
    have hq : Good q := ⟨i1, fun p hp => ha p (List.mem_append_left _ hp)⟩
    have hIH := ih q (by simp at hn; exact hn) hq
    rw [addedM_snoc]
    unfold addedO at hIH ⊢
    rw [find_snoc]
    unfold addM
    by_cases hk : o.kind = 0
    · rw [if_pos hk, aget_put]
      by_cases e : o.note.id = id
      · rw [if_pos e]
        have hnone : q.find? (fun o => decide (o.kind = 0) && decide (o.note.id = id)) = none := by
          rw [List.find?_eq_none]
          intro p hp hc
          simp only [Bool.and_eq_true, decide_eq_true_eq] at hc
          have h1 := opE_id (ha p (List.mem_append_left _ hp)) hc.1
          have h2 := opE_id (ha o (List.mem_append_right _ (List.mem_singleton_self _))) hk
          have hat := idOf_inj (opE_right (ha p (List.mem_append_left _ hp))) (opE_right (ha o (List.mem_append_right _ (List.mem_singleton_self _)))) (by rw [← h1, ← h2, hc.2, e])
          exact less_ne (i3 p hp o (List.mem_singleton_self _)) hat
        rw [hnone]
        simp [hk, e]
      · rw [if_neg e, hIH]
        simp [hk, e]
    · rw [if_neg hk, hIH]
      simp [hk]
theorem wrF_get (o : Op) (m : List (WK × Unit)) (f : Int) (k : WK) : (aget (wrF o m f) k).isSome = ((aget m k).isSome || (writes o o.note.id f && decide (k = ⟨o.at_, o.note.id, f⟩))) := by
  unfold wrF
  cases hw : writes o o.note.id f with
  | false => simp
  | true =>
    rw [if_pos rfl, aget_put]
    by_cases e : (⟨o.at_, o.note.id, f⟩ : WK) = k
    · rw [if_pos e]; subst e; simp
    · rw [if_neg e]
      have : ¬ k = ⟨o.at_, o.note.id, f⟩ := fun h => e h.symm
      simp [this]
theorem wrM_get (o : Op) (m : List (WK × Unit)) (s : Stamp) (n f : Int) : (aget (wrM m o) ⟨s, n, f⟩).isSome = ((aget m ⟨s, n, f⟩).isSome || (decide (o.at_ = s) && writes o n f)) := by
  have e : wrM m o = wrF o (wrF o (wrF o m 0) 1) 2 := rfl
  rw [e, wrF_get, wrF_get, wrF_get]
  simp only [WK.mk.injEq, Bool.decide_and, Bool.or_assoc]
  congr 1
  rw [Bool.eq_iff_iff]
  simp only [Bool.or_eq_true, Bool.and_eq_true, decide_eq_true_eq, writes, wrt, within]
  constructor
  · rintro (h | h | h) <;> (obtain ⟨⟨_, h1⟩, h2, h3, h4⟩ := h; subst h2 h3 h4; exact ⟨rfl, rfl, h1⟩)
  · rintro ⟨h1, h2, ⟨h3, h4⟩, h5⟩
    have : f = 0 ∨ f = 1 ∨ f = 2 := by omega
    rcases this with rfl | rfl | rfl
    · exact .inl ⟨⟨trivial, ⟨by omega, by omega⟩, h5⟩, h1.symm, h2.symm, rfl⟩
    · exact .inr (.inl ⟨⟨trivial, ⟨by omega, by omega⟩, h5⟩, h1.symm, h2.symm, rfl⟩)
    · exact .inr (.inr ⟨⟨trivial, ⟨by omega, by omega⟩, h5⟩, h1.symm, h2.symm, rfl⟩)
theorem get_writes (pre : List Op) (s : Stamp) (n f : Int) : (aget (writesM pre) ⟨s, n, f⟩).isSome = writer pre s n f := by
  have : ∀ (l : List Op) (m : List (WK × Unit)), (aget (l.foldl wrM m) ⟨s, n, f⟩).isSome = ((aget m ⟨s, n, f⟩).isSome || writer l s n f) := by
    intro l
    induction l with
    | nil => intro m; simp [writer]
    | cons o r ih => intro m; rw [List.foldl_cons, ih, wrM_get]; simp [writer, Bool.or_assoc]
  have h := this pre []
  simpa [writesM, aget] using h
theorem join_self {v : List Int} (hl : v.length = 15) (h : ∀ x ∈ v, 0 ≤ x) : join v [] = v := by
  apply List.ext_getElem?
  intro i
  unfold join
  rw [List.getElem?_map]
  by_cases hi : i < 15
  · rw [List.getElem?_range hi, List.getElem?_eq_getElem (by omega)]
    have : 0 ≤ v[i] := h _ (List.getElem_mem _)
    simp only [Option.map_some, num, List.getElem?_eq_getElem (show i < v.length by omega), Option.getD_some, Option.some.injEq, List.getElem?_nil, Option.getD_none]
    omega
  · rw [List.getElem?_eq_none (by simpa using hi), List.getElem?_eq_none (by omega)]; rfl
theorem num_nonneg (v : List Int) (i : Nat) : 0 ≤ num v i := by unfold num; omega
theorem join_nonneg (a b : List Int) : ∀ x ∈ join a b, 0 ≤ x := by
  intro x hx
  obtain ⟨i, _, rfl⟩ := List.mem_map.1 hx
  have := num_nonneg a i
  omega
theorem see_nonneg (v : List Int) (s : Stamp) : ∀ x ∈ see v s, 0 ≤ x := by
  intro x hx
  unfold see at hx
  split at hx
  · rcases List.mem_or_eq_of_mem_set hx with h | h
    · exact join_nonneg _ _ x h
    · have := num_nonneg v (s.dev - 1).toNat; omega
  · exact join_nonneg _ _ x hx
theorem seenL_snoc (l : List Op) (o : Op) : seenL (l ++ [o]) = see (seenL l) o.at_ := by simp [seenL]
theorem seenL_nonneg (l : List Op) : ∀ x ∈ seenL l, 0 ≤ x := by
  unfold seenL
  have : ∀ (l : List Op) (v : List Int), (∀ x ∈ v, 0 ≤ x) → ∀ x ∈ l.foldl (fun v o => see v o.at_) v, 0 ≤ x := by
    intro l
    induction l with
    | nil => intro v h; exact h
    | cons o r ih => intro v h; exact ih _ (see_nonneg _ _)
  exact this l _ (join_nonneg _ _)
theorem seenL_step {l : List Op} {o : Op} (h : right o.at_ = true) : seenL (l ++ [o]) = (seenL l).set (o.at_.dev - 1).toNat (max (num (seenL l) (o.at_.dev - 1).toNat) o.at_.count) := by
  rw [seenL_snoc, see, if_pos h, join_self (seenL_len l) (seenL_nonneg l)]
theorem seenL_nil : seenL [] = List.replicate 15 0 := by decide
end Go.Proofs.YtekkpfbjnjjcbaaGreatDoor
namespace Go.Proofs.YtekkpfbjnjjcbaaGreatDoor
theorem oneE_of {pre : List Op} {o : Op} {a b c : Bool} (ha : (match pre.getLast? with | some p => less p.at_ o.at_ | none => true) = a) (hb : (match addedO pre o.note.id with | some a => decide (a.rec_ = o.rec_) | none => false) = b) (hc : o.over.all (overOk pre o) = c) :
    oneE pre o = if opE o ≠ 0 then opE o else if a = false then 10 else if o.kind = 0 then 0 else if b = false then 9 else if c = false then 27 else 0 := by
  subst ha hb hc; rfl
theorem oneE_bad {pre : List Op} {o : Op} (h : opE o ≠ 0) : oneE pre o = opE o := by rw [oneE_of rfl rfl rfl, if_pos h]
theorem oneE_10 {pre : List Op} {o : Op} (h : opE o = 0) (ha : (match pre.getLast? with | some p => less p.at_ o.at_ | none => true) = false) : oneE pre o = 10 := by
  rw [oneE_of ha rfl rfl, if_neg (by simpa using h), if_pos rfl]
theorem oneE_add {pre : List Op} {o : Op} (h : opE o = 0) (ha : (match pre.getLast? with | some p => less p.at_ o.at_ | none => true) = true) (hk : o.kind = 0) : oneE pre o = 0 := by
  rw [oneE_of ha rfl rfl, if_neg (by simpa using h), if_neg (by simp), if_pos hk]
theorem oneE_9 {pre : List Op} {o : Op} (h : opE o = 0) (ha : (match pre.getLast? with | some p => less p.at_ o.at_ | none => true) = true) (hk : o.kind ≠ 0) (hb : (match addedO pre o.note.id with | some a => decide (a.rec_ = o.rec_) | none => false) = false) : oneE pre o = 9 := by
  rw [oneE_of ha hb rfl, if_neg (by simpa using h), if_neg (by simp), if_neg hk, if_pos rfl]
theorem oneE_27 {pre : List Op} {o : Op} (h : opE o = 0) (ha : (match pre.getLast? with | some p => less p.at_ o.at_ | none => true) = true) (hk : o.kind ≠ 0) (hb : (match addedO pre o.note.id with | some a => decide (a.rec_ = o.rec_) | none => false) = true) (hc : o.over.all (overOk pre o) = false) : oneE pre o = 27 := by
  rw [oneE_of ha hb hc, if_neg (by simpa using h), if_neg (by simp), if_neg hk, if_neg (by simp), if_pos rfl]
theorem oneE_0 {pre : List Op} {o : Op} (h : opE o = 0) (ha : (match pre.getLast? with | some p => less p.at_ o.at_ | none => true) = true) (hk : o.kind ≠ 0) (hb : (match addedO pre o.note.id with | some a => decide (a.rec_ = o.rec_) | none => false) = true) (hc : o.over.all (overOk pre o) = true) : oneE pre o = 0 := by
  rw [oneE_of ha hb hc, if_neg (by simpa using h), if_neg (by simp), if_neg hk, if_neg (by simp), if_neg (by simp)]
def anyK (f : Int → Bool) (j : Nat) : Bool := (([0, 1, 2] : List Int).take j).any f
theorem anyK_succ (f : Int → Bool) {j : Nat} (hj : j < 3) : anyK f (j + 1) = (anyK f j || f j) := by
  have : j = 0 ∨ j = 1 ∨ j = 2 := by omega
  rcases this with rfl | rfl | rfl <;> simp [anyK, Bool.or_assoc]
abbrev okF (pre : List Op) (o : Op) (s : Stamp) (f : Int) : Bool := (decide (o.kind = 2) || decide (f = o.set)) && writer pre s o.note.id f
theorem last_take {α : Type} {l : List α} {i : Nat} (hi : 0 < i) (hl : i ≤ l.length) : (l.take i).getLast? = l[i - 1]? := by
  rw [List.getLast?_eq_getElem?, List.length_take, Nat.min_eq_left hl, List.getElem?_take, if_pos (by omega)]
end Go.Proofs.YtekkpfbjnjjcbaaGreatDoor
namespace Go.Proofs.YtekkpfbjnjjcbaaGreatDoor
theorem firstE3' (a b c : Int) (h : firstE [a, b, c] = 0) : a = 0 ∧ b = 0 ∧ c = 0 := by
  unfold firstE at h
  by_cases h1 : a = 0
  · subst h1
    by_cases h2 : b = 0
    · subst h2
      by_cases h3 : c = 0
      · exact ⟨rfl, rfl, h3⟩
      · simp [h3] at h
    · simp [h2] at h
  · simp [h1] at h
theorem opE_over {o : Op} (h : opE o = 0) : o.over.length ≤ 16 := by
  unfold opE at h
  split at h
  · omega
  split at h
  · split at h
    · omega
    · obtain ⟨_, _, h3⟩ := firstE3' _ _ _ h
      unfold wanted at h3
      split at h3
      · rename_i q; simp at q; simp [q]
      · omega
  split at h
  · split at h
    · omega
    · obtain ⟨_, _, h3⟩ := firstE3' _ _ _ h
      unfold overE at h3
      split at h3
      · omega
      split at h3
      · omega
      · omega
  split at h
  · split at h
    · omega
    · obtain ⟨_, _, h3⟩ := firstE3' _ _ _ h
      unfold overE at h3
      split at h3
      · omega
      split at h3
      · omega
      · omega
  · omega
end Go.Proofs.YtekkpfbjnjjcbaaGreatDoor
end
section
set_option linter.unusedVariables false
set_option linter.unusedSimpArgs false
set_option linter.unusedSectionVars false
namespace Go.Proofs.YtekkpfbjnjjcbaaGreatDoor
def zeroRep : Replica := ⟨0, [], []⟩
def joined (r : Replica) (m : List Op) : Replica := ⟨r.dev, seenL m, m⟩
def merge (r : Replica) (l : List Op) : Replica × Int := match unite r.ops l with
  | none => (zeroRep, 8)
  | some m => if repE (joined r m) = 0 then (joined r m, 0) else (zeroRep, repE (joined r m))
def sync (a b : Replica) : Replica × Replica × Int :=
  if (merge a b.ops).2 ≠ 0 then (a, b, (merge a b.ops).2) else if (merge b a.ops).2 ≠ 0 then (a, b, (merge b a.ops).2) else ((merge a b.ops).1, (merge b a.ops).1, 0)
theorem merge_ok {r : Replica} {l m : List Op} (h : unite r.ops l = some m) (h2 : repE (joined r m) = 0) : merge r l = (joined r m, 0) := by rw [merge, h]; exact if_pos h2
end Go.Proofs.YtekkpfbjnjjcbaaGreatDoor
namespace Go.Proofs.YtekkpfbjnjjcbaaGreatDoor
def gbad (out : List Op) (o : Op) : Bool := match out.getLast? with
  | some p => decide (p.at_ = o.at_) && !decide (p = o)
  | none => false
def gstep (out : List Op) (o : Op) : List Op := match out.getLast? with
  | some p => if p.at_ = o.at_ then out else out ++ [o]
  | none => out ++ [o]
def outK (t : List Op) (i : Nat) : List Op := (t.take i).foldl gstep []
def okK (t : List Op) (i : Nat) : Prop := gather [] t = gather (outK t i) (t.drop i)
end Go.Proofs.YtekkpfbjnjjcbaaGreatDoor
end
section
set_option linter.unusedVariables false
set_option linter.unusedSimpArgs false
set_option linter.unusedSectionVars false
namespace Go.Proofs.YtekkpfbjnjjcbaaGreatDoor
theorem repE_ops {r : Replica} (h : repE r = 0) : ∀ o ∈ r.ops, opE o = 0 := by
  intro o ho
  obtain ⟨k, hk⟩ := List.getElem?_of_mem ho
  exact oneE_opE (allE_split r.ops [] (repE_all h).1 k o hk)
theorem addedO_mem {pre : List Op} (h : Good pre) {id : Int} {p : Op} (hp : p ∈ pre) (hk : p.kind = 0) (hid : p.note.id = id) : addedO pre id = some p := by
  cases hf : addedO pre id with
  | none =>
    unfold addedO at hf
    rw [List.find?_eq_none] at hf
    exact absurd (by simp [hk, hid]) (hf p hp)
  | some q =>
    unfold addedO at hf
    have h1 := List.mem_of_find?_eq_some hf
    have h2 := List.find?_some hf
    simp only [Bool.and_eq_true, decide_eq_true_eq] at h2
    have e : idOf p.at_ = idOf q.at_ := by rw [← opE_id (h.2 p hp) hk, ← opE_id (h.2 q h1) h2.1, hid, h2.2]
    rw [h.1.uniq hp h1 (idOf_inj (opE_right (h.2 p hp)) (opE_right (h.2 q h1)) e)]
theorem writer_mono {a b : List Op} (h : ∀ o ∈ a, o ∈ b) {s : Stamp} {n f : Int} (hw : writer a s n f = true) : writer b s n f = true := by
  unfold writer at *
  rw [List.any_eq_true] at *
  obtain ⟨o, ho, h2⟩ := hw
  exact ⟨o, h o ho, h2⟩
theorem oneE_mono {a b : List Op} (hb : Good b) (h : ∀ o ∈ a, o ∈ b) {o : Op} (hl : ∀ p ∈ b, less p.at_ o.at_ = true) (ho : oneE a o = 0) : oneE b o = 0 := by
  have h0 := oneE_opE ho
  have hlast : (match b.getLast? with | some p => less p.at_ o.at_ | none => true) = true := by
    cases hq : b.getLast? with
    | none => rfl
    | some p => exact hl p (List.mem_of_getLast? hq)
  by_cases hk : o.kind = 0
  · exact oneE_add h0 hlast hk
  · obtain ⟨hB, hC⟩ : (match addedO a o.note.id with | some a => decide (a.rec_ = o.rec_) | none => false) = true ∧ o.over.all (overOk a o) = true := by
      cases hB : (match addedO a o.note.id with | some a => decide (a.rec_ = o.rec_) | none => false) with
      | false =>
        cases hA : (match a.getLast? with | some p => less p.at_ o.at_ | none => true) with
        | false => rw [oneE_10 h0 hA] at ho; omega
        | true => rw [oneE_9 h0 hA hk hB] at ho; omega
      | true =>
        refine ⟨rfl, ?_⟩
        cases hC : o.over.all (overOk a o) with
        | true => rfl
        | false =>
          cases hA : (match a.getLast? with | some p => less p.at_ o.at_ | none => true) with
          | false => rw [oneE_10 h0 hA] at ho; omega
          | true => rw [oneE_27 h0 hA hk hB hC] at ho; omega
    have g3 : o.over.all (overOk b o) = true := by
      rw [List.all_eq_true] at *
      intro s hs
      have := hC s hs
      unfold overOk at *
      rw [List.any_eq_true] at *
      obtain ⟨f, hf, hw⟩ := this
      refine ⟨f, hf, ?_⟩
      simp only [Bool.and_eq_true] at hw ⊢
      exact ⟨hw.1, writer_mono h hw.2⟩
    have g2 : (match addedO b o.note.id with | some a => decide (a.rec_ = o.rec_) | none => false) = true := by
      cases hq : addedO a o.note.id with
      | none => rw [hq] at hB; cases hB
      | some p =>
        rw [hq] at hB
        have hrec : p.rec_ = o.rec_ := by simpa using hB
        unfold addedO at hq
        have q1 := List.mem_of_find?_eq_some hq
        have q2 := List.find?_some hq
        simp only [Bool.and_eq_true, decide_eq_true_eq] at q2
        rw [addedO_mem hb (h p q1) q2.1 q2.2]
        simpa using hrec
    exact oneE_0 h0 hlast hk g2 g3
theorem allE_of {m : List Op} (hi : Inc m) (h : ∀ o ∈ m, ∃ l, allE [] l = 0 ∧ o ∈ l ∧ ∀ p ∈ l, less p.at_ o.at_ = true → p ∈ m) : allE [] m = 0 := by
  have H : ∀ (r pre : List Op), pre ++ r = m → Good pre → allE pre r = 0 := by
    intro r
    induction r with
    | nil => intro pre _ _; rfl
    | cons o r ih =>
      intro pre hm hg
      have hom : o ∈ m := by rw [← hm]; exact List.mem_append_right _ (List.mem_cons_self ..)
      obtain ⟨l, hl, hol, hle⟩ := h o hom
      have hil : Inc l := by simpa using allE_inc l [] List.Pairwise.nil hl
      obtain ⟨k, hk⟩ := List.getElem?_of_mem hol
      have h1 := allE_split l [] hl k o hk
      simp only [List.nil_append] at h1
      have hi2 := hi
      rw [← hm] at hi2
      obtain ⟨p1, p2, p3⟩ := List.pairwise_append.1 hi2
      obtain ⟨c1, c2⟩ := List.pairwise_cons.1 p2
      have h2 : oneE pre o = 0 := by
        refine oneE_mono hg (fun p hp => ?_) (fun p hp => p3 p hp o (List.mem_cons_self ..)) h1
        have hpl := List.mem_of_mem_take hp
        have hlt : less p.at_ o.at_ = true := by
          obtain ⟨j, hj⟩ := List.getElem?_of_mem hp
          rw [List.getElem?_take] at hj
          split at hj
          · rename_i hjk
            obtain ⟨q1, q2⟩ := List.getElem?_eq_some_iff.1 hj
            obtain ⟨q3, q4⟩ := List.getElem?_eq_some_iff.1 hk
            have := (List.pairwise_iff_getElem.1 hil) j k q1 q3 hjk
            rw [q2, q4] at this; exact this
          · cases hj
        have hpm := hle p hpl hlt
        rw [← hm] at hpm
        rcases List.mem_append.1 hpm with g | g
        · exact g
        · rcases List.mem_cons.1 g with e | g
          · rw [e] at hlt; rw [less_irr] at hlt; cases hlt
          · have := less_asym (c1 p g); rw [hlt] at this; cases this
      rw [allE, if_neg (by simpa using h2)]
      exact ih (pre ++ [o]) (by simpa using hm) (hg.snoc h2)
  exact H m [] rfl Good.nil
end Go.Proofs.YtekkpfbjnjjcbaaGreatDoor
end
section
set_option linter.unusedVariables false
set_option linter.unusedSimpArgs false
set_option linter.unusedSectionVars false
namespace Go.Proofs.YtekkpfbjnjjcbaaGreatDoor
open Go.Ac
structure Val where
  at_ : Stamp
  n : Int
  text : ByteArray
  deriving Inhabited, DecidableEq
def zeroVal : Val := ⟨⟨0, 0⟩, 0, .empty⟩
def valueOf (o : Op) (f : Int) : Val := if wrt o f = false then zeroVal else
  ⟨o.at_, if f = 0 then 0 else if o.kind = 0 then (if f = 1 then o.note.span.fro else o.note.span.til) else o.n, if f = 0 then (if o.kind = 0 then o.note.text else o.text) else .empty⟩
def overO (kind note f : Int) (s : Stamp) (o : Op) : Bool := decide (o.kind = kind) && (decide (o.note.id = note) && ((decide (kind = 2) || decide (o.set = f)) && o.over.any fun q => decide (q = s)))
def overd (l : List Op) (s : Stamp) (kind note f : Int) : Bool := l.any (overO kind note f s)
def keepV (l : List Op) (note f : Int) (o : Op) : Bool := writes o note f && !overd l o.at_ 1 note f
def valuesL (l : List Op) (note f : Int) : List Val := (l.filter (keepV l note f)).map (valueOf · f)
theorem adel_cons {K V : Type} [DecidableEq K] (p : K × V) (r : List (K × V)) (k : K) : adel (p :: r) k = if p.1 = k then r else p :: adel r k := by
  unfold adel
  rw [List.findIdx?_cons]
  by_cases e : p.1 = k
  · simp [e]
  · simp only [decide_eq_false e, Bool.false_eq_true, if_false, if_neg e]
    cases h : List.findIdx? (fun p => decide (p.1 = k)) r with
    | none => simp
    | some i => simp
theorem aget_cons {K V : Type} [DecidableEq K] (p : K × V) (r : List (K × V)) (k : K) : aget (p :: r) k = if p.1 = k then some p.2 else aget r k := by
  unfold aget
  rw [List.find?_cons]
  by_cases e : p.1 = k
  · simp [e]
  · simp [e]
theorem aget_none {K V : Type} [DecidableEq K] {m : List (K × V)} {k : K} (h : k ∉ m.map (·.1)) : aget m k = none := by
  induction m with
  | nil => rfl
  | cons p r ih =>
    simp only [List.map_cons, List.mem_cons, not_or] at h
    rw [aget_cons, if_neg (fun e => h.1 e.symm), ih h.2]
theorem aget_del {K V : Type} [DecidableEq K] {m : List (K × V)} (h : ANd m) (k k' : K) : aget (adel m k) k' = if k = k' then none else aget m k' := by
  induction m with
  | nil => simp [adel, aget]
  | cons p r ih =>
    obtain ⟨h1, h2⟩ : p.1 ∉ r.map (·.1) ∧ ANd r := by
      unfold ANd at h ⊢
      rw [List.map_cons, List.nodup_cons] at h
      exact h
    rw [adel_cons]
    by_cases e : p.1 = k
    · rw [if_pos e]
      by_cases e2 : k = k'
      · subst e2; rw [if_pos rfl, ← e]; exact aget_none h1
      · rw [if_neg e2, aget_cons, if_neg (fun q => e2 (e.symm.trans q))]
    · rw [if_neg e, aget_cons, aget_cons, ih h2]
      by_cases e2 : p.1 = k'
      · rw [if_pos e2, if_pos e2, if_neg (fun q => e (e2.trans q.symm))]
      · rw [if_neg e2, if_neg e2]
def dels (m : List (Stamp × Val)) (l : List Stamp) : List (Stamp × Val) := l.foldl adel m
def valStep (note f : Int) (m : List (Stamp × Val)) (o : Op) : List (Stamp × Val) := if writes o note f then aput (dels m o.over) o.at_ (valueOf o f) else m
def valM (note f : Int) (l : List Op) : List (Stamp × Val) := l.foldl (valStep note f) []
theorem valM_snoc (note f : Int) (l : List Op) (o : Op) : valM note f (l ++ [o]) = valStep note f (valM note f l) o := by simp [valM]
theorem dels_get (l : List Stamp) : ∀ (m : List (Stamp × Val)), ANd m → ∀ s, aget (dels m l) s = if s ∈ l then none else aget m s := by
  induction l with
  | nil => intro m _ s; simp [dels]
  | cons q r ih =>
    intro m hm s
    show aget (dels (adel m q) r) s = _
    rw [ih _ (hm.del q), aget_del hm]
    by_cases h : q = s
    · subst h; simp
    · have : ¬ s = q := fun e => h e.symm
      simp [h, this]
theorem dels_nd (l : List Stamp) : ∀ (m : List (Stamp × Val)), ANd m → ANd (dels m l) := by
  induction l with
  | nil => intro m h; exact h
  | cons q r ih => intro m h; exact ih _ (h.del q)
theorem valM_nd (note f : Int) (l : List Op) : ANd (valM note f l) := by
  unfold valM
  have : ∀ (l : List Op) (m : List (Stamp × Val)), ANd m → ANd (l.foldl (valStep note f) m) := by
    intro l
    induction l with
    | nil => intro m h; exact h
    | cons o r ih =>
      intro m h
      refine ih _ ?_
      unfold valStep
      split
      · exact (dels_nd _ _ h).put _ _
      · exact h
  exact this l [] List.nodup_nil
theorem overK_less {a : Stamp} : ∀ {l : List Stamp} {p : Option Stamp}, overK a p l = 0 → ∀ s ∈ l, less s a = true
  | [], _, _, s, hs => by cases hs
  | x :: r, p, h, s, hs => by
    unfold overK at h
    split at h
    · omega
    · rename_i h1
      simp only [not_or, Bool.not_eq_false] at h1
      have hrest : overK a (some x) r = 0 := by
        cases p with
        | none => exact h
        | some q =>
          simp only at h
          split at h
          · omega
          · exact h
      rcases List.mem_cons.1 hs with e | g
      · rw [e]; exact h1.2
      · exact overK_less hrest s g
theorem over_less {o : Op} (h : opE o = 0) : ∀ s ∈ o.over, less s o.at_ = true := by
  intro s hs
  have hr := opE_right h
  have hov : overE o = 0 → less s o.at_ = true := by
    intro h3
    unfold overE at h3
    split at h3
    · omega
    split at h3
    · omega
    · exact overK_less h3 s hs
  unfold opE at h
  split at h
  · omega
  split at h
  · split at h
    · omega
    · obtain ⟨_, _, h3⟩ := firstE3' _ _ _ h
      unfold wanted at h3
      split at h3
      · rename_i q
        have q : o.over.length = 0 := by simpa using q
        rw [List.eq_nil_of_length_eq_zero q] at hs; cases hs
      · omega
  split at h
  · split at h
    · omega
    · exact hov (firstE3' _ _ _ h).2.2
  split at h
  · split at h
    · omega
    · exact hov (firstE3' _ _ _ h).2.2
  · omega
theorem add_over {o : Op} (h : opE o = 0) (hk : o.kind = 0) : o.over = [] := by
  unfold opE at h
  rw [if_pos hk] at h
  split at h
  · omega
  · split at h
    · omega
    · obtain ⟨_, _, h3⟩ := firstE3' _ _ _ h
      unfold wanted at h3
      split at h3
      · rename_i q
        exact List.eq_nil_of_length_eq_zero (by simpa using q)
      · omega
theorem valM_iff (note f : Int) : ∀ (n : Nat) (l : List Op), l.length = n → Good l → ∀ s v, aget (valM note f l) s = some v ↔ ∃ o ∈ l, writes o note f = true ∧ o.at_ = s ∧ v = valueOf o f ∧ ∀ p ∈ l, writes p note f = true → s ∉ p.over := by
  intro n
  induction n with
  | zero =>
    intro l hl _ s v
    have : l = [] := List.eq_nil_of_length_eq_zero hl
    subst this
    simp [valM, aget]
  | succ n ih =>
    intro l hl hg s v
    have hne : l ≠ [] := by intro e; rw [e] at hl; cases hl
    obtain ⟨q, o, rfl⟩ : ∃ q o, l = q ++ [o] := ⟨_, _, (List.dropLast_concat_getLast hne).symm⟩
    obtain ⟨hi, ha⟩ := hg
    obtain ⟨i1, i2, i3⟩ := List.pairwise_append.1 hi
    have hq : Good q := ⟨i1, fun p hp => ha p (List.mem_append_left _ hp)⟩
    have hIH := ih q (by simp at hl; exact hl) hq
    have ho := ha o (List.mem_append_right _ (List.mem_singleton_self _))
    have hlt : ∀ p ∈ q, less p.at_ o.at_ = true := fun p hp => i3 p hp o (List.mem_singleton_self _)
    rw [valM_snoc, valStep]
    cases hw : writes o note f with
    | false =>
      rw [if_neg (by simp)]
      rw [hIH]
      constructor
      · rintro ⟨p, h1, h2, h3, h4, h5⟩
        refine ⟨p, List.mem_append_left _ h1, h2, h3, h4, fun r hr hwr => ?_⟩
        rcases List.mem_append.1 hr with hr | hr
        · exact h5 r hr hwr
        · simp only [List.mem_singleton] at hr; subst hr; rw [hw] at hwr; cases hwr
      · rintro ⟨p, h1, h2, h3, h4, h5⟩
        rcases List.mem_append.1 h1 with h1 | h1
        · exact ⟨p, h1, h2, h3, h4, fun r hr => h5 r (List.mem_append_left _ hr)⟩
        · simp only [List.mem_singleton] at h1; subst h1; rw [hw] at h2; cases h2
    | true =>
      rw [if_pos rfl, aget_put]
      by_cases e : o.at_ = s
      · rw [if_pos e]
        subst e
        constructor
        · intro h
          have h : valueOf o f = v := by simpa using h
          refine ⟨o, List.mem_append_right _ (List.mem_singleton_self _), hw, rfl, h.symm, fun p hp hwp hs => ?_⟩
          rcases List.mem_append.1 hp with hp | hp
          · have h1 := over_less (hq.2 p hp) _ hs
            have h2 := less_asym (hlt p hp)
            rw [h1] at h2; cases h2
          · simp only [List.mem_singleton] at hp; subst hp
            have := over_less ho _ hs
            rw [less_irr] at this; cases this
        · rintro ⟨p, h1, h2, h3, h4, _⟩
          rcases List.mem_append.1 h1 with h1 | h1
          · exact absurd h3 (less_ne (hlt p h1))
          · simp only [List.mem_singleton] at h1; subst h1; rw [h4]
      · rw [if_neg e, dels_get _ _ (valM_nd note f q)]
        by_cases hs : s ∈ o.over
        · rw [if_pos hs]
          constructor
          · intro h; cases h
          · rintro ⟨p, _, _, _, _, h5⟩
            exact absurd hs (h5 o (List.mem_append_right _ (List.mem_singleton_self _)) hw)
        · rw [if_neg hs, hIH]
          constructor
          · rintro ⟨p, h1, h2, h3, h4, h5⟩
            refine ⟨p, List.mem_append_left _ h1, h2, h3, h4, fun r hr hwr => ?_⟩
            rcases List.mem_append.1 hr with hr | hr
            · exact h5 r hr hwr
            · simp only [List.mem_singleton] at hr; subst hr; exact hs
          · rintro ⟨p, h1, h2, h3, h4, h5⟩
            rcases List.mem_append.1 h1 with h1 | h1
            · exact ⟨p, h1, h2, h3, h4, fun r hr => h5 r (List.mem_append_left _ hr)⟩
            · simp only [List.mem_singleton] at h1; subst h1; exact absurd h3 e
theorem writes_within {o : Op} {note f : Int} (h : writes o note f = true) : within f 0 2 = true ∧ o.note.id = note := by
  simp only [writes, wrt, Bool.and_eq_true, decide_eq_true_eq] at h
  exact ⟨h.2.1, h.1⟩
theorem writes_wrt {o : Op} {note f : Int} (h : writes o note f = true) : wrt o f = true := by
  simp only [writes, Bool.and_eq_true] at h; exact h.2
theorem valueOf_at {o : Op} {f : Int} (h : wrt o f = true) : (valueOf o f).at_ = o.at_ := by
  unfold valueOf; rw [if_neg (by simp [h])]
theorem overd_iff {l : List Op} (hg : ∀ o ∈ l, opE o = 0) {s : Stamp} {note f : Int} (hf : within f 0 2 = true) : overd l s 1 note f = true ↔ ∃ p ∈ l, writes p note f = true ∧ s ∈ p.over := by
  unfold overd overO
  rw [List.any_eq_true]
  constructor
  · rintro ⟨p, hp, h⟩
    simp only [Bool.and_eq_true, decide_eq_true_eq, List.any_eq_true, Bool.or_eq_true] at h
    obtain ⟨h1, h2, h3, q, h4, h5⟩ := h
    refine ⟨p, hp, ?_, h5 ▸ h4⟩
    have h3 : p.set = f := by rcases h3 with h | h; · omega
                              · exact h
    simp [writes, wrt, hf, h1, h2, h3]
  · rintro ⟨p, hp, hw, hs⟩
    refine ⟨p, hp, ?_⟩
    have h2 := (writes_within hw).2
    have hk : p.kind ≠ 0 := fun e => by rw [add_over (hg p hp) e] at hs; cases hs
    have h3 := writes_wrt hw
    simp only [wrt, Bool.and_eq_true, Bool.or_eq_true, decide_eq_true_eq] at h3
    rcases h3.2 with h | h
    · exact absurd h hk
    · simp only [Bool.and_eq_true, decide_eq_true_eq, List.any_eq_true, Bool.or_eq_true]
      exact ⟨h.1, h2, .inr h.2, s, hs, rfl⟩
def IncV (l : List Val) : Prop := l.Pairwise fun a b => less a.at_ b.at_ = true
theorem IncV.ext : ∀ {l m : List Val}, IncV l → IncV m → (∀ o, o ∈ l ↔ o ∈ m) → l = m
  | [], [], _, _, _ => rfl
  | [], y :: s, _, _, h => by have := (h y).2 (List.mem_cons_self ..); cases this
  | x :: r, [], _, _, h => by have := (h x).1 (List.mem_cons_self ..); cases this
  | x :: r, y :: s, hl, hm, h => by
    obtain ⟨l1, l2⟩ := List.pairwise_cons.1 hl
    obtain ⟨m1, m2⟩ := List.pairwise_cons.1 hm
    have hxy : x = y := by
      rcases List.mem_cons.1 ((h x).1 (List.mem_cons_self ..)) with e | hx
      · exact e
      · rcases List.mem_cons.1 ((h y).2 (List.mem_cons_self ..)) with e | hy
        · exact e.symm
        · have := less_asym (l1 _ hy); rw [m1 _ hx] at this; cases this
    subst hxy
    have : r = s := by
      refine IncV.ext l2 m2 fun o => ⟨fun ho => ?_, fun ho => ?_⟩
      · rcases List.mem_cons.1 ((h o).1 (List.mem_cons_of_mem _ ho)) with e | g
        · subst e; exact absurd rfl (less_ne (l1 _ ho))
        · exact g
      · rcases List.mem_cons.1 ((h o).2 (List.mem_cons_of_mem _ ho)) with e | g
        · subst e; exact absurd rfl (less_ne (m1 _ ho))
        · exact g
    rw [this]
theorem aget_mem {m : List (Stamp × Val)} (h : ANd m) {s : Stamp} {v : Val} : aget m s = some v ↔ (s, v) ∈ m := by
  induction m with
  | nil => simp [aget]
  | cons p r ih =>
    obtain ⟨h1, h2⟩ : p.1 ∉ r.map (·.1) ∧ ANd r := by
      unfold ANd at h ⊢
      rw [List.map_cons, List.nodup_cons] at h
      exact h
    have ih := ih h2
    unfold aget at ih ⊢
    rw [List.find?_cons]
    by_cases e : p.1 = s
    · have : decide (p.1 = s) = true := decide_eq_true e
      simp only [this, Option.map_some, Option.some.injEq, List.mem_cons]
      constructor
      · intro hv; left; rw [← e, ← hv]
      · rintro (hv | hv)
        · rw [← hv]
        · exact absurd (List.mem_map.2 ⟨_, hv, e.symm⟩) h1
    · have : decide (p.1 = s) = false := decide_eq_false e
      simp only [this, List.mem_cons]
      rw [ih]
      constructor
      · intro hv; exact .inr hv
      · rintro (hv | hv)
        · exact absurd (by rw [← hv]) e
        · exact hv
theorem values_sorted {l : List Op} (hg : Good l) {note f : Int} {d : List Val} (hp : d.Perm ((valM note f l).map (·.2))) (hs : d.Pairwise fun a b => less b.at_ a.at_ = false) : d = valuesL l note f := by
  have hnd := valM_nd note f l
  have hiff := valM_iff note f _ l rfl hg
  have hat : ∀ p ∈ valM note f l, p.2.at_ = p.1 := by
    intro p hp
    obtain ⟨o, h1, h2, h3, h4, h5⟩ := (hiff p.1 p.2).1 ((aget_mem hnd).2 hp)
    rw [h4, valueOf_at (writes_wrt h2), h3]
  have hd1 : IncV d := by
    have hn : (d.map (·.at_)).Nodup := by
      refine (hp.map (·.at_)).nodup_iff.2 ?_
      rw [List.map_map]
      have : (valM note f l).map ((·.at_) ∘ (·.2)) = (valM note f l).map (·.1) := List.map_congr_left fun p hp => hat p hp
      rw [this]; exact hnd
    rw [List.nodup_iff_pairwise_ne, List.pairwise_map] at hn
    refine List.Pairwise.imp₂ ?_ hs hn
    intro a b h1 h2
    rcases nless_iff.1 h1 with h | h
    · exact h
    · exact absurd h h2
  have hd2 : IncV (valuesL l note f) := by
    unfold valuesL IncV
    rw [List.pairwise_map]
    have : (l.filter (keepV l note f)).Pairwise fun a b => less a.at_ b.at_ = true := hg.1.filter _
    refine List.Pairwise.imp_of_mem ?_ this
    intro a b ha hb h
    have h1 := (List.mem_filter.1 ha).2
    have h2 := (List.mem_filter.1 hb).2
    simp only [keepV, Bool.and_eq_true] at h1 h2
    rw [valueOf_at (writes_wrt h1.1), valueOf_at (writes_wrt h2.1)]; exact h
  refine hd1.ext hd2 fun v => ?_
  rw [hp.mem_iff]
  constructor
  · intro hv
    obtain ⟨p, h1, rfl⟩ := List.mem_map.1 hv
    obtain ⟨o, h2, h3, h4, h5, h6⟩ := (hiff p.1 p.2).1 ((aget_mem hnd).2 h1)
    rw [h5]
    refine List.mem_map.2 ⟨o, List.mem_filter.2 ⟨h2, ?_⟩, rfl⟩
    unfold keepV
    rw [h3, Bool.true_and, Bool.not_eq_true']
    cases hc : overd l o.at_ 1 note f with
    | false => rfl
    | true =>
      obtain ⟨q, q1, q2, q3⟩ := (overd_iff hg.2 (writes_within h3).1).1 hc
      rw [h4] at q3
      exact absurd q3 (h6 q q1 q2)
  · intro hv
    obtain ⟨o, h1, rfl⟩ := List.mem_map.1 hv
    obtain ⟨h1, h2⟩ := List.mem_filter.1 h1
    simp only [keepV, Bool.and_eq_true, Bool.not_eq_true'] at h2
    have := (hiff o.at_ (valueOf o f)).2 ⟨o, h1, h2.1, rfl, rfl, fun p hp hw hs => by
      have := (overd_iff hg.2 (writes_within h2.1).1).2 ⟨p, hp, hw, hs⟩
      rw [this] at h2; cases h2.2⟩
    exact List.mem_map.2 ⟨_, (aget_mem hnd).1 this, rfl⟩
structure Cell where
  rec_ : Int
  note : Note
  text : List Val
  fro : List Val
  til : List Val
  deriving Inhabited, DecidableEq
def zeroCell : Cell := ⟨0, ⟨0, 0, 0, ⟨0, 0⟩, 0, .empty⟩, [], [], []⟩
def saved (l : List Op) (note f : Int) : Bool := (valuesL l note f).any fun v => !overd l v.at_ 2 note f
def lives (l : List Op) (note : Int) : Bool := (addedO l note).isSome && (saved l note 0 || (saved l note 1 || saved l note 2))
def cellOf (l : List Op) (note : Int) (o : Op) : Cell := ⟨o.rec_, o.note, valuesL l note 0, valuesL l note 1, valuesL l note 2⟩
def cell (l : List Op) (note : Int) : Option Cell := match addedO l note with
  | none => none
  | some o => if saved l note 0 || (saved l note 1 || saved l note 2) then some (cellOf l note o) else none
def cellsStep (l : List Op) (rec_ : Int) (out : List Cell) (o : Op) : List Cell := if o.kind = 0 ∧ o.rec_ = rec_ then (match cell l o.note.id with | some c => out ++ [c] | none => out) else out
def cells (l : List Op) (rec_ : Int) : List Cell := l.foldl (cellsStep l rec_) []
end Go.Proofs.YtekkpfbjnjjcbaaGreatDoor
end
section
set_option linter.unusedVariables false
set_option linter.unusedSimpArgs false
set_option linter.unusedSectionVars false
namespace Go.Proofs.YtekkpfbjnjjcbaaGreatDoor
open Go.Ac
def topV (v : List Int) : Int := (List.range 15).foldl (fun m i => max m (num v i)) 0
def nextS (v : List Int) (dev : Int) : Option Stamp := if topV v < 1048576 ∧ 1 ≤ dev ∧ dev ≤ 15 then some ⟨topV v + 1, dev⟩ else none
def emptyRep : Replica := ⟨0, [], []⟩
def longerR (r : Replica) (o : Op) : Replica := ⟨r.dev, see r.seen o.at_, r.ops ++ [o]⟩
def withR (r : Replica) (o : Op) : Replica × Int := if repE (longerR r o) = 0 then (longerR r o, 0) else (emptyRep, repE (longerR r o))
def newR (dev : Int) : Replica × Int := if within dev 1 15 then (⟨dev, join [] [], []⟩, 0) else (emptyRep, 1)
def addOpR (s : Stamp) (rc : Int) (n : Note) : Op := ⟨s, 0, rc, { n with id := idOf s }, 0, 0, .empty, []⟩
def addR (r : Replica) (rc : Int) (n : Note) : Replica × Int × Int := match nextS r.seen r.dev with
  | none => (emptyRep, 0, 27)
  | some s => if (withR r (addOpR s rc n)).2 = 0 then ((withR r (addOpR s rc n)).1, idOf s, 0) else (emptyRep, 0, (withR r (addOpR s rc n)).2)
def setOpR (s : Stamp) (rc note f n : Int) (t : ByteArray) (ov : List Stamp) : Op := ⟨s, 1, rc, bareNote note, f, n, t, ov⟩
def dropOpR (s : Stamp) (rc note : Int) (ov : List Stamp) : Op := ⟨s, 2, rc, bareNote note, 0, 0, .empty, ov⟩
def atsV (l : List Val) : List Stamp := l.map (·.at_)
def nextE (r : Replica) (note : Int) : Int := match addedO r.ops note with
  | none => 9
  | some _ => if lives r.ops note = false then 26 else if (nextS r.seen r.dev).isSome = false then 27 else 0
def setR (r : Replica) (note f n : Int) (t : ByteArray) : Replica × Int := match addedO r.ops note, nextS r.seen r.dev with
  | some a, some s => if lives r.ops note = false then (emptyRep, 26) else withR r (setOpR s a.rec_ note f n t (atsV (valuesL r.ops note f)))
  | some _, none => if lives r.ops note = false then (emptyRep, 26) else (emptyRep, 27)
  | none, _ => (emptyRep, 9)
def overAll (l : List Op) (note : Int) : List Stamp := (l.filter fun o => ([0, 1, 2] : List Int).any fun f => (atsV (valuesL l note f)).contains o.at_).map (·.at_)
def dropR (r : Replica) (note : Int) : Replica × Int := match addedO r.ops note, nextS r.seen r.dev with
  | some a, some s => if lives r.ops note = false then (emptyRep, 26) else withR r (dropOpR s a.rec_ note (overAll r.ops note))
  | some _, none => if lives r.ops note = false then (emptyRep, 26) else (emptyRep, 27)
  | none, _ => (emptyRep, 9)
theorem topV_le (v : List Int) : 0 ≤ topV v ∧ ∀ i, i < 15 → num v i ≤ topV v := by
  have H : ∀ (l : List Nat) (m : Int), 0 ≤ m → m ≤ l.foldl (fun m i => max m (num v i)) m ∧ ∀ i ∈ l, num v i ≤ l.foldl (fun m i => max m (num v i)) m := by
    intro l
    induction l with
    | nil => intro m hm; exact ⟨Int.le_refl _, fun i h => by cases h⟩
    | cons j r ih =>
      intro m hm
      obtain ⟨h1, h2⟩ := ih (max m (num v j)) (by omega)
      simp only [List.foldl_cons]
      refine ⟨by omega, fun i hi => ?_⟩
      rcases List.mem_cons.1 hi with rfl | hi
      · omega
      · exact h2 i hi
  obtain ⟨h1, h2⟩ := H (List.range 15) 0 (Int.le_refl _)
  exact ⟨h1, fun i hi => h2 i (List.mem_range.2 hi)⟩
theorem nextS_right {v : List Int} {d : Int} {s : Stamp} (h : nextS v d = some s) : right s = true ∧ s.dev = d ∧ covers v s = false := by
  unfold nextS at h
  split at h
  · rename_i hc
    cases h
    obtain ⟨h1, h2⟩ := topV_le v
    have h3 := h2 (d - 1).toNat (by omega)
    refine ⟨by simp only [right, Bool.and_eq_true, decide_eq_true_eq]; omega, rfl, ?_⟩
    unfold covers
    simp only [Bool.and_eq_false_iff, decide_eq_false_iff_not]
    exact .inr (by omega)
  · cases h
theorem withR_ok {r : Replica} {o : Op} (h : (withR r o).2 = 0) : (withR r o).1 = longerR r o ∧ repE (longerR r o) = 0 := by
  unfold withR at h ⊢
  split at h
  · rename_i h1; rw [if_pos h1]; exact ⟨rfl, h1⟩
  · rename_i h1; exact absurd h h1
theorem longerR_less {r : Replica} {o : Op} (h : repE (longerR r o) = 0) : ∀ p ∈ r.ops, less p.at_ o.at_ = true := by
  have hi := repE_inc h
  intro p hp
  exact (List.pairwise_append.1 (show Inc (r.ops ++ [o]) from hi)).2.2 p hp o (List.mem_singleton_self _)
theorem values_ne {l : List Op} (hg : Good l) {note : Int} {a : Op} (ha : addedO l note = some a) {f : Int} (hf : within f 0 2 = true) : valuesL l note f ≠ [] := by
  have hmem := List.mem_of_find?_eq_some ha
  have hpr := List.find?_some ha
  simp only [Bool.and_eq_true, decide_eq_true_eq] at hpr
  have hwa : writes a note f = true := by simp [writes, wrt, hf, hpr.1, hpr.2]
  -- the last one that writes
  have H : ∀ (n : Nat) (k : List Op), k.length = n → Good k → (∃ o ∈ k, writes o note f = true) → ∃ o ∈ k, writes o note f = true ∧ ∀ p ∈ k, writes p note f = true → less o.at_ p.at_ = false := by
    intro n
    induction n with
    | zero =>
      intro k hk _ ⟨o, ho, _⟩
      rw [List.eq_nil_of_length_eq_zero hk] at ho; cases ho
    | succ n ih =>
      intro k hk hgk hex
      have hne : k ≠ [] := by intro e; rw [e] at hk; cases hk
      obtain ⟨q, o, rfl⟩ : ∃ q o, k = q ++ [o] := ⟨_, _, (List.dropLast_concat_getLast hne).symm⟩
      obtain ⟨hi, ha⟩ := hgk
      obtain ⟨i1, i2, i3⟩ := List.pairwise_append.1 hi
      cases hw : writes o note f with
      | true =>
        refine ⟨o, List.mem_append_right _ (List.mem_singleton_self _), hw, fun p hp _ => ?_⟩
        rcases List.mem_append.1 hp with hp | hp
        · exact less_asym (i3 p hp o (List.mem_singleton_self _))
        · simp only [List.mem_singleton] at hp; subst hp; exact less_irr _
      | false =>
        obtain ⟨x, hx, hwx⟩ := hex
        have hxq : x ∈ q := by
          rcases List.mem_append.1 hx with h | h
          · exact h
          · simp only [List.mem_singleton] at h; subst h; rw [hw] at hwx; cases hwx
        obtain ⟨y, hy, hwy, hly⟩ := ih q (by simp at hk; exact hk) ⟨i1, fun p hp => ha p (List.mem_append_left _ hp)⟩ ⟨x, hxq, hwx⟩
        refine ⟨y, List.mem_append_left _ hy, hwy, fun p hp hwp => ?_⟩
        rcases List.mem_append.1 hp with hp | hp
        · exact hly p hp hwp
        · simp only [List.mem_singleton] at hp; subst hp; rw [hw] at hwp; cases hwp
  obtain ⟨o, ho, hw, hlast⟩ := H _ l rfl hg ⟨a, hmem, hwa⟩
  have hk : keepV l note f o = true := by
    unfold keepV
    rw [hw, Bool.true_and, Bool.not_eq_true']
    cases hc : overd l o.at_ 1 note f with
    | false => rfl
    | true =>
      obtain ⟨p, hp, hwp, hs⟩ := (overd_iff hg.2 hf).1 hc
      have := over_less (hg.2 p hp) _ hs
      rw [hlast p hp hwp] at this; cases this
  intro e
  have : o ∈ l.filter (keepV l note f) := List.mem_filter.2 ⟨ho, hk⟩
  unfold valuesL at e
  rw [List.map_eq_nil_iff] at e
  rw [e] at this; cases this
end Go.Proofs.YtekkpfbjnjjcbaaGreatDoor
end
section
set_option linter.unusedVariables false
set_option linter.unusedSimpArgs false
set_option linter.unusedSectionVars false
namespace Go.Proofs.YtekkpfbjnjjcbaaGreatDoor
open Go.Ac
def topK (v : List Int) (k : Nat) : Int := (List.range k).foldl (fun m i => max m (num v i)) 0
theorem topK_succ (v : List Int) (k : Nat) : topK v (k + 1) = max (topK v k) (num v k) := by
  unfold topK
  rw [List.range_succ, List.foldl_append]; rfl
theorem topK_all (v : List Int) : topK v 15 = topV v := rfl
theorem nextS_none {v : List Int} {d : Int} : nextS v d = none ↔ ¬ (topV v < 1048576 ∧ 1 ≤ d ∧ d ≤ 15) := by
  unfold nextS
  split <;> simp_all
theorem next_right (v : List Int) (d : Int) : right ⟨min (topV v) 1048576 + 1, d⟩ = (nextS v d).isSome := by
  have h0 := (topV_le v).1
  unfold nextS
  split
  · rename_i h
    simp only [right, Option.isSome_some, Bool.and_eq_true, decide_eq_true_eq]
    omega
  · rename_i h
    cases hr : right ⟨min (topV v) 1048576 + 1, d⟩ with
    | false => rfl
    | true =>
      simp only [right, Bool.and_eq_true, decide_eq_true_eq] at hr
      exact absurd ⟨by omega, by omega, by omega⟩ h
theorem next_get {v : List Int} {d : Int} (h : (nextS v d).isSome = true) : nextS v d = some ⟨min (topV v) 1048576 + 1, d⟩ := by
  unfold nextS at h ⊢
  split at h
  · rename_i hc
    rw [if_pos hc, show min (topV v) 1048576 = topV v by omega]
  · cases h
end Go.Proofs.YtekkpfbjnjjcbaaGreatDoor
end
section
set_option linter.unusedVariables false
set_option linter.unusedSimpArgs false
set_option linter.unusedSectionVars false
namespace Go.Proofs.YtekkpfbjnjjcbaaGreatDoor
open Go.Ac
attribute [local irreducible] awp awpL Ev Ev2 EvS thenQ blockQ retQ PCalls OCalls
set_option linter.unusedSimpArgs false
set_option linter.unusedVariables false
variable {g : List (Nat × List AV)}
abbrev nextP (o : Option Stamp) : AV := .tup [.agg (stampC (o.getD ⟨0, 0⟩)), vb o.isSome]
set_option maxHeartbeats 1000000 in
theorem Next_spec (v : List Int) (dev : Int) (hv : v.length ≤ 1000000) : PCalls Tryz.prog g 52 [encIs v, vi dev] (nextP (nextS v dev)) := by
  have h0 := (topV_le v).1
  have hR := Right_spec (g := g) ⟨min (topV v) 1048576 + 1, dev⟩
  rw [next_right] at hR
  have n1 : (!true) = false := rfl
  have n2 : (!false) = true := rfl
  refine pcalls' Tryz.func52 Tryz.ntmps52 rfl rfl rfl ?_
  repeat' (first
   | refine stn [4] ?_
   | ((with_reducible refine is_gd ?_); refine awpL_split rfl rfl (fun h => ?_) (fun h => ?_))
   | ((with_reducible refine is_awp ?_); refine awp_cond rfl (fun h => ?_) (fun h => ?_))
   | fail)
  refine awp_for (α := Nat) 1 (fun k => [(0, encIs v), (1, vi dev), (4, .lp 0 0), (6, vi (topK v k)), (9, vi k)]) (fun _ => [.box [vi 0, vi 0]]) (fun k => k ≤ 15) (fun k => 15 - k) 0
    ⟨(.cons rfl rfl (.cons rfl rfl (.cons rfl rfl (.cons rfl rfl (.cons rfl rfl .nil))))), rfl, rfl, rfl⟩ (Nat.zero_le _) ?_
  rintro k hk
  by_cases hlt : k < 15
  · have c1 : decide ((k : Int) < 15) = true := decide_eq_true (by omega)
    have h1 := number_spec (g := g) v k hv
    have hT := topK_succ v k
    repeat' (first
     | refine stn [4] ?_
     | ((with_reducible refine is_gd ?_); refine awpL_split rfl rfl (fun h => ?_) (fun h => ?_))
     | ((with_reducible refine is_awp ?_); refine awp_cond rfl (fun h => ?_) (fun h => ?_))
     | fail)
    exact ⟨k + 1, by rw [hT]; exact ⟨(.cons rfl rfl (.cons rfl rfl (.cons rfl rfl (.cons rfl rfl (.cons rfl rfl .nil))))), rfl, rfl, rfl⟩, by omega, by omega⟩
  · have c1 : decide ((k : Int) < 15) = false := decide_eq_false (by omega)
    have hk15 : k = 15 := by omega
    subst hk15
    rw [topK_all]
    cases hs : (nextS v dev).isSome with
    | false =>
      rw [hs] at hR
      have hn : nextS v dev = none := by simpa using hs
      repeat' (first
       | refine stn [4] ?_
       | ((with_reducible refine is_gd ?_); refine awpL_split rfl rfl (fun h => ?_) (fun h => ?_))
       | ((with_reducible refine is_awp ?_); refine awp_cond rfl (fun h => ?_) (fun h => ?_))
       | fail)
      refine retP rfl ?_
      rw [nextP, hn]; rfl
    | true =>
      rw [hs] at hR
      have hn := next_get hs
      repeat' (first
       | refine stn [4] ?_
       | ((with_reducible refine is_gd ?_); refine awpL_split rfl rfl (fun h => ?_) (fun h => ?_))
       | ((with_reducible refine is_awp ?_); refine awp_cond rfl (fun h => ?_) (fun h => ?_))
       | fail)
      refine retP rfl ?_
      rw [nextP, hn]; rfl
set_option maxHeartbeats 1000000 in
theorem rNext_spec (v : List Int) (dev : Int) (hv : v.length ≤ 1000000) : PCalls Tryz.prog g 55 [encIs v, vi dev] (nextP (nextS v dev)) := by
  have h0 := (topV_le v).1
  refine pcalls' Tryz.func55 Tryz.ntmps55 rfl rfl rfl ?_
  repeat' (first
   | refine stn [4] ?_
   | ((with_reducible refine is_gd ?_); refine awpL_split rfl rfl (fun h => ?_) (fun h => ?_))
   | ((with_reducible refine is_awp ?_); refine awp_cond rfl (fun h => ?_) (fun h => ?_))
   | fail)
  refine awp_for (α := Nat) 1 (fun k => [(0, encIs v), (1, vi dev), (4, .lp 0 0), (6, vi (topK v (k - 1))), (7, vi k)]) (fun _ => [.box [vi 0, vi 0]]) (fun k => 1 ≤ k ∧ k ≤ 16) (fun k => 16 - k) 1
    ⟨(.cons rfl rfl (.cons rfl rfl (.cons rfl rfl (.cons rfl rfl (.cons rfl rfl .nil))))), rfl, rfl, rfl⟩ ⟨Nat.le_refl _, by omega⟩ ?_
  rintro k ⟨hk1, hk⟩
  by_cases hlt : k ≤ 15
  · have c1 : decide ((k : Int) ≤ 15) = true := decide_eq_true (by omega)
    have h1 := At_spec (g := g) v k hv
    rw [rnum, if_pos (by omega), show ((k : Int) - 1).toNat = k - 1 by omega] at h1
    have hT := topK_succ v (k - 1)
    rw [show k - 1 + 1 = k by omega] at hT
    repeat' (first
     | refine stn [4] ?_
     | ((with_reducible refine is_gd ?_); refine awpL_split rfl rfl (fun h => ?_) (fun h => ?_))
     | ((with_reducible refine is_awp ?_); refine awp_cond rfl (fun h => ?_) (fun h => ?_))
     | fail)
    exact ⟨k + 1, by rw [Nat.add_sub_cancel, hT]; exact ⟨(.cons rfl rfl (.cons rfl rfl (.cons rfl rfl (.cons rfl rfl (.cons rfl rfl .nil))))), rfl, rfl, rfl⟩, by omega, by omega⟩
  · have c1 : decide ((k : Int) ≤ 15) = false := decide_eq_false (by omega)
    have hk15 : k = 16 := by omega
    subst hk15
    rw [show 16 - 1 = 15 from rfl, topK_all]
    by_cases h1 : 1048576 ≤ topV v
    · have d1 : decide (1048576 ≤ topV v) = true := decide_eq_true h1
      repeat' (first
       | refine stn [4] ?_
       | ((with_reducible refine is_gd ?_); refine awpL_split rfl rfl (fun h => ?_) (fun h => ?_))
       | ((with_reducible refine is_awp ?_); refine awp_cond rfl (fun h => ?_) (fun h => ?_))
       | fail)
      refine retP rfl ?_
      rw [nextP, nextS_none.2 (by omega)]; rfl
    have d1 : decide (1048576 ≤ topV v) = false := decide_eq_false h1
    by_cases h2 : dev < 1
    · have d2 : decide (dev < 1) = true := decide_eq_true h2
      repeat' (first
       | refine stn [4] ?_
       | ((with_reducible refine is_gd ?_); refine awpL_split rfl rfl (fun h => ?_) (fun h => ?_))
       | ((with_reducible refine is_awp ?_); refine awp_cond rfl (fun h => ?_) (fun h => ?_))
       | fail)
      refine retP rfl ?_
      rw [nextP, nextS_none.2 (by omega)]; rfl
    have d2 : decide (dev < 1) = false := decide_eq_false h2
    by_cases h3 : 15 < dev
    · have d3 : decide (15 < dev) = true := decide_eq_true h3
      repeat' (first
       | refine stn [4] ?_
       | ((with_reducible refine is_gd ?_); refine awpL_split rfl rfl (fun h => ?_) (fun h => ?_))
       | ((with_reducible refine is_awp ?_); refine awp_cond rfl (fun h => ?_) (fun h => ?_))
       | fail)
      refine retP rfl ?_
      rw [nextP, nextS_none.2 (by omega)]; rfl
    have d3 : decide (15 < dev) = false := decide_eq_false h3
    have hn : nextS v dev = some ⟨topV v + 1, dev⟩ := by unfold nextS; rw [if_pos (by omega)]
    repeat' (first
     | refine stn [4] ?_
     | ((with_reducible refine is_gd ?_); refine awpL_split rfl rfl (fun h => ?_) (fun h => ?_))
     | ((with_reducible refine is_awp ?_); refine awp_cond rfl (fun h => ?_) (fun h => ?_))
     | fail)
    refine retP rfl ?_
    rw [nextP, hn]; rfl
end Go.Proofs.YtekkpfbjnjjcbaaGreatDoor
end
