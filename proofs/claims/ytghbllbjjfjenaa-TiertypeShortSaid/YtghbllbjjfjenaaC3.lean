/- Names, tiers, Check. -/
import Derived.Test.YtghbllbjjfjenaaC2
namespace Go.Proofs.Ytghbllbjjfjenaa
open Go.Ab
attribute [local irreducible] awp awpL Ev Ev2 EvS thenQ blockQ retQ PCalls OCalls awpD
set_option linter.unusedSimpArgs false
set_option linter.unusedVariables false

theorem all_drop_get {l : List UInt8} {k : Nat} {b : UInt8} (p : UInt8 → Bool) (h : l[k]? = some b) : (l.drop k).all p = (p b && (l.drop (k + 1)).all p) := by
  obtain ⟨hlt, rfl⟩ := List.getElem?_eq_some_iff.1 h
  rw [List.drop_eq_getElem_cons hlt, List.all_cons]

theorem byte_get {s : ByteArray} {k : Nat} {b : UInt8} (h : s.data.toList[k]? = some b) : 0 ≤ (k : Int) ∧ s.data[(k : Int).toNat]? = some b := ⟨by omega, by simpa using h⟩
theorem bytesA_get {s : ByteArray} {k : Nat} {b : UInt8} (h : s.data.toList[k]? = some b) : 0 ≤ (k : Int) ∧ (bytesA s)[(k : Int).toNat]? = some [.v (.int .u8 b.toNat)] := ⟨by omega, by simp [bytesA]; exact ⟨b, by simpa using h, rfl⟩⟩

theorem size_data (s : ByteArray) : s.data.toList.length = s.size := by rw [Array.length_toList]; rfl

set_option maxHeartbeats 1000000 in
theorem Name_spec (s : ByteArray) : PCalls Try.prog [] 34 [vs s] (vb (nameOk s)) := by
  refine pcalls' Try.func34 Try.ntmps34 rfl rfl rfl ?_
  by_cases he : s = ⟨#[]⟩
  · subst he
    have c0 : decide ((⟨#[]⟩ : ByteArray) = ⟨#[]⟩) = true := by simp
    repeat' (first
      | (with_reducible refine is_un ?_; first
        | (with_reducible refine is_move ?_; (first | refine awpL_ev (ev_move rfl) rfl ?_))
        | (with_reducible refine is_bin ?_; (first | refine awpL_ev (ev_add rfl rfl (by omega)) rfl ?_ | refine awpL_ev (ev_sub rfl rfl (by omega)) rfl ?_ | refine awpL_ev (ev_bin rfl rfl rfl) rfl ?_ | refine awpL_ev (ev_eq_bool rfl rfl rfl rfl) rfl ?_))
        | (with_reducible refine is_fa ?_; (first | refine awpL_ev (ev_fa_fp rfl rfl rfl rfl rfl rfl) rfl ?_ | refine awpL_ev (ev_fa_lp rfl rfl rfl rfl rfl rfl) rfl ?_ | refine awpL_ev (ev_fa_ep rfl rfl rfl rfl rfl rfl) rfl ?_))
        | (with_reducible refine is_load ?_; (first | refine awpL_ev (ev_load_agg rfl rfl rfl rfl) rfl ?_ | refine awpL_ev (ev_load_sub rfl rfl rfl rfl rfl) rfl ?_ | refine awpL_ev (ev_load_one rfl rfl rfl rfl) rfl ?_ | refine awpL_ev (ev_ll_agg rfl rfl rfl rfl rfl rfl rfl) rfl ?_ | refine awpL_ev (ev_ll_lag rfl rfl rfl rfl rfl rfl) rfl ?_ | refine awpL_ev (ev_ll_one rfl rfl rfl rfl rfl) rfl ?_ | refine awpL_ev (ev_el_one rfl rfl rfl rfl (by with_reducible assumption) rfl) rfl ?_))
        | (with_reducible refine is_pick ?_; (first | refine awpL_ev (ev_pick_t rfl (by first | with_reducible rfl | with_reducible assumption) rfl) rfl ?_ | refine awpL_ev (ev_pick_f rfl (by first | with_reducible rfl | with_reducible assumption) rfl) rfl ?_))
        | (with_reducible refine is_assign ?_; (first | refine awpL_ev (ev_assign rfl) rfl ?_))
        | (with_reducible refine is_call ?_; (first | refine awpL_ev (ev_len rfl rfl rfl rfl rfl) rfl ?_ | refine awpL_ev (ev_len_os rfl rfl rfl rfl rfl) rfl ?_))
        | refine awpL_ev (ev_not rfl) rfl ?_
        | refine awpL_ev (ev_ia_fs rfl rfl rfl rfl rfl rfl (by with_reducible assumption)) rfl ?_
        | refine awpL_ev (ev_ia_os rfl rfl rfl rfl rfl rfl rfl (by with_reducible assumption)) rfl ?_
        | refine awpL_ev (ev_extract rfl rfl) rfl ?_
        | refine awpL_ev (ev_index_str rfl rfl rfl rfl (by with_reducible assumption)) rfl ?_
        | refine awpL_ev (ev_build rfl rfl rfl rfl rfl rfl rfl) rfl ?_
        | refine awpL_ev (ev_build_lag rfl rfl rfl rfl rfl rfl) rfl ?_
        | refine awpL_ev (ev_slice_fs rfl rfl rfl rfl rfl rfl rfl (by with_reducible assumption) rfl rfl) rfl ?_
        | refine awpL_ev2 (ev_bslice_in rfl rfl rfl rfl rfl rfl rfl rfl rfl rfl rfl rfl (by (try simp only [List.map_cons, List.map_nil, cellsOf]); (try rfl))) rfl ?_
        | refine awpL_ev2 (ev_stb rfl rfl rfl rfl rfl rfl rfl) rfl ?_
        | refine awpL_ev2 (ev_alloc rfl rfl (by (try simp only [List.length_nil, List.length_cons, Nat.reduceAdd]); (try rfl)) (by (try simp only [List.set_cons_zero, List.set_cons_succ, List.nil_append, List.cons_append, List.append_nil, cellsOf, List.take_zero, List.drop_zero, List.take_succ_cons, List.drop_succ_cons, Nat.zero_add, Nat.reduceAdd, List.drop_nil, List.map_cons, List.map_nil]); (try rfl))) rfl ?_
        | refine awpL_ev2 (ev_box rfl rfl (by (try simp only [List.length_nil, List.length_cons, Nat.reduceAdd]); (try rfl)) (by (try simp only [List.set_cons_zero, List.set_cons_succ, List.nil_append, List.cons_append, List.append_nil, cellsOf, List.take_zero, List.drop_zero, List.take_succ_cons, List.drop_succ_cons, Nat.zero_add, Nat.reduceAdd, List.drop_nil, List.map_cons, List.map_nil]); (try rfl))) rfl ?_
        | refine awpL_evS (ev_st_lp rfl rfl rfl rfl rfl rfl rfl (by (try simp only [List.set_cons_zero, List.set_cons_succ, List.nil_append, List.cons_append, List.append_nil, cellsOf, List.take_zero, List.drop_zero, List.take_succ_cons, List.drop_succ_cons, Nat.zero_add, Nat.reduceAdd, List.drop_nil, List.map_cons, List.map_nil]); (try rfl))) ?_)
      | (with_reducible refine is_gd ?_; (first | refine awpL_run rfl rfl rfl (by first | with_reducible rfl | with_reducible assumption) ?_ | refine awpL_passT rfl rfl rfl rfl (by first | with_reducible rfl | with_reducible assumption) ?_ | refine awpL_passF rfl rfl rfl rfl (by first | with_reducible rfl | with_reducible assumption) ?_ | refine awpL_passU rfl rfl rfl rfl ?_ | refine awpL_split rfl rfl (fun h => ?_) (fun h => ?_)))
      | (with_reducible refine is_nil ?_; refine awpL_nil ?_)
      | (with_reducible refine is_then ?_; (first | refine thenQ_n ?_ | refine thenQ_r ?_ | refine thenQ_e ?_))
      | (with_reducible refine is_block ?_; (first | refine blockQ_n ?_ | refine blockQ_r ?_ | refine blockQ_e ?_ | refine blockQ_o rfl ?_))
      | (with_reducible refine is_awp ?_; (first | refine awp_seq ?_ | refine awp_ret ?_ | refine awp_skip ?_ | refine awp_exit ?_ | refine awp_label ?_ | refine awp_block ?_ | refine awp_region ?_ | refine awp_cond_t rfl (by first | with_reducible rfl | with_reducible assumption) ?_ | refine awp_cond_f rfl (by first | with_reducible rfl | with_reducible assumption) ?_ | refine awp_cond rfl (fun h => ?_) (fun h => ?_))))
    refine retP rfl ?_
    rfl
  have c0 : decide (s = ⟨#[]⟩) = false := by simpa using he
  by_cases hl : 32 < (s.size : Int)
  · have c1 : decide (32 < (s.size : Int)) = true := by simpa using hl
    repeat' (first
      | (with_reducible refine is_un ?_; first
        | (with_reducible refine is_move ?_; (first | refine awpL_ev (ev_move rfl) rfl ?_))
        | (with_reducible refine is_bin ?_; (first | refine awpL_ev (ev_add rfl rfl (by omega)) rfl ?_ | refine awpL_ev (ev_sub rfl rfl (by omega)) rfl ?_ | refine awpL_ev (ev_bin rfl rfl rfl) rfl ?_ | refine awpL_ev (ev_eq_bool rfl rfl rfl rfl) rfl ?_))
        | (with_reducible refine is_fa ?_; (first | refine awpL_ev (ev_fa_fp rfl rfl rfl rfl rfl rfl) rfl ?_ | refine awpL_ev (ev_fa_lp rfl rfl rfl rfl rfl rfl) rfl ?_ | refine awpL_ev (ev_fa_ep rfl rfl rfl rfl rfl rfl) rfl ?_))
        | (with_reducible refine is_load ?_; (first | refine awpL_ev (ev_load_agg rfl rfl rfl rfl) rfl ?_ | refine awpL_ev (ev_load_sub rfl rfl rfl rfl rfl) rfl ?_ | refine awpL_ev (ev_load_one rfl rfl rfl rfl) rfl ?_ | refine awpL_ev (ev_ll_agg rfl rfl rfl rfl rfl rfl rfl) rfl ?_ | refine awpL_ev (ev_ll_lag rfl rfl rfl rfl rfl rfl) rfl ?_ | refine awpL_ev (ev_ll_one rfl rfl rfl rfl rfl) rfl ?_ | refine awpL_ev (ev_el_one rfl rfl rfl rfl (by with_reducible assumption) rfl) rfl ?_))
        | (with_reducible refine is_pick ?_; (first | refine awpL_ev (ev_pick_t rfl (by first | with_reducible rfl | with_reducible assumption) rfl) rfl ?_ | refine awpL_ev (ev_pick_f rfl (by first | with_reducible rfl | with_reducible assumption) rfl) rfl ?_))
        | (with_reducible refine is_assign ?_; (first | refine awpL_ev (ev_assign rfl) rfl ?_))
        | (with_reducible refine is_call ?_; (first | refine awpL_ev (ev_len rfl rfl rfl rfl rfl) rfl ?_ | refine awpL_ev (ev_len_os rfl rfl rfl rfl rfl) rfl ?_))
        | refine awpL_ev (ev_not rfl) rfl ?_
        | refine awpL_ev (ev_ia_fs rfl rfl rfl rfl rfl rfl (by with_reducible assumption)) rfl ?_
        | refine awpL_ev (ev_ia_os rfl rfl rfl rfl rfl rfl rfl (by with_reducible assumption)) rfl ?_
        | refine awpL_ev (ev_extract rfl rfl) rfl ?_
        | refine awpL_ev (ev_index_str rfl rfl rfl rfl (by with_reducible assumption)) rfl ?_
        | refine awpL_ev (ev_build rfl rfl rfl rfl rfl rfl rfl) rfl ?_
        | refine awpL_ev (ev_build_lag rfl rfl rfl rfl rfl rfl) rfl ?_
        | refine awpL_ev (ev_slice_fs rfl rfl rfl rfl rfl rfl rfl (by with_reducible assumption) rfl rfl) rfl ?_
        | refine awpL_ev2 (ev_bslice_in rfl rfl rfl rfl rfl rfl rfl rfl rfl rfl rfl rfl (by (try simp only [List.map_cons, List.map_nil, cellsOf]); (try rfl))) rfl ?_
        | refine awpL_ev2 (ev_stb rfl rfl rfl rfl rfl rfl rfl) rfl ?_
        | refine awpL_ev2 (ev_alloc rfl rfl (by (try simp only [List.length_nil, List.length_cons, Nat.reduceAdd]); (try rfl)) (by (try simp only [List.set_cons_zero, List.set_cons_succ, List.nil_append, List.cons_append, List.append_nil, cellsOf, List.take_zero, List.drop_zero, List.take_succ_cons, List.drop_succ_cons, Nat.zero_add, Nat.reduceAdd, List.drop_nil, List.map_cons, List.map_nil]); (try rfl))) rfl ?_
        | refine awpL_ev2 (ev_box rfl rfl (by (try simp only [List.length_nil, List.length_cons, Nat.reduceAdd]); (try rfl)) (by (try simp only [List.set_cons_zero, List.set_cons_succ, List.nil_append, List.cons_append, List.append_nil, cellsOf, List.take_zero, List.drop_zero, List.take_succ_cons, List.drop_succ_cons, Nat.zero_add, Nat.reduceAdd, List.drop_nil, List.map_cons, List.map_nil]); (try rfl))) rfl ?_
        | refine awpL_evS (ev_st_lp rfl rfl rfl rfl rfl rfl rfl (by (try simp only [List.set_cons_zero, List.set_cons_succ, List.nil_append, List.cons_append, List.append_nil, cellsOf, List.take_zero, List.drop_zero, List.take_succ_cons, List.drop_succ_cons, Nat.zero_add, Nat.reduceAdd, List.drop_nil, List.map_cons, List.map_nil]); (try rfl))) ?_)
      | (with_reducible refine is_gd ?_; (first | refine awpL_run rfl rfl rfl (by first | with_reducible rfl | with_reducible assumption) ?_ | refine awpL_passT rfl rfl rfl rfl (by first | with_reducible rfl | with_reducible assumption) ?_ | refine awpL_passF rfl rfl rfl rfl (by first | with_reducible rfl | with_reducible assumption) ?_ | refine awpL_passU rfl rfl rfl rfl ?_ | refine awpL_split rfl rfl (fun h => ?_) (fun h => ?_)))
      | (with_reducible refine is_nil ?_; refine awpL_nil ?_)
      | (with_reducible refine is_then ?_; (first | refine thenQ_n ?_ | refine thenQ_r ?_ | refine thenQ_e ?_))
      | (with_reducible refine is_block ?_; (first | refine blockQ_n ?_ | refine blockQ_r ?_ | refine blockQ_e ?_ | refine blockQ_o rfl ?_))
      | (with_reducible refine is_awp ?_; (first | refine awp_seq ?_ | refine awp_ret ?_ | refine awp_skip ?_ | refine awp_exit ?_ | refine awp_label ?_ | refine awp_block ?_ | refine awp_region ?_ | refine awp_cond_t rfl (by first | with_reducible rfl | with_reducible assumption) ?_ | refine awp_cond_f rfl (by first | with_reducible rfl | with_reducible assumption) ?_ | refine awp_cond rfl (fun h => ?_) (fun h => ?_))))
    refine retP rfl ?_
    have : ¬ s.size ≤ 32 := by omega
    simp [ex, nameOk, this]
  have c1 : decide (32 < (s.size : Int)) = false := by simpa using hl
  have hb : ∃ b, s.data.toList[0]? = some b := by
    cases hh : s.data.toList[0]? with
    | some b => exact ⟨b, rfl⟩
    | none =>
      exfalso; apply he
      have hz : s.data.toList = [] := by
        have := List.getElem?_eq_none_iff.1 hh
        exact List.eq_nil_of_length_eq_zero (by omega)
      cases s with | mk d => congr 1; exact Array.ext' (by simpa using hz)
  obtain ⟨b, hb⟩ := hb
  have g0 : 0 ≤ (0 : Int) ∧ s.data[(0 : Int).toNat]? = some b := by simpa using hb
  have hsz : s.data.toList.length = s.size := size_data s
  have h1 : 1 ≤ s.size := by have := (List.getElem?_eq_some_iff.1 hb).1; omega
  have hcons : s.data.toList = b :: s.data.toList.drop 1 := by
    have := List.drop_eq_getElem_cons (List.getElem?_eq_some_iff.1 hb).1
    rw [(List.getElem?_eq_some_iff.1 hb).2] at this
    simpa using this
  by_cases hs : small b.toNat = true
  · have c2 : decide ((b.toNat : Int) < 97) = false := by simp [small] at hs; simp; omega
    have c3 : decide (122 < (b.toNat : Int)) = false := by simp [small] at hs; simp; omega
    repeat' (first
      | (with_reducible refine is_un ?_; first
        | (with_reducible refine is_move ?_; (first | refine awpL_ev (ev_move rfl) rfl ?_))
        | (with_reducible refine is_bin ?_; (first | refine awpL_ev (ev_add rfl rfl (by omega)) rfl ?_ | refine awpL_ev (ev_sub rfl rfl (by omega)) rfl ?_ | refine awpL_ev (ev_bin rfl rfl rfl) rfl ?_ | refine awpL_ev (ev_eq_bool rfl rfl rfl rfl) rfl ?_))
        | (with_reducible refine is_fa ?_; (first | refine awpL_ev (ev_fa_fp rfl rfl rfl rfl rfl rfl) rfl ?_ | refine awpL_ev (ev_fa_lp rfl rfl rfl rfl rfl rfl) rfl ?_ | refine awpL_ev (ev_fa_ep rfl rfl rfl rfl rfl rfl) rfl ?_))
        | (with_reducible refine is_load ?_; (first | refine awpL_ev (ev_load_agg rfl rfl rfl rfl) rfl ?_ | refine awpL_ev (ev_load_sub rfl rfl rfl rfl rfl) rfl ?_ | refine awpL_ev (ev_load_one rfl rfl rfl rfl) rfl ?_ | refine awpL_ev (ev_ll_agg rfl rfl rfl rfl rfl rfl rfl) rfl ?_ | refine awpL_ev (ev_ll_lag rfl rfl rfl rfl rfl rfl) rfl ?_ | refine awpL_ev (ev_ll_one rfl rfl rfl rfl rfl) rfl ?_ | refine awpL_ev (ev_el_one rfl rfl rfl rfl (by with_reducible assumption) rfl) rfl ?_))
        | (with_reducible refine is_pick ?_; (first | refine awpL_ev (ev_pick_t rfl (by first | with_reducible rfl | with_reducible assumption) rfl) rfl ?_ | refine awpL_ev (ev_pick_f rfl (by first | with_reducible rfl | with_reducible assumption) rfl) rfl ?_))
        | (with_reducible refine is_assign ?_; (first | refine awpL_ev (ev_assign rfl) rfl ?_))
        | (with_reducible refine is_call ?_; (first | refine awpL_ev (ev_len rfl rfl rfl rfl rfl) rfl ?_ | refine awpL_ev (ev_len_os rfl rfl rfl rfl rfl) rfl ?_))
        | refine awpL_ev (ev_not rfl) rfl ?_
        | refine awpL_ev (ev_ia_fs rfl rfl rfl rfl rfl rfl (by with_reducible assumption)) rfl ?_
        | refine awpL_ev (ev_ia_os rfl rfl rfl rfl rfl rfl rfl (by with_reducible assumption)) rfl ?_
        | refine awpL_ev (ev_extract rfl rfl) rfl ?_
        | refine awpL_ev (ev_index_str rfl rfl rfl rfl (by with_reducible assumption)) rfl ?_
        | refine awpL_ev (ev_build rfl rfl rfl rfl rfl rfl rfl) rfl ?_
        | refine awpL_ev (ev_build_lag rfl rfl rfl rfl rfl rfl) rfl ?_
        | refine awpL_ev (ev_slice_fs rfl rfl rfl rfl rfl rfl rfl (by with_reducible assumption) rfl rfl) rfl ?_
        | refine awpL_ev2 (ev_bslice_in rfl rfl rfl rfl rfl rfl rfl rfl rfl rfl rfl rfl (by (try simp only [List.map_cons, List.map_nil, cellsOf]); (try rfl))) rfl ?_
        | refine awpL_ev2 (ev_stb rfl rfl rfl rfl rfl rfl rfl) rfl ?_
        | refine awpL_ev2 (ev_alloc rfl rfl (by (try simp only [List.length_nil, List.length_cons, Nat.reduceAdd]); (try rfl)) (by (try simp only [List.set_cons_zero, List.set_cons_succ, List.nil_append, List.cons_append, List.append_nil, cellsOf, List.take_zero, List.drop_zero, List.take_succ_cons, List.drop_succ_cons, Nat.zero_add, Nat.reduceAdd, List.drop_nil, List.map_cons, List.map_nil]); (try rfl))) rfl ?_
        | refine awpL_ev2 (ev_box rfl rfl (by (try simp only [List.length_nil, List.length_cons, Nat.reduceAdd]); (try rfl)) (by (try simp only [List.set_cons_zero, List.set_cons_succ, List.nil_append, List.cons_append, List.append_nil, cellsOf, List.take_zero, List.drop_zero, List.take_succ_cons, List.drop_succ_cons, Nat.zero_add, Nat.reduceAdd, List.drop_nil, List.map_cons, List.map_nil]); (try rfl))) rfl ?_
        | refine awpL_evS (ev_st_lp rfl rfl rfl rfl rfl rfl rfl (by (try simp only [List.set_cons_zero, List.set_cons_succ, List.nil_append, List.cons_append, List.append_nil, cellsOf, List.take_zero, List.drop_zero, List.take_succ_cons, List.drop_succ_cons, Nat.zero_add, Nat.reduceAdd, List.drop_nil, List.map_cons, List.map_nil]); (try rfl))) ?_)
      | (with_reducible refine is_gd ?_; (first | refine awpL_run rfl rfl rfl (by first | with_reducible rfl | with_reducible assumption) ?_ | refine awpL_passT rfl rfl rfl rfl (by first | with_reducible rfl | with_reducible assumption) ?_ | refine awpL_passF rfl rfl rfl rfl (by first | with_reducible rfl | with_reducible assumption) ?_ | refine awpL_passU rfl rfl rfl rfl ?_ | refine awpL_split rfl rfl (fun h => ?_) (fun h => ?_)))
      | (with_reducible refine is_nil ?_; refine awpL_nil ?_)
      | (with_reducible refine is_then ?_; (first | refine thenQ_n ?_ | refine thenQ_r ?_ | refine thenQ_e ?_))
      | (with_reducible refine is_block ?_; (first | refine blockQ_n ?_ | refine blockQ_r ?_ | refine blockQ_e ?_ | refine blockQ_o rfl ?_))
      | (with_reducible refine is_awp ?_; (first | refine awp_seq ?_ | refine awp_ret ?_ | refine awp_skip ?_ | refine awp_exit ?_ | refine awp_label ?_ | refine awp_block ?_ | refine awp_region ?_ | refine awp_cond_t rfl (by first | with_reducible rfl | with_reducible assumption) ?_ | refine awp_cond_f rfl (by first | with_reducible rfl | with_reducible assumption) ?_ | refine awp_cond rfl (fun h => ?_) (fun h => ?_))))
    refine awp_for (α := Nat) 0 (fun k => [(23, .fs 1 s.size (bytesA s)), (24, vi s.size), (25, vi k)]) (fun _ => []) (fun k => k ≤ s.size ∧ (s.data.toList.all fun b => letter b.toNat) = ((s.data.toList.drop k).all fun b => letter b.toNat)) (fun k => s.size - k) 0
      ⟨(.cons rfl rfl (.cons rfl rfl (.cons rfl rfl .nil))), rfl, rfl, rfl⟩ ⟨Nat.zero_le _, rfl⟩ ?_
    rintro k ⟨hk, hf⟩
    cases ht : s.data.toList[k]? with
    | none =>
      have hge : s.data.toList.length ≤ k := by simpa using ht
      have d1 : decide ((k : Int) < s.size) = false := by simp; omega
      rw [List.drop_of_length_le hge] at hf
      repeat' (first
        | (with_reducible refine is_un ?_; first
          | (with_reducible refine is_move ?_; (first | refine awpL_ev (ev_move rfl) rfl ?_))
          | (with_reducible refine is_bin ?_; (first | refine awpL_ev (ev_add rfl rfl (by omega)) rfl ?_ | refine awpL_ev (ev_sub rfl rfl (by omega)) rfl ?_ | refine awpL_ev (ev_bin rfl rfl rfl) rfl ?_ | refine awpL_ev (ev_eq_bool rfl rfl rfl rfl) rfl ?_))
          | (with_reducible refine is_fa ?_; (first | refine awpL_ev (ev_fa_fp rfl rfl rfl rfl rfl rfl) rfl ?_ | refine awpL_ev (ev_fa_lp rfl rfl rfl rfl rfl rfl) rfl ?_ | refine awpL_ev (ev_fa_ep rfl rfl rfl rfl rfl rfl) rfl ?_))
          | (with_reducible refine is_load ?_; (first | refine awpL_ev (ev_load_agg rfl rfl rfl rfl) rfl ?_ | refine awpL_ev (ev_load_sub rfl rfl rfl rfl rfl) rfl ?_ | refine awpL_ev (ev_load_one rfl rfl rfl rfl) rfl ?_ | refine awpL_ev (ev_ll_agg rfl rfl rfl rfl rfl rfl rfl) rfl ?_ | refine awpL_ev (ev_ll_lag rfl rfl rfl rfl rfl rfl) rfl ?_ | refine awpL_ev (ev_ll_one rfl rfl rfl rfl rfl) rfl ?_ | refine awpL_ev (ev_el_one rfl rfl rfl rfl (by with_reducible assumption) rfl) rfl ?_))
          | (with_reducible refine is_pick ?_; (first | refine awpL_ev (ev_pick_t rfl (by first | with_reducible rfl | with_reducible assumption) rfl) rfl ?_ | refine awpL_ev (ev_pick_f rfl (by first | with_reducible rfl | with_reducible assumption) rfl) rfl ?_))
          | (with_reducible refine is_assign ?_; (first | refine awpL_ev (ev_assign rfl) rfl ?_))
          | (with_reducible refine is_call ?_; (first | refine awpL_ev (ev_len rfl rfl rfl rfl rfl) rfl ?_ | refine awpL_ev (ev_len_os rfl rfl rfl rfl rfl) rfl ?_))
          | refine awpL_ev (ev_not rfl) rfl ?_
          | refine awpL_ev (ev_ia_fs rfl rfl rfl rfl rfl rfl (by with_reducible assumption)) rfl ?_
          | refine awpL_ev (ev_ia_os rfl rfl rfl rfl rfl rfl rfl (by with_reducible assumption)) rfl ?_
          | refine awpL_ev (ev_extract rfl rfl) rfl ?_
          | refine awpL_ev (ev_index_str rfl rfl rfl rfl (by with_reducible assumption)) rfl ?_
          | refine awpL_ev (ev_build rfl rfl rfl rfl rfl rfl rfl) rfl ?_
          | refine awpL_ev (ev_build_lag rfl rfl rfl rfl rfl rfl) rfl ?_
          | refine awpL_ev (ev_slice_fs rfl rfl rfl rfl rfl rfl rfl (by with_reducible assumption) rfl rfl) rfl ?_
          | refine awpL_ev2 (ev_bslice_in rfl rfl rfl rfl rfl rfl rfl rfl rfl rfl rfl rfl (by (try simp only [List.map_cons, List.map_nil, cellsOf]); (try rfl))) rfl ?_
          | refine awpL_ev2 (ev_stb rfl rfl rfl rfl rfl rfl rfl) rfl ?_
          | refine awpL_ev2 (ev_alloc rfl rfl (by (try simp only [List.length_nil, List.length_cons, Nat.reduceAdd]); (try rfl)) (by (try simp only [List.set_cons_zero, List.set_cons_succ, List.nil_append, List.cons_append, List.append_nil, cellsOf, List.take_zero, List.drop_zero, List.take_succ_cons, List.drop_succ_cons, Nat.zero_add, Nat.reduceAdd, List.drop_nil, List.map_cons, List.map_nil]); (try rfl))) rfl ?_
          | refine awpL_ev2 (ev_box rfl rfl (by (try simp only [List.length_nil, List.length_cons, Nat.reduceAdd]); (try rfl)) (by (try simp only [List.set_cons_zero, List.set_cons_succ, List.nil_append, List.cons_append, List.append_nil, cellsOf, List.take_zero, List.drop_zero, List.take_succ_cons, List.drop_succ_cons, Nat.zero_add, Nat.reduceAdd, List.drop_nil, List.map_cons, List.map_nil]); (try rfl))) rfl ?_
          | refine awpL_evS (ev_st_lp rfl rfl rfl rfl rfl rfl rfl (by (try simp only [List.set_cons_zero, List.set_cons_succ, List.nil_append, List.cons_append, List.append_nil, cellsOf, List.take_zero, List.drop_zero, List.take_succ_cons, List.drop_succ_cons, Nat.zero_add, Nat.reduceAdd, List.drop_nil, List.map_cons, List.map_nil]); (try rfl))) ?_)
        | (with_reducible refine is_gd ?_; (first | refine awpL_run rfl rfl rfl (by first | with_reducible rfl | with_reducible assumption) ?_ | refine awpL_passT rfl rfl rfl rfl (by first | with_reducible rfl | with_reducible assumption) ?_ | refine awpL_passF rfl rfl rfl rfl (by first | with_reducible rfl | with_reducible assumption) ?_ | refine awpL_passU rfl rfl rfl rfl ?_ | refine awpL_split rfl rfl (fun h => ?_) (fun h => ?_)))
        | (with_reducible refine is_nil ?_; refine awpL_nil ?_)
        | (with_reducible refine is_then ?_; (first | refine thenQ_n ?_ | refine thenQ_r ?_ | refine thenQ_e ?_))
        | (with_reducible refine is_block ?_; (first | refine blockQ_n ?_ | refine blockQ_r ?_ | refine blockQ_e ?_ | refine blockQ_o rfl ?_))
        | (with_reducible refine is_awp ?_; (first | refine awp_seq ?_ | refine awp_ret ?_ | refine awp_skip ?_ | refine awp_exit ?_ | refine awp_label ?_ | refine awp_block ?_ | refine awp_region ?_ | refine awp_cond_t rfl (by first | with_reducible rfl | with_reducible assumption) ?_ | refine awp_cond_f rfl (by first | with_reducible rfl | with_reducible assumption) ?_ | refine awp_cond rfl (fun h => ?_) (fun h => ?_))))
      refine retP rfl ?_
      have : s.size ≤ 32 := by omega
      simp only [ex, nameOk, hf]
      rw [hcons]
      simp [hs, this, h1]
    | some c =>
      have hlt : k < s.data.toList.length := (List.getElem?_eq_some_iff.1 ht).1
      have d1 : decide ((k : Int) < s.size) = true := by simp; omega
      have g1 := bytesA_get ht
      have hd := all_drop_get (fun b => letter b.toNat) ht
      repeat' (first
        | (with_reducible refine is_un ?_; first
          | (with_reducible refine is_move ?_; (first | refine awpL_ev (ev_move rfl) rfl ?_))
          | (with_reducible refine is_bin ?_; (first | refine awpL_ev (ev_add rfl rfl (by omega)) rfl ?_ | refine awpL_ev (ev_sub rfl rfl (by omega)) rfl ?_ | refine awpL_ev (ev_bin rfl rfl rfl) rfl ?_ | refine awpL_ev (ev_eq_bool rfl rfl rfl rfl) rfl ?_))
          | (with_reducible refine is_fa ?_; (first | refine awpL_ev (ev_fa_fp rfl rfl rfl rfl rfl rfl) rfl ?_ | refine awpL_ev (ev_fa_lp rfl rfl rfl rfl rfl rfl) rfl ?_ | refine awpL_ev (ev_fa_ep rfl rfl rfl rfl rfl rfl) rfl ?_))
          | (with_reducible refine is_load ?_; (first | refine awpL_ev (ev_load_agg rfl rfl rfl rfl) rfl ?_ | refine awpL_ev (ev_load_sub rfl rfl rfl rfl rfl) rfl ?_ | refine awpL_ev (ev_load_one rfl rfl rfl rfl) rfl ?_ | refine awpL_ev (ev_ll_agg rfl rfl rfl rfl rfl rfl rfl) rfl ?_ | refine awpL_ev (ev_ll_lag rfl rfl rfl rfl rfl rfl) rfl ?_ | refine awpL_ev (ev_ll_one rfl rfl rfl rfl rfl) rfl ?_ | refine awpL_ev (ev_el_one rfl rfl rfl rfl (by with_reducible assumption) rfl) rfl ?_))
          | (with_reducible refine is_pick ?_; (first | refine awpL_ev (ev_pick_t rfl (by first | with_reducible rfl | with_reducible assumption) rfl) rfl ?_ | refine awpL_ev (ev_pick_f rfl (by first | with_reducible rfl | with_reducible assumption) rfl) rfl ?_))
          | (with_reducible refine is_assign ?_; (first | refine awpL_ev (ev_assign rfl) rfl ?_))
          | (with_reducible refine is_call ?_; (first | refine awpL_ev (ev_len rfl rfl rfl rfl rfl) rfl ?_ | refine awpL_ev (ev_len_os rfl rfl rfl rfl rfl) rfl ?_))
          | refine awpL_ev (ev_not rfl) rfl ?_
          | refine awpL_ev (ev_ia_fs rfl rfl rfl rfl rfl rfl (by with_reducible assumption)) rfl ?_
          | refine awpL_ev (ev_ia_os rfl rfl rfl rfl rfl rfl rfl (by with_reducible assumption)) rfl ?_
          | refine awpL_ev (ev_extract rfl rfl) rfl ?_
          | refine awpL_ev (ev_index_str rfl rfl rfl rfl (by with_reducible assumption)) rfl ?_
          | refine awpL_ev (ev_build rfl rfl rfl rfl rfl rfl rfl) rfl ?_
          | refine awpL_ev (ev_build_lag rfl rfl rfl rfl rfl rfl) rfl ?_
          | refine awpL_ev (ev_slice_fs rfl rfl rfl rfl rfl rfl rfl (by with_reducible assumption) rfl rfl) rfl ?_
          | refine awpL_ev2 (ev_bslice_in rfl rfl rfl rfl rfl rfl rfl rfl rfl rfl rfl rfl (by (try simp only [List.map_cons, List.map_nil, cellsOf]); (try rfl))) rfl ?_
          | refine awpL_ev2 (ev_stb rfl rfl rfl rfl rfl rfl rfl) rfl ?_
          | refine awpL_ev2 (ev_alloc rfl rfl (by (try simp only [List.length_nil, List.length_cons, Nat.reduceAdd]); (try rfl)) (by (try simp only [List.set_cons_zero, List.set_cons_succ, List.nil_append, List.cons_append, List.append_nil, cellsOf, List.take_zero, List.drop_zero, List.take_succ_cons, List.drop_succ_cons, Nat.zero_add, Nat.reduceAdd, List.drop_nil, List.map_cons, List.map_nil]); (try rfl))) rfl ?_
          | refine awpL_ev2 (ev_box rfl rfl (by (try simp only [List.length_nil, List.length_cons, Nat.reduceAdd]); (try rfl)) (by (try simp only [List.set_cons_zero, List.set_cons_succ, List.nil_append, List.cons_append, List.append_nil, cellsOf, List.take_zero, List.drop_zero, List.take_succ_cons, List.drop_succ_cons, Nat.zero_add, Nat.reduceAdd, List.drop_nil, List.map_cons, List.map_nil]); (try rfl))) rfl ?_
          | refine awpL_evS (ev_st_lp rfl rfl rfl rfl rfl rfl rfl (by (try simp only [List.set_cons_zero, List.set_cons_succ, List.nil_append, List.cons_append, List.append_nil, cellsOf, List.take_zero, List.drop_zero, List.take_succ_cons, List.drop_succ_cons, Nat.zero_add, Nat.reduceAdd, List.drop_nil, List.map_cons, List.map_nil]); (try rfl))) ?_)
        | (with_reducible refine is_gd ?_; (first | refine awpL_run rfl rfl rfl (by first | with_reducible rfl | with_reducible assumption) ?_ | refine awpL_passT rfl rfl rfl rfl (by first | with_reducible rfl | with_reducible assumption) ?_ | refine awpL_passF rfl rfl rfl rfl (by first | with_reducible rfl | with_reducible assumption) ?_ | refine awpL_passU rfl rfl rfl rfl ?_ | refine awpL_split rfl rfl (fun h => ?_) (fun h => ?_)))
        | (with_reducible refine is_nil ?_; refine awpL_nil ?_)
        | (with_reducible refine is_then ?_; (first | refine thenQ_n ?_ | refine thenQ_r ?_ | refine thenQ_e ?_))
        | (with_reducible refine is_block ?_; (first | refine blockQ_n ?_ | refine blockQ_r ?_ | refine blockQ_e ?_ | refine blockQ_o rfl ?_))
        | (with_reducible refine is_awp ?_; (first | refine awp_seq ?_ | refine awp_ret ?_ | refine awp_skip ?_ | refine awp_exit ?_ | refine awp_label ?_ | refine awp_block ?_ | refine awp_region ?_ | refine awp_cond_t rfl (by first | with_reducible rfl | with_reducible assumption) ?_ | refine awp_cond_f rfl (by first | with_reducible rfl | with_reducible assumption) ?_ | refine awp_cond rfl (fun h => ?_) (fun h => ?_))))
      all_goals first
        | (have hL : letter c.toNat = true := by
            clear hf hd g1 g0 c0 c1 c2 c3 hcons hsz hb ht hlt d1 h1 hs he hl hk
            simp only [letter, small, Bool.or_eq_true, Bool.and_eq_true, decide_eq_true_eq]
            simp at *; omega
           exact ⟨k + 1, ⟨(.cons rfl rfl (.cons rfl rfl (.cons rfl rfl .nil))), rfl, rfl, rfl⟩, ⟨by omega, by rw [hf, hd, hL]; rfl⟩, by omega⟩)
        | (have hL : letter c.toNat = false := by
            clear hf hd g1 g0 c0 c1 c2 c3 hcons hsz hb ht hlt d1 h1 hs he hl hk
            rw [Bool.eq_false_iff]
            simp only [letter, small, ne_eq, Bool.or_eq_true, Bool.and_eq_true, decide_eq_true_eq]
            simp at *; omega
           refine retP rfl ?_
           simp only [ex, nameOk, hf, hd, hL, Bool.false_and, Bool.and_false])
  · have hs' : small b.toNat = false := by simpa using hs
    by_cases c2 : (b.toNat : Int) < 97
    · have c2' : decide ((b.toNat : Int) < 97) = true := by simpa using c2
      repeat' (first
        | (with_reducible refine is_un ?_; first
          | (with_reducible refine is_move ?_; (first | refine awpL_ev (ev_move rfl) rfl ?_))
          | (with_reducible refine is_bin ?_; (first | refine awpL_ev (ev_add rfl rfl (by omega)) rfl ?_ | refine awpL_ev (ev_sub rfl rfl (by omega)) rfl ?_ | refine awpL_ev (ev_bin rfl rfl rfl) rfl ?_ | refine awpL_ev (ev_eq_bool rfl rfl rfl rfl) rfl ?_))
          | (with_reducible refine is_fa ?_; (first | refine awpL_ev (ev_fa_fp rfl rfl rfl rfl rfl rfl) rfl ?_ | refine awpL_ev (ev_fa_lp rfl rfl rfl rfl rfl rfl) rfl ?_ | refine awpL_ev (ev_fa_ep rfl rfl rfl rfl rfl rfl) rfl ?_))
          | (with_reducible refine is_load ?_; (first | refine awpL_ev (ev_load_agg rfl rfl rfl rfl) rfl ?_ | refine awpL_ev (ev_load_sub rfl rfl rfl rfl rfl) rfl ?_ | refine awpL_ev (ev_load_one rfl rfl rfl rfl) rfl ?_ | refine awpL_ev (ev_ll_agg rfl rfl rfl rfl rfl rfl rfl) rfl ?_ | refine awpL_ev (ev_ll_lag rfl rfl rfl rfl rfl rfl) rfl ?_ | refine awpL_ev (ev_ll_one rfl rfl rfl rfl rfl) rfl ?_ | refine awpL_ev (ev_el_one rfl rfl rfl rfl (by with_reducible assumption) rfl) rfl ?_))
          | (with_reducible refine is_pick ?_; (first | refine awpL_ev (ev_pick_t rfl (by first | with_reducible rfl | with_reducible assumption) rfl) rfl ?_ | refine awpL_ev (ev_pick_f rfl (by first | with_reducible rfl | with_reducible assumption) rfl) rfl ?_))
          | (with_reducible refine is_assign ?_; (first | refine awpL_ev (ev_assign rfl) rfl ?_))
          | (with_reducible refine is_call ?_; (first | refine awpL_ev (ev_len rfl rfl rfl rfl rfl) rfl ?_ | refine awpL_ev (ev_len_os rfl rfl rfl rfl rfl) rfl ?_))
          | refine awpL_ev (ev_not rfl) rfl ?_
          | refine awpL_ev (ev_ia_fs rfl rfl rfl rfl rfl rfl (by with_reducible assumption)) rfl ?_
          | refine awpL_ev (ev_ia_os rfl rfl rfl rfl rfl rfl rfl (by with_reducible assumption)) rfl ?_
          | refine awpL_ev (ev_extract rfl rfl) rfl ?_
          | refine awpL_ev (ev_index_str rfl rfl rfl rfl (by with_reducible assumption)) rfl ?_
          | refine awpL_ev (ev_build rfl rfl rfl rfl rfl rfl rfl) rfl ?_
          | refine awpL_ev (ev_build_lag rfl rfl rfl rfl rfl rfl) rfl ?_
          | refine awpL_ev (ev_slice_fs rfl rfl rfl rfl rfl rfl rfl (by with_reducible assumption) rfl rfl) rfl ?_
          | refine awpL_ev2 (ev_bslice_in rfl rfl rfl rfl rfl rfl rfl rfl rfl rfl rfl rfl (by (try simp only [List.map_cons, List.map_nil, cellsOf]); (try rfl))) rfl ?_
          | refine awpL_ev2 (ev_stb rfl rfl rfl rfl rfl rfl rfl) rfl ?_
          | refine awpL_ev2 (ev_alloc rfl rfl (by (try simp only [List.length_nil, List.length_cons, Nat.reduceAdd]); (try rfl)) (by (try simp only [List.set_cons_zero, List.set_cons_succ, List.nil_append, List.cons_append, List.append_nil, cellsOf, List.take_zero, List.drop_zero, List.take_succ_cons, List.drop_succ_cons, Nat.zero_add, Nat.reduceAdd, List.drop_nil, List.map_cons, List.map_nil]); (try rfl))) rfl ?_
          | refine awpL_ev2 (ev_box rfl rfl (by (try simp only [List.length_nil, List.length_cons, Nat.reduceAdd]); (try rfl)) (by (try simp only [List.set_cons_zero, List.set_cons_succ, List.nil_append, List.cons_append, List.append_nil, cellsOf, List.take_zero, List.drop_zero, List.take_succ_cons, List.drop_succ_cons, Nat.zero_add, Nat.reduceAdd, List.drop_nil, List.map_cons, List.map_nil]); (try rfl))) rfl ?_
          | refine awpL_evS (ev_st_lp rfl rfl rfl rfl rfl rfl rfl (by (try simp only [List.set_cons_zero, List.set_cons_succ, List.nil_append, List.cons_append, List.append_nil, cellsOf, List.take_zero, List.drop_zero, List.take_succ_cons, List.drop_succ_cons, Nat.zero_add, Nat.reduceAdd, List.drop_nil, List.map_cons, List.map_nil]); (try rfl))) ?_)
        | (with_reducible refine is_gd ?_; (first | refine awpL_run rfl rfl rfl (by first | with_reducible rfl | with_reducible assumption) ?_ | refine awpL_passT rfl rfl rfl rfl (by first | with_reducible rfl | with_reducible assumption) ?_ | refine awpL_passF rfl rfl rfl rfl (by first | with_reducible rfl | with_reducible assumption) ?_ | refine awpL_passU rfl rfl rfl rfl ?_ | refine awpL_split rfl rfl (fun h => ?_) (fun h => ?_)))
        | (with_reducible refine is_nil ?_; refine awpL_nil ?_)
        | (with_reducible refine is_then ?_; (first | refine thenQ_n ?_ | refine thenQ_r ?_ | refine thenQ_e ?_))
        | (with_reducible refine is_block ?_; (first | refine blockQ_n ?_ | refine blockQ_r ?_ | refine blockQ_e ?_ | refine blockQ_o rfl ?_))
        | (with_reducible refine is_awp ?_; (first | refine awp_seq ?_ | refine awp_ret ?_ | refine awp_skip ?_ | refine awp_exit ?_ | refine awp_label ?_ | refine awp_block ?_ | refine awp_region ?_ | refine awp_cond_t rfl (by first | with_reducible rfl | with_reducible assumption) ?_ | refine awp_cond_f rfl (by first | with_reducible rfl | with_reducible assumption) ?_ | refine awp_cond rfl (fun h => ?_) (fun h => ?_))))
      refine retP rfl ?_
      simp only [ex, nameOk]
      rw [hcons]; simp [hs']
    · have c2' : decide ((b.toNat : Int) < 97) = false := by simpa using c2
      have c3 : decide (122 < (b.toNat : Int)) = true := by simp [small] at hs'; simp; omega
      repeat' (first
        | (with_reducible refine is_un ?_; first
          | (with_reducible refine is_move ?_; (first | refine awpL_ev (ev_move rfl) rfl ?_))
          | (with_reducible refine is_bin ?_; (first | refine awpL_ev (ev_add rfl rfl (by omega)) rfl ?_ | refine awpL_ev (ev_sub rfl rfl (by omega)) rfl ?_ | refine awpL_ev (ev_bin rfl rfl rfl) rfl ?_ | refine awpL_ev (ev_eq_bool rfl rfl rfl rfl) rfl ?_))
          | (with_reducible refine is_fa ?_; (first | refine awpL_ev (ev_fa_fp rfl rfl rfl rfl rfl rfl) rfl ?_ | refine awpL_ev (ev_fa_lp rfl rfl rfl rfl rfl rfl) rfl ?_ | refine awpL_ev (ev_fa_ep rfl rfl rfl rfl rfl rfl) rfl ?_))
          | (with_reducible refine is_load ?_; (first | refine awpL_ev (ev_load_agg rfl rfl rfl rfl) rfl ?_ | refine awpL_ev (ev_load_sub rfl rfl rfl rfl rfl) rfl ?_ | refine awpL_ev (ev_load_one rfl rfl rfl rfl) rfl ?_ | refine awpL_ev (ev_ll_agg rfl rfl rfl rfl rfl rfl rfl) rfl ?_ | refine awpL_ev (ev_ll_lag rfl rfl rfl rfl rfl rfl) rfl ?_ | refine awpL_ev (ev_ll_one rfl rfl rfl rfl rfl) rfl ?_ | refine awpL_ev (ev_el_one rfl rfl rfl rfl (by with_reducible assumption) rfl) rfl ?_))
          | (with_reducible refine is_pick ?_; (first | refine awpL_ev (ev_pick_t rfl (by first | with_reducible rfl | with_reducible assumption) rfl) rfl ?_ | refine awpL_ev (ev_pick_f rfl (by first | with_reducible rfl | with_reducible assumption) rfl) rfl ?_))
          | (with_reducible refine is_assign ?_; (first | refine awpL_ev (ev_assign rfl) rfl ?_))
          | (with_reducible refine is_call ?_; (first | refine awpL_ev (ev_len rfl rfl rfl rfl rfl) rfl ?_ | refine awpL_ev (ev_len_os rfl rfl rfl rfl rfl) rfl ?_))
          | refine awpL_ev (ev_not rfl) rfl ?_
          | refine awpL_ev (ev_ia_fs rfl rfl rfl rfl rfl rfl (by with_reducible assumption)) rfl ?_
          | refine awpL_ev (ev_ia_os rfl rfl rfl rfl rfl rfl rfl (by with_reducible assumption)) rfl ?_
          | refine awpL_ev (ev_extract rfl rfl) rfl ?_
          | refine awpL_ev (ev_index_str rfl rfl rfl rfl (by with_reducible assumption)) rfl ?_
          | refine awpL_ev (ev_build rfl rfl rfl rfl rfl rfl rfl) rfl ?_
          | refine awpL_ev (ev_build_lag rfl rfl rfl rfl rfl rfl) rfl ?_
          | refine awpL_ev (ev_slice_fs rfl rfl rfl rfl rfl rfl rfl (by with_reducible assumption) rfl rfl) rfl ?_
          | refine awpL_ev2 (ev_bslice_in rfl rfl rfl rfl rfl rfl rfl rfl rfl rfl rfl rfl (by (try simp only [List.map_cons, List.map_nil, cellsOf]); (try rfl))) rfl ?_
          | refine awpL_ev2 (ev_stb rfl rfl rfl rfl rfl rfl rfl) rfl ?_
          | refine awpL_ev2 (ev_alloc rfl rfl (by (try simp only [List.length_nil, List.length_cons, Nat.reduceAdd]); (try rfl)) (by (try simp only [List.set_cons_zero, List.set_cons_succ, List.nil_append, List.cons_append, List.append_nil, cellsOf, List.take_zero, List.drop_zero, List.take_succ_cons, List.drop_succ_cons, Nat.zero_add, Nat.reduceAdd, List.drop_nil, List.map_cons, List.map_nil]); (try rfl))) rfl ?_
          | refine awpL_ev2 (ev_box rfl rfl (by (try simp only [List.length_nil, List.length_cons, Nat.reduceAdd]); (try rfl)) (by (try simp only [List.set_cons_zero, List.set_cons_succ, List.nil_append, List.cons_append, List.append_nil, cellsOf, List.take_zero, List.drop_zero, List.take_succ_cons, List.drop_succ_cons, Nat.zero_add, Nat.reduceAdd, List.drop_nil, List.map_cons, List.map_nil]); (try rfl))) rfl ?_
          | refine awpL_evS (ev_st_lp rfl rfl rfl rfl rfl rfl rfl (by (try simp only [List.set_cons_zero, List.set_cons_succ, List.nil_append, List.cons_append, List.append_nil, cellsOf, List.take_zero, List.drop_zero, List.take_succ_cons, List.drop_succ_cons, Nat.zero_add, Nat.reduceAdd, List.drop_nil, List.map_cons, List.map_nil]); (try rfl))) ?_)
        | (with_reducible refine is_gd ?_; (first | refine awpL_run rfl rfl rfl (by first | with_reducible rfl | with_reducible assumption) ?_ | refine awpL_passT rfl rfl rfl rfl (by first | with_reducible rfl | with_reducible assumption) ?_ | refine awpL_passF rfl rfl rfl rfl (by first | with_reducible rfl | with_reducible assumption) ?_ | refine awpL_passU rfl rfl rfl rfl ?_ | refine awpL_split rfl rfl (fun h => ?_) (fun h => ?_)))
        | (with_reducible refine is_nil ?_; refine awpL_nil ?_)
        | (with_reducible refine is_then ?_; (first | refine thenQ_n ?_ | refine thenQ_r ?_ | refine thenQ_e ?_))
        | (with_reducible refine is_block ?_; (first | refine blockQ_n ?_ | refine blockQ_r ?_ | refine blockQ_e ?_ | refine blockQ_o rfl ?_))
        | (with_reducible refine is_awp ?_; (first | refine awp_seq ?_ | refine awp_ret ?_ | refine awp_skip ?_ | refine awp_exit ?_ | refine awp_label ?_ | refine awp_block ?_ | refine awp_region ?_ | refine awp_cond_t rfl (by first | with_reducible rfl | with_reducible assumption) ?_ | refine awp_cond_f rfl (by first | with_reducible rfl | with_reducible assumption) ?_ | refine awp_cond rfl (fun h => ?_) (fun h => ?_))))
      refine retP rfl ?_
      simp only [ex, nameOk]
      rw [hcons]; simp [hs']
end Go.Proofs.Ytghbllbjjfjenaa
