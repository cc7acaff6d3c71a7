/- A logic of trees over the model's steps, and the contracts of the functions that the laws reach: part 16 of 19. -/
import Derived.Test.YtnacjdaoiepbhaaGreatDoorB15
set_option linter.unusedVariables false
set_option linter.unusedSimpArgs false
set_option linter.unusedSectionVars false
section
namespace Go.Proofs.YtnacjdaoiepbhaaGreatDoor
open Go.Ac Go.MapKept
attribute [local irreducible] awp awpL Ev Ev2 EvS thenQ blockQ retQ PCalls OCalls YieldOk IterC ICalls
variable {g : List (Nat × List AV)}
theorem lightC_G {r : Replica} (h : light r = true) (hi : Ids r.ops) : FitG r ∧ repE r = 0 := ⟨rep_G (light_rep h).1 hi, (light_rep h).1⟩
set_option maxRecDepth 8000 in
set_option maxHeartbeats 4000000 in
theorem law_CMakes (hN : NumG g) (r : Replica) (note : Int) (hid : Ids r.ops) : PCalls Tryz.prog g 6 [.agg (repC r), vi note] (vb true) := by
  have hA := awake_C hN
  have hL := Light_spec (g := g) r hid
  have n1 : (!true) = false := rfl
  have n2 : (!false) = true := rfl
  refine pcalls' Tryz.func6 Tryz.ntmps6 rfl rfl rfl ?_
  cases hl : light r with
  | false =>
    rw [hl] at hL
    repeat' (first
     | refine stn [] ?_
     | ((with_reducible refine is_gd ?_); refine awpL_split rfl rfl (fun h => ?_) (fun h => ?_))
     | ((with_reducible refine is_awp ?_); refine awp_cond rfl (fun h => ?_) (fun h => ?_))
     | fail)
    exact retP rfl rfl
  | true =>
    rw [hl] at hL
    obtain ⟨hG, hr⟩ := lightC_G hl hid
    have hCp := Copy_spec (g := g) r (light_fit hl)
    have hM := Make_spec (g := g) r note hG
    have hR := rMake_spec (g := g) r note hG
    have hl16 := (light_rep hl).2.1
    have hH := History_spec (g := g) r note (by omega)
    have hI := rHistory_spec (g := g) r note (by omega)
    have hhl := hist_len r.ops note
    have hS := CSame_spec (g := g) (histL r.ops note) (histL r.ops note) (by omega) (by omega)
    rw [decide_eq_true rfl] at hS
    rw [makeV] at hM hR
    generalize makeR r.ops note = p at *
    obtain ⟨p1, e⟩ := p
    simp only at hM hR
    generalize p1.getD zeroCite = c at *
    generalize histL r.ops note = hs at *
    obtain ⟨e', he⟩ : ∃ e', e' = e := ⟨_, rfl⟩
    rw [← he] at hR
    have e0 : decide (e = e') = true := decide_eq_true he.symm
    have q := cite_eqb c c
    rw [decide_eq_true rfl] at q
    repeat' (first
     | ((with_reducible refine isD_un ?_); refine awpD_un (as_ev (fun _ => ev_eqA (b := true) citeEq_T (by kernel_rfl) rfl rfl rfl rfl (by rw [← q]; rfl)) rfl rfl) (by (try simp only [List.nil_append, List.cons_append]); (try rfl)) ?_)
     | ((with_reducible refine isD_gd ?_); refine awpD_gd rfl rfl (by first | with_reducible rfl | with_reducible assumption) (as_ev (fun _ => ev_eqA (b := true) citeEq_T (by kernel_rfl) rfl rfl rfl rfl (by rw [← q]; rfl)) rfl rfl) (by (try simp only [List.nil_append, List.cons_append]); (try rfl)) ?_)
     | refine st [] ?_
     | ((with_reducible refine is_gd ?_); refine awpL_split rfl rfl (fun h => ?_) (fun h => ?_))
     | ((with_reducible refine isD_gd ?_); ((fail_if_success (refine isD_kn (c := true) rfl (by first | with_reducible rfl | with_reducible assumption) ?_)); (fail_if_success (refine isD_kn (c := false) rfl (by first | with_reducible rfl | with_reducible assumption) ?_)); refine awpD_split rfl (fun h => ?_) (fun h => ?_)))
     | ((with_reducible refine is_awp ?_); refine awp_cond rfl (fun h => ?_) (fun h => ?_))
     | fail)
    exact retP rfl rfl
set_option maxRecDepth 8000 in
set_option maxHeartbeats 4000000 in
theorem law_CResolves (hN : NumG g) (r : Replica) (c : Cite) (hid : Ids r.ops) : PCalls Tryz.prog g 7 [.agg (repC r), .agg (citeC c)] (vb true) := by
  have hA := awake_C hN
  have hL := Light_spec (g := g) r hid
  have n1 : (!true) = false := rfl
  have n2 : (!false) = true := rfl
  refine pcalls' Tryz.func7 Tryz.ntmps7 rfl rfl rfl ?_
  cases hl : light r with
  | false =>
    rw [hl] at hL
    repeat' (first
     | refine stn [] ?_
     | ((with_reducible refine is_gd ?_); refine awpL_split rfl rfl (fun h => ?_) (fun h => ?_))
     | ((with_reducible refine is_awp ?_); refine awp_cond rfl (fun h => ?_) (fun h => ?_))
     | fail)
    exact retP rfl rfl
  | true =>
    rw [hl] at hL
    obtain ⟨hG, hr⟩ := lightC_G hl hid
    have hCp := Copy_spec (g := g) r (light_fit hl)
    have hM := Resolve_spec (g := g) r c hG
    have hR := rResolve_spec (g := g) r c hG
    rw [resV] at hM hR
    generalize resR r.ops c = p at *
    obtain ⟨t, e⟩ := p
    simp only at hM hR
    obtain ⟨t', ht⟩ : ∃ t', t' = t := ⟨_, rfl⟩
    obtain ⟨e', he⟩ : ∃ e', e' = e := ⟨_, rfl⟩
    rw [← he, ← ht] at hR
    have e0 : decide (e = e') = true := decide_eq_true he.symm
    have e1 : decide (t = t') = true := decide_eq_true ht.symm
    repeat' (first
     | refine st [] ?_
     | ((with_reducible refine is_gd ?_); refine awpL_split rfl rfl (fun h => ?_) (fun h => ?_))
     | ((with_reducible refine isD_gd ?_); ((fail_if_success (refine isD_kn (c := true) rfl (by first | with_reducible rfl | with_reducible assumption) ?_)); (fail_if_success (refine isD_kn (c := false) rfl (by first | with_reducible rfl | with_reducible assumption) ?_)); refine awpD_split rfl (fun h => ?_) (fun h => ?_)))
     | ((with_reducible refine is_awp ?_); refine awp_cond rfl (fun h => ?_) (fun h => ?_))
     | fail)
    exact retP rfl rfl
end Go.Proofs.YtnacjdaoiepbhaaGreatDoor
end
section
namespace Go.Proofs.YtnacjdaoiepbhaaGreatDoor
open Go.Ac Go.MapKept
attribute [local irreducible] awp awpL Ev Ev2 EvS thenQ blockQ retQ PCalls OCalls YieldOk IterC ICalls
variable {g : List (Nat × List AV)}
theorem current_text {c : Cell} {v : Val} (h : c.text.getLast? = some v) : (current c).text = v.text := by
  unfold current
  simp only
  rw [h]
theorem take_mem {c x : Cite} {l : List Cite} {k : Nat} (h : l[k]? = some x) : c ∈ l.take (k + 1) ↔ c ∈ l.take k ∨ c = x := by
  rw [List.take_add_one, h, Option.toList_some, List.mem_append, List.mem_singleton]
set_option maxRecDepth 8000 in
set_option maxHeartbeats 8000000 in
theorem law_COwn (hN : NumG g) (r : Replica) (note : Int) (hid : Ids r.ops) : PCalls Tryz.prog g 10 [.agg (repC r), vi note] (vb true) := by
  have hA := awake_C hN
  have hL := Light_spec (g := g) r hid
  have n1 : (!true) = false := rfl
  have zT : decide True = true := rfl
  have zNT : (!decide True) = false := rfl
  have zF : decide False = false := rfl
  have zNF : (!decide False) = true := rfl
  have z00 : decide ((0 : Int) = 0) = true := rfl
  have z33 : decide ((3 : Int) = 3) = true := rfl
  have z03 : decide ((0 : Int) = 3) = false := rfl
  have z2626 : decide ((26 : Int) = 26) = true := rfl
  have n2 : (!false) = true := rfl
  refine pcalls' Tryz.func10 Tryz.ntmps10 rfl rfl rfl ?_
  cases hl : light r with
  | false =>
    rw [hl] at hL
    repeat' (first
     | refine stn [] ?_
     | ((with_reducible refine is_gd ?_); refine awpL_split rfl rfl (fun h => ?_) (fun h => ?_))
     | ((with_reducible refine is_awp ?_); refine awp_cond rfl (fun h => ?_) (fun h => ?_))
     | fail)
    exact retP rfl rfl
  | true =>
    rw [hl] at hL
    obtain ⟨hG, hr⟩ := lightC_G hl hid
    have hCp := Copy_spec (g := g) r (light_fit hl)
    have hl16 := (light_rep hl).2.1
    have hC := Cell_spec (g := g) r note hG.l hG.o.2 hG.g
    have hH := History_spec (g := g) r note (by omega)
    have hM := Make_spec (g := g) r note hG
    have hhl := hist_len r.ops note
    have hI := hG.g.1
    have z0 : (!decide ((0 : Int) = 0)) = false := rfl
    have z1 : decide ((0 : Int) = 0) = true := rfl
    have z2 : (!decide ((26 : Int) = 26)) = false := rfl
    have z3 : (!decide ((26 : Int) = 0)) = true := rfl
    have hRx : ∀ x ∈ histL r.ops note, x.note = note ∧ ∃ t, PCalls Tryz.prog g 25 [.agg (repC r), .agg (citeC x)] (.tup [.v (.string t), vi (if (cell r.ops note).isSome then 0 else 26)]) := by
      intro x hx
      obtain ⟨h1, t, h2⟩ := hist_res hI hx
      have h3 := Resolve_spec (g := g) r x hG
      rw [resV, h2] at h3
      refine ⟨h1, if (cell r.ops note).isSome then t else .empty, ?_⟩
      split <;> rename_i hq <;> (simp only [hq] at h3; exact h3)
    rw [cellV] at hC
    generalize hcx : (cell r.ops note).getD zeroCell = cx at *
    cases hb : (cell r.ops note).isSome with
    | false =>
      have hnone : cell r.ops note = none := by cases h : cell r.ops note with | none => rfl | some c => rw [h] at hb; cases hb
      rw [hb] at hC
      rw [makeV, make_dead hnone] at hM
      simp only [Option.getD_none] at hM
      rw [hb] at hRx
      simp only [Bool.false_eq_true, if_false] at hRx
      repeat' (first
       | refine stn [] ?_
       | ((with_reducible refine is_gd ?_); refine awpL_split rfl rfl (fun h => ?_) (fun h => ?_))
       | ((with_reducible refine is_awp ?_); refine awp_cond rfl (fun h => ?_) (fun h => ?_))
       | fail)
      refine awp_for (α := Nat) 0 (fun k => [(1, vi note), (2, .fp (repC r)), (5, .fp (cellC cx)), (6, vb false), (7, encCites (histL r.ops note)), (8, vi k)]) (fun _ => []) (fun k => k ≤ (histL r.ops note).length) (fun k => (histL r.ops note).length - k) 0
        ⟨(.cons rfl rfl (.cons rfl rfl (.cons rfl rfl (.cons rfl rfl (.cons rfl rfl (.cons rfl rfl .nil)))))), rfl, rfl, rfl⟩ (Nat.zero_le _) ?_
      rintro k hk
      cases ht : (histL r.ops note)[k]? with
      | some x =>
        have hlt : k < (histL r.ops note).length := (List.getElem?_eq_some_iff.1 ht).1
        have c1 : decide ((k : Int) < (histL r.ops note).length) = true := decide_eq_true (by omega)
        have g1 := cite_get ht
        obtain ⟨hxn, t, hR⟩ := hRx x (List.mem_of_getElem? ht)
        have c2 : (!decide (x.note = note)) = false := by simp [hxn]
        cases k with
        | zero =>
          have c3 : decide ((0 : Int) < ((0 : Nat) : Int)) = false := rfl
          repeat' (first
           | refine st [] ?_
           | ((with_reducible refine is_gd ?_); refine awpL_split rfl rfl (fun h => ?_) (fun h => ?_))
           | ((with_reducible refine isD_gd ?_); ((fail_if_success (refine isD_kn (c := true) rfl (by first | with_reducible rfl | with_reducible assumption) ?_)); (fail_if_success (refine isD_kn (c := false) rfl (by first | with_reducible rfl | with_reducible assumption) ?_)); refine awpD_split rfl (fun h => ?_) (fun h => ?_)))
           | ((with_reducible refine is_awp ?_); refine awp_cond rfl (fun h => ?_) (fun h => ?_))
           | fail)
          exact ⟨1, ⟨(.cons rfl rfl (.cons rfl rfl (.cons rfl rfl (.cons rfl rfl (.cons rfl rfl (.cons rfl rfl .nil)))))), rfl, rfl, rfl⟩, by omega, by omega⟩
        | succ k =>
          have c3 : decide ((0 : Int) < ((k + 1 : Nat) : Int)) = true := decide_eq_true (by omega)
          obtain ⟨y, hy⟩ : ∃ y, (histL r.ops note)[k]? = some y := ⟨_, List.getElem?_eq_getElem (by omega)⟩
          have g2 : 0 ≤ ((k + 1 : Nat) : Int) - 1 ∧ ((histL r.ops note).map citeC)[(((k + 1 : Nat) : Int) - 1).toNat]? = some (citeC y) := by
            refine ⟨by omega, ?_⟩
            rw [show (((k + 1 : Nat) : Int) - 1).toNat = k by omega]
            simp [hy]
          have q := cite_eqb x y
          rw [decide_eq_false (hist_next hI hy ht)] at q
          repeat' (first
           | ((with_reducible refine isD_un ?_); refine awpD_un (as_ev (fun _ => ev_eqA (b := false) citeEq_T (by kernel_rfl) rfl rfl rfl rfl (by rw [← q]; rfl)) rfl rfl) (by (try simp only [List.nil_append, List.cons_append]); (try rfl)) ?_)
           | ((with_reducible refine isD_gd ?_); refine awpD_gd rfl rfl (by first | with_reducible rfl | with_reducible assumption) (as_ev (fun _ => ev_eqA (b := false) citeEq_T (by kernel_rfl) rfl rfl rfl rfl (by rw [← q]; rfl)) rfl rfl) (by (try simp only [List.nil_append, List.cons_append]); (try rfl)) ?_)
           | refine st [] ?_
           | ((with_reducible refine is_gd ?_); refine awpL_split rfl rfl (fun h => ?_) (fun h => ?_))
           | ((with_reducible refine isD_gd ?_); ((fail_if_success (refine isD_kn (c := true) rfl (by first | with_reducible rfl | with_reducible assumption) ?_)); (fail_if_success (refine isD_kn (c := false) rfl (by first | with_reducible rfl | with_reducible assumption) ?_)); refine awpD_split rfl (fun h => ?_) (fun h => ?_)))
           | ((with_reducible refine is_awp ?_); refine awp_cond rfl (fun h => ?_) (fun h => ?_))
           | fail)
          exact ⟨k + 1 + 1, ⟨(.cons rfl rfl (.cons rfl rfl (.cons rfl rfl (.cons rfl rfl (.cons rfl rfl (.cons rfl rfl .nil)))))), rfl, rfl, rfl⟩, by omega, by omega⟩
      | none =>
        have hge : (histL r.ops note).length ≤ k := by simpa using ht
        have c1 : decide ((k : Int) < (histL r.ops note).length) = false := decide_eq_false (by omega)
        cases ha : addedO r.ops note with
        | none =>
          rw [ha] at hM
          simp only [Option.isSome_none, Bool.false_eq_true, if_false] at hM
          have h0 := hist_none hr ha
          have d1 : decide (((histL r.ops note).length : Int) = 0) = true := by rw [h0]; rfl
          have d2 : decide ((9 : Int) = 9) = true := rfl
          repeat' (first
           | refine stn [] ?_
           | ((with_reducible refine is_gd ?_); refine awpL_split rfl rfl (fun h => ?_) (fun h => ?_))
           | ((with_reducible refine is_awp ?_); refine awp_cond rfl (fun h => ?_) (fun h => ?_))
           | fail)
          exact retP rfl rfl
        | some a =>
          rw [ha] at hM
          simp only [Option.isSome_some, if_true] at hM
          have h0 := hist_some ha
          have d1 : decide (((histL r.ops note).length : Int) = 0) = false := decide_eq_false (by omega)
          have d2 : decide ((0 : Int) < ((histL r.ops note).length : Int)) = true := decide_eq_true (by omega)
          have d3 : decide ((26 : Int) = 26) = true := rfl
          repeat' (first
           | refine stn [] ?_
           | ((with_reducible refine is_gd ?_); refine awpL_split rfl rfl (fun h => ?_) (fun h => ?_))
           | ((with_reducible refine is_awp ?_); refine awp_cond rfl (fun h => ?_) (fun h => ?_))
           | fail)
          exact retP rfl rfl
    | true =>
      obtain ⟨c0, hc0⟩ : ∃ c0, cell r.ops note = some c0 := Option.isSome_iff_exists.1 hb
      have hcc : cx = c0 := by rw [← hcx, hc0]; rfl
      subst hcc
      obtain ⟨x0, v, m1, m2, m3, m4, m5, m6, _⟩ := own_told hr hc0
      have hU := Current_spec (g := g) cx (cell_fit hG.l hc0)
      have htx := current_text m4
      have hR0 := Resolve_spec (g := g) r x0 hG
      rw [resV, m5] at hR0
      simp only at hR0
      rw [makeV, m1] at hM
      simp only [Option.getD_some] at hM
      rw [hb] at hC hRx
      simp only [if_true] at hRx
      generalize current cx = nn at *
      have y1 : decide (v.text = nn.text) = true := decide_eq_true htx.symm
      have y2 : decide (x0.rec_ = cx.rec_) = true := decide_eq_true m6
      repeat' (first
       | refine stn [] ?_
       | ((with_reducible refine is_gd ?_); refine awpL_split rfl rfl (fun h => ?_) (fun h => ?_))
       | ((with_reducible refine is_awp ?_); refine awp_cond rfl (fun h => ?_) (fun h => ?_))
       | fail)
      refine awp_for (α := Nat) 0 (fun k => [(1, vi note), (2, .fp (repC r)), (5, .fp (cellC cx)), (6, vb true), (7, encCites (histL r.ops note)), (8, vi k)]) (fun _ => []) (fun k => k ≤ (histL r.ops note).length) (fun k => (histL r.ops note).length - k) 0
        ⟨(.cons rfl rfl (.cons rfl rfl (.cons rfl rfl (.cons rfl rfl (.cons rfl rfl (.cons rfl rfl .nil)))))), rfl, rfl, rfl⟩ (Nat.zero_le _) ?_
      rintro k hk
      cases ht : (histL r.ops note)[k]? with
      | some x =>
        have hlt : k < (histL r.ops note).length := (List.getElem?_eq_some_iff.1 ht).1
        have c1 : decide ((k : Int) < (histL r.ops note).length) = true := decide_eq_true (by omega)
        have g1 := cite_get ht
        obtain ⟨hxn, t, hR⟩ := hRx x (List.mem_of_getElem? ht)
        have c2 : (!decide (x.note = note)) = false := by simp [hxn]
        cases k with
        | zero =>
          have c3 : decide ((0 : Int) < ((0 : Nat) : Int)) = false := rfl
          repeat' (first
           | refine st [] ?_
           | ((with_reducible refine is_gd ?_); refine awpL_split rfl rfl (fun h => ?_) (fun h => ?_))
           | ((with_reducible refine isD_gd ?_); ((fail_if_success (refine isD_kn (c := true) rfl (by first | with_reducible rfl | with_reducible assumption) ?_)); (fail_if_success (refine isD_kn (c := false) rfl (by first | with_reducible rfl | with_reducible assumption) ?_)); refine awpD_split rfl (fun h => ?_) (fun h => ?_)))
           | ((with_reducible refine is_awp ?_); refine awp_cond rfl (fun h => ?_) (fun h => ?_))
           | fail)
          exact ⟨1, ⟨(.cons rfl rfl (.cons rfl rfl (.cons rfl rfl (.cons rfl rfl (.cons rfl rfl (.cons rfl rfl .nil)))))), rfl, rfl, rfl⟩, by omega, by omega⟩
        | succ k =>
          have c3 : decide ((0 : Int) < ((k + 1 : Nat) : Int)) = true := decide_eq_true (by omega)
          obtain ⟨y, hy⟩ : ∃ y, (histL r.ops note)[k]? = some y := ⟨_, List.getElem?_eq_getElem (by omega)⟩
          have g2 : 0 ≤ ((k + 1 : Nat) : Int) - 1 ∧ ((histL r.ops note).map citeC)[(((k + 1 : Nat) : Int) - 1).toNat]? = some (citeC y) := by
            refine ⟨by omega, ?_⟩
            rw [show (((k + 1 : Nat) : Int) - 1).toNat = k by omega]
            simp [hy]
          have q := cite_eqb x y
          rw [decide_eq_false (hist_next hI hy ht)] at q
          repeat' (first
           | ((with_reducible refine isD_un ?_); refine awpD_un (as_ev (fun _ => ev_eqA (b := false) citeEq_T (by kernel_rfl) rfl rfl rfl rfl (by rw [← q]; rfl)) rfl rfl) (by (try simp only [List.nil_append, List.cons_append]); (try rfl)) ?_)
           | ((with_reducible refine isD_gd ?_); refine awpD_gd rfl rfl (by first | with_reducible rfl | with_reducible assumption) (as_ev (fun _ => ev_eqA (b := false) citeEq_T (by kernel_rfl) rfl rfl rfl rfl (by rw [← q]; rfl)) rfl rfl) (by (try simp only [List.nil_append, List.cons_append]); (try rfl)) ?_)
           | refine st [] ?_
           | ((with_reducible refine is_gd ?_); refine awpL_split rfl rfl (fun h => ?_) (fun h => ?_))
           | ((with_reducible refine isD_gd ?_); ((fail_if_success (refine isD_kn (c := true) rfl (by first | with_reducible rfl | with_reducible assumption) ?_)); (fail_if_success (refine isD_kn (c := false) rfl (by first | with_reducible rfl | with_reducible assumption) ?_)); refine awpD_split rfl (fun h => ?_) (fun h => ?_)))
           | ((with_reducible refine is_awp ?_); refine awp_cond rfl (fun h => ?_) (fun h => ?_))
           | fail)
          exact ⟨k + 1 + 1, ⟨(.cons rfl rfl (.cons rfl rfl (.cons rfl rfl (.cons rfl rfl (.cons rfl rfl (.cons rfl rfl .nil)))))), rfl, rfl, rfl⟩, by omega, by omega⟩
      | none =>
        have hge : (histL r.ops note).length ≤ k := by simpa using ht
        have c1 : decide ((k : Int) < (histL r.ops note).length) = false := decide_eq_false (by omega)
        repeat' (first
         | refine st [] ?_
         | ((with_reducible refine is_gd ?_); refine awpL_split rfl rfl (fun h => ?_) (fun h => ?_))
         | ((with_reducible refine isD_gd ?_); ((fail_if_success (refine isD_kn (c := true) rfl (by first | with_reducible rfl | with_reducible assumption) ?_)); (fail_if_success (refine isD_kn (c := false) rfl (by first | with_reducible rfl | with_reducible assumption) ?_)); refine awpD_split rfl (fun h => ?_) (fun h => ?_)))
         | ((with_reducible refine is_awp ?_); refine awp_cond rfl (fun h => ?_) (fun h => ?_))
         | fail)
        refine awp_for (α := Nat × Bool) 0 (fun p => [(2, .fp (repC r)), (5, .fp (cellC cx)), (7, encCites (histL r.ops note)), (11, .fp (citeC x0)), (12, vi 0), (13, .v (.string v.text)), (14, vi 0), (15, vb p.2), (16, vi p.1)]) (fun _ => []) (fun p => p.1 ≤ (histL r.ops note).length ∧ (p.2 = true ↔ x0 ∈ (histL r.ops note).take p.1)) (fun p => (histL r.ops note).length - p.1) (0, false)
          ⟨(.cons rfl rfl (.cons rfl rfl (.cons rfl rfl (.cons rfl rfl (.cons rfl rfl (.cons rfl rfl (.cons rfl rfl (.cons rfl rfl (.cons rfl rfl .nil))))))))), rfl, rfl, rfl⟩ ⟨Nat.zero_le _, by simp⟩ ?_
        rintro ⟨j, b⟩ ⟨hj, hf⟩
        simp only at hj hf
        cases hu : (histL r.ops note)[j]? with
        | some x =>
          have hlt : j < (histL r.ops note).length := (List.getElem?_eq_some_iff.1 hu).1
          have d1 : decide ((j : Int) < (histL r.ops note).length) = true := decide_eq_true (by omega)
          have g1 := cite_get hu
          have hup := take_mem (c := x0) hu
          cases b with
          | true =>
            repeat' (first
             | ((with_reducible refine is_draw ?_); refine awp_drawT 9 (by simp only [List.take_succ_cons, List.take_zero, List.take_nil]; rfl) (by simp only [List.drop_succ_cons, List.drop_zero, List.drop_nil]; rfl) (by kernel_rfl) rfl rfl rfl rfl (by repeat' (first | exact Strip.nil | apply Strip.keep rfl | apply Strip.drop rfl)) ?_)
             | refine st [] ?_
             | ((with_reducible refine is_gd ?_); refine awpL_split rfl rfl (fun h => ?_) (fun h => ?_))
             | ((with_reducible refine isD_gd ?_); ((fail_if_success (refine isD_kn (c := true) rfl (by first | with_reducible rfl | with_reducible assumption) ?_)); (fail_if_success (refine isD_kn (c := false) rfl (by first | with_reducible rfl | with_reducible assumption) ?_)); refine awpD_split rfl (fun h => ?_) (fun h => ?_)))
             | ((with_reducible refine is_awp ?_); refine awp_cond rfl (fun h => ?_) (fun h => ?_))
             | fail)
            exact ⟨(j + 1, true), ⟨(.cons rfl rfl (.cons rfl rfl (.cons rfl rfl (.cons rfl rfl (.cons rfl rfl (.cons rfl rfl (.cons rfl rfl (.cons rfl rfl (.cons rfl rfl .nil))))))))), rfl, rfl, rfl⟩, ⟨by simp only; omega, ⟨fun _ => hup.2 (.inl (hf.1 rfl)), fun _ => rfl⟩⟩, by simp only; omega⟩
          | false =>
            have q := cite_eqb x x0
            obtain ⟨d, hd⟩ : ∃ d, decide (x = x0) = d := ⟨_, rfl⟩
            rw [hd] at q
            repeat' (first
             | ((with_reducible refine isD_un ?_); refine awpD_un (as_ev (fun _ => ev_eqA (b := d) citeEq_T (by kernel_rfl) rfl rfl rfl rfl (by rw [← q]; rfl)) rfl rfl) (by (try simp only [List.nil_append, List.cons_append]); (try rfl)) ?_)
             | ((with_reducible refine isD_gd ?_); refine awpD_gd rfl rfl (by first | with_reducible rfl | with_reducible assumption) (as_ev (fun _ => ev_eqA (b := d) citeEq_T (by kernel_rfl) rfl rfl rfl rfl (by rw [← q]; rfl)) rfl rfl) (by (try simp only [List.nil_append, List.cons_append]); (try rfl)) ?_)
             | ((with_reducible refine is_draw ?_); refine awp_drawT 9 (by simp only [List.take_succ_cons, List.take_zero, List.take_nil]; rfl) (by simp only [List.drop_succ_cons, List.drop_zero, List.drop_nil]; rfl) (by kernel_rfl) rfl rfl rfl rfl (by repeat' (first | exact Strip.nil | apply Strip.keep rfl | apply Strip.drop rfl)) ?_)
             | refine st [] ?_
             | ((with_reducible refine is_gd ?_); refine awpL_split rfl rfl (fun h => ?_) (fun h => ?_))
             | ((with_reducible refine isD_gd ?_); ((fail_if_success (refine isD_kn (c := true) rfl (by first | with_reducible rfl | with_reducible assumption) ?_)); (fail_if_success (refine isD_kn (c := false) rfl (by first | with_reducible rfl | with_reducible assumption) ?_)); refine awpD_split rfl (fun h => ?_) (fun h => ?_)))
             | ((with_reducible refine is_awp ?_); refine awp_cond rfl (fun h => ?_) (fun h => ?_))
             | fail)
            refine ⟨(j + 1, d), ⟨(.cons rfl rfl (.cons rfl rfl (.cons rfl rfl (.cons rfl rfl (.cons rfl rfl (.cons rfl rfl (.cons rfl rfl (.cons rfl rfl (.cons rfl rfl .nil))))))))), rfl, rfl, rfl⟩, ⟨by simp only; omega, ?_⟩, by simp only; omega⟩
            simp only
            rw [hup, ← hd, decide_eq_true_eq]
            exact ⟨fun e => .inr e.symm, fun e => e.elim (fun e => absurd (hf.2 e) (by decide)) (fun e => e.symm)⟩
        | none =>
          have hge2 : (histL r.ops note).length ≤ j := by simpa using hu
          have d1 : decide ((j : Int) < (histL r.ops note).length) = false := decide_eq_false (by omega)
          rw [List.take_of_length_le hge2] at hf
          have hb1 : b = true := hf.2 m2
          subst hb1
          repeat' (first
           | ((with_reducible refine is_un ?_); refine awpL_ev (ev_fld_one rfl rfl rfl rfl rfl rfl rfl) rfl ?_)
           | refine stn [] ?_
           | ((with_reducible refine is_gd ?_); refine awpL_split rfl rfl (fun h => ?_) (fun h => ?_))
           | ((with_reducible refine is_awp ?_); refine awp_cond rfl (fun h => ?_) (fun h => ?_))
           | fail)
          exact retP rfl rfl
end Go.Proofs.YtnacjdaoiepbhaaGreatDoor
end
section
namespace Go.Proofs.YtnacjdaoiepbhaaGreatDoor
def findTF (name : ByteArray) : Nat → List Tier → Int
  | _, [] => -1
  | i, t :: r => if t.name = name then i else findTF name (i + 1) r
def findT (l : List Tier) (name : ByteArray) : Int := findTF name 0 l
def roleTF (role : Int) : Nat → List Tier → Int
  | _, [] => -1
  | i, t :: r => if role ≠ 0 ∧ t.role = role then i else roleTF role (i + 1) r
def roleT (l : List Tier) (role : Int) : Int := roleTF role 0 l
theorem findTF_drop (name : ByteArray) (l : List Tier) (k : Nat) (t : Tier) (h : l[k]? = some t) : findTF name k (l.drop k) = if t.name = name then (k : Int) else findTF name (k + 1) (l.drop (k + 1)) := by
  obtain ⟨hlt, rfl⟩ := List.getElem?_eq_some_iff.1 h
  rw [List.drop_eq_getElem_cons hlt]; rfl
theorem roleTF_drop (role : Int) (l : List Tier) (k : Nat) (t : Tier) (h : l[k]? = some t) : roleTF role k (l.drop k) = if role ≠ 0 ∧ t.role = role then (k : Int) else roleTF role (k + 1) (l.drop (k + 1)) := by
  obtain ⟨hlt, rfl⟩ := List.getElem?_eq_some_iff.1 h
  rw [List.drop_eq_getElem_cons hlt]; rfl
def smallB (b : Nat) : Bool := decide (97 ≤ b) && decide (b ≤ 122)
def letterB (b : Nat) : Bool := smallB b || decide (48 ≤ b) && decide (b ≤ 57) || decide (b = 45) || decide (b = 95)
def nameOk (s : ByteArray) : Bool := decide (1 ≤ s.size) && decide (s.size ≤ 32) && (match s.data.toList with | [] => false | b :: _ => smallB b.toNat) && s.data.toList.all fun b => letterB b.toNat
def rolesE (above : Int) (t : Tier) : Int :=
  let kind := if t.role = 1 then 0 else if t.role = 3 then 3 else if t.role = 4 then 4 else if t.role = 5 then 4 else t.kind
  let need := if t.role = 2 then 1 else if t.role = 3 then 2 else if t.role = 4 then 3 else if t.role = 5 then 1 else above
  if t.kind ≠ kind then 14 else if above ≠ need then 13 else 0
def tierOne (before : List Tier) (t : Tier) : Int :=
  if nameOk t.name = false then 7
  else if 0 ≤ findT before t.name then 8
  else if t.kind < 0 ∨ 4 < t.kind then 14
  else if t.role < 0 ∨ 5 < t.role then 2
  else if 0 ≤ roleT before t.role then 8
  else if t.kind = 0 then (if t.parent ≠ -1 then 13 else rolesE (-1) t)
  else if t.parent < 0 ∨ before.length ≤ t.parent then 13
  else match before[t.parent.toNat]? with
    | none => 13
    | some p => if timed t.kind = true ∧ timed p.kind = false then 13 else rolesE p.role t
def tiersEF (l : List Tier) : Nat → Nat → Int
  | 0, _ => 0
  | n + 1, i => match l[i]? with
    | none => 0
    | some t => if tierOne (l.take i) t ≠ 0 then tierOne (l.take i) t else tiersEF l n (i + 1)
def tiersE (l : List Tier) : Int := if 12 < l.length then 11 else tiersEF l l.length 0
theorem tiersEF_step {l : List Tier} {n i : Nat} {t : Tier} (h : l[i]? = some t) : tiersEF l (n + 1) i = if tierOne (l.take i) t ≠ 0 then tierOne (l.take i) t else tiersEF l n (i + 1) := by
  simp only [tiersEF, h]
theorem tiersEF_all {l : List Tier} : ∀ (n i : Nat), tiersEF l n i = 0 → i + n = l.length → ∀ k, i ≤ k → ∀ t, l[k]? = some t → tierOne (l.take k) t = 0
  | 0, i, _, hn, k, hk, t, ht => by
    have := (List.getElem?_eq_some_iff.1 ht).1
    omega
  | n + 1, i, h, hn, k, hk, t, ht => by
    have hi : i < l.length := by omega
    have hti : l[i]? = some l[i] := by simp [hi]
    rw [tiersEF_step hti] at h
    split at h
    · rename_i h'; exact absurd h h'
    · rename_i h'
      simp only [ne_eq, Decidable.not_not] at h'
      rcases Nat.eq_or_lt_of_le hk with rfl | hlt
      · rw [hti] at ht; injection ht with ht; subst ht; exact h'
      · exact tiersEF_all n (i + 1) h (by omega) k hlt t ht
theorem tiersE_len {l : List Tier} (h : tiersE l = 0) : l.length ≤ 12 := by
  unfold tiersE at h
  split at h
  · cases h
  · omega
theorem tiersE_one {l : List Tier} (h : tiersE l = 0) {k : Nat} {t : Tier} (ht : l[k]? = some t) : tierOne (l.take k) t = 0 := by
  have hl := tiersE_len h
  have : tiersE l = tiersEF l l.length 0 := by simp [tiersE]; omega
  rw [this] at h
  exact tiersEF_all l.length 0 h (by omega) k (by omega) t ht
theorem tierOne_parent {b : List Tier} {t : Tier} (h : tierOne b t = 0) : 0 ≤ t.kind ∧ t.kind ≤ 4 ∧ (t.kind = 0 ∧ t.parent = -1 ∨ t.kind ≠ 0 ∧ 0 ≤ t.parent ∧ t.parent < b.length) := by
  unfold tierOne at h
  split at h
  · cases h
  split at h
  · cases h
  split at h
  · cases h
  rename_i hk
  refine ⟨by omega, by omega, ?_⟩
  split at h
  · cases h
  split at h
  · cases h
  split at h
  · rename_i h0
    split at h
    · cases h
    · rename_i h1; exact .inl ⟨h0, Decidable.of_not_not h1⟩
  · rename_i h0
    split at h
    · cases h
    · rename_i h1; exact .inr ⟨h0, by omega, by omega⟩
def noNote : Note := ⟨0, 0, 0, ⟨0, 0⟩, 0, .empty⟩
def placedE (d : Doc) (t : Tier) (n : Note) : Int :=
  if (t.kind = 0 ∧ n.parent ≠ 0) ∨ (t.kind ≠ 0 ∧ ((getN d.notes n.parent).isSome = false ∨ ((getN d.notes n.parent).getD noNote).tier ≠ t.parent)) then 13
  else if (timed t.kind = false ∧ n.span ≠ ⟨0, 0⟩) ∨ (timed t.kind = true ∧ spanRight n.span = false) then 12
  else if t.kind = 0 ∧ d.rec_.length < n.span.til then 12
  else if (timed t.kind = true ∧ t.kind ≠ 0) ∧ (n.span.fro < ((getN d.notes n.parent).getD noNote).span.fro ∨ ((getN d.notes n.parent).getD noNote).span.til < n.span.til) then 12
  else if n.rank < 0 ∨ (n.rank ≠ 0 ∧ t.kind ≠ 3) then 1
  else 0
def lateB (p : Option Note) (n : Note) : Bool := match p with | some q => decide (n.id ≤ q.id) | none => false
def noteE (d : Doc) (p : Option Note) (n : Note) : Int :=
  if n.id < 1 ∨ 1099511627776 < n.id then 2
  else if lateB p n = true then 10
  else match tierAt d.tiers n.tier with
    | none => 2
    | some t => if textE n.text ≠ 0 then textE n.text else placedE d t n
def sibs (d : Doc) (tier parent : Int) : List Note := d.notes.filter fun n => decide (n.tier = tier) && decide (n.parent = parent)
def meet (a b : Span) : Bool := decide (a.fro < b.til) && decide (b.fro < a.til)
def overlapL : List Span → Bool
  | l => (List.range l.length).any fun i => (List.range i).any fun k => meet (l.getD i ⟨0, 0⟩) (l.getD k ⟨0, 0⟩)
def rankedL (l : List Int) : Bool := (List.range l.length).all fun n => l.any fun r => decide (r = (n : Int))
def tierStep (d : Doc) (kind : Int) (out : Int) (n : Note) : Int :=
  let l := sibs d n.tier n.parent
  let a := if kind = 1 ∧ covB (l.map (·.span)) ((getN d.notes n.parent).getD noNote).span = false then 16 else out
  let b := if kind = 3 ∧ rankedL (l.map (·.rank)) = false then 10 else a
  if kind = 4 ∧ 1 < l.length then 8 else b
def tierE1 (d : Doc) (kind tier : Int) : Int → List Note → Int
  | out, [] => out
  | out, n :: r => if n.tier ≠ tier then tierE1 d kind tier out r
    else if timed kind = true ∧ overlapL ((sibs d n.tier n.parent).map (·.span)) = true then 15
    else tierE1 d kind tier (tierStep d kind out n) r
def tierE (d : Doc) (tier : Int) : Int := match tierAt d.tiers tier with
  | none => 0
  | some t => tierE1 d t.kind tier 0 d.notes
def notesE (d : Doc) : Option Note → List Note → Int
  | _, [] => 0
  | p, n :: r => if noteE d p n ≠ 0 then noteE d p n else notesE d (some n) r
def eachE (d : Doc) : Nat → Nat → Int
  | 0, _ => 0
  | m + 1, i => if tierE d (i : Int) ≠ 0 then tierE d (i : Int) else eachE d m (i + 1)
def docE (d : Doc) : Int :=
  if tiersE d.tiers ≠ 0 then tiersE d.tiers
  else if d.rec_.length < 0 ∨ 86400000 < d.rec_.length then 12
  else if 300 < d.notes.length then 11
  else if notesE d none d.notes ≠ 0 then notesE d none d.notes
  else eachE d d.tiers.length 0
def lightD (d : Doc) : Bool := decide (d.notes.length ≤ 14) && (decide (d.tiers.length ≤ 6) && (decide (d.rec_.speakers.length ≤ 6) && decide (docE d = 0)))
theorem notesE_all {d : Doc} : ∀ (l : List Note) (p : Option Note), notesE d p l = 0 → ∀ n ∈ l, ∃ q, noteE d q n = 0
  | [], _, _, n, hn => by cases hn
  | x :: r, p, h, n, hn => by
    rw [notesE] at h
    split at h
    · rename_i h1; exact absurd h h1
    · rename_i h1
      rcases List.mem_cons.1 hn with rfl | hn
      · exact ⟨p, Decidable.of_not_not h1⟩
      · exact notesE_all r (some x) h n hn
theorem docE_zero {d : Doc} (h : docE d = 0) : tiersE d.tiers = 0 ∧ 0 ≤ d.rec_.length ∧ d.rec_.length ≤ 86400000 ∧ d.notes.length ≤ 300 ∧ notesE d none d.notes = 0 ∧ eachE d d.tiers.length 0 = 0 := by
  unfold docE at h
  split at h
  · rename_i h1; exact absurd h h1
  rename_i h1
  split at h
  · cases h
  split at h
  · cases h
  split at h
  · rename_i h4; exact absurd h h4
  · rename_i h4
    exact ⟨Decidable.of_not_not h1, by omega, by omega, by omega, Decidable.of_not_not h4, h⟩
theorem noteE_zero {d : Doc} {p : Option Note} {n : Note} (h : noteE d p n = 0) : 1 ≤ n.id ∧ n.id ≤ 1099511627776 ∧ textE n.text = 0 ∧ ∃ t, tierAt d.tiers n.tier = some t ∧ placedE d t n = 0 := by
  unfold noteE at h
  split at h
  · cases h
  split at h
  · cases h
  cases ht : tierAt d.tiers n.tier with
  | none => rw [ht] at h; cases h
  | some t =>
    rw [ht] at h
    simp only at h
    split at h
    · rename_i h1; exact absurd h h1
    · rename_i h1
      exact ⟨by omega, by omega, Decidable.of_not_not h1, t, rfl, h⟩
theorem tierAt_some {l : List Tier} {i : Int} {t : Tier} (h : tierAt l i = some t) : 0 ≤ i ∧ l[i.toNat]? = some t := by
  unfold tierAt at h
  split at h
  · rename_i h0; exact ⟨h0, h⟩
  · cases h
theorem where_known {d : Doc} (h : docE d = 0) : ∀ (m : Nat) (id : Int), (∀ n, getN d.notes id = some n → n.tier < m) → ∃ x, whereF d (m + 1) id = some x
  | m, id, hm => by
    obtain ⟨hT, _, _, _, hN, _⟩ := docE_zero h
    rw [whereF]
    cases hg : getN d.notes id with
    | none => exact ⟨none, rfl⟩
    | some n =>
      simp only
      split
      · exact ⟨_, rfl⟩
      · rename_i hal
        obtain ⟨q, hq⟩ := notesE_all _ _ hN n (getN_id hg).2
        obtain ⟨_, _, _, t, ht, hp⟩ := noteE_zero hq
        obtain ⟨t0, t1⟩ := tierAt_some ht
        have h1 := tierOne_parent (tiersE_one hT t1)
        have hk : t.kind ≠ 0 := by
          intro e
          apply hal
          unfold alignedT
          rw [ht]
          simp [timed, e]
        have hpar : t.parent < n.tier := by
          rcases h1.2.2 with ⟨e, _⟩ | ⟨_, _, h2⟩
          · exact absurd e hk
          · have := List.length_take_le n.tier.toNat d.tiers; omega
        have hlt := hm n hg
        match m with
        | 0 => omega
        | m + 1 =>
          refine where_known h m n.parent fun p hp2 => ?_
          unfold placedE at hp
          split at hp
          · cases hp
          · rename_i h3
            have : p.tier = t.parent := by
              rcases Decidable.em (p.tier = t.parent) with e | e
              · exact e
              · exact absurd (.inr ⟨hk, .inr (by rw [hp2]; exact e)⟩) h3
            omega
theorem where_light {d : Doc} (h : docE d = 0) (id : Int) : ∃ x, whereF d (d.tiers.length + 1) id = some x := by
  refine where_known h d.tiers.length id fun n hg => ?_
  obtain ⟨_, _, _, _, hN, _⟩ := docE_zero h
  obtain ⟨q, hq⟩ := notesE_all _ _ hN n (getN_id hg).2
  obtain ⟨_, _, _, t, ht, _⟩ := noteE_zero hq
  obtain ⟨t0, t1⟩ := tierAt_some ht
  have := (List.getElem?_eq_some_iff.1 t1).1
  omega
end Go.Proofs.YtnacjdaoiepbhaaGreatDoor
end
