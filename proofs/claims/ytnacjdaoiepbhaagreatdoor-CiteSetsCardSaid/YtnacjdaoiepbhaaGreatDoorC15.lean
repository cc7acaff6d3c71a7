/- A logic of trees over the model's steps, and the contracts of the functions that the laws reach: part 15 of 15. -/
import Derived.Test.YtnacjdaoiepbhaaGreatDoorC14
import Derived.ChangeArms
import Derived.Test.YtnacjdaoiepbhaaGreatDoorRows
import Derived.Lib.LaidU8T
import Derived.Lib.LaidTab
import Derived.LaidLaws
set_option linter.unusedVariables false
set_option linter.unusedSimpArgs false
set_option linter.unusedSectionVars false
section
namespace Go.Proofs.YtnacjdaoiepbhaaGreatDoor
open Go.Ac
theorem rec_of {r : Replica} (h : repE r = 0) {o : Op} (ho : o ∈ r.ops) : ∃ a, addedO r.ops o.note.id = some a ∧ a.rec_ = o.rec_ := by
  obtain ⟨k, hk⟩ := List.getElem?_of_mem ho
  have h1 := allE_split r.ops [] (repE_all h).1 k o hk
  rw [List.nil_append] at h1
  have hg := good_of h
  by_cases h0 : o.kind = 0
  · exact ⟨o, addedO_mem hg ho h0 rfl, rfl⟩
  · have hE := oneE_opE h1
    have hb : ∃ a, addedO (r.ops.take k) o.note.id = some a ∧ a.rec_ = o.rec_ := by
      cases hb : (match addedO (r.ops.take k) o.note.id with | some a => decide (a.rec_ = o.rec_) | none => false) with
      | true =>
        cases ha : addedO (r.ops.take k) o.note.id with
        | none => rw [ha] at hb; cases hb
        | some a => rw [ha] at hb; exact ⟨a, rfl, by simpa using hb⟩
      | false =>
        exfalso
        cases hA : (match (r.ops.take k).getLast? with | some p => less p.at_ o.at_ | none => true) with
        | false => rw [oneE_10 hE hA] at h1; omega
        | true => rw [oneE_9 hE hA h0 hb] at h1; omega
    obtain ⟨a, ha, hr⟩ := hb
    refine ⟨a, ?_, hr⟩
    have e : addedO r.ops o.note.id = addedO (r.ops.take k ++ r.ops.drop k) o.note.id := by rw [List.take_append_drop]
    rw [e]
    unfold addedO at ha ⊢
    rw [List.find?_append, ha]
    rfl
theorem named_iff {c : Cite} {o : Op} : namedBy c o = true ↔ writes o c.note 0 = true ∧ (⟨o.rec_, c.note, o.at_⟩ : Cite) = c := by
  unfold namedBy
  rw [Bool.and_eq_true, decide_eq_true_eq]
theorem find_named {l : List Op} (h : Inc l) {o : Op} {c : Cite} (ho : o ∈ l) (hn : namedBy c o = true) : l.find? (namedBy c) = some o := by
  cases hf : l.find? (namedBy c) with
  | none => exact absurd hn (by have := (List.find?_eq_none.1 hf) o ho; exact this)
  | some p =>
    have hp := List.mem_of_find?_eq_some hf
    have hq := named_iff.1 (List.find?_some hf)
    have hn := named_iff.1 hn
    have e : p.at_ = o.at_ := by
      have := congrArg Cite.at_ (hq.2.trans hn.2.symm)
      exact this
    rw [Inc.uniq h hp ho e]
theorem res_named {l : List Op} (h : Inc l) {o : Op} {c : Cite} (ho : o ∈ l) (hn : namedBy c o = true) : resR l c = if (cell l c.note).isSome then ((valueOf o 0).text, 0) else (.empty, 26) := by
  unfold resR
  rw [find_named h ho hn]
theorem res_zero {l : List Op} {c : Cite} (h : (resR l c).2 = 0) : ∃ o ∈ l, namedBy c o = true ∧ (cell l c.note).isSome = true ∧ resR l c = ((valueOf o 0).text, 0) := by
  unfold resR at h ⊢
  cases hf : l.find? (namedBy c) with
  | none =>
    rw [hf] at h
    have h : (9 : Int) = 0 := h
    omega
  | some o =>
    rw [hf] at h
    simp only at h ⊢
    cases hc : (cell l c.note).isSome with
    | false =>
      rw [hc] at h
      have h : (26 : Int) = 0 := h
      omega
    | true => exact ⟨o, List.mem_of_find?_eq_some hf, List.find?_some hf, rfl, rfl⟩
theorem mem_hist {l : List Op} {note : Int} {x : Cite} : x ∈ histL l note ↔ ∃ o ∈ l, writes o note 0 = true ∧ x = ⟨o.rec_, note, o.at_⟩ := by
  unfold histL
  rw [List.mem_map]
  constructor
  · rintro ⟨o, ho, rfl⟩
    exact ⟨o, (List.mem_filter.1 ho).1, (List.mem_filter.1 ho).2, rfl⟩
  · rintro ⟨o, h1, h2, rfl⟩
    exact ⟨o, List.mem_filter.2 ⟨h1, h2⟩, rfl⟩
theorem own_told {r : Replica} (h : repE r = 0) {note : Int} {c : Cell} (hc : cell r.ops note = some c) :
    ∃ x : Cite, ∃ v : Val, makeR r.ops note = (some x, 0) ∧ x ∈ histL r.ops note ∧ x.note = note ∧ c.text.getLast? = some v ∧ resR r.ops x = (v.text, 0) ∧ x.rec_ = c.rec_ ∧ x.at_ = v.at_ := by
  have hg := good_of h
  obtain ⟨a, ha, e, _, hr⟩ := cell_inv hc
  obtain ⟨v, hv⟩ := last_some (cell_ne hg hc).1
  have hv2 : v ∈ valuesL r.ops note 0 := by
    have := List.mem_of_getLast? hv
    rw [e] at this
    exact this
  obtain ⟨o, ho, hw, _, ev, eat⟩ := mem_values hv2
  obtain ⟨a', ha', hr'⟩ := rec_of h ho
  rw [(writes_within hw).2, ha] at ha'
  cases ha'
  refine ⟨⟨a.rec_, note, v.at_⟩, v, ?_, mem_hist.2 ⟨o, ho, hw, by rw [hr', eat]⟩, rfl, hv, ?_, hr.symm, rfl⟩
  · unfold makeR
    rw [ha]
    simp only
    rw [hc]
    simp only
    rw [hv]
    rfl
  · have hn : namedBy ⟨a.rec_, note, v.at_⟩ o = true := named_iff.2 ⟨hw, by rw [← hr', eat]⟩
    rw [res_named hg.1 ho hn, hc, ev]
    rfl
theorem make_dead {l : List Op} {note : Int} (hc : cell l note = none) : makeR l note = (none, if (addedO l note).isSome then 26 else 9) := by
  unfold makeR
  cases ha : addedO l note with
  | none => rfl
  | some a => simp only; rw [hc]; rfl
theorem stay_told {l m : List Op} (hm : Inc m) (hs : ∀ o ∈ l, o ∈ m) {c : Cite} (h : (resR l c).2 = 0) : resR m c = if (cell m c.note).isSome then ((resR l c).1, 0) else (.empty, 26) := by
  obtain ⟨o, ho, hn, _, e⟩ := res_zero h
  rw [res_named hm (hs o ho) hn, e]
theorem make_zero {l : List Op} {note : Int} (h : (makeR l note).2 = 0) : ∃ c, cell l note = some c := by
  cases hc : cell l note with
  | some c => exact ⟨c, rfl⟩
  | none =>
    rw [make_dead hc] at h
    simp only at h
    split at h <;> omega
theorem sets_told {r : Replica} (hG : FitG r) (hr : repE r = 0) {note : Int} {t : ByteArray} (hno : I64 note) (hM : (makeR r.ops note).2 = 0) (hS : (setR r note 0 0 t).2 = 0) :
    ∃ c d : Cite, ∃ s, makeR r.ops note = (some c, 0) ∧ resR r.ops c = (s, 0) ∧ resR (setR r note 0 0 t).1.ops c = (s, 0) ∧ makeR (setR r note 0 0 t).1.ops note = (some d, 0) ∧ d ≠ c ∧ resR (setR r note 0 0 t).1.ops d = (t, 0) ∧ FitG (setR r note 0 0 t).1 := by
  obtain ⟨ce, hce⟩ := make_zero hM
  obtain ⟨c, v, m1, m2, m3, _, m5, _, _⟩ := own_told hr hce
  obtain ⟨a, s, hn, ha, hx, hrx, hGx, _, _, hv, hcx⟩ := set_told hG hno hS
  have hg := good_of hrx
  rw [← hx] at hrx hg
  obtain ⟨d, w, d1, d2, d3, d4, d5, _, d7⟩ := own_told hrx hcx
  have hw : w = ⟨s, 0, t⟩ := by
    have : (cellOf (setR r note 0 0 t).1.ops note a).text = valuesL (setR r note 0 0 t).1.ops note 0 := rfl
    rw [this, hv] at d4
    simpa using d4.symm
  subst hw
  have hsub : ∀ o ∈ r.ops, o ∈ (setR r note 0 0 t).1.ops := by rw [hx]; exact fun o ho => List.mem_append_left _ ho
  refine ⟨c, d, v.text, m1, m5, ?_, d1, ?_, d5, hGx⟩
  · have := stay_told hg.1 hsub (c := c) (by rw [m5])
    rw [this, m3, hcx, m5]
    rfl
  · intro e
    obtain ⟨o, ho, _, ec⟩ := mem_hist.1 m2
    have hat : o.at_ = s := by rw [e, ec] at d7; exact d7
    have hl := hg.1
    rw [hx] at hl
    have := (List.pairwise_append.1 hl).2.2 o ho _ (List.mem_singleton_self _)
    exact less_ne this hat
end Go.Proofs.YtnacjdaoiepbhaaGreatDoor
end
section
namespace Go.Proofs.YtnacjdaoiepbhaaGreatDoor
open Go.Ac Go.MapKept
attribute [local irreducible] awp awpL Ev Ev2 EvS thenQ blockQ retQ PCalls OCalls YieldOk IterC ICalls
variable {g : List (Nat × List AV)}
theorem lightC_G {r : Replica} (h : light r = true) (hi : Ids r.ops) : FitG r ∧ repE r = 0 := ⟨rep_G (light_rep h).1 hi, (light_rep h).1⟩
end Go.Proofs.YtnacjdaoiepbhaaGreatDoor
end
section
namespace Go.Proofs.YtnacjdaoiepbhaaGreatDoor
open Go.Ac Go.MapKept
attribute [local irreducible] awp awpL Ev Ev2 EvS thenQ blockQ retQ PCalls OCalls YieldOk IterC ICalls
set_option maxRecDepth 8000 in
set_option maxHeartbeats 8000000 in
theorem law_CSets (r : Replica) (note : Int) (t : ByteArray) (hid : Ids r.ops) (hno : I64 note) : PCalls Tryz.prog GL 12 [.agg (repC r), vi note, .v (.string t)] (vb true) := by
  have hA := awake_C GL_num
  have hL := Light_spec (g := GL) r hid
  have n1 : (!true) = false := rfl
  have zT : decide True = true := rfl
  have zNT : (!decide True) = false := rfl
  have zF : decide False = false := rfl
  have zNF : (!decide False) = true := rfl
  have z00 : decide ((0 : Int) = 0) = true := rfl
  have z33 : decide ((3 : Int) = 3) = true := rfl
  have z03 : decide ((0 : Int) = 3) = false := rfl
  have z2626 : decide ((26 : Int) = 26) = true := rfl
  have n2 : (!false) = true := rfl
  refine pcalls' Tryz.func12 Tryz.ntmps12 rfl rfl rfl ?_
  cases hl : light r with
  | false =>
    rw [hl] at hL
    repeat' (first
     | refine stn [] ?_
     | ((with_reducible refine is_gd ?_); refine awpL_split rfl rfl (fun h => ?_) (fun h => ?_))
     | ((with_reducible refine is_awp ?_); refine awp_cond rfl (fun h => ?_) (fun h => ?_))
     | fail)
    exact retP rfl rfl
  | true =>
    rw [hl] at hL
    obtain ⟨hG, hr⟩ := lightC_G hl hid
    have hCp := Copy_spec (g := GL) r (light_fit hl)
    have hM := Make_spec (g := GL) r note hG
    have hS := Set_spec r note 0 0 t hG hno
    rw [makeV] at hM
    rw [mergeV] at hS
    by_cases e1 : (makeR r.ops note).2 = 0
    · by_cases e2 : (setR r note 0 0 t).2 = 0
      · obtain ⟨c, d, s, m1, m2, m3, m4, m5, m6, hGx⟩ := sets_told hG hr hno e1 e2
        have hCx := Copy_spec (g := GL) (setR r note 0 0 t).1 (setR_fit _ _ _ _ _)
        have hR := Resolve_spec (g := GL) r c hG
        have hRx := Resolve_spec (g := GL) (setR r note 0 0 t).1 c hGx
        have hMx := Make_spec (g := GL) (setR r note 0 0 t).1 note hGx
        have hRd := Resolve_spec (g := GL) (setR r note 0 0 t).1 d hGx
        rw [resV, m2] at hR
        rw [resV, m3] at hRx
        rw [resV, m6] at hRd
        rw [makeV, m4] at hMx
        rw [m1] at hM
        rw [e2] at hS
        simp only [Option.getD_some] at hM hR hRx hMx hRd hS
        generalize (setR r note 0 0 t).1 = x at *
        obtain ⟨s', hs⟩ : ∃ s', s' = s := ⟨_, rfl⟩
        obtain ⟨t', ht⟩ : ∃ t', t' = t := ⟨_, rfl⟩
        rw [← hs] at hRx
        rw [← ht] at hRd
        have f1 : decide (s' = s) = true := decide_eq_true hs
        have f2 : decide (t' = t) = true := decide_eq_true ht
        have q := cite_eqb d c
        rw [decide_eq_false m5] at q
        have z0 : (!decide ((0 : Int) = 0)) = false := rfl
        have z1 : decide ((0 : Int) = 0) = true := rfl
        repeat' (first
         | ((with_reducible refine is_un ?_); refine awpL_ev (ev_neA (b := false) citeEq_T (by kernel_rfl) rfl rfl rfl rfl (by rw [← q]; rfl)) rfl ?_)
         | refine st [] ?_
         | ((with_reducible refine is_gd ?_); refine awpL_split rfl rfl (fun h => ?_) (fun h => ?_))
         | ((with_reducible refine isD_gd ?_); ((fail_if_success (refine isD_kn (c := true) rfl (by first | with_reducible rfl | with_reducible assumption) ?_)); (fail_if_success (refine isD_kn (c := false) rfl (by first | with_reducible rfl | with_reducible assumption) ?_)); refine awpD_split rfl (fun h => ?_) (fun h => ?_)))
         | ((with_reducible refine is_awp ?_); refine awp_cond rfl (fun h => ?_) (fun h => ?_))
         | fail)
        exact retP rfl rfl
      · have z0 : (!decide ((setR r note 0 0 t).2 = 0)) = true := by simp [e2]
        have z1 : (!decide ((makeR r.ops note).2 = 0)) = false := by simp [e1]
        generalize setR r note 0 0 t = x at *
        generalize makeR r.ops note = p at *
        obtain ⟨x1, x2⟩ := x
        obtain ⟨p1, p2⟩ := p
        simp only at hM hS z0 z1
        repeat' (first
         | refine stn [] ?_
         | ((with_reducible refine is_gd ?_); refine awpL_split rfl rfl (fun h => ?_) (fun h => ?_))
         | ((with_reducible refine is_awp ?_); refine awp_cond rfl (fun h => ?_) (fun h => ?_))
         | fail)
        exact retP rfl rfl
    · have z1 : (!decide ((makeR r.ops note).2 = 0)) = true := by simp [e1]
      generalize setR r note 0 0 t = x at *
      generalize makeR r.ops note = p at *
      obtain ⟨x1, x2⟩ := x
      obtain ⟨p1, p2⟩ := p
      simp only at hM hS z1
      repeat' (first
       | refine stn [] ?_
       | ((with_reducible refine is_gd ?_); refine awpL_split rfl rfl (fun h => ?_) (fun h => ?_))
       | ((with_reducible refine is_awp ?_); refine awp_cond rfl (fun h => ?_) (fun h => ?_))
       | fail)
      exact retP rfl rfl
set_option maxRecDepth 8000 in
set_option maxHeartbeats 8000000 in
theorem law_CStays (r : Replica) (l : List Op) (c : Cite) (hid : Ids r.ops) (hil : Ids l) : PCalls Tryz.prog GL 11 [.agg (repC r), encOps l, .agg (citeC c)] (vb true) := by
  have hA := awake_C GL_num
  have hL := Light_spec (g := GL) r hid
  have n1 : (!true) = false := rfl
  have zT : decide True = true := rfl
  have zNT : (!decide True) = false := rfl
  have zF : decide False = false := rfl
  have zNF : (!decide False) = true := rfl
  have z00 : decide ((0 : Int) = 0) = true := rfl
  have z33 : decide ((3 : Int) = 3) = true := rfl
  have z03 : decide ((0 : Int) = 3) = false := rfl
  have z2626 : decide ((26 : Int) = 26) = true := rfl
  have n2 : (!false) = true := rfl
  refine pcalls' Tryz.func11 Tryz.ntmps11 rfl rfl rfl ?_
  cases hl : light r with
  | false =>
    rw [hl] at hL
    repeat' (first
     | refine stn [] ?_
     | ((with_reducible refine is_gd ?_); refine awpL_split rfl rfl (fun h => ?_) (fun h => ?_))
     | ((with_reducible refine is_awp ?_); refine awp_cond rfl (fun h => ?_) (fun h => ?_))
     | fail)
    exact retP rfl rfl
  | true =>
    rw [hl] at hL
    by_cases h1 : 16 < l.length
    · have c1 : decide ((16 : Int) < l.length) = true := decide_eq_true (by omega)
      repeat' (first
       | refine stn [] ?_
       | ((with_reducible refine is_gd ?_); refine awpL_split rfl rfl (fun h => ?_) (fun h => ?_))
       | ((with_reducible refine is_awp ?_); refine awp_cond rfl (fun h => ?_) (fun h => ?_))
       | fail)
      exact retP rfl rfl
    have c1 : decide ((16 : Int) < l.length) = false := decide_eq_false (by omega)
    obtain ⟨hG, hr⟩ := lightC_G hl hid
    have hCp := Copy_spec (g := GL) r (light_fit hl)
    have hR := Resolve_spec (g := GL) r c hG
    repeat' (first
     | refine stn [] ?_
     | ((with_reducible refine is_gd ?_); refine awpL_split rfl rfl (fun h => ?_) (fun h => ?_))
     | ((with_reducible refine is_awp ?_); refine awp_cond rfl (fun h => ?_) (fun h => ?_))
     | fail)
    refine awp_for (α := Nat) 0 (fun k => [(1, encOps l), (3, .fp (repC r)), (5, .fp (citeC c)), (7, vi k)]) (fun _ => []) (fun k => k ≤ l.length ∧ ∀ o ∈ l.take k, o.over.length ≤ 20) (fun k => l.length - k) 0
      ⟨(.cons rfl rfl (.cons rfl rfl (.cons rfl rfl (.cons rfl rfl .nil)))), rfl, rfl, rfl⟩ ⟨Nat.zero_le _, fun o ho => by simp at ho⟩ ?_
    rintro k ⟨hk, hov⟩
    cases ht : l[k]? with
    | some x =>
      have hlt : k < l.length := (List.getElem?_eq_some_iff.1 ht).1
      have d1 : decide ((k : Int) < l.length) = true := decide_eq_true (by omega)
      have g1 := op_get ht
      by_cases o1 : 20 < x.over.length
      · have d2 : decide ((20 : Int) < x.over.length) = true := decide_eq_true (by omega)
        repeat' (first
         | refine stn [] ?_
         | ((with_reducible refine is_gd ?_); refine awpL_split rfl rfl (fun h => ?_) (fun h => ?_))
         | ((with_reducible refine is_awp ?_); refine awp_cond rfl (fun h => ?_) (fun h => ?_))
         | fail)
        exact retP rfl rfl
      have d2 : decide ((20 : Int) < x.over.length) = false := decide_eq_false (by omega)
      by_cases o2 : 300 < x.text.size
      · have d3 : decide ((300 : Int) < x.text.size) = true := decide_eq_true (by omega)
        repeat' (first
         | refine stn [] ?_
         | ((with_reducible refine is_gd ?_); refine awpL_split rfl rfl (fun h => ?_) (fun h => ?_))
         | ((with_reducible refine is_awp ?_); refine awp_cond rfl (fun h => ?_) (fun h => ?_))
         | fail)
        exact retP rfl rfl
      have d3 : decide ((300 : Int) < x.text.size) = false := decide_eq_false (by omega)
      by_cases o3 : 300 < x.note.text.size
      · have d4 : decide ((300 : Int) < x.note.text.size) = true := decide_eq_true (by omega)
        repeat' (first
         | refine stn [] ?_
         | ((with_reducible refine is_gd ?_); refine awpL_split rfl rfl (fun h => ?_) (fun h => ?_))
         | ((with_reducible refine is_awp ?_); refine awp_cond rfl (fun h => ?_) (fun h => ?_))
         | fail)
        exact retP rfl rfl
      have d4 : decide ((300 : Int) < x.note.text.size) = false := decide_eq_false (by omega)
      repeat' (first
       | refine stn [] ?_
       | ((with_reducible refine is_gd ?_); refine awpL_split rfl rfl (fun h => ?_) (fun h => ?_))
       | ((with_reducible refine is_awp ?_); refine awp_cond rfl (fun h => ?_) (fun h => ?_))
       | fail)
      refine ⟨k + 1, ⟨(.cons rfl rfl (.cons rfl rfl (.cons rfl rfl (.cons rfl rfl .nil)))), rfl, rfl, rfl⟩, ⟨by omega, fun o ho => ?_⟩, by omega⟩
      rw [List.take_add_one, ht, Option.toList_some] at ho
      rcases List.mem_append.1 ho with ho | ho
      · exact hov o ho
      · simp only [List.mem_singleton] at ho; subst ho; omega
    | none =>
      have hge : l.length ≤ k := by simpa using ht
      have d1 : decide ((k : Int) < l.length) = false := decide_eq_false (by omega)
      rw [List.take_of_length_le hge] at hov
      have hFl : Fit l := ⟨by omega, fun o hm => by have := hov o hm; omega⟩
      have hFM := fitM_of (light_fit hl).1 hFl (by have := (light_rep hl).2.1; omega) hid hil
      have hCo := CopyOps_P (g := GL) l hFl
      have hM := Merge_spec r l hFM (light_inc hl)
      have hT := merge_has (r := r) (l := l) (light_inc hl)
      rw [mergeV] at hM
      rw [resV] at hR
      by_cases e1 : (resR r.ops c).2 = 0
      · have z1 : (!decide ((resR r.ops c).2 = 0)) = false := by simp [e1]
        by_cases e2 : (merge r l).2 = 0
        · have z2 : (!decide ((merge r l).2 = 0)) = false := by simp [e2]
          obtain ⟨t1, t2, _, t4, _⟩ := hT e2
          have hGm : FitG (merge r l).1 := rep_G t4 (fun o ho => ((t2 o).1 ho).elim (hid o) (hil o))
          have hst := stay_told t1 (fun o ho => (t2 o).2 (.inl ho)) e1
          have hCm := Copy_spec (g := GL) (merge r l).1 (merge_fit hFM)
          have hRm := Resolve_spec (g := GL) (merge r l).1 c hGm
          have hC := Cell_spec (g := GL) (merge r l).1 c.note hGm.l hGm.o.2 hGm.g
          rw [cellV] at hC
          rw [resV, hst] at hRm
          generalize (cell (merge r l).1.ops c.note).getD zeroCell = cl at *
          generalize resR r.ops c = p at *
          obtain ⟨s, pe⟩ := p
          simp only at hR z1 hRm e1
          subst e1
          generalize merge r l = m at *
          obtain ⟨m1, m2⟩ := m
          simp only at hM hCm hRm hC z2 e2
          have z3 : decide ((0 : Int) = 0) = true := rfl
          cases hc : (cell m1.ops c.note).isSome with
          | false =>
            rw [hc] at hC hRm
            simp only [Bool.false_eq_true, if_false] at hRm
            have y1 : decide (ByteArray.empty = ByteArray.empty) = true := decide_eq_true rfl
            have y2 : decide (ByteArray.empty = (⟨#[]⟩ : ByteArray)) = true := decide_eq_true rfl
            repeat' (first
             | refine st [] ?_
             | ((with_reducible refine is_gd ?_); refine awpL_split rfl rfl (fun h => ?_) (fun h => ?_))
             | ((with_reducible refine isD_gd ?_); ((fail_if_success (refine isD_kn (c := true) rfl (by first | with_reducible rfl | with_reducible assumption) ?_)); (fail_if_success (refine isD_kn (c := false) rfl (by first | with_reducible rfl | with_reducible assumption) ?_)); refine awpD_split rfl (fun h => ?_) (fun h => ?_)))
             | ((with_reducible refine is_awp ?_); refine awp_cond rfl (fun h => ?_) (fun h => ?_))
             | fail)
            exact retP rfl rfl
          | true =>
            rw [hc] at hC hRm
            simp only [if_true] at hRm
            obtain ⟨s', hs⟩ : ∃ s', s' = s := ⟨_, rfl⟩
            rw [← hs] at hRm
            have f1 : decide (s' = s) = true := decide_eq_true hs
            repeat' (first
             | refine st [] ?_
             | ((with_reducible refine is_gd ?_); refine awpL_split rfl rfl (fun h => ?_) (fun h => ?_))
             | ((with_reducible refine isD_gd ?_); ((fail_if_success (refine isD_kn (c := true) rfl (by first | with_reducible rfl | with_reducible assumption) ?_)); (fail_if_success (refine isD_kn (c := false) rfl (by first | with_reducible rfl | with_reducible assumption) ?_)); refine awpD_split rfl (fun h => ?_) (fun h => ?_)))
             | ((with_reducible refine is_awp ?_); refine awp_cond rfl (fun h => ?_) (fun h => ?_))
             | fail)
            exact retP rfl rfl
        · have z2 : (!decide ((merge r l).2 = 0)) = true := by simp [e2]
          generalize resR r.ops c = p at *
          obtain ⟨s, pe⟩ := p
          generalize merge r l = m at *
          obtain ⟨m1, m2⟩ := m
          simp only at hM hR z2 z1
          repeat' (first
           | refine st [] ?_
           | ((with_reducible refine is_gd ?_); refine awpL_split rfl rfl (fun h => ?_) (fun h => ?_))
           | ((with_reducible refine isD_gd ?_); ((fail_if_success (refine isD_kn (c := true) rfl (by first | with_reducible rfl | with_reducible assumption) ?_)); (fail_if_success (refine isD_kn (c := false) rfl (by first | with_reducible rfl | with_reducible assumption) ?_)); refine awpD_split rfl (fun h => ?_) (fun h => ?_)))
           | ((with_reducible refine is_awp ?_); refine awp_cond rfl (fun h => ?_) (fun h => ?_))
           | fail)
          exact retP rfl rfl
      · have z1 : (!decide ((resR r.ops c).2 = 0)) = true := by simp [e1]
        generalize resR r.ops c = p at *
        obtain ⟨s, pe⟩ := p
        generalize merge r l = m at *
        obtain ⟨m1, m2⟩ := m
        simp only at hM hR z1
        repeat' (first
         | refine st [] ?_
         | ((with_reducible refine is_gd ?_); refine awpL_split rfl rfl (fun h => ?_) (fun h => ?_))
         | ((with_reducible refine isD_gd ?_); ((fail_if_success (refine isD_kn (c := true) rfl (by first | with_reducible rfl | with_reducible assumption) ?_)); (fail_if_success (refine isD_kn (c := false) rfl (by first | with_reducible rfl | with_reducible assumption) ?_)); refine awpD_split rfl (fun h => ?_) (fun h => ?_)))
         | ((with_reducible refine is_awp ?_); refine awp_cond rfl (fun h => ?_) (fun h => ?_))
         | fail)
        exact retP rfl rfl
end Go.Proofs.YtnacjdaoiepbhaaGreatDoor
end
section
namespace Go.Proofs.YtnacjdaoiepbhaaGreatDoor
open Go.Ac
theorem shp_str {td : TDs} {f t : Nat} {cs : List AV} (hk : (lk td t).map (fun d : TD => d.k) = some .str) (h : Shp td f t cs) : ∃ s, cs = [.v (.string s)] ∧ s.size ≤ maxLen := by
  cases f with
  | zero => exact absurd h (by simp [Shp])
  | succ f => simp only [Shp, hk] at h; exact h
theorem shp_int {td : TDs} {f t : Nat} {k : IntKind} {cs : List AV} (hk : (lk td t).map (fun d : TD => d.k) = some (.int k)) (h : Shp td f t cs) : ∃ n, cs = [.v (.int k n)] ∧ (Lit.int k n).wf = true := by
  cases f with
  | zero => exact absurd h (by simp [Shp])
  | succ f => simp only [Shp, hk] at h; exact h
theorem wf64 {n : Int} (h : (Lit.int .i64 n).wf = true) : I64 n := by
  simp only [Lit.wf, Bool.and_eq_true, decide_eq_true_eq] at h
  have h1 : IntKind.i64.min = -9223372036854775808 := by decide
  have h2 : IntKind.i64.max = 9223372036854775807 := by decide
  rw [h1, h2] at h
  exact h
theorem shp_slice {α : Type} {e f t sz0 : Nat} {cs : List AV} {enc : α → List AV} {ok : α → Prop} (hk : (lk td t).map (fun d : TD => d.k) = some (.slice e)) (hz : (lk td e).map (fun d : TD => d.size) = some sz0)
    (he : ∀ {f : Nat} {x : List AV}, Shp td f e x → ∃ a, x = enc a ∧ ok a) (h : Shp td f t cs) : ∃ l : List α, cs = [.fs sz0 l.length (l.map enc)] ∧ l.length ≤ maxLen ∧ ∀ a ∈ l, ok a := by
  cases f with
  | zero => exact absurd h (by simp [Shp])
  | succ f =>
    simp only [Shp, hk] at h
    obtain ⟨sz, es, h1, rfl, hlen, hx⟩ := h
    rw [hz] at h1
    injection h1 with h1
    subst h1
    have : ∃ l : List α, es = l.map enc ∧ ∀ a ∈ l, ok a := by
      clear hlen
      induction es with
      | nil => exact ⟨[], rfl, by simp⟩
      | cons x r ih =>
        obtain ⟨t, rfl, ht⟩ := he (hx x (by simp))
        obtain ⟨l, rfl, hl⟩ := ih (fun y hy => hx y (by simp [hy]))
        refine ⟨t :: l, rfl, fun u hu => ?_⟩
        rcases List.mem_cons.1 hu with rfl | hu
        · exact ht
        · exact hl u hu
    obtain ⟨l, rfl, hl⟩ := this
    exact ⟨l, by simp, by simpa using hlen, hl⟩
theorem shp_stamp {f : Nat} {cs : List AV} (h : Shp td f 23 cs) : ∃ t : Stamp, cs = stampC t ∧ True := by
  cases f with
  | zero => exact absurd h (by simp [Shp])
  | succ f =>
    have hk : (lk td 23).map (fun d : TD => d.k) = some (.struct [(3, 0), (3, 1)]) := rfl
    simp only [Shp, hk] at h
    obtain ⟨parts, rfl, hl, hp⟩ := h
    match parts, hl with
    | [a, b], _ =>
      obtain ⟨n1, rfl, _⟩ := shp_int (k := .i64) rfl (hp 0 a _ rfl rfl)
      obtain ⟨n2, rfl, _⟩ := shp_int (k := .i64) rfl (hp 1 b _ rfl rfl)
      exact ⟨⟨n1, n2⟩, rfl, trivial⟩
theorem shp_span {f : Nat} {cs : List AV} (h : Shp td f 63 cs) : ∃ t : Span, cs = spanC t ∧ True := by
  cases f with
  | zero => exact absurd h (by simp [Shp])
  | succ f =>
    have hk : (lk td 63).map (fun d : TD => d.k) = some (.struct [(3, 0), (3, 1)]) := rfl
    simp only [Shp, hk] at h
    obtain ⟨parts, rfl, hl, hp⟩ := h
    match parts, hl with
    | [a, b], _ =>
      obtain ⟨n1, rfl, _⟩ := shp_int (k := .i64) rfl (hp 0 a _ rfl rfl)
      obtain ⟨n2, rfl, _⟩ := shp_int (k := .i64) rfl (hp 1 b _ rfl rfl)
      exact ⟨⟨n1, n2⟩, rfl, trivial⟩
theorem shp_note {f : Nat} {cs : List AV} (h : Shp td f 65 cs) : ∃ t : Note, cs = noteC t ∧ I64 t.id := by
  cases f with
  | zero => exact absurd h (by simp [Shp])
  | succ f =>
    have hk : (lk td 65).map (fun d : TD => d.k) = some (.struct [(3, 0), (3, 1), (3, 2), (63, 3), (3, 5), (9, 6)]) := rfl
    simp only [Shp, hk] at h
    obtain ⟨parts, rfl, hl, hp⟩ := h
    match parts, hl with
    | [a, b, c, d, e, g], _ =>
      obtain ⟨n1, rfl, w⟩ := shp_int (k := .i64) rfl (hp 0 a _ rfl rfl)
      obtain ⟨n2, rfl, _⟩ := shp_int (k := .i64) rfl (hp 1 b _ rfl rfl)
      obtain ⟨n3, rfl, _⟩ := shp_int (k := .i64) rfl (hp 2 c _ rfl rfl)
      obtain ⟨s, rfl, _⟩ := shp_span (hp 3 d _ rfl rfl)
      obtain ⟨n4, rfl, _⟩ := shp_int (k := .i64) rfl (hp 4 e _ rfl rfl)
      obtain ⟨t, rfl, _⟩ := shp_str rfl (hp 5 g _ rfl rfl)
      exact ⟨⟨n1, n2, n3, s, n4, t⟩, rfl, wf64 w⟩
theorem shp_stamps {f : Nat} {cs : List AV} (h : Shp td f 72 cs) : ∃ l : List Stamp, cs = [encStamps l] := by
  obtain ⟨l, h, _⟩ := shp_slice (enc := stampC) (ok := fun _ => True) rfl rfl (fun h => shp_stamp h) h
  exact ⟨l, h⟩
theorem shp_op {f : Nat} {cs : List AV} (h : Shp td f 74 cs) : ∃ o : Op, cs = opC o ∧ I64 o.note.id := by
  cases f with
  | zero => exact absurd h (by simp [Shp])
  | succ f =>
    have hk : (lk td 74).map (fun d : TD => d.k) = some (.struct [(23, 0), (3, 2), (3, 3), (65, 4), (3, 11), (3, 12), (9, 13), (72, 14)]) := rfl
    simp only [Shp, hk] at h
    obtain ⟨parts, rfl, hl, hp⟩ := h
    match parts, hl with
    | [a, b, c, d, e, g, i, j], _ =>
      obtain ⟨t, rfl, _⟩ := shp_stamp (hp 0 a _ rfl rfl)
      obtain ⟨n1, rfl, _⟩ := shp_int (k := .i64) rfl (hp 1 b _ rfl rfl)
      obtain ⟨n2, rfl, _⟩ := shp_int (k := .i64) rfl (hp 2 c _ rfl rfl)
      obtain ⟨n, rfl, hn⟩ := shp_note (hp 3 d _ rfl rfl)
      obtain ⟨n4, rfl, _⟩ := shp_int (k := .i64) rfl (hp 4 e _ rfl rfl)
      obtain ⟨n5, rfl, _⟩ := shp_int (k := .i64) rfl (hp 5 g _ rfl rfl)
      obtain ⟨s, rfl, _⟩ := shp_str rfl (hp 6 i _ rfl rfl)
      obtain ⟨l, rfl⟩ := shp_stamps (hp 7 j _ rfl rfl)
      exact ⟨⟨t, n1, n2, n, n4, n5, s, l⟩, rfl, hn⟩
theorem shp_ops {f : Nat} {cs : List AV} (h : Shp td f 35 cs) : ∃ l : List Op, cs = [encOps l] ∧ l.length ≤ maxLen ∧ Ids l :=
  shp_slice (enc := opC) rfl rfl (fun h => shp_op h) h
end Go.Proofs.YtnacjdaoiepbhaaGreatDoor
end
section
namespace Go.Ac
def ShpB (td : TDs) (B : Nat) : Nat → TypeId → List AV → Prop
  | 0, _, _ => False
  | f + 1, t, cas => match (lk td t).map (fun d : TD => d.k) with
    | some .bool => ∃ b, cas = [.v (.bool b)]
    | some (.int k) => ∃ n, cas = [.v (.int k n)] ∧ (Lit.int k n).wf = true
    | some .str => ∃ s, cas = [.v (.string s)] ∧ s.size ≤ B
    | some (.slice e) => ∃ sz es, (lk td e).map (fun d : TD => d.size) = some sz ∧ cas = [.fs sz es.length es] ∧ es.length ≤ B ∧ ∀ x ∈ es, ShpB td B f e x
    | some (.struct fs) => ∃ parts : List (List AV), cas = parts.flatten ∧ parts.length = fs.length ∧ ∀ (i : Nat) (x : List AV) (q : TypeId × Nat), parts[i]? = some x → fs[i]? = some q → ShpB td B f q.1 x
    | some (.arr n e) => ∃ parts : List (List AV), cas = parts.flatten ∧ parts.length = n ∧ ∀ x ∈ parts, ShpB td B f e x
    | _ => False
theorem weightsAll_mem {H : Type} {P : Program} {e : TypeId} {B : Nat} : ∀ {l : List (DataW H)}, (DataW.weightsAll P e l).all (· ≤ B) = true → ∀ d ∈ l, (d.weights P e).all (· ≤ B) = true
  | [], _, d, hd => by cases hd
  | x :: r, h, d, hd => by
    simp only [DataW.weightsAll, List.all_append, Bool.and_eq_true] at h
    rcases List.mem_cons.1 hd with rfl | hd
    · exact h.1
    · exact weightsAll_mem h.2 d hd
theorem weightsEach_get {H : Type} {P : Program} {B : Nat} : ∀ {ts : List TypeId} {l : List (DataW H)}, (DataW.weightsEach P ts l).all (· ≤ B) = true → ∀ (i : Nat) t d, ts[i]? = some t → l[i]? = some d → (d.weights P t).all (· ≤ B) = true
  | [], l, _, i, t, d, ht, hd => by simp at ht
  | t :: ts, [], _, i, u, d, ht, hd => by simp at hd
  | t :: ts, x :: r, h, i, u, d, ht, hd => by
    simp only [DataW.weightsEach, List.all_append, Bool.and_eq_true] at h
    cases i with
    | zero => simp at ht hd; subst ht hd; exact h.1
    | succ i => exact weightsEach_get h.2 i u d (by simpa using ht) (by simpa using hd)
def byteT (td : TDs) (C : List Nat) : Bool := C.all fun t => match lk td t with
  | some d => (match d.k with | .slice e => (match lk td e with | some ed => Nat.blt 0 ed.bytes | none => false) | _ => true)
  | none => true
section
variable {P : Program} {td : TDs} [T : TOK P td] {H : Type} {enc : TypeId × Value → H} {W : World} {sp : Nat → Bool} {B : Nat}
theorem consec_partsB {f : Nat} {F : Nat → Prop} {w : World} {cs : List Value} {n : Nat} (hl : cs.length = n) : ∀ {fs : List (TypeId × Nat)} {o : Nat}, consec td o fs n = true → o ≤ n →
    (∀ q ∈ fs, ∃ cas, ShpB td B f q.1 cas ∧ LF F w cas ((cs.drop q.2).take (P.cellsOf q.1))) → ∃ parts : List (List AV), parts.length = fs.length ∧ LF F w parts.flatten (cs.drop o) ∧
      ∀ (i : Nat) (x : List AV) (q : TypeId × Nat), parts[i]? = some x → fs[i]? = some q → LF F w x ((cs.drop q.2).take (P.cellsOf q.1)) ∧ ShpB td B f q.1 x
  | [], o, h, ho, _ => by
    simp only [consec] at h
    have := Nat.eq_of_beq_eq_true h; subst this
    refine ⟨[], rfl, ?_, fun i x q hi => by simp at hi⟩
    rw [List.drop_of_length_le (by omega)]; simp only [List.flatten_nil, LF]
  | (t, off) :: r, o, h, ho, hp => by
    simp only [consec, Bool.and_eq_true] at h
    have := Nat.eq_of_beq_eq_true h.1; subst this
    obtain ⟨cas, hs, hLF⟩ := hp (t, off) (List.mem_cons_self ..)
    cases hlk : lk td t with
    | none => rw [hlk] at h; cases h.2
    | some d =>
      rw [hlk] at h
      have hcs := cellsOf_td (P := P) hlk
      have hle : off + d.size ≤ n := by
        have key : ∀ {fs : List (TypeId × Nat)} {o : Nat}, consec td o fs n = true → o ≤ n := by
          intro fs
          induction fs with
          | nil => intro o h; simp only [consec] at h; exact Nat.le_of_eq (Nat.eq_of_beq_eq_true h)
          | cons q r ih =>
            intro o h
            obtain ⟨t, off⟩ := q
            simp only [consec, Bool.and_eq_true] at h
            cases hq : lk td t with
            | none => rw [hq] at h; cases h.2
            | some d => rw [hq] at h; have := ih h.2; omega
        exact key h.2
      obtain ⟨parts, q1, q2, q3⟩ := consec_partsB hl h.2 hle (fun q hq => hp q (List.mem_cons_of_mem _ hq))
      refine ⟨cas :: parts, by simp [q1], ?_, fun i x q hi hq => ?_⟩
      · rw [List.flatten_cons]
        simp only [hcs] at hLF
        have := LF_append hLF q2
        have e : (cs.drop off).take d.size ++ cs.drop (off + d.size) = cs.drop off := by
          rw [← List.drop_drop]; exact List.take_append_drop ..
        rwa [e] at this
      · cases i with
        | zero => simp at hi hq; subst hi hq; exact ⟨hLF, hs⟩
        | succ i => exact q3 i x q (by simpa using hi) (by simpa using hq)
theorem trod_LFB {C : List Nat} (hC : closedT td C = true) (hB : byteT td C = true) : ∀ (f : Nat) (t : Nat) (cs : List Value) (r : DataW H × List MemPlace), t ∈ C → DataW.trod enc P W 0 sp true f t cs = some r → (r.1.weights P t).all (· ≤ B) = true →
    ∃ cas, ShpB td B f t cas ∧ LF (below W) W cas cs := by
  intro f
  induction f with
  | zero => intro t cs r _ h _; simp [DataW.trod] at h
  | succ f ih =>
    intro t cs r ht h hw
    have hc := List.all_eq_true.1 hC t ht
    cases hl : lk td t with
    | none => simp [hl] at hc
    | some d =>
      simp only [hl] at hc
      obtain ⟨i, u, z, h1, h2, h3, h4, h5, h6, h7⟩ := tok_parts (P := P) hl
      cases hk : d.k with
      | bool =>
        rw [hk] at h4
        cases u <;> simp only [tk, reduceCtorEq] at h4
        obtain ⟨b, rfl, _⟩ := DataW.trod_bool h2 h
        exact ⟨[.v (.bool b)], by simp only [ShpB, hl, Option.map_some, hk]; exact ⟨b, rfl⟩, by simp only [LF, RF]; exact ⟨_, [], rfl, rfl, rfl, rfl⟩⟩
      | int k =>
        rw [hk] at h4
        cases u <;> simp only [tk, reduceCtorEq, TK.int.injEq] at h4
        subst h4
        obtain ⟨n, rfl, _, hwf⟩ := DataW.trod_int h2 h
        exact ⟨[.v (.int _ n)], by simp only [ShpB, hl, Option.map_some, hk]; exact ⟨n, rfl, hwf⟩, by simp only [LF, RF]; exact ⟨_, [], rfl, rfl, rfl, rfl⟩⟩
      | str =>
        rw [hk] at h4
        cases u <;> simp only [tk, reduceCtorEq] at h4
        obtain ⟨s, rfl, hx, _⟩ := DataW.trod_string h2 h
        have hs : s.size ≤ B := by
          subst hx
          simp only [DataW.weights, List.all_cons, List.all_nil, Bool.and_true, decide_eq_true_eq, Array.length_toList] at hw
          exact hw
        exact ⟨[.v (.string s)], by simp only [ShpB, hl, Option.map_some, hk]; exact ⟨s, rfl, hs⟩, by simp only [LF, RF]; exact ⟨_, [], rfl, rfl, rfl, rfl⟩⟩
      | slice e =>
        rw [hk] at h4
        cases u <;> simp only [tk, reduceCtorEq, TK.slice.injEq] at h4
        subst h4
        rename_i e
        simp only [hk, Bool.and_eq_true] at hc
        obtain ⟨⟨_, he⟩, hsz⟩ := hc
        have he' : e ∈ C := List.contains_iff_mem.1 he
        cases hle : lk td e with
        | none => rw [hle] at hsz; cases hsz
        | some ed =>
          rw [hle] at hsz
          have hpos : 0 < ed.size := Nat.le_of_ble_eq_true hsz
          have hce := cellsOf_td (P := P) hle
          rcases DataW.trod_slice h2 h with ⟨rfl, _⟩ | ⟨a, len, cap, elems, rest, n, hf, rfl, hx, _, hlc, hcm, hel, hget, _⟩
          · refine ⟨[.fs ed.size 0 []], ?_, ?_⟩
            · simp only [ShpB, hl, Option.map_some, hk]
              exact ⟨ed.size, [], by simp [hle], rfl, Nat.zero_le _, fun x hx => by cases hx⟩
            · simp only [LF, RF]
              exact ⟨_, [], rfl, ⟨rfl, none, 0, rfl, Nat.le_refl _, fun h => absurd rfl h⟩, rfl, rfl⟩
          · injection hf with hf; subst hf
            have hbt := List.all_eq_true.1 hB t ht
            simp only [hl, hk, hle] at hbt
            have hby : 0 < P.bytesOf e := by
              obtain ⟨i', u', z', k1, _, _, _, _, k6, _⟩ := tok_parts (P := P) hle
              simp only [Program.bytesOf, k1, Option.map_some, Option.getD_some]
              rw [k6]; exact Nat.le_of_ble_eq_true hbt
            subst hx
            simp only [DataW.weights, h2, List.all_cons, List.all_append, Bool.and_eq_true, decide_eq_true_eq, List.length_map] at hw
            obtain ⟨hw1, hw2, _⟩ := hw
            have hlenB : len ≤ B := by
              have := Nat.le_mul_of_pos_right (elems.length + rest.length) hby
              omega
            have hwe : ∀ i (y : DataW H × List MemPlace), elems[i]? = some y → (y.1.weights P e).all (· ≤ B) = true := fun i y hy =>
              weightsAll_mem hw2 y.1 (List.mem_map_of_mem (List.mem_of_getElem? hy))
            have key : ∀ i, i < len → ∃ x, ShpB td B f e x ∧ ∃ ys, LF (below W) W x ys ∧ ys.length = ed.size ∧ W.cells? 0 (a.add (i * ed.size)) ed.size = some ys := by
              intro i hi
              have hg := hget i hi
              rw [List.getElem?_eq_getElem (by omega), hce] at hg
              cases hcl : W.cells? 0 (a.add (i * ed.size)) ed.size with
              | none => rw [hcl] at hg; cases hg
              | some ys =>
                rw [hcl] at hg
                simp only [Option.bind_some] at hg
                obtain ⟨x, g1, g2⟩ := ih e ys _ he' hg (hwe i _ (List.getElem?_eq_getElem (by omega)))
                exact ⟨x, g1, ys, g2, (cells?_spec hpos hcl).2.2.1, rfl⟩
            have hes : ∃ es : List (List AV), es.length = len ∧ ∀ i, i < len → ∃ x, es[i]? = some x ∧ ShpB td B f e x ∧ ∃ ys, LF (below W) W x ys ∧ ys.length = ed.size ∧ W.cells? 0 (a.add (i * ed.size)) ed.size = some ys := by
              have : ∀ m, m ≤ len → ∃ es : List (List AV), es.length = m ∧ ∀ i, i < m → ∃ x, es[i]? = some x ∧ ShpB td B f e x ∧ ∃ ys, LF (below W) W x ys ∧ ys.length = ed.size ∧ W.cells? 0 (a.add (i * ed.size)) ed.size = some ys := by
                intro m
                induction m with
                | zero => intro _; exact ⟨[], rfl, fun i h => by omega⟩
                | succ m ihm =>
                  intro hm
                  obtain ⟨es, q1, q2⟩ := ihm (by omega)
                  obtain ⟨x, k1, k2⟩ := key m (by omega)
                  refine ⟨es ++ [x], by simp [q1], fun i hi => ?_⟩
                  by_cases e' : i = m
                  · subst e'; exact ⟨x, by rw [← q1]; simp, k1, k2⟩
                  · obtain ⟨x', r1, r2⟩ := q2 i (by omega)
                    exact ⟨x', by rw [List.getElem?_append_left (by omega)]; exact r1, r2⟩
              exact this len (Nat.le_refl _)
            obtain ⟨es, q1, q2⟩ := hes
            refine ⟨[.fs ed.size len es], ?_, ?_⟩
            · simp only [ShpB, hl, Option.map_some, hk]
              refine ⟨ed.size, es, by simp [hle], by rw [q1], by omega, fun x hx => ?_⟩
              obtain ⟨i, hi⟩ := List.getElem?_of_mem hx
              have hil : i < len := by rcases Nat.lt_or_ge i es.length with h' | h'; omega; rw [List.getElem?_eq_none h'] at hi; cases hi
              obtain ⟨x', r1, r2, _⟩ := q2 i hil
              rw [hi] at r1; injection r1 with r1; subst r1; exact r2
            · simp only [LF, RF]
              refine ⟨_, [], rfl, ⟨q1, some a, cap, rfl, hlc, fun hne => ?_⟩, rfl, rfl⟩
              obtain ⟨x0, _, _, ys0, _, _, hc0⟩ := q2 0 (by omega)
              have hadd0 : a.add (0 * ed.size) = a := by simp [Addr.add]
              rw [hadd0] at hc0
              obtain ⟨hsp, hbl, _, _⟩ := cells?_spec hpos hc0
              obtain ⟨b, off, spot⟩ := a
              simp only at hsp hbl; subst hsp
              refine ⟨b, off, rfl, hbl, ?_⟩
              have : ∀ (es' : List (List AV)) (k : Nat), k + es'.length = len → (∀ i x, es'[i]? = some x → es[k + i]? = some x) → EF (below W) W ed.size es' b (off + k * ed.size) := by
                intro es'
                induction es' with
                | nil => intro k _ _; simp only [EF]
                | cons x r ihr =>
                  intro k hk' hx
                  simp only [EF]
                  obtain ⟨x', r1, _, ys, r2, r3, r4⟩ := q2 k (by simp at hk'; omega)
                  have := hx 0 x rfl
                  rw [Nat.add_zero, r1] at this; injection this with this; subst this
                  rw [Addr.add_mid] at r4
                  obtain ⟨_, _, _, hra⟩ := cells?_spec hpos r4
                  refine ⟨by rw [← r2.length, r3], MF.of r2 hra, ?_⟩
                  have := ihr (k + 1) (by simp at hk'; omega) (fun i z hz => by have := hx (i + 1) z (by simpa using hz); rwa [show k + (i + 1) = k + 1 + i by omega] at this)
                  rwa [show off + (k + 1) * ed.size = off + k * ed.size + ed.size by rw [Nat.add_mul]; omega] at this
              have := this es 0 (by omega) (fun i x h => by simpa using h)
              simpa using this
      | struct fs =>
        rw [hk] at h4
        cases u <;> simp only [tk, reduceCtorEq, TK.struct.injEq] at h4
        subst h4
        rename_i fields
        simp only [hk, Bool.and_eq_true] at hc
        obtain ⟨xs, n, hf, hx, hlen, hxl, hget⟩ := DataW.trod_struct h2 h
        injection hf with hf; subst hf
        subst hx
        simp only [DataW.weights, h2] at hw
        have hcd := cellsOf_td (P := P) hl
        have hin := List.all_eq_true.1 hc.1
        obtain ⟨parts, p1, p2, p3⟩ := consec_partsB (P := P) (f := f) (F := below W) (w := W) (cs := cs) (n := d.size) (by rw [hlen, hcd]) hc.2 (Nat.zero_le _) (fun q hq => by
          obtain ⟨j, hj⟩ := List.getElem?_of_mem hq
          simp only [List.getElem?_map, Array.getElem?_toList] at hj
          cases hfj : fields[j]? with
          | none => simp [hfj] at hj
          | some fl =>
            simp only [hfj, Option.map_some, Option.some.injEq] at hj
            subst hj
            have hg := hget j fl hfj
            have hjl : j < xs.length := by rw [hxl]; exact (Array.getElem?_eq_some_iff.1 hfj).1
            rw [List.getElem?_eq_getElem hjl] at hg
            exact ih _ _ _ (List.contains_iff_mem.1 (hin _ hq)) hg (weightsEach_get hw j _ _ (by simp [hfj]) (by rw [List.getElem?_map, List.getElem?_eq_getElem hjl]; rfl)))
        refine ⟨parts.flatten, ?_, by simpa using p2⟩
        simp only [ShpB, hl, Option.map_some, hk]
        exact ⟨parts, rfl, p1, fun i x q hi hq => (p3 i x q hi hq).2⟩
      | arr n e => simp [hk] at hc
      | ptr e => simp [hk] at hc
      | map k e => simp [hk] at hc
      | iface => simp [hk] at hc
      | other => simp [hk] at hc
end
end Go.Ac
end
section
namespace Go.Proofs.YtnacjdaoiepbhaaGreatDoor
open Go.Ac
variable {B : Nat}
theorem shpB_str {td : TDs} {f t : Nat} {cs : List AV} (hk : (lk td t).map (fun d : TD => d.k) = some .str) (h : ShpB td B f t cs) : ∃ s, cs = [.v (.string s)] ∧ s.size ≤ B := by
  cases f with
  | zero => exact absurd h (by simp [ShpB])
  | succ f => simp only [ShpB, hk] at h; exact h
theorem shpB_int {td : TDs} {f t : Nat} {k : IntKind} {cs : List AV} (hk : (lk td t).map (fun d : TD => d.k) = some (.int k)) (h : ShpB td B f t cs) : ∃ n, cs = [.v (.int k n)] ∧ (Lit.int k n).wf = true := by
  cases f with
  | zero => exact absurd h (by simp [ShpB])
  | succ f => simp only [ShpB, hk] at h; exact h
theorem shpB_slice {α : Type} {e f t sz0 : Nat} {cs : List AV} {enc : α → List AV} {ok : α → Prop} (hk : (lk td t).map (fun d : TD => d.k) = some (.slice e)) (hz : (lk td e).map (fun d : TD => d.size) = some sz0)
    (he : ∀ {f : Nat} {x : List AV}, ShpB td B f e x → ∃ a, x = enc a ∧ ok a) (h : ShpB td B f t cs) : ∃ l : List α, cs = [.fs sz0 l.length (l.map enc)] ∧ l.length ≤ B ∧ ∀ a ∈ l, ok a := by
  cases f with
  | zero => exact absurd h (by simp [ShpB])
  | succ f =>
    simp only [ShpB, hk] at h
    obtain ⟨sz, es, h1, rfl, hlen, hx⟩ := h
    rw [hz] at h1
    injection h1 with h1
    subst h1
    have : ∃ l : List α, es = l.map enc ∧ ∀ a ∈ l, ok a := by
      clear hlen
      induction es with
      | nil => exact ⟨[], rfl, by simp⟩
      | cons x r ih =>
        obtain ⟨t, rfl, ht⟩ := he (hx x (by simp))
        obtain ⟨l, rfl, hl⟩ := ih (fun y hy => hx y (by simp [hy]))
        refine ⟨t :: l, rfl, fun u hu => ?_⟩
        rcases List.mem_cons.1 hu with rfl | hu
        · exact ht
        · exact hl u hu
    obtain ⟨l, rfl, hl⟩ := this
    exact ⟨l, by simp, by simpa using hlen, hl⟩
theorem shpB_stamp {f : Nat} {cs : List AV} (h : ShpB td B f 23 cs) : ∃ t : Stamp, cs = stampC t ∧ True := by
  cases f with
  | zero => exact absurd h (by simp [ShpB])
  | succ f =>
    have hk : (lk td 23).map (fun d : TD => d.k) = some (.struct [(3, 0), (3, 1)]) := rfl
    simp only [ShpB, hk] at h
    obtain ⟨parts, rfl, hl, hp⟩ := h
    match parts, hl with
    | [a, b], _ =>
      obtain ⟨n1, rfl, _⟩ := shpB_int (k := .i64) rfl (hp 0 a _ rfl rfl)
      obtain ⟨n2, rfl, _⟩ := shpB_int (k := .i64) rfl (hp 1 b _ rfl rfl)
      exact ⟨⟨n1, n2⟩, rfl, trivial⟩
theorem shpB_span {f : Nat} {cs : List AV} (h : ShpB td B f 63 cs) : ∃ t : Span, cs = spanC t ∧ True := by
  cases f with
  | zero => exact absurd h (by simp [ShpB])
  | succ f =>
    have hk : (lk td 63).map (fun d : TD => d.k) = some (.struct [(3, 0), (3, 1)]) := rfl
    simp only [ShpB, hk] at h
    obtain ⟨parts, rfl, hl, hp⟩ := h
    match parts, hl with
    | [a, b], _ =>
      obtain ⟨n1, rfl, _⟩ := shpB_int (k := .i64) rfl (hp 0 a _ rfl rfl)
      obtain ⟨n2, rfl, _⟩ := shpB_int (k := .i64) rfl (hp 1 b _ rfl rfl)
      exact ⟨⟨n1, n2⟩, rfl, trivial⟩
theorem shpB_note {f : Nat} {cs : List AV} (h : ShpB td B f 65 cs) : ∃ t : Note, cs = noteC t ∧ I64 t.id ∧ t.text.size ≤ B := by
  cases f with
  | zero => exact absurd h (by simp [ShpB])
  | succ f =>
    have hk : (lk td 65).map (fun d : TD => d.k) = some (.struct [(3, 0), (3, 1), (3, 2), (63, 3), (3, 5), (9, 6)]) := rfl
    simp only [ShpB, hk] at h
    obtain ⟨parts, rfl, hl, hp⟩ := h
    match parts, hl with
    | [a, b, c, d, e, g], _ =>
      obtain ⟨n1, rfl, w⟩ := shpB_int (k := .i64) rfl (hp 0 a _ rfl rfl)
      obtain ⟨n2, rfl, _⟩ := shpB_int (k := .i64) rfl (hp 1 b _ rfl rfl)
      obtain ⟨n3, rfl, _⟩ := shpB_int (k := .i64) rfl (hp 2 c _ rfl rfl)
      obtain ⟨s, rfl, _⟩ := shpB_span (hp 3 d _ rfl rfl)
      obtain ⟨n4, rfl, _⟩ := shpB_int (k := .i64) rfl (hp 4 e _ rfl rfl)
      obtain ⟨t, rfl, ht⟩ := shpB_str rfl (hp 5 g _ rfl rfl)
      exact ⟨⟨n1, n2, n3, s, n4, t⟩, rfl, wf64 w, ht⟩
theorem shpB_stamps {f : Nat} {cs : List AV} (h : ShpB td B f 72 cs) : ∃ l : List Stamp, cs = [encStamps l] ∧ l.length ≤ B := by
  obtain ⟨l, h, hl, _⟩ := shpB_slice (enc := stampC) (ok := fun _ => True) rfl rfl (fun h => shpB_stamp h) h
  exact ⟨l, h, hl⟩
def OpB (B : Nat) (o : Op) : Prop := I64 o.note.id ∧ o.text.size ≤ B ∧ o.note.text.size ≤ B ∧ o.over.length ≤ B
theorem shpB_op {f : Nat} {cs : List AV} (h : ShpB td B f 74 cs) : ∃ o : Op, cs = opC o ∧ OpB B o := by
  cases f with
  | zero => exact absurd h (by simp [ShpB])
  | succ f =>
    have hk : (lk td 74).map (fun d : TD => d.k) = some (.struct [(23, 0), (3, 2), (3, 3), (65, 4), (3, 11), (3, 12), (9, 13), (72, 14)]) := rfl
    simp only [ShpB, hk] at h
    obtain ⟨parts, rfl, hl, hp⟩ := h
    match parts, hl with
    | [a, b, c, d, e, g, i, j], _ =>
      obtain ⟨t, rfl, _⟩ := shpB_stamp (hp 0 a _ rfl rfl)
      obtain ⟨n1, rfl, _⟩ := shpB_int (k := .i64) rfl (hp 1 b _ rfl rfl)
      obtain ⟨n2, rfl, _⟩ := shpB_int (k := .i64) rfl (hp 2 c _ rfl rfl)
      obtain ⟨n, rfl, hn, hnt⟩ := shpB_note (hp 3 d _ rfl rfl)
      obtain ⟨n4, rfl, _⟩ := shpB_int (k := .i64) rfl (hp 4 e _ rfl rfl)
      obtain ⟨n5, rfl, _⟩ := shpB_int (k := .i64) rfl (hp 5 g _ rfl rfl)
      obtain ⟨s, rfl, hs⟩ := shpB_str rfl (hp 6 i _ rfl rfl)
      obtain ⟨l, rfl, hl⟩ := shpB_stamps (hp 7 j _ rfl rfl)
      exact ⟨⟨t, n1, n2, n, n4, n5, s, l⟩, rfl, hn, hs, hnt, hl⟩
theorem shpB_ops {f : Nat} {cs : List AV} (h : ShpB td B f 35 cs) : ∃ l : List Op, cs = [encOps l] ∧ l.length ≤ B ∧ ∀ o ∈ l, OpB B o :=
  shpB_slice (enc := opC) rfl rfl (fun h => shpB_op h) h
theorem shpB_ints {f : Nat} {cs : List AV} (h : ShpB td B f 30 cs) : ∃ l : List Int, cs = [encIs l] ∧ l.length ≤ B ∧ ∀ n ∈ l, I64 n :=
  shpB_slice (enc := intC) rfl rfl (fun h => by obtain ⟨n, rfl, w⟩ := shpB_int (k := .i64) rfl h; exact ⟨n, rfl, wf64 w⟩) h
theorem shpB_replica {f : Nat} {cs : List AV} (h : ShpB td B f 37 cs) : ∃ r : Replica, cs = repC r ∧ ∀ o ∈ r.ops, OpB B o := by
  cases f with
  | zero => exact absurd h (by simp [ShpB])
  | succ f =>
    have hk : (lk td 37).map (fun d : TD => d.k) = some (.struct [(3, 0), (30, 1), (35, 2)]) := rfl
    simp only [ShpB, hk] at h
    obtain ⟨parts, rfl, hl, hp⟩ := h
    match parts, hl with
    | [a, b, c], _ =>
      obtain ⟨n1, rfl, _⟩ := shpB_int (k := .i64) rfl (hp 0 a _ rfl rfl)
      obtain ⟨l, rfl, _⟩ := shpB_ints (hp 1 b _ rfl rfl)
      obtain ⟨m, rfl, _, hm⟩ := shpB_ops (hp 2 c _ rfl rfl)
      exact ⟨⟨n1, l, m⟩, rfl, hm⟩
theorem ids_ofB {l : List Op} (h : ∀ o ∈ l, OpB B o) : Ids l := fun o ho => (h o ho).1
end Go.Proofs.YtnacjdaoiepbhaaGreatDoor
end
section
namespace Go.Proofs.YtnacjdaoiepbhaaGreatDoor
def findTF (name : ByteArray) : Nat → List Tier → Int
  | _, [] => -1
  | i, t :: r => if t.name = name then i else findTF name (i + 1) r
def findT (l : List Tier) (name : ByteArray) : Int := findTF name 0 l
def roleTF (role : Int) : Nat → List Tier → Int
  | _, [] => -1
  | i, t :: r => if role ≠ 0 ∧ t.role = role then i else roleTF role (i + 1) r
def roleT (l : List Tier) (role : Int) : Int := roleTF role 0 l
def smallB (b : Nat) : Bool := decide (97 ≤ b) && decide (b ≤ 122)
def letterB (b : Nat) : Bool := smallB b || decide (48 ≤ b) && decide (b ≤ 57) || decide (b = 45) || decide (b = 95)
def nameOk (s : ByteArray) : Bool := decide (1 ≤ s.size) && decide (s.size ≤ 32) && (match s.data.toList with | [] => false | b :: _ => smallB b.toNat) && s.data.toList.all fun b => letterB b.toNat
def rolesE (above : Int) (t : Tier) : Int :=
  let kind := if t.role = 1 then 0 else if t.role = 3 then 3 else if t.role = 4 then 4 else if t.role = 5 then 4 else t.kind
  let need := if t.role = 2 then 1 else if t.role = 3 then 2 else if t.role = 4 then 3 else if t.role = 5 then 1 else above
  if t.kind ≠ kind then 14 else if above ≠ need then 13 else 0
def tierOne (before : List Tier) (t : Tier) : Int :=
  if nameOk t.name = false then 7
  else if 0 ≤ findT before t.name then 8
  else if t.kind < 0 ∨ 4 < t.kind then 14
  else if t.role < 0 ∨ 5 < t.role then 2
  else if 0 ≤ roleT before t.role then 8
  else if t.kind = 0 then (if t.parent ≠ -1 then 13 else rolesE (-1) t)
  else if t.parent < 0 ∨ before.length ≤ t.parent then 13
  else match before[t.parent.toNat]? with
    | none => 13
    | some p => if timed t.kind = true ∧ timed p.kind = false then 13 else rolesE p.role t
def tiersEF (l : List Tier) : Nat → Nat → Int
  | 0, _ => 0
  | n + 1, i => match l[i]? with
    | none => 0
    | some t => if tierOne (l.take i) t ≠ 0 then tierOne (l.take i) t else tiersEF l n (i + 1)
def tiersE (l : List Tier) : Int := if 12 < l.length then 11 else tiersEF l l.length 0
def noNote : Note := ⟨0, 0, 0, ⟨0, 0⟩, 0, .empty⟩
def placedE (d : Doc) (t : Tier) (n : Note) : Int :=
  if (t.kind = 0 ∧ n.parent ≠ 0) ∨ (t.kind ≠ 0 ∧ ((getN d.notes n.parent).isSome = false ∨ ((getN d.notes n.parent).getD noNote).tier ≠ t.parent)) then 13
  else if (timed t.kind = false ∧ n.span ≠ ⟨0, 0⟩) ∨ (timed t.kind = true ∧ spanRight n.span = false) then 12
  else if t.kind = 0 ∧ d.rec_.length < n.span.til then 12
  else if (timed t.kind = true ∧ t.kind ≠ 0) ∧ (n.span.fro < ((getN d.notes n.parent).getD noNote).span.fro ∨ ((getN d.notes n.parent).getD noNote).span.til < n.span.til) then 12
  else if n.rank < 0 ∨ (n.rank ≠ 0 ∧ t.kind ≠ 3) then 1
  else 0
def lateB (p : Option Note) (n : Note) : Bool := match p with | some q => decide (n.id ≤ q.id) | none => false
def noteE (d : Doc) (p : Option Note) (n : Note) : Int :=
  if n.id < 1 ∨ 1099511627776 < n.id then 2
  else if lateB p n = true then 10
  else match tierAt d.tiers n.tier with
    | none => 2
    | some t => if textE n.text ≠ 0 then textE n.text else placedE d t n
def sibs (d : Doc) (tier parent : Int) : List Note := d.notes.filter fun n => decide (n.tier = tier) && decide (n.parent = parent)
def meet (a b : Span) : Bool := decide (a.fro < b.til) && decide (b.fro < a.til)
def overlapL : List Span → Bool
  | l => (List.range l.length).any fun i => (List.range i).any fun k => meet (l.getD i ⟨0, 0⟩) (l.getD k ⟨0, 0⟩)
def rankedL (l : List Int) : Bool := (List.range l.length).all fun n => l.any fun r => decide (r = (n : Int))
def tierStep (d : Doc) (kind : Int) (out : Int) (n : Note) : Int :=
  let l := sibs d n.tier n.parent
  let a := if kind = 1 ∧ covB (l.map (·.span)) ((getN d.notes n.parent).getD noNote).span = false then 16 else out
  let b := if kind = 3 ∧ rankedL (l.map (·.rank)) = false then 10 else a
  if kind = 4 ∧ 1 < l.length then 8 else b
def tierE1 (d : Doc) (kind tier : Int) : Int → List Note → Int
  | out, [] => out
  | out, n :: r => if n.tier ≠ tier then tierE1 d kind tier out r
    else if timed kind = true ∧ overlapL ((sibs d n.tier n.parent).map (·.span)) = true then 15
    else tierE1 d kind tier (tierStep d kind out n) r
def tierE (d : Doc) (tier : Int) : Int := match tierAt d.tiers tier with
  | none => 0
  | some t => tierE1 d t.kind tier 0 d.notes
def notesE (d : Doc) : Option Note → List Note → Int
  | _, [] => 0
  | p, n :: r => if noteE d p n ≠ 0 then noteE d p n else notesE d (some n) r
def eachE (d : Doc) : Nat → Nat → Int
  | 0, _ => 0
  | m + 1, i => if tierE d (i : Int) ≠ 0 then tierE d (i : Int) else eachE d m (i + 1)
def docE (d : Doc) : Int :=
  if tiersE d.tiers ≠ 0 then tiersE d.tiers
  else if d.rec_.length < 0 ∨ 86400000 < d.rec_.length then 12
  else if 300 < d.notes.length then 11
  else if notesE d none d.notes ≠ 0 then notesE d none d.notes
  else eachE d d.tiers.length 0
def lightD (d : Doc) : Bool := decide (d.notes.length ≤ 14) && (decide (d.tiers.length ≤ 6) && (decide (d.rec_.speakers.length ≤ 6) && decide (docE d = 0)))
end Go.Proofs.YtnacjdaoiepbhaaGreatDoor
end
section
namespace Go.Proofs.YtnacjdaoiepbhaaGreatDoor
open Go.Ac
attribute [local irreducible] awp awpL Ev Ev2 EvS thenQ blockQ retQ PCalls OCalls
variable {g : List (Nat × List AV)}
def lett (k : Nat) (b : UInt8) : Bool := smallB b.toNat || decide (k ≠ 0) && letterB b.toNat
def allFrom : Nat → List UInt8 → Bool
  | _, [] => true
  | k, b :: r => lett k b && allFrom (k + 1) r
def kindOf (role : Int) : Int := if role = 1 then 0 else if role = 3 then 3 else if role = 4 then 4 else if role = 5 then 4 else -1
def overOf (role : Int) : Int := if role = 2 then 1 else if role = 5 then 1 else if role = 3 then 2 else if role = 4 then 3 else -1
end Go.Proofs.YtnacjdaoiepbhaaGreatDoor
end
section
namespace Go.Proofs.YtnacjdaoiepbhaaGreatDoor
open Go.Ac
attribute [local irreducible] awp awpL Ev Ev2 EvS thenQ blockQ retQ PCalls OCalls
variable {g : List (Nat × List AV)}
abbrev sibK (d : Doc) (t p : Int) (k : Nat) : List Note := (d.notes.take k).filter fun n => decide (n.tier = t) && decide (n.parent = p)
end Go.Proofs.YtnacjdaoiepbhaaGreatDoor
end
section
namespace Go.Proofs.YtnacjdaoiepbhaaGreatDoor
open Go.Ac
attribute [local irreducible] awp awpL Ev Ev2 EvS thenQ blockQ retQ PCalls OCalls
variable {g : List (Nat × List AV)}
def rankE (t : Tier) (n : Note) : Int := if n.rank < 0 ∨ (n.rank ≠ 0 ∧ t.kind ≠ 3) then 1 else 0
def prevN (d : Doc) (i : Nat) : Option Note := if i = 0 then none else d.notes[i - 1]?
abbrev CovH (g : List (Nat × List AV)) (d : Doc) : Prop := ∀ (t p : Int) (s : Span), overlapL ((sibs d t p).map (·.span)) = false → PCalls Tryz.prog g 83 [encSpans ((sibs d t p).map (·.span)), .agg (spanC s)] (vb (covB ((sibs d t p).map (·.span)) s))
end Go.Proofs.YtnacjdaoiepbhaaGreatDoor
end
section
namespace Go.Proofs.YtnacjdaoiepbhaaGreatDoor
open Go.Ac
attribute [local irreducible] awp awpL Ev Ev2 EvS thenQ blockQ retQ PCalls OCalls
variable {g : List (Nat × List AV)}
structure FitN (d : Doc) : Prop where
  n : d.notes.length ≤ 1000000
  s : ∀ t ∈ d.tiers, t.name.size ≤ 9223372036854775807
end Go.Proofs.YtnacjdaoiepbhaaGreatDoor
end
section
namespace Go.Proofs.YtnacjdaoiepbhaaGreatDoor
open Go.Ac Go.MapKept
attribute [local irreducible] awp awpL Ev Ev2 EvS thenQ blockQ retQ PCalls OCalls YieldOk IterC ICalls
variable {g : List (Nat × List AV)}
def shownC (d : Doc) (l : List Span) : List AV := [.v (.int .i64 d.rec_.id), .v (.string d.rec_.name), .v (.int .i64 d.rec_.length), .v (.int .i64 d.rec_.day), encIs d.rec_.speakers, encTiers d.tiers, encNotes d.notes, encSpans l]
def lightS (r : Replica) (d : Doc) (l : List Span) : Bool := light r && (lightD d && decide (l.length ≤ 20))
end Go.Proofs.YtnacjdaoiepbhaaGreatDoor
end
section
namespace Go.Proofs.YtnacjdaoiepbhaaGreatDoor
open Go.Ac
variable {B : Nat}
theorem shpB_cite {f : Nat} {cs : List AV} (h : ShpB td B f 25 cs) : ∃ c : Cite, cs = citeC c ∧ CiteI c := by
  cases f with
  | zero => exact absurd h (by simp [ShpB])
  | succ f =>
    have hk : (lk td 25).map (fun d : TD => d.k) = some (.struct [(3, 0), (3, 1), (23, 2)]) := rfl
    simp only [ShpB, hk] at h
    obtain ⟨parts, rfl, hl, hp⟩ := h
    match parts, hl with
    | [a, b, c], _ =>
      obtain ⟨n1, rfl, w1⟩ := shpB_int (k := .i64) rfl (hp 0 a _ rfl rfl)
      obtain ⟨n2, rfl, w2⟩ := shpB_int (k := .i64) rfl (hp 1 b _ rfl rfl)
      have h3 := hp 2 c _ rfl rfl
      cases f with
      | zero => exact absurd h3 (by simp [ShpB])
      | succ f =>
        have hk : (lk td 23).map (fun d : TD => d.k) = some (.struct [(3, 0), (3, 1)]) := rfl
        simp only [ShpB, hk] at h3
        obtain ⟨parts, rfl, hl, hp⟩ := h3
        match parts, hl with
        | [a, b], _ =>
          obtain ⟨n3, rfl, w3⟩ := shpB_int (k := .i64) rfl (hp 0 a _ rfl rfl)
          obtain ⟨n4, rfl, w4⟩ := shpB_int (k := .i64) rfl (hp 1 b _ rfl rfl)
          exact ⟨⟨n1, n2, ⟨n3, n4⟩⟩, rfl, wf64 w1, wf64 w2, wf64 w3, wf64 w4⟩
end Go.Proofs.YtnacjdaoiepbhaaGreatDoor
end
section
namespace Go.Proofs.YtnacjdaoiepbhaaGreatDoor
open Go.Ac Go.Lib
theorem var_block {P : Program} {W : World} {n : String} {b : Nat} {cs : Array Value} (hg : P.globalNamed n = some b) (h : W.var? P n = some cs) : below W b ∧ ∀ k, cs.size = k → Exact W k b := by
  simp only [World.var?, hg, Option.bind_some] at h
  split at h
  · rename_i c T z hb
    cases h
    refine ⟨?_, fun k hk => ⟨_, _, _, hb, hk⟩⟩
    rcases Nat.lt_or_ge b W.heap.size with q | q
    · exact q
    · exfalso
      have : W.heap[b]? = none := Array.getElem?_eq_none q
      rw [this] at hb
      cases hb
  · cases h
theorem tab_glob {P : Program} {W : World} {name : String} {b t e n : Nat} {k : IntKind} {zs : List Int} (hn : P.globalNamed name = some b) (hy : (P.globals[b]?).map (·.type) = some t) (ht : P.underlying t = some (.array n e)) (he : P.underlying e = some (.int k)) (hce : P.cellsOf e = 1) (hct : P.cellsOf t = n)
    (h : VarReads P W name (tabData k zs)) : below W b ∧ MF (below W) W (zs.map fun z => AV.v (.int k z)) b 0 ∧ Exact W (zs.map fun z => AV.v (.int k z)).length b := by
  obtain ⟨g, t', cs, fuel, p, hg, hty, hvar, hd⟩ := h
  obtain rfl : g = b := Option.some.inj (hg.symm.trans hn)
  obtain rfl : t' = t := Option.some.inj (hty.symm.trans hy)
  have hcs := cells_of_tab (zs := zs) ht he hce hct hd
  obtain ⟨h1, h2⟩ := var_block hg hvar
  have hsz : cs.size = zs.length := by rw [← Array.length_toList, hcs, List.length_map]
  refine ⟨h1, MF.mk fun i x hx => ?_, h2 _ (by rw [List.length_map]; exact hsz)⟩
  rw [List.getElem?_map, Option.map_eq_some_iff] at hx
  obtain ⟨z, hz, rfl⟩ := hx
  refine ⟨.int k z, ?_, by simp [RF], rfl⟩
  rw [Nat.zero_add, World.var?_cell hg hvar i, ← Array.getElem?_toList, hcs, List.getElem?_map, hz]
  rfl
theorem err_type (u : TypeId) (hu : Tryz.prog.typeName? 3 u = some "*errors.errorString") : u = 250 :=
  typeName_ptr_named (nm := "errors.errorString") (by kernel_rfl) (by kernel_rfl) (by decide) u hu
theorem err_glob {W : World} {name : String} {b t : Nat} {ms : Array (String × TypeId)} (hn : Tryz.prog.globalNamed name = some b) (hy : (Tryz.prog.globals[b]?).map (·.type) = some t) (hi : Tryz.prog.underlying t = some (.interface ms)) {d : DataW Unit}
    (h : VarReads Tryz.prog W name (.iface "*errors.errorString" d)) : below W b ∧ MF (below W) W errCs b 0 ∧ Exact W errCs.length b := by
  obtain ⟨g, t', cs, fuel, p, hg, hty, hvar, hd⟩ := h
  obtain rfl : g = b := Option.some.inj (hg.symm.trans hn)
  obtain rfl : t' = t := Option.some.inj (hty.symm.trans hy)
  obtain ⟨_, u, v, hcs, hu, _⟩ := iface_of_trod hi hd
  obtain rfl := err_type u hu
  obtain ⟨h1, h2⟩ := var_block hg hvar
  have hsz : cs.size = 1 := by rw [← Array.length_toList, hcs]; rfl
  refine ⟨h1, MF.mk fun i x hx => ?_, h2 _ hsz⟩
  have hi0 : i = 0 := by have := (List.getElem?_eq_some_iff.1 hx).1; simpa using this
  subst hi0
  cases hx
  refine ⟨.iface 250 v, ?_, by simp [RF], rfl⟩
  rw [Nat.zero_add, World.var?_cell hg hvar 0, ← Array.getElem?_toList, hcs]
  rfl
abbrev laidN : List (String × DataW Unit) := [("math/bits.deBruijn32tab", Rows.laid_math_bits_deBruijn32tab), ("math/bits.deBruijn64tab", Rows.laid_math_bits_deBruijn64tab), ("internal/strconv.uint64pow10", Rows.laid_internal_strconv_uint64pow10), ("strconv.ErrRange", Rows.laid_strconv_ErrRange), ("strconv.ErrSyntax", Rows.laid_strconv_ErrSyntax), ("langdoc/num.limits", Rows.laid_langdoc_num_limits)]
abbrev laidL : List (String × DataW Unit) := [("math/bits.deBruijn32tab", Rows.laid_math_bits_deBruijn32tab), ("math/bits.deBruijn64tab", Rows.laid_math_bits_deBruijn64tab), ("internal/strconv.uint64pow10", Rows.laid_internal_strconv_uint64pow10), ("unicode/utf8.acceptRanges", Rows.laid_unicode_utf8_acceptRanges), ("strconv.ErrRange", Rows.laid_strconv_ErrRange), ("strconv.ErrSyntax", Rows.laid_strconv_ErrSyntax), ("langdoc/num.limits", Rows.laid_langdoc_num_limits), ("langdoc/replica.fields", Rows.laid_langdoc_replica_fields), ("unicode/utf8.first", Rows.laid_unicode_utf8_first)]
theorem pow_same : (Rows.laid_internal_strconv_uint64pow10 : DataW Unit) = tabData .u64 pow10Tab := by kernel_rfl
theorem lim_same : (Rows.laid_langdoc_num_limits : DataW Unit) = tabData .i64 [-1099511627776, 1099511627776] := by kernel_rfl
theorem fld_same : (Rows.laid_langdoc_replica_fields : DataW Unit) = tabData .i64 [0, 1, 2] := by kernel_rfl
theorem num_reads {W : World} (h1 : VarReads Tryz.prog W "internal/strconv.uint64pow10" Rows.laid_internal_strconv_uint64pow10) (h2 : VarReads Tryz.prog W "langdoc/num.limits" Rows.laid_langdoc_num_limits)
    (h3 : VarReads Tryz.prog W "strconv.ErrSyntax" Rows.laid_strconv_ErrSyntax) (h4 : VarReads Tryz.prog W "strconv.ErrRange" Rows.laid_strconv_ErrRange) : ∀ q ∈ GN, below W q.1 ∧ MF (below W) W q.2 q.1 0 ∧ Exact W q.2.length q.1 := by
  rw [pow_same] at h1
  rw [lim_same] at h2
  intro q hq
  simp only [GN, List.mem_cons, List.not_mem_nil, or_false] at hq
  rcases hq with rfl | rfl | rfl | rfl
  · exact tab_glob (b := 0) (by kernel_rfl) (by kernel_rfl) Tryz.underlying151 Tryz.underlying3 (by kernel_rfl) (by kernel_rfl) h2
  · exact tab_glob (b := 2) (by kernel_rfl) (by kernel_rfl) Tryz.underlying233 Tryz.underlying195 (by kernel_rfl) (by kernel_rfl) h1
  · exact err_glob (b := 3) (by kernel_rfl) (by kernel_rfl) Tryz.underlying148 h3
  · exact err_glob (b := 4) (by kernel_rfl) (by kernel_rfl) Tryz.underlying148 h4
theorem u8x : U8Extra Tryz.prog laysValid_ren := { n3 := by kernel_rfl, n4 := by kernel_rfl, y3 := by kernel_rfl, y4 := by kernel_rfl, c5 := by kernel_rfl, c119 := by kernel_rfl, c138 := by kernel_rfl }
theorem first_same : Rows.laid_unicode_utf8_first = Go.Lib.firstData := by kernel_rfl
theorem accept_same : (Rows.laid_unicode_utf8_acceptRanges : DataW Unit) = Go.Lib.acceptData := by kernel_rfl
theorem below_of_cell {W : World} {b o : Nat} {u : Value} (h : W.cell? ⟨b, o, none⟩ = some u) : b < W.heap.size := by
  rcases Nat.lt_or_ge b W.heap.size with g | g
  · exact g
  · exfalso
    have : W.heap[b]? = none := Array.getElem?_eq_none g
    simp [World.cell?, this] at h
theorem trod_len {P : Program} {W : World} {fuel t n e : Nat} {cs : List Value} {x : DataW Unit × List MemPlace} (ht : P.underlying t = some (.array n e)) (h : DataW.trod (fun _ => ()) P W 0 (fun _ => true) false fuel t cs = some x) : cs.length = P.cellsOf t := by
  cases fuel with
  | zero => simp [DataW.trod] at h
  | succ fuel =>
    simp only [DataW.trod, ht] at h
    split at h
    · rename_i hl; exact hl
    · cases h
theorem exact_of {P : Program} {W : World} {name : String} {b t e n k : Nat} {d : DataW Unit} (hn : P.globalNamed name = some b) (hy : (P.globals[b]?).map (·.type) = some t) (ht : P.underlying t = some (.array n e)) (hct : P.cellsOf t = k)
    (h : VarReads P W name d) : Exact W k b := by
  obtain ⟨g, t', cs, fuel, p, hg, hty, hvar, hd⟩ := h
  obtain rfl : g = b := Option.some.inj (hg.symm.trans hn)
  obtain rfl : t' = t := Option.some.inj (hty.symm.trans hy)
  exact (var_block hg hvar).2 k (by rw [← Array.length_toList, trod_len ht hd, hct])
theorem laid_glob {W : World} (h : laidMet Tryz.prog laidL W) : ∀ q ∈ GL, below W q.1 ∧ MF (below W) W q.2 q.1 0 ∧ Exact W q.2.length q.1 := by
  have r3 : VarReads Tryz.prog W "unicode/utf8.first" firstData := by
    rw [← first_same]; exact laidMet.reads h (by simp [laidL])
  have r4 : VarReads Tryz.prog W "unicode/utf8.acceptRanges" acceptData := by
    rw [← accept_same]; exact laidMet.reads h (by simp [laidL])
  have r0 : VarReads Tryz.prog W "langdoc/replica.fields" (tabData .i64 [0, 1, 2]) := by
    rw [← fld_same]; exact laidMet.reads h (by simp [laidL])
  have ht := utf8Tabs_of_readsT (U8Types.of196 laysValid) u8x r3 r4
  have hnum := num_reads (laidMet.reads h (by simp [laidL])) (laidMet.reads h (by simp [laidL])) (laidMet.reads h (by simp [laidL])) (laidMet.reads h (by simp [laidL]))
  have l3 : firstCs.length = 256 := by simp [firstCs]
  have l4 : acceptCs.length = 32 := by simp [acceptCs]
  have e3 : Exact W firstCs.length 7 := by
    rw [l3]
    exact exact_of (by kernel_rfl) (by kernel_rfl) Tryz.underlying260 (by kernel_rfl) r3
  have e4 : Exact W acceptCs.length 8 := by
    rw [l4]
    exact exact_of (by kernel_rfl) (by kernel_rfl) Tryz.underlying263 (by kernel_rfl) r4
  intro q hq
  have hq : q = (1, [vi 0, vi 1, vi 2]) ∨ q = (7, firstCs) ∨ q = (8, acceptCs) ∨ q ∈ GN := by
    simp only [GL, List.mem_cons, List.not_mem_nil, or_false] at hq
    simp only [GN, List.mem_cons, List.not_mem_nil, or_false]
    rcases hq with h | h | h | h
    · exact .inl h
    · exact .inr (.inl h)
    · exact .inr (.inr (.inl h))
    · exact .inr (.inr (.inr h))
  rcases hq with rfl | rfl | rfl | hq
  · exact tab_glob (b := 1) (zs := [0, 1, 2]) (by kernel_rfl) (by kernel_rfl) Tryz.underlying170 Tryz.underlying3 (by kernel_rfl) (by kernel_rfl) r0
  · refine ⟨below_of_cell (ht.1 0 (by omega)), MF.mk fun i x hx => ?_, e3⟩
    have hi : i < 256 := by have := (List.getElem?_eq_some_iff.1 hx).1; simpa [firstCs] using this
    refine ⟨_, by rw [Nat.zero_add]; exact ht.1 i hi, ?_, rfl⟩
    simp only [firstCs, List.getElem?_map, List.getElem?_range hi, Option.map_some, Option.some.injEq] at hx
    subst hx; simp [RF]
  · refine ⟨below_of_cell (ht.2 0 (by omega)).1, MF.mk fun i x hx => ?_, e4⟩
    have hi : i < 32 := by have := (List.getElem?_eq_some_iff.1 hx).1; simpa [acceptCs] using this
    simp only [acceptCs, List.getElem?_map, List.getElem?_range hi, Option.map_some, Option.some.injEq] at hx
    subst hx
    have h2 := ht.2 (i / 2) (by omega)
    by_cases he : i % 2 = 0
    · refine ⟨_, by rw [Nat.zero_add, show i = 2 * (i / 2) by omega]; exact h2.1, ?_, rfl⟩
      simp [RF, he]
    · refine ⟨_, by rw [Nat.zero_add, show i = 2 * (i / 2) + 1 by omega]; exact h2.2, ?_, rfl⟩
      simp [RF, he]
  · exact hnum q hq
end Go.Proofs.YtnacjdaoiepbhaaGreatDoor
end
