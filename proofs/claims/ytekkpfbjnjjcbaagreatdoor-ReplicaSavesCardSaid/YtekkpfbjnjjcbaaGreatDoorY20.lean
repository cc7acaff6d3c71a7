/- The law Saves. -/
import Derived.Test.YtekkpfbjnjjcbaaGreatDoorY18
import Derived.Test.YtekkpfbjnjjcbaaGreatDoorB14
namespace Go.Proofs.YtekkpfbjnjjcbaaGreatDoor
open Go.Ac Go.MapKept
attribute [local irreducible] awp awpL Ev Ev2 EvS thenQ blockQ retQ PCalls OCalls YieldOk IterC ICalls
set_option linter.unusedSimpArgs false
set_option linter.unusedVariables false

theorem rJoinP {g : List (Nat × List AV)} (a b : List Int) (ha : a.length ≤ 1000000) (hb : b.length ≤ 1000000) : PCalls Tryz.prog g 33 [encIs a, encIs b] (encIs (join a b)) := by
  have := (rJoin_spec (g := g) a b ha hb).toP
  rwa [List.length_map] at this
theorem two_len (a b : Op) : (two a b).length = 2 := by unfold two; split <;> rfl
theorem last_cut {l : List Op} {o : Op} {m : List Op} (h : m = l ++ [o]) : 0 ≤ (l.length : Int) ∧ (m.map opC)[(l.length : Int).toNat]? = some (opC o) := by
  subst h
  exact op_get (by simp)
/-- What both devices have in the end. -/
theorem saves_told {x : Ask} {dev : Int} (hl : light x.r = true) (hid : Ids x.r.ops) (hno : I64 x.note) (hdev : dev ≠ x.r.dev) (hD : (dropR x.r x.note).2 = 0) (hS : (setR ⟨dev, x.r.seen, x.r.ops⟩ x.note x.field x.n x.text).2 = 0) :
    ∃ A B c, (dropR x.r x.note).1 = longerR x.r A ∧ (setR ⟨dev, x.r.seen, x.r.ops⟩ x.note x.field x.n x.text).1 = longerR ⟨dev, x.r.seen, x.r.ops⟩ B ∧ repE (bothR x.r A B) = 0 ∧ FitG (bothR x.r A B) ∧ cell (bothR x.r A B).ops x.note = some c ∧ FitC c ∧
      ((x.field = 0 ∧ (current c).text = x.text) ∨ (x.field = 1 ∧ (current c).span.fro = x.n) ∨ (x.field = 2 ∧ (current c).span.til = x.n)) := by
  have hG := light_G hl hid
  obtain ⟨h1, h2, _⟩ := light_rep hl
  have hG2 : FitG ⟨dev, x.r.seen, x.r.ops⟩ := ⟨hG.o, hG.s, hG.i, hG.g⟩
  obtain ⟨_, _, a, s, hn, ha, hd, hda⟩ := drop_told hG hno hD
  obtain ⟨a', t, hn', ha', hs, hsb, _, _, hf, _⟩ := set_told hG2 hno hS
  rw [show addedO (Replica.mk dev x.r.seen x.r.ops).ops x.note = addedO x.r.ops x.note from rfl, ha] at ha'
  cases ha'
  obtain ⟨A, hA⟩ : ∃ A, A = dropOpR s a.rec_ x.note (overAll x.r.ops x.note) := ⟨_, rfl⟩
  obtain ⟨B, hB⟩ : ∃ B, B = setOpR t a.rec_ x.note x.field x.n x.text (atsV (valuesL x.r.ops x.note x.field)) := ⟨_, rfl⟩
  rw [← hA] at hd hda
  have hs' : (setR ⟨dev, x.r.seen, x.r.ops⟩ x.note x.field x.n x.text).1 = longerR ⟨dev, x.r.seen, x.r.ops⟩ B := by rw [hs, hB]
  have hsb' : repE (longerR ⟨dev, x.r.seen, x.r.ops⟩ B) = 0 := by rw [hB]; exact hsb
  have eA : A.at_.dev = x.r.dev := by rw [hA]; exact (nextS_right hn).2.1
  have eB : B.at_.dev = dev := by rw [hB]; exact (nextS_right hn').2.1
  have hne : A.at_ ≠ B.at_ := fun h => hdev (by rw [← eB, ← eA, h])
  have hlen : x.r.ops.length ≤ 390 := by omega
  have hb0 := bothR_right h1 hda hsb' hne hlen
  have hi : Ids (bothR x.r A B).ops := by
    intro o ho
    have : o ∈ x.r.ops ∨ o = A ∨ o = B := by
      rcases List.mem_append.1 ho with h | h
      · exact .inl h
      · unfold two at h
        split at h <;> simp only [List.mem_cons, List.not_mem_nil, or_false] at h <;> rcases h with h | h <;> simp [h]
    rcases this with h | h | h
    · exact hid o h
    · rw [h, hA]; exact hno
    · rw [h, hB]; exact hno
  have hGb := rep_G hb0 hi
  have hlt := longerR_less hsb'
  obtain ⟨hv, hc⟩ := both_saved (a := A) (b := B) (c := a) (note := x.note) hb0 (by rw [hA]; rfl) (by rw [hB]; rfl) (by rw [hA]; rfl) (by rw [hB]; rfl) (by rw [hA]; rfl) (by rw [hB]; rfl) hlt ha
  refine ⟨A, B, _, hd, hs', hb0, hGb, hc, cell_fit hGb.l hc, ?_⟩
  have e1 : B.set = x.field := by rw [hB]; rfl
  have e2 : B.n = x.n := by rw [hB]; rfl
  have e3 : B.text = x.text := by rw [hB]; rfl
  rw [e1, e2, e3] at hv
  rcases (show x.field = 0 ∨ x.field = 1 ∨ x.field = 2 by simp only [within, Bool.and_eq_true, decide_eq_true_eq] at hf; omega) with h | h | h
  · rw [h] at hv
    exact .inl ⟨h, by simp only [current, cellOf, hv]; rfl⟩
  · rw [h] at hv
    exact .inr (.inl ⟨h, by simp only [current, cellOf, hv]; rfl⟩)
  · rw [h] at hv
    exact .inr (.inr ⟨h, by simp only [current, cellOf, hv]; rfl⟩)

set_option maxRecDepth 8000 in
set_option maxHeartbeats 8000000 in
theorem law_RSaves (x : Ask) (dev : Int) (hid : Ids x.r.ops) (hno : I64 x.note) : PCalls Tryz.prog GL 9 [.agg (askC x), vi dev] (vb true) := by
  have hA := awake_R
  have hL := Light_spec (g := GL) x.r hid
  have n1 : (!true) = false := rfl
  have n2 : (!false) = true := rfl
  refine pcalls' Tryz.func9 Tryz.ntmps9 rfl rfl rfl ?_
  cases hl : light x.r with
  | false =>
    rw [hl] at hL
    repeat' (first
     | refine st [13] ?_
     | ((with_reducible refine is_gd ?_); refine awpL_split rfl rfl (fun h => ?_) (fun h => ?_))
     | ((with_reducible refine isD_gd ?_); ((fail_if_success (refine isD_kn (c := true) rfl (by first | with_reducible rfl | with_reducible assumption) ?_)); (fail_if_success (refine isD_kn (c := false) rfl (by first | with_reducible rfl | with_reducible assumption) ?_)); refine awpD_split rfl (fun h => ?_) (fun h => ?_)))
     | ((with_reducible refine is_awp ?_); refine awp_cond rfl (fun h => ?_) (fun h => ?_))
     | fail)
    exact retP rfl rfl
  | true =>
    rw [hl] at hL
    by_cases h1 : 14 < x.r.ops.length
    · have c1 : decide ((14 : Int) < x.r.ops.length) = true := decide_eq_true (by omega)
      repeat' (first
       | refine st [13] ?_
       | ((with_reducible refine is_gd ?_); refine awpL_split rfl rfl (fun h => ?_) (fun h => ?_))
       | ((with_reducible refine isD_gd ?_); ((fail_if_success (refine isD_kn (c := true) rfl (by first | with_reducible rfl | with_reducible assumption) ?_)); (fail_if_success (refine isD_kn (c := false) rfl (by first | with_reducible rfl | with_reducible assumption) ?_)); refine awpD_split rfl (fun h => ?_) (fun h => ?_)))
       | ((with_reducible refine is_awp ?_); refine awp_cond rfl (fun h => ?_) (fun h => ?_))
       | fail)
      exact retP rfl rfl
    have c1 : decide ((14 : Int) < x.r.ops.length) = false := decide_eq_false (by omega)
    by_cases h2 : 1000 < x.text.size
    · have c2 : decide ((1000 : Int) < x.text.size) = true := decide_eq_true (by omega)
      repeat' (first
       | refine st [13] ?_
       | ((with_reducible refine is_gd ?_); refine awpL_split rfl rfl (fun h => ?_) (fun h => ?_))
       | ((with_reducible refine isD_gd ?_); ((fail_if_success (refine isD_kn (c := true) rfl (by first | with_reducible rfl | with_reducible assumption) ?_)); (fail_if_success (refine isD_kn (c := false) rfl (by first | with_reducible rfl | with_reducible assumption) ?_)); refine awpD_split rfl (fun h => ?_) (fun h => ?_)))
       | ((with_reducible refine is_awp ?_); refine awp_cond rfl (fun h => ?_) (fun h => ?_))
       | fail)
      exact retP rfl rfl
    have c2 : decide ((1000 : Int) < x.text.size) = false := decide_eq_false (by omega)
    by_cases h3 : dev < 1
    · have c3 : decide (dev < 1) = true := decide_eq_true h3
      repeat' (first
       | refine st [13] ?_
       | ((with_reducible refine is_gd ?_); refine awpL_split rfl rfl (fun h => ?_) (fun h => ?_))
       | ((with_reducible refine isD_gd ?_); ((fail_if_success (refine isD_kn (c := true) rfl (by first | with_reducible rfl | with_reducible assumption) ?_)); (fail_if_success (refine isD_kn (c := false) rfl (by first | with_reducible rfl | with_reducible assumption) ?_)); refine awpD_split rfl (fun h => ?_) (fun h => ?_)))
       | ((with_reducible refine is_awp ?_); refine awp_cond rfl (fun h => ?_) (fun h => ?_))
       | fail)
      exact retP rfl rfl
    have c3 : decide (dev < 1) = false := decide_eq_false h3
    by_cases h4 : 15 < dev
    · have c4 : decide (15 < dev) = true := decide_eq_true h4
      repeat' (first
       | refine st [13] ?_
       | ((with_reducible refine is_gd ?_); refine awpL_split rfl rfl (fun h => ?_) (fun h => ?_))
       | ((with_reducible refine isD_gd ?_); ((fail_if_success (refine isD_kn (c := true) rfl (by first | with_reducible rfl | with_reducible assumption) ?_)); (fail_if_success (refine isD_kn (c := false) rfl (by first | with_reducible rfl | with_reducible assumption) ?_)); refine awpD_split rfl (fun h => ?_) (fun h => ?_)))
       | ((with_reducible refine is_awp ?_); refine awp_cond rfl (fun h => ?_) (fun h => ?_))
       | fail)
      exact retP rfl rfl
    have c4 : decide (15 < dev) = false := decide_eq_false h4
    by_cases h5 : dev = x.r.dev
    · have c5 : decide (dev = x.r.dev) = true := decide_eq_true h5
      repeat' (first
       | refine st [13] ?_
       | ((with_reducible refine is_gd ?_); refine awpL_split rfl rfl (fun h => ?_) (fun h => ?_))
       | ((with_reducible refine isD_gd ?_); ((fail_if_success (refine isD_kn (c := true) rfl (by first | with_reducible rfl | with_reducible assumption) ?_)); (fail_if_success (refine isD_kn (c := false) rfl (by first | with_reducible rfl | with_reducible assumption) ?_)); refine awpD_split rfl (fun h => ?_) (fun h => ?_)))
       | ((with_reducible refine is_awp ?_); refine awp_cond rfl (fun h => ?_) (fun h => ?_))
       | fail)
      exact retP rfl rfl
    have c5 : decide (dev = x.r.dev) = false := decide_eq_false h5
    have hG := light_G hl hid
    have hD := Drop_spec x.r x.note hG hno
    have hG2 : FitG ⟨dev, x.r.seen, x.r.ops⟩ := ⟨hG.o, hG.s, hG.i, hG.g⟩
    have hS := Set_spec ⟨dev, x.r.seen, x.r.ops⟩ x.note x.field x.n x.text hG2 hno
    have hrl := hG.l
    rw [mergeV] at hS hD
    have hT := saves_told (dev := dev) hl hid hno h5
    generalize dropR x.r x.note = d at *
    obtain ⟨d1, d2⟩ := d
    generalize setR ⟨dev, x.r.seen, x.r.ops⟩ x.note x.field x.n x.text = s at *
    obtain ⟨s1, s2⟩ := s
    simp only at hD hS hT
    by_cases g1 : d2 = 0
    · by_cases g2 : s2 = 0
      · obtain ⟨A, B, c, e1, e2, e3, e4, e5, e6, e7⟩ := hT g1 g2
        have k1 : (!decide (d2 = 0)) = false := by simp [g1]
        have k2 : (!decide (s2 = 0)) = false := by simp [g2]
        have i1 := last_cut (show d1.ops = x.r.ops ++ [A] by rw [e1]; rfl)
        have i2 := last_cut (show s1.ops = x.r.ops ++ [B] by rw [e2]; rfl)
        have hLe := rLess_spec (g := GL) B.at_ A.at_
        have hJ := rJoinP (g := GL) d1.seen s1.seen (by rw [e1]; simp [longerR, see_len]) (by rw [e2]; simp [longerR, see_len])
        have hC := Cell_spec (g := GL) (bothR x.r A B) x.note e4.l e4.o.2 e4.g
        rw [e5, cellV] at hC
        simp only [Option.getD_some, Option.isSome_some] at hC
        have hU := Current_spec (g := GL) c e6
        have hK := Check_spec (bothR x.r A B) e4.s e4.i
        rw [e3] at hK
        rw [show join d1.seen s1.seen = (bothR x.r A B).seen by rw [e1, e2]; rfl] at hJ
        have hj : x.r.ops.map opC ++ (two A B).map opC = (bothR x.r A B).ops.map opC := by rw [bothR, List.map_append]
        have hj0 : ([] : List (List AV)) ++ x.r.ops.map opC = x.r.ops.map opC := rfl
        have hdv : (bothR x.r A B).dev = x.r.dev := rfl
        have hlen : (two A B).length = 2 := two_len A B
        have z0 : (!decide ((0 : Int) = 0)) = false := rfl
        generalize hq : current c = q at *
        have kF : (decide (x.field = 0) = true ∧ decide (q.text = x.text) = true) ∨ (decide (x.field = 0) = false ∧ decide (x.field = 1) = true ∧ decide (q.span.fro = x.n) = true) ∨ (decide (x.field = 0) = false ∧ decide (x.field = 1) = false ∧ decide (q.span.til = x.n) = true) := by
          rcases e7 with ⟨a, b⟩ | ⟨a, b⟩ | ⟨a, b⟩
          · exact .inl ⟨decide_eq_true a, decide_eq_true b⟩
          · exact .inr (.inl ⟨decide_eq_false (by omega), decide_eq_true a, decide_eq_true b⟩)
          · exact .inr (.inr ⟨decide_eq_false (by omega), decide_eq_false (by omega), decide_eq_true b⟩)
        clear hT e1 e2 e4 e5 e6 e7
        cases ht : less B.at_ A.at_ with
        | true =>
          rw [ht] at hLe
          have htw : two A B = [B, A] := by simp [two, ht]
          rw [htw] at hj
          repeat' (first
           | refine awp_hold 20 ?_
           | refine awp_adoptC (c := .region 14 _ _) 5 2 62 15 rfl rfl rfl rfl ?_
           | ((with_reducible refine is_un ?_); (first | refine awpL_frz (x := .os 6 2) (x' := encOps (bothR x.r A B).ops) 132 rfl (by simp [frzV, encOps]) rfl rfl ?_ | refine awpL_ev2 (ev_app (es' := x.r.ops.map opC) rfl rfl rfl rfl rfl rfl rfl rfl rfl rfl rfl rfl rfl (by simp only [List.length_map, List.length_cons, List.length_nil, List.length_append, List.length_take]; omega) hj0 rfl) rfl ?_ | refine awpL_ev2 (ev_app (es' := (bothR x.r A B).ops.map opC) rfl rfl rfl rfl rfl rfl rfl rfl rfl rfl rfl rfl rfl (by simp only [List.length_map, List.length_cons, List.length_nil, List.length_append, List.length_take]; omega) hj rfl) rfl ?_))
           | refine st [13] ?_
           | ((with_reducible refine is_gd ?_); refine awpL_split rfl rfl (fun h => ?_) (fun h => ?_))
           | ((with_reducible refine isD_gd ?_); ((fail_if_success (refine isD_kn (c := true) rfl (by first | with_reducible rfl | with_reducible assumption) ?_)); (fail_if_success (refine isD_kn (c := false) rfl (by first | with_reducible rfl | with_reducible assumption) ?_)); refine awpD_split rfl (fun h => ?_) (fun h => ?_)))
           | ((with_reducible refine is_awp ?_); refine awp_cond rfl (fun h => ?_) (fun h => ?_))
           | fail)
          rcases kF with ⟨f1, f2⟩ | ⟨f1, f2, f3⟩ | ⟨f1, f2, f3⟩
          all_goals
            refine ⟨?_⟩
            repeat' (first
             | refine st [13] ?_
             | ((with_reducible refine is_gd ?_); refine awpL_split rfl rfl (fun h => ?_) (fun h => ?_))
             | ((with_reducible refine isD_gd ?_); ((fail_if_success (refine isD_kn (c := true) rfl (by first | with_reducible rfl | with_reducible assumption) ?_)); (fail_if_success (refine isD_kn (c := false) rfl (by first | with_reducible rfl | with_reducible assumption) ?_)); refine awpD_split rfl (fun h => ?_) (fun h => ?_)))
             | ((with_reducible refine is_awp ?_); refine awp_cond rfl (fun h => ?_) (fun h => ?_))
             | fail)
            exact retP rfl rfl
        | false =>
          rw [ht] at hLe
          have htw : two A B = [A, B] := by simp [two, ht]
          rw [htw] at hj
          repeat' (first
           | refine awp_hold 20 ?_
           | refine awp_adoptC (c := .region 14 _ _) 5 2 62 15 rfl rfl rfl rfl ?_
           | ((with_reducible refine is_un ?_); (first | refine awpL_frz (x := .os 6 2) (x' := encOps (bothR x.r A B).ops) 132 rfl (by simp [frzV, encOps]) rfl rfl ?_ | refine awpL_ev2 (ev_app (es' := x.r.ops.map opC) rfl rfl rfl rfl rfl rfl rfl rfl rfl rfl rfl rfl rfl (by simp only [List.length_map, List.length_cons, List.length_nil, List.length_append, List.length_take]; omega) hj0 rfl) rfl ?_ | refine awpL_ev2 (ev_app (es' := (bothR x.r A B).ops.map opC) rfl rfl rfl rfl rfl rfl rfl rfl rfl rfl rfl rfl rfl (by simp only [List.length_map, List.length_cons, List.length_nil, List.length_append, List.length_take]; omega) hj rfl) rfl ?_))
           | refine st [13] ?_
           | ((with_reducible refine is_gd ?_); refine awpL_split rfl rfl (fun h => ?_) (fun h => ?_))
           | ((with_reducible refine isD_gd ?_); ((fail_if_success (refine isD_kn (c := true) rfl (by first | with_reducible rfl | with_reducible assumption) ?_)); (fail_if_success (refine isD_kn (c := false) rfl (by first | with_reducible rfl | with_reducible assumption) ?_)); refine awpD_split rfl (fun h => ?_) (fun h => ?_)))
           | ((with_reducible refine is_awp ?_); refine awp_cond rfl (fun h => ?_) (fun h => ?_))
           | fail)
          rcases kF with ⟨f1, f2⟩ | ⟨f1, f2, f3⟩ | ⟨f1, f2, f3⟩
          all_goals
            refine ⟨?_⟩
            repeat' (first
             | refine st [13] ?_
             | ((with_reducible refine is_gd ?_); refine awpL_split rfl rfl (fun h => ?_) (fun h => ?_))
             | ((with_reducible refine isD_gd ?_); ((fail_if_success (refine isD_kn (c := true) rfl (by first | with_reducible rfl | with_reducible assumption) ?_)); (fail_if_success (refine isD_kn (c := false) rfl (by first | with_reducible rfl | with_reducible assumption) ?_)); refine awpD_split rfl (fun h => ?_) (fun h => ?_)))
             | ((with_reducible refine is_awp ?_); refine awp_cond rfl (fun h => ?_) (fun h => ?_))
             | fail)
            exact retP rfl rfl
      · have k1 : (!decide (d2 = 0)) = false := by simp [g1]
        have k2 : (!decide (s2 = 0)) = true := by simp [g2]
        clear hT
        repeat' (first
         | refine st [13] ?_
         | ((with_reducible refine is_gd ?_); refine awpL_split rfl rfl (fun h => ?_) (fun h => ?_))
         | ((with_reducible refine isD_gd ?_); ((fail_if_success (refine isD_kn (c := true) rfl (by first | with_reducible rfl | with_reducible assumption) ?_)); (fail_if_success (refine isD_kn (c := false) rfl (by first | with_reducible rfl | with_reducible assumption) ?_)); refine awpD_split rfl (fun h => ?_) (fun h => ?_)))
         | ((with_reducible refine is_awp ?_); refine awp_cond rfl (fun h => ?_) (fun h => ?_))
         | fail)
        exact retP rfl rfl
    · have k1 : (!decide (d2 = 0)) = true := by simp [g1]
      clear hT
      repeat' (first
       | refine st [13] ?_
       | ((with_reducible refine is_gd ?_); refine awpL_split rfl rfl (fun h => ?_) (fun h => ?_))
       | ((with_reducible refine isD_gd ?_); ((fail_if_success (refine isD_kn (c := true) rfl (by first | with_reducible rfl | with_reducible assumption) ?_)); (fail_if_success (refine isD_kn (c := false) rfl (by first | with_reducible rfl | with_reducible assumption) ?_)); refine awpD_split rfl (fun h => ?_) (fun h => ?_)))
       | ((with_reducible refine is_awp ?_); refine awp_cond rfl (fun h => ?_) (fun h => ?_))
       | fail)
      exact retP rfl rfl
end Go.Proofs.YtekkpfbjnjjcbaaGreatDoor
