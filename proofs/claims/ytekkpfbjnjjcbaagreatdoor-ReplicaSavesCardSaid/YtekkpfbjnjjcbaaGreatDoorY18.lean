/- The law Values. -/
import Derived.Test.YtekkpfbjnjjcbaaGreatDoorY17
namespace Go.Proofs.YtekkpfbjnjjcbaaGreatDoor
open Go.Ac Go.MapKept
attribute [local irreducible] awp awpL Ev Ev2 EvS thenQ blockQ retQ PCalls OCalls YieldOk IterC ICalls
set_option linter.unusedSimpArgs false
set_option linter.unusedVariables false

theorem rep_G {r : Replica} (h : repE r = 0) (hi : Ids r.ops) : FitG r := by
  obtain ⟨_, h2, _, _, h3⟩ := repE_all h
  exact ⟨⟨by omega, (rep_fit h).1.2⟩, by rw [h2, seenL_len]; omega, hi, good_of h⟩
/-- What is said of a note ahead. -/
theorem cell_ne {r : Replica} (hg : Good r.ops) {note : Int} {c : Cell} (h : cell r.ops note = some c) : c.text.length ≠ 0 ∧ c.fro.length ≠ 0 ∧ c.til.length ≠ 0 := by
  obtain ⟨a, ha, rfl, _⟩ := cell_inv h
  refine ⟨fun e => ?_, fun e => ?_, fun e => ?_⟩
  · exact values_ne hg ha (f := 0) (by decide) (List.eq_nil_of_length_eq_zero e)
  · exact values_ne hg ha (f := 1) (by decide) (List.eq_nil_of_length_eq_zero e)
  · exact values_ne hg ha (f := 2) (by decide) (List.eq_nil_of_length_eq_zero e)
theorem drop_told {r : Replica} (h : FitG r) {note : Int} (hno : I64 note) (he : (dropR r note).2 = 0) : FitG (dropR r note).1 ∧ cell (dropR r note).1.ops note = none ∧
    ∃ a s, nextS r.seen r.dev = some s ∧ addedO r.ops note = some a ∧ (dropR r note).1 = longerR r (dropOpR s a.rec_ note (overAll r.ops note)) ∧ repE (longerR r (dropOpR s a.rec_ note (overAll r.ops note))) = 0 := by
  rcases living_next r note with ⟨e, h0, _, h1, _⟩ | ⟨a, s, hn, ha, _, _, h1⟩
  · rw [h1] at he; exact absurd he h0
  · rw [h1] at he ⊢
    obtain ⟨h2, h3⟩ := withR_ok he
    rw [h2]
    refine ⟨rep_G h3 (ids_snoc h.i hno), drop_dead rfl rfl rfl, a, s, hn, ha, rfl, h3⟩
theorem set_told {r : Replica} (h : FitG r) {note f n : Int} {t : ByteArray} (hno : I64 note) (he : (setR r note f n t).2 = 0) :
    ∃ a s, nextS r.seen r.dev = some s ∧ addedO r.ops note = some a ∧ (setR r note f n t).1 = longerR r (setOpR s a.rec_ note f n t (atsV (valuesL r.ops note f))) ∧ repE (longerR r (setOpR s a.rec_ note f n t (atsV (valuesL r.ops note f)))) = 0 ∧
      FitG (setR r note f n t).1 ∧ (cell r.ops note).isSome = true ∧ within f 0 2 = true ∧ valuesL (setR r note f n t).1.ops note f = [⟨s, n, t⟩] ∧ cell (setR r note f n t).1.ops note = some (cellOf (setR r note f n t).1.ops note a) := by
  rcases living_next r note with ⟨e, h0, h1, _, _⟩ | ⟨a, s, hn, ha, hc, h1, _⟩
  · rw [h1] at he; exact absurd he h0
  · rw [h1] at he ⊢
    obtain ⟨h2, h3⟩ := withR_ok he
    rw [h2]
    have hg : Good (r.ops ++ [setOpR s a.rec_ note f n t (atsV (valuesL r.ops note f))]) := good_of h3
    have ho : opE (setOpR s a.rec_ note f n t (atsV (valuesL r.ops note f))) = 0 := hg.2 _ (List.mem_append_right _ (List.mem_singleton_self _))
    refine ⟨a, s, hn, ha, rfl, h3, rep_G h3 (ids_snoc h.i hno), by rw [hc]; rfl, (setE_zero ho rfl).1, ?_, ?_⟩
    · exact set_values hg rfl rfl rfl
    · exact set_lives hg rfl rfl rfl ha
theorem set_err {r : Replica} {note f n : Int} {t : ByteArray} (he : (setR r note f n t).2 ≠ 0) (hc : cell r.ops note = none) : (setR r note f n t).2 = 9 ∨ (setR r note f n t).2 = 26 := by
  rcases living_next r note with ⟨e, h0, h1, _, h3⟩ | ⟨a, s, hn, ha, h2, h1, _⟩
  · rw [h1]; exact h3 hc
  · rw [hc] at h2; cases h2
theorem last_op {l : List Op} {o : Op} : 0 ≤ ((l ++ [o]).length : Int) - 1 ∧ ((l ++ [o]).map opC)[(((l ++ [o]).length : Int) - 1).toNat]? = some (opC o) := by
  refine ⟨by simp, ?_⟩
  have : (((l ++ [o]).length : Int) - 1).toNat = l.length := by simp
  rw [this]
  simp

set_option maxRecDepth 8000 in
set_option maxHeartbeats 8000000 in
theorem law_RValues (x : Ask) (hid : Ids x.r.ops) (hno : I64 x.note) : PCalls Tryz.prog GL 8 [.agg (askC x)] (vb true) := by
  have hA := awake_R
  have hL := Light_spec (g := GL) x.r hid
  have n1 : (!true) = false := rfl
  have n2 : (!false) = true := rfl
  refine pcalls' Tryz.func8 Tryz.ntmps8 rfl rfl rfl ?_
  cases hl : light x.r with
  | false =>
    rw [hl] at hL
    repeat' (first
     | refine st [13] ?_
     | ((with_reducible refine is_gd ?_); refine awpL_split rfl rfl (fun h => ?_) (fun h => ?_))
     | ((with_reducible refine isD_gd ?_); ((fail_if_success (refine isD_kn (c := true) rfl (by first | with_reducible rfl | with_reducible assumption) ?_)); (fail_if_success (refine isD_kn (c := false) rfl (by first | with_reducible rfl | with_reducible assumption) ?_)); refine awpD_split rfl (fun h => ?_) (fun h => ?_)))
     | ((with_reducible refine is_awp ?_); refine awp_cond rfl (fun h => ?_) (fun h => ?_))
     | fail)
    exact retP rfl rfl
  | true =>
    rw [hl] at hL
    by_cases h1 : 1000 < x.text.size
    · have c1 : decide ((1000 : Int) < x.text.size) = true := decide_eq_true (by omega)
      repeat' (first
       | refine st [13] ?_
       | ((with_reducible refine is_gd ?_); refine awpL_split rfl rfl (fun h => ?_) (fun h => ?_))
       | ((with_reducible refine isD_gd ?_); ((fail_if_success (refine isD_kn (c := true) rfl (by first | with_reducible rfl | with_reducible assumption) ?_)); (fail_if_success (refine isD_kn (c := false) rfl (by first | with_reducible rfl | with_reducible assumption) ?_)); refine awpD_split rfl (fun h => ?_) (fun h => ?_)))
       | ((with_reducible refine is_awp ?_); refine awp_cond rfl (fun h => ?_) (fun h => ?_))
       | fail)
      exact retP rfl rfl
    have c1 : decide ((1000 : Int) < x.text.size) = false := decide_eq_false (by omega)
    have hG := light_G hl hid
    have hC := Cell_spec (g := GL) x.r x.note hG.l hG.o.2 hG.g
    have hS := Set_spec x.r x.note x.field x.n x.text hG hno
    have hD := Drop_spec x.r x.note hG hno
    rw [cellV] at hC
    rw [mergeV] at hS hD
    have kD : decide ((dropR x.r x.note).2 = 0) = false ∨ (decide ((dropR x.r x.note).2 = 0) = true ∧ PCalls Tryz.prog GL 16 [.agg (repC (dropR x.r x.note).1), vi x.note] (.tup [.agg (cellC zeroCell), vb false])) := by
      by_cases he : (dropR x.r x.note).2 = 0
      · obtain ⟨d1, d2, _⟩ := drop_told hG hno he
        have := Cell_spec (g := GL) (dropR x.r x.note).1 x.note d1.l d1.o.2 d1.g
        rw [d2, cellV] at this
        exact .inr ⟨decide_eq_true he, this⟩
      · exact .inl (by simp [he])
    have hE := set_err (r := x.r) (note := x.note) (f := x.field) (n := x.n) (t := x.text)
    have hT := set_told (note := x.note) (n := x.n) (t := x.text) (f := x.field) hG hno
    generalize dropR x.r x.note = d at *
    obtain ⟨d1, d2⟩ := d
    generalize setR x.r x.note x.field x.n x.text = s at *
    obtain ⟨s1, s2⟩ := s
    simp only at hD hS kD hE hT
    cases hc : cell x.r.ops x.note with
    | none =>
      rw [hc] at hC
      simp only [Option.getD_none, Option.isSome_none] at hC
      have hs : s2 ≠ 0 := fun e => by
        obtain ⟨_, _, _, _, _, _, _, g1, _⟩ := hT e
        rw [hc] at g1; cases g1
      have c2 : (!decide (s2 = 0)) = true := by simp [hs]
      have k9 : decide (s2 = 9) = true ∨ (decide (s2 = 9) = false ∧ decide (s2 = 26) = true) := by
        rcases hE hs hc with h | h
        · exact .inl (decide_eq_true h)
        · exact .inr ⟨decide_eq_false (by omega), decide_eq_true h⟩
      clear hE hT
      rcases kD with cD | ⟨cD, kD⟩ <;> rcases k9 with c9 | ⟨c9, c26⟩
      all_goals
        repeat' (first
         | refine st [13] ?_
         | ((with_reducible refine is_gd ?_); refine awpL_split rfl rfl (fun h => ?_) (fun h => ?_))
         | ((with_reducible refine isD_gd ?_); ((fail_if_success (refine isD_kn (c := true) rfl (by first | with_reducible rfl | with_reducible assumption) ?_)); (fail_if_success (refine isD_kn (c := false) rfl (by first | with_reducible rfl | with_reducible assumption) ?_)); refine awpD_split rfl (fun h => ?_) (fun h => ?_)))
         | ((with_reducible refine is_awp ?_); refine awp_cond rfl (fun h => ?_) (fun h => ?_))
         | fail)
        exact retP rfl rfl
    | some c =>
      rw [hc] at hC
      simp only [Option.getD_some, Option.isSome_some] at hC
      obtain ⟨m1, m2, m3⟩ := cell_ne hG.g hc
      have d1 : decide ((c.text.length : Int) = 0) = false := decide_eq_false (by omega)
      have d2 : decide ((c.fro.length : Int) = 0) = false := decide_eq_false (by omega)
      have d3 : decide ((c.til.length : Int) = 0) = false := decide_eq_false (by omega)
      by_cases hs : s2 = 0
      · obtain ⟨a, sp, _, _, e1, e2, gS, g1, g2, g3, g4⟩ := hT hs
        have c2 : (!decide (s2 = 0)) = false := by simp [hs]
        have hC2 := Cell_spec (g := GL) s1 x.note gS.l gS.o.2 gS.g
        rw [g4, cellV] at hC2
        simp only [Option.getD_some, Option.isSome_some] at hC2
        obtain ⟨o, ho⟩ : ∃ o, o = setOpR sp a.rec_ x.note x.field x.n x.text (atsV (valuesL x.r.ops x.note x.field)) := ⟨_, rfl⟩
        have i1 := @last_op x.r.ops o
        have e3 : s1.ops = x.r.ops ++ [o] := by rw [e1, ho]; rfl
        have e4 : o.at_ = sp := by rw [ho]; rfl
        rw [← e3] at i1
        have hlen : (s1.ops.length : Int) ≤ 100000 := by have := gS.l; omega
        obtain ⟨n', hn'⟩ : ∃ n', n' = x.n := ⟨_, rfl⟩
        obtain ⟨t', ht'⟩ : ∃ t', t' = x.text := ⟨_, rfl⟩
        have q2 : decide (n' = x.n) = true := decide_eq_true hn'
        have q3 : decide (t' = x.text) = true := decide_eq_true ht'
        rw [← hn', ← ht'] at g3
        have q4 : (sp.count == o.at_.count && sp.dev == o.at_.dev) = true := by rw [e4]; simp
        obtain ⟨cS, hcS⟩ : ∃ cS, cS = cellOf s1.ops x.note a := ⟨_, rfl⟩
        rw [← hcS] at hC2
        have v0 : cS.text = valuesL s1.ops x.note 0 := by rw [hcS]; rfl
        have v1 : cS.fro = valuesL s1.ops x.note 1 := by rw [hcS]; rfl
        have v2 : cS.til = valuesL s1.ops x.note 2 := by rw [hcS]; rfl
        have kF : (decide (x.field = 1) = false ∧ decide (x.field = 2) = false ∧ decide ((cS.text.length : Int) = 1) = true ∧ (0 ≤ (0 : Int) ∧ (cS.text.map valC)[(0 : Int).toNat]? = some (valC ⟨sp, n', t'⟩))) ∨
            (decide (x.field = 1) = true ∧ decide (x.field = 2) = false ∧ decide ((cS.fro.length : Int) = 1) = true ∧ (0 ≤ (0 : Int) ∧ (cS.fro.map valC)[(0 : Int).toNat]? = some (valC ⟨sp, n', t'⟩))) ∨
            (decide (x.field = 1) = false ∧ decide (x.field = 2) = true ∧ decide ((cS.til.length : Int) = 1) = true ∧ (0 ≤ (0 : Int) ∧ (cS.til.map valC)[(0 : Int).toNat]? = some (valC ⟨sp, n', t'⟩))) := by
          rcases (show x.field = 0 ∨ x.field = 1 ∨ x.field = 2 by simp only [within, Bool.and_eq_true, decide_eq_true_eq] at g2; omega) with hf | hf | hf
          · rw [hf] at g3 ⊢
            exact .inl ⟨rfl, rfl, by rw [v0, g3]; rfl, val_get (by rw [v0, g3]; rfl)⟩
          · rw [hf] at g3 ⊢
            exact .inr (.inl ⟨rfl, rfl, by rw [v1, g3]; rfl, val_get (by rw [v1, g3]; rfl)⟩)
          · rw [hf] at g3 ⊢
            exact .inr (.inr ⟨rfl, rfl, by rw [v2, g3]; rfl, val_get (by rw [v2, g3]; rfl)⟩)
        clear hE hT e1 e2 g3 ho e3 e4 v0 v1 v2 hcS
        rcases kD with cD | ⟨cD, kD⟩ <;> rcases kF with ⟨f1, f2, q1, i0⟩ | ⟨f1, f2, q1, i0⟩ | ⟨f1, f2, q1, i0⟩
        all_goals
          repeat' (first
           | ((with_reducible refine isD_un ?_); refine awpD_un (as_ev (fun _ => ev_eqA (b := true) stampEq_T (by kernel_rfl) rfl rfl rfl rfl (by rw [← q4]; rfl)) rfl rfl) (by (try simp only [List.nil_append, List.cons_append]); (try rfl)) ?_)
           | ((with_reducible refine isD_gd ?_); refine awpD_gd rfl rfl (by first | with_reducible rfl | with_reducible assumption) (as_ev (fun _ => ev_eqA (b := true) stampEq_T (by kernel_rfl) rfl rfl rfl rfl (by rw [← q4]; rfl)) rfl rfl) (by (try simp only [List.nil_append, List.cons_append]); (try rfl)) ?_)
           | refine st [13] ?_
           | ((with_reducible refine is_gd ?_); refine awpL_split rfl rfl (fun h => ?_) (fun h => ?_))
           | ((with_reducible refine isD_gd ?_); ((fail_if_success (refine isD_kn (c := true) rfl (by first | with_reducible rfl | with_reducible assumption) ?_)); (fail_if_success (refine isD_kn (c := false) rfl (by first | with_reducible rfl | with_reducible assumption) ?_)); refine awpD_split rfl (fun h => ?_) (fun h => ?_)))
           | ((with_reducible refine is_awp ?_); refine awp_cond rfl (fun h => ?_) (fun h => ?_))
           | fail)
          exact retP rfl rfl
      · have c2 : (!decide (s2 = 0)) = true := by simp [hs]
        clear hE hT
        rcases kD with cD | ⟨cD, kD⟩
        all_goals
          repeat' (first
           | refine st [13] ?_
           | ((with_reducible refine is_gd ?_); refine awpL_split rfl rfl (fun h => ?_) (fun h => ?_))
           | ((with_reducible refine isD_gd ?_); ((fail_if_success (refine isD_kn (c := true) rfl (by first | with_reducible rfl | with_reducible assumption) ?_)); (fail_if_success (refine isD_kn (c := false) rfl (by first | with_reducible rfl | with_reducible assumption) ?_)); refine awpD_split rfl (fun h => ?_) (fun h => ?_)))
           | ((with_reducible refine is_awp ?_); refine awp_cond rfl (fun h => ?_) (fun h => ?_))
           | fail)
          exact retP rfl rfl
end Go.Proofs.YtekkpfbjnjjcbaaGreatDoor
