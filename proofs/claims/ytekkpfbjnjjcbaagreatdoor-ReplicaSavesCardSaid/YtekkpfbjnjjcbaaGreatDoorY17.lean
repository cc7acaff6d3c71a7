/- The law Keeps. -/
import Derived.Test.YtekkpfbjnjjcbaaGreatDoorB14
namespace Go.Proofs.YtekkpfbjnjjcbaaGreatDoor
open Go.Ac Go.MapKept
attribute [local irreducible] awp awpL Ev Ev2 EvS thenQ blockQ retQ PCalls OCalls YieldOk IterC ICalls
set_option linter.unusedSimpArgs false
set_option linter.unusedVariables false

abbrev LongerP (r s : Replica) (e : Int) : Prop := (!decide (e = 0)) = true ∨ ((!decide (e = 0)) = false ∧ PCalls Tryz.prog GL 31 [.agg (repC r), .agg (repC s)] (vb true))
theorem longer_with {r : Replica} {o : Op} (h : FitG r) (ho : I64 o.note.id) (hd : o.at_.dev = r.dev) (hc : covers r.seen o.at_ = false) : LongerP r (withR r o).1 (withR r o).2 := by
  by_cases he : repE (longerR r o) = 0
  · rw [withR_good he]
    exact .inr ⟨rfl, longer_spec r o h he ho hd hc⟩
  · rw [withR_err he]
    exact .inl (by simp [he])
theorem longer_bad (r s : Replica) {e : Int} (h : e ≠ 0) : LongerP r s e := .inl (by simp [h])
theorem longer_add {r : Replica} (rc : Int) (n : Note) (h : FitG r) : LongerP r (addR r rc n).1 (addR r rc n).2.2 := by
  cases hn : nextS r.seen r.dev with
  | none => rw [addR_none hn]; exact longer_bad _ _ (by decide)
  | some s =>
    obtain ⟨h1, h2, h3⟩ := nextS_right hn
    by_cases he : (withR r (addOpR s rc n)).2 = 0
    · rw [addR_good hn he]
      have := longer_with (o := addOpR s rc n) h (idOf_64 s) h2 h3
      rw [he] at this
      exact this
    · rw [addR_bad hn he]; exact longer_bad _ _ he
theorem living_next (r : Replica) (note : Int) : (∃ e, e ≠ 0 ∧ (∀ f n t, setR r note f n t = (zeroRep, e)) ∧ dropR r note = (zeroRep, e) ∧ (cell r.ops note = none → e = 9 ∨ e = 26)) ∨
    (∃ a s, nextS r.seen r.dev = some s ∧ addedO r.ops note = some a ∧ cell r.ops note = some (cellOf r.ops note a) ∧ (∀ f n t, setR r note f n t = withR r (setOpR s a.rec_ note f n t (atsV (valuesL r.ops note f)))) ∧ dropR r note = withR r (dropOpR s a.rec_ note (overAll r.ops note))) := by
  unfold setR dropR
  cases ha : addedO r.ops note with
  | none => exact .inl ⟨9, by decide, fun _ _ _ => by cases nextS r.seen r.dev <;> rfl, by cases nextS r.seen r.dev <;> rfl, fun _ => .inl rfl⟩
  | some a =>
    cases hlv : lives r.ops note with
    | false => exact .inl ⟨26, by decide, fun _ _ _ => by cases nextS r.seen r.dev <;> rfl, by cases nextS r.seen r.dev <;> rfl, fun _ => .inr rfl⟩
    | true =>
      obtain ⟨b, hb, hc⟩ := lives_cell hlv
      rw [ha] at hb
      cases hb
      cases hn : nextS r.seen r.dev with
      | none => exact .inl ⟨27, by decide, fun _ _ _ => rfl, rfl, fun h => by rw [hc] at h; cases h⟩
      | some s => exact .inr ⟨a, s, rfl, rfl, hc, fun _ _ _ => rfl, rfl⟩
theorem longer_set {r : Replica} (note f n : Int) (t : ByteArray) (h : FitG r) (hno : I64 note) : LongerP r (setR r note f n t).1 (setR r note f n t).2 := by
  rcases living_next r note with ⟨e, he, h1, _, _⟩ | ⟨a, s, hn, _, _, h1, _⟩
  · rw [h1]; exact longer_bad _ _ he
  · rw [h1]
    obtain ⟨_, h2, h3⟩ := nextS_right hn
    exact longer_with h hno h2 h3
theorem longer_drop {r : Replica} (note : Int) (h : FitG r) (hno : I64 note) : LongerP r (dropR r note).1 (dropR r note).2 := by
  rcases living_next r note with ⟨e, he, _, h1, _⟩ | ⟨a, s, hn, _, _, _, h1⟩
  · rw [h1]; exact longer_bad _ _ he
  · rw [h1]
    obtain ⟨_, h2, h3⟩ := nextS_right hn
    exact longer_with h hno h2 h3

set_option maxRecDepth 8000 in
set_option maxHeartbeats 8000000 in
theorem law_RKeeps (x : Ask) (rc : Int) (n : Note) (hid : Ids x.r.ops) (hno : I64 x.note) : PCalls Tryz.prog GL 7 [.agg (askC x), vi rc, .agg (noteC n)] (vb true) := by
  have hA := awake_R
  have hL := Light_spec (g := GL) x.r hid
  have n1 : (!true) = false := rfl
  have n2 : (!false) = true := rfl
  refine pcalls' Tryz.func7 Tryz.ntmps7 rfl rfl rfl ?_
  cases hl : light x.r with
  | false =>
    rw [hl] at hL
    repeat' (first
     | refine st [] ?_
     | ((with_reducible refine is_gd ?_); refine awpL_split rfl rfl (fun h => ?_) (fun h => ?_))
     | ((with_reducible refine isD_gd ?_); ((fail_if_success (refine isD_kn (c := true) rfl (by first | with_reducible rfl | with_reducible assumption) ?_)); (fail_if_success (refine isD_kn (c := false) rfl (by first | with_reducible rfl | with_reducible assumption) ?_)); refine awpD_split rfl (fun h => ?_) (fun h => ?_)))
     | ((with_reducible refine is_awp ?_); refine awp_cond rfl (fun h => ?_) (fun h => ?_))
     | fail)
    exact retP rfl rfl
  | true =>
    rw [hl] at hL
    by_cases h1 : 1000 < x.text.size
    · have c1 : decide ((1000 : Int) < x.text.size) = true := decide_eq_true (by omega)
      repeat' (first
       | refine st [] ?_
       | ((with_reducible refine is_gd ?_); refine awpL_split rfl rfl (fun h => ?_) (fun h => ?_))
       | ((with_reducible refine isD_gd ?_); ((fail_if_success (refine isD_kn (c := true) rfl (by first | with_reducible rfl | with_reducible assumption) ?_)); (fail_if_success (refine isD_kn (c := false) rfl (by first | with_reducible rfl | with_reducible assumption) ?_)); refine awpD_split rfl (fun h => ?_) (fun h => ?_)))
       | ((with_reducible refine is_awp ?_); refine awp_cond rfl (fun h => ?_) (fun h => ?_))
       | fail)
      exact retP rfl rfl
    have c1 : decide ((1000 : Int) < x.text.size) = false := decide_eq_false (by omega)
    by_cases h2 : 1000 < n.text.size
    · have c2 : decide ((1000 : Int) < n.text.size) = true := decide_eq_true (by omega)
      repeat' (first
       | refine st [] ?_
       | ((with_reducible refine is_gd ?_); refine awpL_split rfl rfl (fun h => ?_) (fun h => ?_))
       | ((with_reducible refine isD_gd ?_); ((fail_if_success (refine isD_kn (c := true) rfl (by first | with_reducible rfl | with_reducible assumption) ?_)); (fail_if_success (refine isD_kn (c := false) rfl (by first | with_reducible rfl | with_reducible assumption) ?_)); refine awpD_split rfl (fun h => ?_) (fun h => ?_)))
       | ((with_reducible refine is_awp ?_); refine awp_cond rfl (fun h => ?_) (fun h => ?_))
       | fail)
      exact retP rfl rfl
    have c2 : decide ((1000 : Int) < n.text.size) = false := decide_eq_false (by omega)
    have hG := light_G hl hid
    have hP := Add_spec x.r rc n hG.s hG.o.1 hid
    have hS := Set_spec x.r x.note x.field x.n x.text hG hno
    have hD := Drop_spec x.r x.note hG hno
    have kP := longer_add rc n hG
    have kS := longer_set x.note x.field x.n x.text hG hno
    have kD := longer_drop x.note hG hno
    rw [addV] at hP
    rw [mergeV] at hS hD
    generalize addR x.r rc n = p at *
    generalize setR x.r x.note x.field x.n x.text = q at *
    generalize dropR x.r x.note = s at *
    obtain ⟨p1, p2, p3⟩ := p
    obtain ⟨q1, q2⟩ := q
    obtain ⟨s1, s2⟩ := s
    simp only at hP hS hD kP kS kD
    refine runn [] ?_
    rcases kP with cP | ⟨cP, kP⟩ <;> rcases kS with cS | ⟨cS, kS⟩ <;> rcases kD with cD | ⟨cD, kD⟩
    all_goals
      repeat' (first
       | refine stn [] ?_
       | ((with_reducible refine is_gd ?_); refine awpL_split rfl rfl (fun h => ?_) (fun h => ?_))
       | ((with_reducible refine is_awp ?_); refine awp_cond rfl (fun h => ?_) (fun h => ?_))
       | fail)
      exact retP rfl rfl
end Go.Proofs.YtekkpfbjnjjcbaaGreatDoor
