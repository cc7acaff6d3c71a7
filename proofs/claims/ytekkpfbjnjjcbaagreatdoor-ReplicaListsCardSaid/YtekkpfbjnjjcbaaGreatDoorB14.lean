/- A logic of trees over the model's steps, and the contracts of the functions that the laws reach: part 14 of 14. -/
import Derived.Test.YtekkpfbjnjjcbaaGreatDoorB13
import Derived.ChangeArms
import Derived.Test.YtekkpfbjnjjcbaaGreatDoorRows
import Derived.Lib.LaidU8T
section
set_option linter.unusedVariables false
set_option linter.unusedSimpArgs false
set_option linter.unusedSectionVars false
namespace Go.Proofs.YtekkpfbjnjjcbaaGreatDoor
open Go.Ac Go.MapKept
attribute [local irreducible] awp awpL Ev Ev2 EvS thenQ blockQ retQ PCalls OCalls YieldOk IterC ICalls
set_option linter.unusedSimpArgs false
set_option linter.unusedVariables false
def wBa : ByteArray := ⟨#[98, 97]⟩
def wMi : ByteArray := ⟨#[109, 105]⟩
def wPa : ByteArray := ⟨#[112, 97]⟩
def wN : Note := ⟨0, 0, 0, ⟨0, 9⟩, 0, wMi⟩
def wB0 : Note := ⟨17, 0, 0, ⟨0, 0⟩, 0, .empty⟩
def wO1 : Op := ⟨⟨1, 1⟩, 0, 3, ⟨17, 0, 0, ⟨0, 9⟩, 0, wMi⟩, 0, 0, .empty, []⟩
def wO2 : Op := ⟨⟨2, 1⟩, 1, 3, wB0, 0, 0, wBa, [⟨1, 1⟩]⟩
def wOt : Op := ⟨⟨2, 2⟩, 1, 3, wB0, 0, 0, wPa, [⟨1, 1⟩]⟩
def wDr : Op := ⟨⟨2, 2⟩, 2, 3, wB0, 0, 0, .empty, [⟨1, 1⟩]⟩
def wV (a b : Int) : List Int := [a, b, 0, 0, 0, 0, 0, 0, 0, 0, 0, 0, 0, 0, 0]
def wR0 : Replica := ⟨1, wV 0 0, []⟩
def wR1 : Replica := ⟨1, wV 1 0, [wO1]⟩
def wA : Replica := ⟨1, wV 2 0, [wO1, wO2]⟩
def wBo : Replica := ⟨1, wV 2 2, [wO1, wO2, wOt]⟩
def wKe : Replica := ⟨1, wV 2 2, [wO1, wO2, wDr]⟩
def wG : Replica := ⟨1, wV 2 0, [wO1, ⟨⟨2, 1⟩, 2, 3, wB0, 0, 0, .empty, [⟨1, 1⟩]⟩]⟩
def wC : Cell := (cell wBo.ops 17).getD zeroCell
def wD : Cell := (cell wKe.ops 17).getD zeroCell
theorem w1 : newR 1 = (wR0, 0) := by kernel_rfl
theorem w2 : newR 0 = (zeroRep, 1) := by kernel_rfl
theorem w3 : addR wR0 3 wN = (wR1, 17, 0) := by kernel_rfl
theorem w4 : setR wR1 17 0 0 wBa = (wA, 0) := by kernel_rfl
theorem w5 : dropR wR1 17 = (wG, 0) := by kernel_rfl
theorem w6 : see wA.seen ⟨2, 2⟩ = wV 2 2 := by kernel_rfl
theorem w7 : cell wBo.ops 17 = some wC := by kernel_rfl
theorem w8 : cell wKe.ops 17 = some wD := by kernel_rfl
theorem w9 : cell wG.ops 17 = none := by kernel_rfl
theorem w10 : repE wBo = 0 := by kernel_rfl
theorem w11 : repE wKe = 0 := by kernel_rfl
theorem w12 : repE wR1 = 0 := by kernel_rfl
theorem w13 : repE wG = 0 := by kernel_rfl
theorem w14 : (current wC).text = wPa := by kernel_rfl
theorem w15 : (current wD).text = wBa := by kernel_rfl
theorem w16 : (cells wBo.ops 3).length = 1 := by kernel_rfl
theorem w17 : wC.text.length = 2 := by kernel_rfl
def wV0 : Val := ⟨⟨2, 1⟩, 0, wBa⟩
theorem w18 : wC.text[0]? = some wV0 := by kernel_rfl
theorem w19 : decide (wBo = wKe) = false := by kernel_rfl
def opG (o : Op) : Bool := decide (o.over.length ≤ 1000) && (decide (-9223372036854775808 ≤ o.note.id) && decide (o.note.id ≤ 9223372036854775807))
def repG (r : Replica) : Bool := decide (r.ops.length ≤ 1000) && (r.ops.all opG && decide (r.seen.length ≤ 1000))
theorem opG_ok {o : Op} (h : opG o = true) : o.over.length ≤ 100000 ∧ I64 o.note.id := by
  simp [opG] at h
  exact ⟨by omega, h.2⟩
theorem FitO.of {r : Replica} (h : repG r = true) : FitO r.ops ∧ r.seen.length ≤ 1000000 ∧ Ids r.ops := by
  simp only [repG, Bool.and_eq_true, decide_eq_true_eq, List.all_eq_true] at h
  exact ⟨⟨by omega, fun o ho => (opG_ok (h.2.1 o ho)).1⟩, by omega, fun o ho => (opG_ok (h.2.1 o ho)).2⟩
theorem FitG.of {r : Replica} (h : repG r = true) (h0 : repE r = 0) : FitG r := by
  obtain ⟨h1, h2, h3⟩ := FitO.of h
  exact ⟨h1, h2, h3, good_of h0⟩
theorem cell_fit {l : List Op} (hl : l.length ≤ 100000) {note : Int} {c : Cell} (h : cell l note = some c) : FitC c := by
  have hv : ∀ note f, (valuesL l note f).length ≤ 100000 := fun note f => by
    have := valuesL_len l note f
    omega
  obtain ⟨a, _, rfl, _⟩ := cell_inv h
  exact ⟨hv _ _, hv _ _, hv _ _⟩
set_option maxRecDepth 8000 in
set_option maxHeartbeats 8000000 in
theorem awake_R : PCalls Tryz.prog GL 12 [] (vb true) := by
  have gB : FitG wBo := FitG.of (by kernel_rfl) w10
  have gK : FitG wKe := FitG.of (by kernel_rfl) w11
  have g1 : FitG wR1 := FitG.of (by kernel_rfl) w12
  have gG : FitG wG := FitG.of (by kernel_rfl) w13
  obtain ⟨a1, a2, a3⟩ := FitO.of (r := wR0) (by kernel_rfl)
  have hN1 := New_spec (g := GL) 1
  rw [w1, mergeV] at hN1
  have hN0 := New_spec (g := GL) 0
  rw [w2, mergeV] at hN0
  have hAd := Add_spec wR0 3 wN a2 a1.1 a3
  rw [w3, addV] at hAd
  have hSe := Set_spec wR1 17 0 0 wBa g1 (by unfold I64; omega)
  rw [w4, mergeV] at hSe
  have hDr := Drop_spec wR1 17 g1 (by unfold I64; omega)
  rw [w5, mergeV] at hDr
  have hS := SeeP (g := GL) wA.seen ⟨2, 2⟩ (by decide)
  rw [w6] at hS
  have hC := Cell_spec (g := GL) wBo 17 gB.l gB.o.2 gB.g
  rw [w7, cellV] at hC
  have hD := Cell_spec (g := GL) wKe 17 gK.l gK.o.2 gK.g
  rw [w8, cellV] at hD
  have hE := Cell_spec (g := GL) wG 17 gG.l gG.o.2 gG.g
  rw [w9, cellV] at hE
  simp only [Option.getD_some, Option.isSome_some, Option.getD_none, Option.isSome_none] at hC hD hE
  have hK1 := Check_spec wBo gB.s gB.i
  rw [w10] at hK1
  have hK2 := Check_spec wKe gK.s gK.i
  rw [w11] at hK2
  have hU1 := Current_spec (g := GL) wC (cell_fit gB.l w7)
  have hU2 := Current_spec (g := GL) wD (cell_fit gK.l w8)
  have hCs := Cells_spec (g := GL) wBo 3 gB.l gB.o.2 gB.g
  have hS1 := SameRep_spec (g := GL) wBo wBo gB.o gB.o gB.s gB.s
  rw [decide_eq_true rfl] at hS1
  have hS2 := SameRep_spec (g := GL) wBo wKe gB.o gK.o gB.s gK.s
  rw [w19] at hS2
  have n0 : (!decide ((0 : Int) = 0)) = false := rfl
  have n1 : (!decide ((1 : Int) = 1)) = false := rfl
  have n17 : (!decide ((17 : Int) = 17)) = false := rfl
  have nt : (!true) = false := rfl
  have nf : (!false) = true := rfl
  have e2 : decide ((wC.text.length : Int) = 2) = true := by rw [w17]; rfl
  have e1 : decide (((cells wBo.ops 3).length : Int) = 1) = true := by rw [w16]; rfl
  have i0 : 0 ≤ (0 : Int) ∧ (wC.text.map valC)[(0 : Int).toNat]? = some (valC wV0) := val_get w18
  have e3 : decide (wV0.text = (⟨#[98, 97]⟩ : ByteArray)) = true := by kernel_rfl
  have e4 : decide ((current wC).text = (⟨#[112, 97]⟩ : ByteArray)) = true := by rw [w14]; kernel_rfl
  have e5 : decide ((current wD).text = (⟨#[98, 97]⟩ : ByteArray)) = true := by rw [w15]; kernel_rfl
  have lA : wA.ops.length = 2 := rfl
  have hj : ([] : List (List AV)) ++ wA.ops.map opC = wA.ops.map opC := rfl
  have hj1 : wA.ops.map opC ++ [opC wOt] = wBo.ops.map opC := rfl
  have hj2 : wA.ops.map opC ++ [opC wDr] = wKe.ops.map opC := rfl
  refine pcalls' Tryz.func12 Tryz.ntmps12 rfl rfl rfl ?_
  repeat' (first
   | ((with_reducible refine is_un ?_); (first | refine awpL_ev (ev_fld_one rfl rfl rfl rfl rfl rfl rfl) rfl ?_ | refine awpL_frz 76 rfl rfl rfl rfl ?_ | refine awpL_frz 94 rfl rfl rfl rfl ?_ | refine awpL_ev2 (ev_bslice_o (t := 23) (n := 0) (es := []) rfl rfl rfl rfl rfl rfl rfl rfl rfl rfl rfl (by (try simp only [List.length_nil, List.length_cons, Nat.reduceAdd]); (try rfl)) (by (try simp only [List.set_cons_zero, List.set_cons_succ, List.nil_append, List.cons_append, List.append_nil, cellsOf, List.take_zero, List.drop_zero, List.take_succ_cons, List.drop_succ_cons, Nat.zero_add, Nat.reduceAdd, List.drop_nil, List.map_cons, List.map_nil]); (try rfl))) rfl ?_ | refine awpL_ev2 (ev_app (es' := wA.ops.map opC) rfl rfl rfl rfl rfl rfl rfl rfl rfl rfl rfl rfl rfl (by simp only [List.length_map, List.length_cons, List.length_nil, List.length_append, List.length_take]; omega) hj rfl) rfl ?_ | refine awpL_ev2 (ev_app (es' := wBo.ops.map opC) rfl rfl rfl rfl rfl rfl rfl rfl rfl rfl rfl rfl rfl (by simp only [List.length_map, List.length_cons, List.length_nil, List.length_append, List.length_take]; omega) hj1 rfl) rfl ?_ | refine awpL_ev2 (ev_app (es' := wKe.ops.map opC) rfl rfl rfl rfl rfl rfl rfl rfl rfl rfl rfl rfl rfl (by simp only [List.length_map, List.length_cons, List.length_nil, List.length_append, List.length_take]; omega) hj2 rfl) rfl ?_))
   | refine st [1, 11, 12] ?_
   | ((with_reducible refine is_gd ?_); refine awpL_split rfl rfl (fun h => ?_) (fun h => ?_))
   | ((with_reducible refine isD_gd ?_); ((fail_if_success (refine isD_kn (c := true) rfl (by first | with_reducible rfl | with_reducible assumption) ?_)); (fail_if_success (refine isD_kn (c := false) rfl (by first | with_reducible rfl | with_reducible assumption) ?_)); refine awpD_split rfl (fun h => ?_) (fun h => ?_)))
   | ((with_reducible refine is_awp ?_); refine awp_cond rfl (fun h => ?_) (fun h => ?_))
   | fail)
  refine retP rfl ?_
  simp [ex]
end Go.Proofs.YtekkpfbjnjjcbaaGreatDoor
end
section
set_option linter.unusedVariables false
set_option linter.unusedSimpArgs false
set_option linter.unusedSectionVars false
namespace Go.Proofs.YtekkpfbjnjjcbaaGreatDoor
open Go.Ac Go.MapKept
attribute [local irreducible] awp awpL Ev Ev2 EvS thenQ blockQ retQ PCalls OCalls YieldOk IterC ICalls
set_option linter.unusedSimpArgs false
set_option linter.unusedVariables false
set_option maxRecDepth 8000 in
set_option maxHeartbeats 4000000 in
theorem longer_spec (r : Replica) (o : Op) (h : FitG r) (hE : repE (longerR r o) = 0) (ho : I64 o.note.id) (hd : o.at_.dev = r.dev) (hc : covers r.seen o.at_ = false) : PCalls Tryz.prog GL 31 [.agg (repC r), .agg (repC (longerR r o))] (vb true) := by
  have hl := h.o.1
  have hK := Check_spec (longerR r o) (by rw [longerR, see_len]; omega) (ids_snoc h.i ho)
  rw [hE] at hK
  have hcov := rep_covers (r := longerR r o) hE (o := o) (List.mem_append_right _ (List.mem_singleton_self _))
  have h1 := rCovers_spec (g := GL) r.seen o.at_ h.s
  have h2 := rCovers_spec (g := GL) (longerR r o).seen o.at_ (by rw [longerR, see_len]; omega)
  rw [hc] at h1
  rw [hcov] at h2
  have hsl : (longerR r o).ops.length = r.ops.length + 1 := by simp [longerR]
  have hsd : (longerR r o).dev = r.dev := rfl
  have hlast : (longerR r o).ops[r.ops.length]? = some o := by simp [longerR]
  have hpre : ∀ k, k < r.ops.length → (longerR r o).ops[k]? = r.ops[k]? := fun k hk => by simp only [longerR]; exact List.getElem?_append_left hk
  generalize longerR r o = s at *
  have n1 : (!true) = false := rfl
  have n2 : (!false) = true := rfl
  have z0 : (!decide ((0 : Int) = 0)) = false := rfl
  have z1 : (!decide (s.dev = r.dev)) = false := by simp [hsd]
  have z2 : (!decide ((s.ops.length : Int) = r.ops.length + 1)) = false := by simp; omega
  refine pcalls' Tryz.func31 Tryz.ntmps31 rfl rfl rfl ?_
  repeat' (first
   | refine stn [] ?_
   | ((with_reducible refine is_gd ?_); refine awpL_split rfl rfl (fun h => ?_) (fun h => ?_))
   | ((with_reducible refine is_awp ?_); refine awp_cond rfl (fun h => ?_) (fun h => ?_))
   | fail)
  refine awp_for (α := Nat) 0 (fun k => [(2, .fp (repC r)), (3, .fp (repC s)), (5, vi k)]) (fun _ => []) (fun k => k ≤ r.ops.length) (fun k => r.ops.length - k) 0
    ⟨(.cons rfl rfl (.cons rfl rfl (.cons rfl rfl .nil))), rfl, rfl, rfl⟩ (Nat.zero_le _) ?_
  rintro k hk
  cases ht : r.ops[k]? with
  | some x =>
    have hlt : k < r.ops.length := (List.getElem?_eq_some_iff.1 ht).1
    have c1 : decide ((k : Int) < r.ops.length) = true := decide_eq_true (by omega)
    have g1 := op_get ht
    have g2 := op_get ((hpre k hlt).trans ht)
    have hov := h.o.2 x (List.mem_of_getElem? ht)
    have hS := rSame_spec (g := GL) x x (by omega) (by omega)
    rw [decide_eq_true rfl] at hS
    repeat' (first
     | refine st [] ?_
     | ((with_reducible refine is_gd ?_); refine awpL_split rfl rfl (fun h => ?_) (fun h => ?_))
     | ((with_reducible refine isD_gd ?_); ((fail_if_success (refine isD_kn (c := true) rfl (by first | with_reducible rfl | with_reducible assumption) ?_)); (fail_if_success (refine isD_kn (c := false) rfl (by first | with_reducible rfl | with_reducible assumption) ?_)); refine awpD_split rfl (fun h => ?_) (fun h => ?_)))
     | ((with_reducible refine is_awp ?_); refine awp_cond rfl (fun h => ?_) (fun h => ?_))
     | fail)
    exact ⟨k + 1, ⟨(.cons rfl rfl (.cons rfl rfl (.cons rfl rfl .nil))), rfl, rfl, rfl⟩, by omega, by omega⟩
  | none =>
    have hge : r.ops.length ≤ k := by simpa using ht
    have c1 : decide ((k : Int) < r.ops.length) = false := decide_eq_false (by omega)
    have g1 := op_get hlast
    have e1 : decide (o.at_.dev = r.dev) = true := decide_eq_true hd
    repeat' (first
     | refine stn [] ?_
     | ((with_reducible refine is_gd ?_); refine awpL_split rfl rfl (fun h => ?_) (fun h => ?_))
     | ((with_reducible refine is_awp ?_); refine awp_cond rfl (fun h => ?_) (fun h => ?_))
     | fail)
    exact retP rfl rfl
end Go.Proofs.YtekkpfbjnjjcbaaGreatDoor
end
section
set_option linter.unusedVariables false
set_option linter.unusedSimpArgs false
set_option linter.unusedSectionVars false
namespace Go.Proofs.YtekkpfbjnjjcbaaGreatDoor
open Go.Ac Go.MapKept
attribute [local irreducible] awp awpL Ev Ev2 EvS thenQ blockQ retQ PCalls OCalls YieldOk IterC ICalls
set_option linter.unusedSimpArgs false
set_option linter.unusedVariables false
theorem rep_fit {r : Replica} (h : repE r = 0) : FitR r := by
  obtain ⟨_, h2, _, _, h3⟩ := repE_all h
  exact ⟨⟨by omega, fun o ho => by have := opE_over (repE_ops h o ho); omega⟩, by rw [h2, seenL_len]; omega⟩
end Go.Proofs.YtekkpfbjnjjcbaaGreatDoor
end
section
set_option linter.unusedVariables false
set_option linter.unusedSimpArgs false
set_option linter.unusedSectionVars false
namespace Go.Proofs.YtekkpfbjnjjcbaaGreatDoor
open Go.Ac Go.MapKept
attribute [local irreducible] awp awpL Ev Ev2 EvS thenQ blockQ retQ PCalls OCalls YieldOk IterC ICalls
set_option linter.unusedSimpArgs false
set_option linter.unusedVariables false
theorem cells_fit (l : List Op) (rc : Int) (hl : l.length ≤ 100000) : FitCs (cells l rc) := by
  have hv : ∀ note f, (valuesL l note f).length ≤ 100000 := fun note f => by
    unfold valuesL
    rw [List.length_map]
    exact Nat.le_trans (List.length_filter_le ..) hl
  have hc : ∀ note c, cell l note = some c → FitC c := fun note c h => by
    unfold cell at h
    split at h
    · cases h
    · split at h
      · cases h; exact ⟨hv _ _, hv _ _, hv _ _⟩
      · cases h
  have H : ∀ (k : List Op) (out : List Cell), (∀ c ∈ out, FitC c) → ∀ c ∈ k.foldl (cellsStep l rc) out, FitC c := by
    intro k
    induction k with
    | nil => intro out h; exact h
    | cons o r ih =>
      intro out h
      refine ih _ ?_
      unfold cellsStep
      split
      · split
        · rename_i c hq
          intro d hd
          rcases List.mem_append.1 hd with g | g
          · exact h d g
          · simp only [List.mem_singleton] at g; subst g; exact hc _ _ hq
        · exact h
      · exact h
  refine ⟨?_, H l [] fun c h => by cases h⟩
  have := cellsK_len l rc l.length
  unfold cellsK at this
  rw [List.take_length] at this
  unfold cells
  omega
end Go.Proofs.YtekkpfbjnjjcbaaGreatDoor
end
section
set_option linter.unusedVariables false
set_option linter.unusedSimpArgs false
set_option linter.unusedSectionVars false
namespace Go.Proofs.YtekkpfbjnjjcbaaGreatDoor
open Go.Ac Go.MapKept
attribute [local irreducible] awp awpL Ev Ev2 EvS thenQ blockQ retQ PCalls OCalls YieldOk IterC ICalls
set_option linter.unusedSimpArgs false
set_option linter.unusedVariables false
structure Ask where
  r : Replica
  note : Int
  field : Int
  n : Int
  text : ByteArray
def askC (x : Ask) : List AV := [.v (.int .i64 x.r.dev), encIs x.r.seen, encOps x.r.ops, .v (.int .i64 x.note), .v (.int .i64 x.field), .v (.int .i64 x.n), .v (.string x.text)]
theorem light_G {r : Replica} (h : light r = true) (hi : Ids r.ops) : FitG r := by
  obtain ⟨h1, h2, h3⟩ := light_rep h
  exact ⟨⟨by omega, (light_fit h).1.2⟩, by omega, hi, good_of h1⟩
theorem zero_fit : FitR zeroRep := ⟨⟨by simp [zeroRep], fun o ho => by cases ho⟩, by simp [zeroRep]⟩
theorem withR_fit (r : Replica) (o : Op) : FitR (withR r o).1 := by
  by_cases h : repE (longerR r o) = 0
  · rw [withR_good h]; exact rep_fit h
  · rw [withR_err h]; exact zero_fit
theorem addR_fit (r : Replica) (rc : Int) (n : Note) : FitR (addR r rc n).1 := by
  unfold addR
  split
  · exact zero_fit
  · split
    · exact withR_fit _ _
    · exact zero_fit
theorem setR_fit (r : Replica) (note f n : Int) (t : ByteArray) : FitR (setR r note f n t).1 := by
  rcases living_cases r note with ⟨e, he, h1, h2, _⟩ | ⟨a, s, h1, h2, _⟩
  · rw [h2]; exact zero_fit
  · rw [h2]; exact withR_fit _ _
theorem dropR_fit (r : Replica) (note : Int) : FitR (dropR r note).1 := by
  rcases living_cases r note with ⟨e, he, h1, _, h2⟩ | ⟨a, s, h1, _, h2⟩
  · rw [h2]; exact zero_fit
  · rw [h2]; exact withR_fit _ _
set_option maxRecDepth 8000 in
set_option maxHeartbeats 4000000 in
theorem law_RCheck (r : Replica) (hid : Ids r.ops) (hh : Held r.ops) : PCalls Tryz.prog GL 3 [.agg (repC r)] (vb true) := by
  have hA := awake_R
  have hF := few_spec (g := GL) r hh
  have n1 : (!true) = false := rfl
  have n2 : (!false) = true := rfl
  refine pcalls' Tryz.func3 Tryz.ntmps3 rfl rfl rfl ?_
  cases hf : fewR r with
  | false =>
    rw [hf] at hF
    repeat' (first
     | refine stn [] ?_
     | ((with_reducible refine is_gd ?_); refine awpL_split rfl rfl (fun h => ?_) (fun h => ?_))
     | ((with_reducible refine is_awp ?_); refine awp_cond rfl (fun h => ?_) (fun h => ?_))
     | fail)
    exact retP rfl rfl
  | true =>
    rw [hf] at hF
    simp only [fewR, Bool.and_eq_true, decide_eq_true_eq] at hf
    have hK := Check_spec r (by omega) hid
    have hR := rCheck_spec (g := GL) r (by omega) hid
    generalize repE r = e at hK hR
    obtain ⟨e', he⟩ : ∃ e', e' = e := ⟨_, rfl⟩
    rw [← he] at hR
    have e0 : decide (e = e') = true := decide_eq_true he.symm
    repeat' (first
     | refine st [] ?_
     | ((with_reducible refine is_gd ?_); refine awpL_split rfl rfl (fun h => ?_) (fun h => ?_))
     | ((with_reducible refine isD_gd ?_); ((fail_if_success (refine isD_kn (c := true) rfl (by first | with_reducible rfl | with_reducible assumption) ?_)); (fail_if_success (refine isD_kn (c := false) rfl (by first | with_reducible rfl | with_reducible assumption) ?_)); refine awpD_split rfl (fun h => ?_) (fun h => ?_)))
     | ((with_reducible refine is_awp ?_); refine awp_cond rfl (fun h => ?_) (fun h => ?_))
     | fail)
    exact retP rfl rfl
theorem cell_fit0 (l : List Op) (hl : l.length ≤ 100000) (note : Int) : FitC ((cell l note).getD zeroCell) := by
  cases h : cell l note with
  | none => exact ⟨by simp [zeroCell], by simp [zeroCell], by simp [zeroCell]⟩
  | some c => exact cell_fit hl h
set_option maxRecDepth 8000 in
set_option maxHeartbeats 4000000 in
theorem law_RCells (r : Replica) (rc note : Int) (hid : Ids r.ops) : PCalls Tryz.prog GL 4 [.agg (repC r), vi rc, vi note] (vb true) := by
  have hA := awake_R
  have hL := Light_spec (g := GL) r hid
  have n1 : (!true) = false := rfl
  have n2 : (!false) = true := rfl
  refine pcalls' Tryz.func4 Tryz.ntmps4 rfl rfl rfl ?_
  cases hl : light r with
  | false =>
    rw [hl] at hL
    repeat' (first
     | refine stn [] ?_
     | ((with_reducible refine is_gd ?_); refine awpL_split rfl rfl (fun h => ?_) (fun h => ?_))
     | ((with_reducible refine is_awp ?_); refine awp_cond rfl (fun h => ?_) (fun h => ?_))
     | fail)
    exact retP rfl rfl
  | true =>
    rw [hl] at hL
    have hG := light_G hl hid
    have hC := Cell_spec (g := GL) r note hG.l hG.o.2 hG.g
    have hD := rCell_spec (g := GL) r note hG.o
    have hCs := Cells_spec (g := GL) r rc hG.l hG.o.2 hG.g
    have hDs := rCells_spec (g := GL) r rc hG.o
    have hSc := SameCells_spec (g := GL) (cells r.ops rc) (cells_fit r.ops rc hG.l)
    have hfc := cell_fit0 r.ops hG.l note
    have hE := Equal_spec (g := GL) ((cell r.ops note).getD zeroCell) hfc
    have hU := Current_spec (g := GL) ((cell r.ops note).getD zeroCell) hfc
    have hV := rCurrent_spec (g := GL) ((cell r.ops note).getD zeroCell) hfc
    rw [cellV] at hC hD
    generalize (cell r.ops note).getD zeroCell = c at *
    generalize (cell r.ops note).isSome = b at *
    generalize cells r.ops rc = cs at *
    generalize hn : current c = n at *
    obtain ⟨b', hb'⟩ : ∃ b', b' = b := ⟨_, rfl⟩
    rw [← hb'] at hD
    have e1 : (b == b') = true := by simp [hb']
    have e2 := note_eqb n n
    rw [decide_eq_true rfl] at e2
    repeat' (first
     | ((with_reducible refine isD_un ?_); refine awpD_un (as_ev (fun _ => ev_eqA (b := true) noteEq_T (by kernel_rfl) rfl rfl rfl rfl (by rw [← e2]; rfl)) rfl rfl) (by (try simp only [List.nil_append, List.cons_append]); (try rfl)) ?_)
     | ((with_reducible refine isD_gd ?_); refine awpD_gd rfl rfl (by first | with_reducible rfl | with_reducible assumption) (as_ev (fun _ => ev_eqA (b := true) noteEq_T (by kernel_rfl) rfl rfl rfl rfl (by rw [← e2]; rfl)) rfl rfl) (by (try simp only [List.nil_append, List.cons_append]); (try rfl)) ?_)
     | refine st [] ?_
     | ((with_reducible refine is_gd ?_); refine awpL_split rfl rfl (fun h => ?_) (fun h => ?_))
     | ((with_reducible refine isD_gd ?_); ((fail_if_success (refine isD_kn (c := true) rfl (by first | with_reducible rfl | with_reducible assumption) ?_)); (fail_if_success (refine isD_kn (c := false) rfl (by first | with_reducible rfl | with_reducible assumption) ?_)); refine awpD_split rfl (fun h => ?_) (fun h => ?_)))
     | ((with_reducible refine is_awp ?_); refine awp_cond rfl (fun h => ?_) (fun h => ?_))
     | fail)
    exact retP rfl rfl
set_option maxRecDepth 8000 in
set_option maxHeartbeats 4000000 in
theorem law_RAdds (r : Replica) (rc : Int) (n : Note) (hid : Ids r.ops) : PCalls Tryz.prog GL 5 [.agg (repC r), vi rc, .agg (noteC n)] (vb true) := by
  have hA := awake_R
  have hL := Light_spec (g := GL) r hid
  have n1 : (!true) = false := rfl
  have n2 : (!false) = true := rfl
  refine pcalls' Tryz.func5 Tryz.ntmps5 rfl rfl rfl ?_
  cases hl : light r with
  | false =>
    rw [hl] at hL
    repeat' (first
     | refine st [] ?_
     | ((with_reducible refine is_gd ?_); refine awpL_split rfl rfl (fun h => ?_) (fun h => ?_))
     | ((with_reducible refine isD_gd ?_); ((fail_if_success (refine isD_kn (c := true) rfl (by first | with_reducible rfl | with_reducible assumption) ?_)); (fail_if_success (refine isD_kn (c := false) rfl (by first | with_reducible rfl | with_reducible assumption) ?_)); refine awpD_split rfl (fun h => ?_) (fun h => ?_)))
     | ((with_reducible refine is_awp ?_); refine awp_cond rfl (fun h => ?_) (fun h => ?_))
     | fail)
    exact retP rfl rfl
  | true =>
    rw [hl] at hL
    by_cases h1 : 1000 < n.text.size
    · have c1 : decide ((1000 : Int) < n.text.size) = true := decide_eq_true (by omega)
      repeat' (first
       | refine st [] ?_
       | ((with_reducible refine is_gd ?_); refine awpL_split rfl rfl (fun h => ?_) (fun h => ?_))
       | ((with_reducible refine isD_gd ?_); ((fail_if_success (refine isD_kn (c := true) rfl (by first | with_reducible rfl | with_reducible assumption) ?_)); (fail_if_success (refine isD_kn (c := false) rfl (by first | with_reducible rfl | with_reducible assumption) ?_)); refine awpD_split rfl (fun h => ?_) (fun h => ?_)))
       | ((with_reducible refine is_awp ?_); refine awp_cond rfl (fun h => ?_) (fun h => ?_))
       | fail)
      exact retP rfl rfl
    have c1 : decide ((1000 : Int) < n.text.size) = false := decide_eq_false (by omega)
    have hG := light_G hl hid
    have hP := Add_spec r rc n hG.s hG.o.1 hid
    have hR := rAdd_spec r rc n hG.s hG.o.1 hid
    have hS := rSameR_spec (g := GL) (addR r rc n).1 (addR r rc n).1 (addR_fit _ _ _) (addR_fit _ _ _)
    rw [decide_eq_true rfl] at hS
    rw [addV] at hP hR
    generalize addR r rc n = p at *
    obtain ⟨p1, p2, p3⟩ := p
    obtain ⟨w2, hw2⟩ : ∃ w, w = p2 := ⟨_, rfl⟩
    obtain ⟨w3, hw3⟩ : ∃ w, w = p3 := ⟨_, rfl⟩
    simp only at hP hR hS
    rw [← hw2, ← hw3] at hR
    have e1 : decide (p2 = w2) = true := decide_eq_true hw2.symm
    have e2 : decide (p3 = w3) = true := decide_eq_true hw3.symm
    repeat' (first
     | refine st [] ?_
     | ((with_reducible refine is_gd ?_); refine awpL_split rfl rfl (fun h => ?_) (fun h => ?_))
     | ((with_reducible refine isD_gd ?_); ((fail_if_success (refine isD_kn (c := true) rfl (by first | with_reducible rfl | with_reducible assumption) ?_)); (fail_if_success (refine isD_kn (c := false) rfl (by first | with_reducible rfl | with_reducible assumption) ?_)); refine awpD_split rfl (fun h => ?_) (fun h => ?_)))
     | ((with_reducible refine is_awp ?_); refine awp_cond rfl (fun h => ?_) (fun h => ?_))
     | fail)
    exact retP rfl rfl
set_option maxRecDepth 8000 in
set_option maxHeartbeats 4000000 in
theorem law_RSets (x : Ask) (hid : Ids x.r.ops) (hno : I64 x.note) : PCalls Tryz.prog GL 6 [.agg (askC x)] (vb true) := by
  have hA := awake_R
  have hL := Light_spec (g := GL) x.r hid
  have n1 : (!true) = false := rfl
  have n2 : (!false) = true := rfl
  refine pcalls' Tryz.func6 Tryz.ntmps6 rfl rfl rfl ?_
  cases hl : light x.r with
  | false =>
    rw [hl] at hL
    repeat' (first
     | refine st [] ?_
     | ((with_reducible refine is_gd ?_); refine awpL_split rfl rfl (fun h => ?_) (fun h => ?_))
     | ((with_reducible refine isD_gd ?_); ((fail_if_success (refine isD_kn (c := true) rfl (by first | with_reducible rfl | with_reducible assumption) ?_)); (fail_if_success (refine isD_kn (c := false) rfl (by first | with_reducible rfl | with_reducible assumption) ?_)); refine awpD_split rfl (fun h => ?_) (fun h => ?_)))
     | ((with_reducible refine is_awp ?_); refine awp_cond rfl (fun h => ?_) (fun h => ?_))
     | fail)
    exact retP rfl rfl
  | true =>
    rw [hl] at hL
    by_cases h1 : 1000 < x.text.size
    · have c1 : decide ((1000 : Int) < x.text.size) = true := decide_eq_true (by omega)
      repeat' (first
       | refine st [] ?_
       | ((with_reducible refine is_gd ?_); refine awpL_split rfl rfl (fun h => ?_) (fun h => ?_))
       | ((with_reducible refine isD_gd ?_); ((fail_if_success (refine isD_kn (c := true) rfl (by first | with_reducible rfl | with_reducible assumption) ?_)); (fail_if_success (refine isD_kn (c := false) rfl (by first | with_reducible rfl | with_reducible assumption) ?_)); refine awpD_split rfl (fun h => ?_) (fun h => ?_)))
       | ((with_reducible refine is_awp ?_); refine awp_cond rfl (fun h => ?_) (fun h => ?_))
       | fail)
      exact retP rfl rfl
    have c1 : decide ((1000 : Int) < x.text.size) = false := decide_eq_false (by omega)
    have hG := light_G hl hid
    have hP := Set_spec x.r x.note x.field x.n x.text hG hno
    have hR := refSet_spec (g := GL) x.r x.note x.field x.n x.text hG hno
    have hS := rSameR_spec (g := GL) (setR x.r x.note x.field x.n x.text).1 (setR x.r x.note x.field x.n x.text).1 (setR_fit _ _ _ _ _) (setR_fit _ _ _ _ _)
    have hP2 := Drop_spec x.r x.note hG hno
    have hR2 := refDrop_spec (g := GL) x.r x.note hG hno
    have hS2 := rSameR_spec (g := GL) (dropR x.r x.note).1 (dropR x.r x.note).1 (dropR_fit _ _) (dropR_fit _ _)
    rw [decide_eq_true rfl] at hS hS2
    rw [mergeV] at hP hR hP2 hR2
    generalize setR x.r x.note x.field x.n x.text = p at *
    generalize dropR x.r x.note = q at *
    obtain ⟨p1, p2⟩ := p
    obtain ⟨q1, q2⟩ := q
    obtain ⟨w1, hw1⟩ : ∃ w, w = p2 := ⟨_, rfl⟩
    obtain ⟨w2, hw2⟩ : ∃ w, w = q2 := ⟨_, rfl⟩
    simp only at hP hR hS hP2 hR2 hS2
    rw [← hw1] at hR
    rw [← hw2] at hR2
    have e1 : decide (p2 = w1) = true := decide_eq_true hw1.symm
    have e2 : decide (q2 = w2) = true := decide_eq_true hw2.symm
    repeat' (first
     | refine st [] ?_
     | ((with_reducible refine is_gd ?_); refine awpL_split rfl rfl (fun h => ?_) (fun h => ?_))
     | ((with_reducible refine isD_gd ?_); ((fail_if_success (refine isD_kn (c := true) rfl (by first | with_reducible rfl | with_reducible assumption) ?_)); (fail_if_success (refine isD_kn (c := false) rfl (by first | with_reducible rfl | with_reducible assumption) ?_)); refine awpD_split rfl (fun h => ?_) (fun h => ?_)))
     | ((with_reducible refine is_awp ?_); refine awp_cond rfl (fun h => ?_) (fun h => ?_))
     | fail)
    exact retP rfl rfl
end Go.Proofs.YtekkpfbjnjjcbaaGreatDoor
end
section
set_option linter.unusedVariables false
set_option linter.unusedSimpArgs false
set_option linter.unusedSectionVars false
namespace Go.Proofs.YtekkpfbjnjjcbaaGreatDoor
open Go.Ac
theorem wf64 {n : Int} (h : (Lit.int .i64 n).wf = true) : I64 n := by
  simp only [Lit.wf, Bool.and_eq_true, decide_eq_true_eq] at h
  have h1 : IntKind.i64.min = -9223372036854775808 := by decide
  have h2 : IntKind.i64.max = 9223372036854775807 := by decide
  rw [h1, h2] at h
  exact h
end Go.Proofs.YtekkpfbjnjjcbaaGreatDoor
end
section
set_option linter.unusedVariables false
set_option linter.unusedSimpArgs false
set_option linter.unusedSectionVars false
namespace Go.Ac
set_option linter.unusedSectionVars false
set_option linter.unusedVariables false
set_option linter.unusedSimpArgs false
def ShpB (td : TDs) (B : Nat) : Nat → TypeId → List AV → Prop
  | 0, _, _ => False
  | f + 1, t, cas => match (lk td t).map (fun d : TD => d.k) with
    | some .bool => ∃ b, cas = [.v (.bool b)]
    | some (.int k) => ∃ n, cas = [.v (.int k n)] ∧ (Lit.int k n).wf = true
    | some .str => ∃ s, cas = [.v (.string s)] ∧ s.size ≤ B
    | some (.slice e) => ∃ sz es, (lk td e).map (fun d : TD => d.size) = some sz ∧ cas = [.fs sz es.length es] ∧ es.length ≤ B ∧ ∀ x ∈ es, ShpB td B f e x
    | some (.struct fs) => ∃ parts : List (List AV), cas = parts.flatten ∧ parts.length = fs.length ∧ ∀ (i : Nat) (x : List AV) (q : TypeId × Nat), parts[i]? = some x → fs[i]? = some q → ShpB td B f q.1 x
    | some (.arr n e) => ∃ parts : List (List AV), cas = parts.flatten ∧ parts.length = n ∧ ∀ x ∈ parts, ShpB td B f e x
    | _ => False
theorem weightsAll_mem {H : Type} {P : Program} {e : TypeId} {B : Nat} : ∀ {l : List (DataW H)}, (DataW.weightsAll P e l).all (· ≤ B) = true → ∀ d ∈ l, (d.weights P e).all (· ≤ B) = true
  | [], _, d, hd => by cases hd
  | x :: r, h, d, hd => by
    simp only [DataW.weightsAll, List.all_append, Bool.and_eq_true] at h
    rcases List.mem_cons.1 hd with rfl | hd
    · exact h.1
    · exact weightsAll_mem h.2 d hd
theorem weightsEach_get {H : Type} {P : Program} {B : Nat} : ∀ {ts : List TypeId} {l : List (DataW H)}, (DataW.weightsEach P ts l).all (· ≤ B) = true → ∀ (i : Nat) t d, ts[i]? = some t → l[i]? = some d → (d.weights P t).all (· ≤ B) = true
  | [], l, _, i, t, d, ht, hd => by simp at ht
  | t :: ts, [], _, i, u, d, ht, hd => by simp at hd
  | t :: ts, x :: r, h, i, u, d, ht, hd => by
    simp only [DataW.weightsEach, List.all_append, Bool.and_eq_true] at h
    cases i with
    | zero => simp at ht hd; subst ht hd; exact h.1
    | succ i => exact weightsEach_get h.2 i u d (by simpa using ht) (by simpa using hd)
def byteT (td : TDs) (C : List Nat) : Bool := C.all fun t => match lk td t with
  | some d => (match d.k with | .slice e => (match lk td e with | some ed => Nat.blt 0 ed.bytes | none => false) | _ => true)
  | none => true
section
variable {P : Program} {td : TDs} [T : TOK P td] {H : Type} {enc : TypeId × Value → H} {W : World} {sp : Nat → Bool} {B : Nat}
theorem consec_partsB {f : Nat} {F : Nat → Prop} {w : World} {cs : List Value} {n : Nat} (hl : cs.length = n) : ∀ {fs : List (TypeId × Nat)} {o : Nat}, consec td o fs n = true → o ≤ n →
    (∀ q ∈ fs, ∃ cas, ShpB td B f q.1 cas ∧ LF F w cas ((cs.drop q.2).take (P.cellsOf q.1))) → ∃ parts : List (List AV), parts.length = fs.length ∧ LF F w parts.flatten (cs.drop o) ∧
      ∀ (i : Nat) (x : List AV) (q : TypeId × Nat), parts[i]? = some x → fs[i]? = some q → LF F w x ((cs.drop q.2).take (P.cellsOf q.1)) ∧ ShpB td B f q.1 x
  | [], o, h, ho, _ => by
    simp only [consec] at h
    have := Nat.eq_of_beq_eq_true h; subst this
    refine ⟨[], rfl, ?_, fun i x q hi => by simp at hi⟩
    rw [List.drop_of_length_le (by omega)]; simp only [List.flatten_nil, LF]
  | (t, off) :: r, o, h, ho, hp => by
    simp only [consec, Bool.and_eq_true] at h
    have := Nat.eq_of_beq_eq_true h.1; subst this
    obtain ⟨cas, hs, hLF⟩ := hp (t, off) (List.mem_cons_self ..)
    cases hlk : lk td t with
    | none => rw [hlk] at h; cases h.2
    | some d =>
      rw [hlk] at h
      have hcs := cellsOf_td (P := P) hlk
      have hle : off + d.size ≤ n := by
        have key : ∀ {fs : List (TypeId × Nat)} {o : Nat}, consec td o fs n = true → o ≤ n := by
          intro fs
          induction fs with
          | nil => intro o h; simp only [consec] at h; exact Nat.le_of_eq (Nat.eq_of_beq_eq_true h)
          | cons q r ih =>
            intro o h
            obtain ⟨t, off⟩ := q
            simp only [consec, Bool.and_eq_true] at h
            cases hq : lk td t with
            | none => rw [hq] at h; cases h.2
            | some d => rw [hq] at h; have := ih h.2; omega
        exact key h.2
      obtain ⟨parts, q1, q2, q3⟩ := consec_partsB hl h.2 hle (fun q hq => hp q (List.mem_cons_of_mem _ hq))
      refine ⟨cas :: parts, by simp [q1], ?_, fun i x q hi hq => ?_⟩
      · rw [List.flatten_cons]
        simp only [hcs] at hLF
        have := LF_append hLF q2
        have e : (cs.drop off).take d.size ++ cs.drop (off + d.size) = cs.drop off := by
          rw [← List.drop_drop]; exact List.take_append_drop ..
        rwa [e] at this
      · cases i with
        | zero => simp at hi hq; subst hi hq; exact ⟨hLF, hs⟩
        | succ i => exact q3 i x q (by simpa using hi) (by simpa using hq)
theorem trod_LFB {C : List Nat} (hC : closedT td C = true) (hB : byteT td C = true) : ∀ (f : Nat) (t : Nat) (cs : List Value) (r : DataW H × List MemPlace), t ∈ C → DataW.trod enc P W 0 sp true f t cs = some r → (r.1.weights P t).all (· ≤ B) = true →
    ∃ cas, ShpB td B f t cas ∧ LF (below W) W cas cs := by
  intro f
  induction f with
  | zero => intro t cs r _ h _; simp [DataW.trod] at h
  | succ f ih =>
    intro t cs r ht h hw
    have hc := List.all_eq_true.1 hC t ht
    cases hl : lk td t with
    | none => simp [hl] at hc
    | some d =>
      simp only [hl] at hc
      obtain ⟨i, u, z, h1, h2, h3, h4, h5, h6, h7⟩ := tok_parts (P := P) hl
      cases hk : d.k with
      | bool =>
        rw [hk] at h4
        cases u <;> simp only [tk, reduceCtorEq] at h4
        obtain ⟨b, rfl, _⟩ := DataW.trod_bool h2 h
        exact ⟨[.v (.bool b)], by simp only [ShpB, hl, Option.map_some, hk]; exact ⟨b, rfl⟩, by simp only [LF, RF]; exact ⟨_, [], rfl, rfl, rfl, rfl⟩⟩
      | int k =>
        rw [hk] at h4
        cases u <;> simp only [tk, reduceCtorEq, TK.int.injEq] at h4
        subst h4
        obtain ⟨n, rfl, _, hwf⟩ := DataW.trod_int h2 h
        exact ⟨[.v (.int _ n)], by simp only [ShpB, hl, Option.map_some, hk]; exact ⟨n, rfl, hwf⟩, by simp only [LF, RF]; exact ⟨_, [], rfl, rfl, rfl, rfl⟩⟩
      | str =>
        rw [hk] at h4
        cases u <;> simp only [tk, reduceCtorEq] at h4
        obtain ⟨s, rfl, hx, _⟩ := DataW.trod_string h2 h
        have hs : s.size ≤ B := by
          subst hx
          simp only [DataW.weights, List.all_cons, List.all_nil, Bool.and_true, decide_eq_true_eq, Array.length_toList] at hw
          exact hw
        exact ⟨[.v (.string s)], by simp only [ShpB, hl, Option.map_some, hk]; exact ⟨s, rfl, hs⟩, by simp only [LF, RF]; exact ⟨_, [], rfl, rfl, rfl, rfl⟩⟩
      | slice e =>
        rw [hk] at h4
        cases u <;> simp only [tk, reduceCtorEq, TK.slice.injEq] at h4
        subst h4
        rename_i e
        simp only [hk, Bool.and_eq_true] at hc
        obtain ⟨⟨_, he⟩, hsz⟩ := hc
        have he' : e ∈ C := List.contains_iff_mem.1 he
        cases hle : lk td e with
        | none => rw [hle] at hsz; cases hsz
        | some ed =>
          rw [hle] at hsz
          have hpos : 0 < ed.size := Nat.le_of_ble_eq_true hsz
          have hce := cellsOf_td (P := P) hle
          rcases DataW.trod_slice h2 h with ⟨rfl, _⟩ | ⟨a, len, cap, elems, rest, n, hf, rfl, hx, _, hlc, hcm, hel, hget, _⟩
          · refine ⟨[.fs ed.size 0 []], ?_, ?_⟩
            · simp only [ShpB, hl, Option.map_some, hk]
              exact ⟨ed.size, [], by simp [hle], rfl, Nat.zero_le _, fun x hx => by cases hx⟩
            · simp only [LF, RF]
              exact ⟨_, [], rfl, ⟨rfl, none, 0, rfl, Nat.le_refl _, fun h => absurd rfl h⟩, rfl, rfl⟩
          · injection hf with hf; subst hf
            have hbt := List.all_eq_true.1 hB t ht
            simp only [hl, hk, hle] at hbt
            have hby : 0 < P.bytesOf e := by
              obtain ⟨i', u', z', k1, _, _, _, _, k6, _⟩ := tok_parts (P := P) hle
              simp only [Program.bytesOf, k1, Option.map_some, Option.getD_some]
              rw [k6]; exact Nat.le_of_ble_eq_true hbt
            subst hx
            simp only [DataW.weights, h2, List.all_cons, List.all_append, Bool.and_eq_true, decide_eq_true_eq, List.length_map] at hw
            obtain ⟨hw1, hw2, _⟩ := hw
            have hlenB : len ≤ B := by
              have := Nat.le_mul_of_pos_right (elems.length + rest.length) hby
              omega
            have hwe : ∀ i (y : DataW H × List MemPlace), elems[i]? = some y → (y.1.weights P e).all (· ≤ B) = true := fun i y hy =>
              weightsAll_mem hw2 y.1 (List.mem_map_of_mem (List.mem_of_getElem? hy))
            have key : ∀ i, i < len → ∃ x, ShpB td B f e x ∧ ∃ ys, LF (below W) W x ys ∧ ys.length = ed.size ∧ W.cells? 0 (a.add (i * ed.size)) ed.size = some ys := by
              intro i hi
              have hg := hget i hi
              rw [List.getElem?_eq_getElem (by omega), hce] at hg
              cases hcl : W.cells? 0 (a.add (i * ed.size)) ed.size with
              | none => rw [hcl] at hg; cases hg
              | some ys =>
                rw [hcl] at hg
                simp only [Option.bind_some] at hg
                obtain ⟨x, g1, g2⟩ := ih e ys _ he' hg (hwe i _ (List.getElem?_eq_getElem (by omega)))
                exact ⟨x, g1, ys, g2, (cells?_spec hpos hcl).2.2.1, rfl⟩
            have hes : ∃ es : List (List AV), es.length = len ∧ ∀ i, i < len → ∃ x, es[i]? = some x ∧ ShpB td B f e x ∧ ∃ ys, LF (below W) W x ys ∧ ys.length = ed.size ∧ W.cells? 0 (a.add (i * ed.size)) ed.size = some ys := by
              have : ∀ m, m ≤ len → ∃ es : List (List AV), es.length = m ∧ ∀ i, i < m → ∃ x, es[i]? = some x ∧ ShpB td B f e x ∧ ∃ ys, LF (below W) W x ys ∧ ys.length = ed.size ∧ W.cells? 0 (a.add (i * ed.size)) ed.size = some ys := by
                intro m
                induction m with
                | zero => intro _; exact ⟨[], rfl, fun i h => by omega⟩
                | succ m ihm =>
                  intro hm
                  obtain ⟨es, q1, q2⟩ := ihm (by omega)
                  obtain ⟨x, k1, k2⟩ := key m (by omega)
                  refine ⟨es ++ [x], by simp [q1], fun i hi => ?_⟩
                  by_cases e' : i = m
                  · subst e'; exact ⟨x, by rw [← q1]; simp, k1, k2⟩
                  · obtain ⟨x', r1, r2⟩ := q2 i (by omega)
                    exact ⟨x', by rw [List.getElem?_append_left (by omega)]; exact r1, r2⟩
              exact this len (Nat.le_refl _)
            obtain ⟨es, q1, q2⟩ := hes
            refine ⟨[.fs ed.size len es], ?_, ?_⟩
            · simp only [ShpB, hl, Option.map_some, hk]
              refine ⟨ed.size, es, by simp [hle], by rw [q1], by omega, fun x hx => ?_⟩
              obtain ⟨i, hi⟩ := List.getElem?_of_mem hx
              have hil : i < len := by rcases Nat.lt_or_ge i es.length with h' | h'; omega; rw [List.getElem?_eq_none h'] at hi; cases hi
              obtain ⟨x', r1, r2, _⟩ := q2 i hil
              rw [hi] at r1; injection r1 with r1; subst r1; exact r2
            · simp only [LF, RF]
              refine ⟨_, [], rfl, ⟨q1, some a, cap, rfl, hlc, fun hne => ?_⟩, rfl, rfl⟩
              obtain ⟨x0, _, _, ys0, _, _, hc0⟩ := q2 0 (by omega)
              have hadd0 : a.add (0 * ed.size) = a := by simp [Addr.add]
              rw [hadd0] at hc0
              obtain ⟨hsp, hbl, _, _⟩ := cells?_spec hpos hc0
              obtain ⟨b, off, spot⟩ := a
              simp only at hsp hbl; subst hsp
              refine ⟨b, off, rfl, hbl, ?_⟩
              have : ∀ (es' : List (List AV)) (k : Nat), k + es'.length = len → (∀ i x, es'[i]? = some x → es[k + i]? = some x) → EF (below W) W ed.size es' b (off + k * ed.size) := by
                intro es'
                induction es' with
                | nil => intro k _ _; simp only [EF]
                | cons x r ihr =>
                  intro k hk' hx
                  simp only [EF]
                  obtain ⟨x', r1, _, ys, r2, r3, r4⟩ := q2 k (by simp at hk'; omega)
                  have := hx 0 x rfl
                  rw [Nat.add_zero, r1] at this; injection this with this; subst this
                  rw [Addr.add_mid] at r4
                  obtain ⟨_, _, _, hra⟩ := cells?_spec hpos r4
                  refine ⟨by rw [← r2.length, r3], MF.of r2 hra, ?_⟩
                  have := ihr (k + 1) (by simp at hk'; omega) (fun i z hz => by have := hx (i + 1) z (by simpa using hz); rwa [show k + (i + 1) = k + 1 + i by omega] at this)
                  rwa [show off + (k + 1) * ed.size = off + k * ed.size + ed.size by rw [Nat.add_mul]; omega] at this
              have := this es 0 (by omega) (fun i x h => by simpa using h)
              simpa using this
      | struct fs =>
        rw [hk] at h4
        cases u <;> simp only [tk, reduceCtorEq, TK.struct.injEq] at h4
        subst h4
        rename_i fields
        simp only [hk, Bool.and_eq_true] at hc
        obtain ⟨xs, n, hf, hx, hlen, hxl, hget⟩ := DataW.trod_struct h2 h
        injection hf with hf; subst hf
        subst hx
        simp only [DataW.weights, h2] at hw
        have hcd := cellsOf_td (P := P) hl
        have hin := List.all_eq_true.1 hc.1
        obtain ⟨parts, p1, p2, p3⟩ := consec_partsB (P := P) (f := f) (F := below W) (w := W) (cs := cs) (n := d.size) (by rw [hlen, hcd]) hc.2 (Nat.zero_le _) (fun q hq => by
          obtain ⟨j, hj⟩ := List.getElem?_of_mem hq
          simp only [List.getElem?_map, Array.getElem?_toList] at hj
          cases hfj : fields[j]? with
          | none => simp [hfj] at hj
          | some fl =>
            simp only [hfj, Option.map_some, Option.some.injEq] at hj
            subst hj
            have hg := hget j fl hfj
            have hjl : j < xs.length := by rw [hxl]; exact (Array.getElem?_eq_some_iff.1 hfj).1
            rw [List.getElem?_eq_getElem hjl] at hg
            exact ih _ _ _ (List.contains_iff_mem.1 (hin _ hq)) hg (weightsEach_get hw j _ _ (by simp [hfj]) (by rw [List.getElem?_map, List.getElem?_eq_getElem hjl]; rfl)))
        refine ⟨parts.flatten, ?_, by simpa using p2⟩
        simp only [ShpB, hl, Option.map_some, hk]
        exact ⟨parts, rfl, p1, fun i x q hi hq => (p3 i x q hi hq).2⟩
      | arr n e => simp [hk] at hc
      | ptr e => simp [hk] at hc
      | map k e => simp [hk] at hc
      | iface => simp [hk] at hc
      | other => simp [hk] at hc
end
end Go.Ac
end
section
set_option linter.unusedVariables false
set_option linter.unusedSimpArgs false
set_option linter.unusedSectionVars false
namespace Go.Proofs.YtekkpfbjnjjcbaaGreatDoor
open Go.Ac
variable {B : Nat}
theorem shpB_str {td : TDs} {f t : Nat} {cs : List AV} (hk : (lk td t).map (fun d : TD => d.k) = some .str) (h : ShpB td B f t cs) : ∃ s, cs = [.v (.string s)] ∧ s.size ≤ B := by
  cases f with
  | zero => exact absurd h (by simp [ShpB])
  | succ f => simp only [ShpB, hk] at h; exact h
theorem shpB_int {td : TDs} {f t : Nat} {k : IntKind} {cs : List AV} (hk : (lk td t).map (fun d : TD => d.k) = some (.int k)) (h : ShpB td B f t cs) : ∃ n, cs = [.v (.int k n)] ∧ (Lit.int k n).wf = true := by
  cases f with
  | zero => exact absurd h (by simp [ShpB])
  | succ f => simp only [ShpB, hk] at h; exact h
theorem shpB_slice {α : Type} {e f t sz0 : Nat} {cs : List AV} {enc : α → List AV} {ok : α → Prop} (hk : (lk td t).map (fun d : TD => d.k) = some (.slice e)) (hz : (lk td e).map (fun d : TD => d.size) = some sz0)
    (he : ∀ {f : Nat} {x : List AV}, ShpB td B f e x → ∃ a, x = enc a ∧ ok a) (h : ShpB td B f t cs) : ∃ l : List α, cs = [.fs sz0 l.length (l.map enc)] ∧ l.length ≤ B ∧ ∀ a ∈ l, ok a := by
  cases f with
  | zero => exact absurd h (by simp [ShpB])
  | succ f =>
    simp only [ShpB, hk] at h
    obtain ⟨sz, es, h1, rfl, hlen, hx⟩ := h
    rw [hz] at h1
    injection h1 with h1
    subst h1
    have : ∃ l : List α, es = l.map enc ∧ ∀ a ∈ l, ok a := by
      clear hlen
      induction es with
      | nil => exact ⟨[], rfl, by simp⟩
      | cons x r ih =>
        obtain ⟨t, rfl, ht⟩ := he (hx x (by simp))
        obtain ⟨l, rfl, hl⟩ := ih (fun y hy => hx y (by simp [hy]))
        refine ⟨t :: l, rfl, fun u hu => ?_⟩
        rcases List.mem_cons.1 hu with rfl | hu
        · exact ht
        · exact hl u hu
    obtain ⟨l, rfl, hl⟩ := this
    exact ⟨l, by simp, by simpa using hlen, hl⟩
theorem shpB_stamp {f : Nat} {cs : List AV} (h : ShpB td B f 57 cs) : ∃ t : Stamp, cs = stampC t ∧ True := by
  cases f with
  | zero => exact absurd h (by simp [ShpB])
  | succ f =>
    have hk : (lk td 57).map (fun d : TD => d.k) = some (.struct [(3, 0), (3, 1)]) := rfl
    simp only [ShpB, hk] at h
    obtain ⟨parts, rfl, hl, hp⟩ := h
    match parts, hl with
    | [a, b], _ =>
      obtain ⟨n1, rfl, _⟩ := shpB_int (k := .i64) rfl (hp 0 a _ rfl rfl)
      obtain ⟨n2, rfl, _⟩ := shpB_int (k := .i64) rfl (hp 1 b _ rfl rfl)
      exact ⟨⟨n1, n2⟩, rfl, trivial⟩
theorem shpB_span {f : Nat} {cs : List AV} (h : ShpB td B f 31 cs) : ∃ t : Span, cs = spanC t ∧ True := by
  cases f with
  | zero => exact absurd h (by simp [ShpB])
  | succ f =>
    have hk : (lk td 31).map (fun d : TD => d.k) = some (.struct [(3, 0), (3, 1)]) := rfl
    simp only [ShpB, hk] at h
    obtain ⟨parts, rfl, hl, hp⟩ := h
    match parts, hl with
    | [a, b], _ =>
      obtain ⟨n1, rfl, _⟩ := shpB_int (k := .i64) rfl (hp 0 a _ rfl rfl)
      obtain ⟨n2, rfl, _⟩ := shpB_int (k := .i64) rfl (hp 1 b _ rfl rfl)
      exact ⟨⟨n1, n2⟩, rfl, trivial⟩
theorem shpB_note {f : Nat} {cs : List AV} (h : ShpB td B f 33 cs) : ∃ t : Note, cs = noteC t ∧ I64 t.id ∧ t.text.size ≤ B := by
  cases f with
  | zero => exact absurd h (by simp [ShpB])
  | succ f =>
    have hk : (lk td 33).map (fun d : TD => d.k) = some (.struct [(3, 0), (3, 1), (3, 2), (31, 3), (3, 5), (9, 6)]) := rfl
    simp only [ShpB, hk] at h
    obtain ⟨parts, rfl, hl, hp⟩ := h
    match parts, hl with
    | [a, b, c, d, e, g], _ =>
      obtain ⟨n1, rfl, w⟩ := shpB_int (k := .i64) rfl (hp 0 a _ rfl rfl)
      obtain ⟨n2, rfl, _⟩ := shpB_int (k := .i64) rfl (hp 1 b _ rfl rfl)
      obtain ⟨n3, rfl, _⟩ := shpB_int (k := .i64) rfl (hp 2 c _ rfl rfl)
      obtain ⟨s, rfl, _⟩ := shpB_span (hp 3 d _ rfl rfl)
      obtain ⟨n4, rfl, _⟩ := shpB_int (k := .i64) rfl (hp 4 e _ rfl rfl)
      obtain ⟨t, rfl, ht⟩ := shpB_str rfl (hp 5 g _ rfl rfl)
      exact ⟨⟨n1, n2, n3, s, n4, t⟩, rfl, wf64 w, ht⟩
theorem shpB_stamps {f : Nat} {cs : List AV} (h : ShpB td B f 60 cs) : ∃ l : List Stamp, cs = [encStamps l] ∧ l.length ≤ B := by
  obtain ⟨l, h, hl, _⟩ := shpB_slice (enc := stampC) (ok := fun _ => True) rfl rfl (fun h => shpB_stamp h) h
  exact ⟨l, h, hl⟩
def OpB (B : Nat) (o : Op) : Prop := I64 o.note.id ∧ o.text.size ≤ B ∧ o.note.text.size ≤ B ∧ o.over.length ≤ B
theorem shpB_op {f : Nat} {cs : List AV} (h : ShpB td B f 62 cs) : ∃ o : Op, cs = opC o ∧ OpB B o := by
  cases f with
  | zero => exact absurd h (by simp [ShpB])
  | succ f =>
    have hk : (lk td 62).map (fun d : TD => d.k) = some (.struct [(57, 0), (3, 2), (3, 3), (33, 4), (3, 11), (3, 12), (9, 13), (60, 14)]) := rfl
    simp only [ShpB, hk] at h
    obtain ⟨parts, rfl, hl, hp⟩ := h
    match parts, hl with
    | [a, b, c, d, e, g, i, j], _ =>
      obtain ⟨t, rfl, _⟩ := shpB_stamp (hp 0 a _ rfl rfl)
      obtain ⟨n1, rfl, _⟩ := shpB_int (k := .i64) rfl (hp 1 b _ rfl rfl)
      obtain ⟨n2, rfl, _⟩ := shpB_int (k := .i64) rfl (hp 2 c _ rfl rfl)
      obtain ⟨n, rfl, hn, hnt⟩ := shpB_note (hp 3 d _ rfl rfl)
      obtain ⟨n4, rfl, _⟩ := shpB_int (k := .i64) rfl (hp 4 e _ rfl rfl)
      obtain ⟨n5, rfl, _⟩ := shpB_int (k := .i64) rfl (hp 5 g _ rfl rfl)
      obtain ⟨s, rfl, hs⟩ := shpB_str rfl (hp 6 i _ rfl rfl)
      obtain ⟨l, rfl, hl⟩ := shpB_stamps (hp 7 j _ rfl rfl)
      exact ⟨⟨t, n1, n2, n, n4, n5, s, l⟩, rfl, hn, hs, hnt, hl⟩
theorem shpB_ops {f : Nat} {cs : List AV} (h : ShpB td B f 23 cs) : ∃ l : List Op, cs = [encOps l] ∧ l.length ≤ B ∧ ∀ o ∈ l, OpB B o :=
  shpB_slice (enc := opC) rfl rfl (fun h => shpB_op h) h
theorem shpB_ints {f : Nat} {cs : List AV} (h : ShpB td B f 22 cs) : ∃ l : List Int, cs = [encIs l] ∧ l.length ≤ B ∧ ∀ n ∈ l, I64 n :=
  shpB_slice (enc := intC) rfl rfl (fun h => by obtain ⟨n, rfl, w⟩ := shpB_int (k := .i64) rfl h; exact ⟨n, rfl, wf64 w⟩) h
theorem shpB_replica {f : Nat} {cs : List AV} (h : ShpB td B f 25 cs) : ∃ r : Replica, cs = repC r ∧ ∀ o ∈ r.ops, OpB B o := by
  cases f with
  | zero => exact absurd h (by simp [ShpB])
  | succ f =>
    have hk : (lk td 25).map (fun d : TD => d.k) = some (.struct [(3, 0), (22, 1), (23, 2)]) := rfl
    simp only [ShpB, hk] at h
    obtain ⟨parts, rfl, hl, hp⟩ := h
    match parts, hl with
    | [a, b, c], _ =>
      obtain ⟨n1, rfl, _⟩ := shpB_int (k := .i64) rfl (hp 0 a _ rfl rfl)
      obtain ⟨l, rfl, _⟩ := shpB_ints (hp 1 b _ rfl rfl)
      obtain ⟨m, rfl, _, hm⟩ := shpB_ops (hp 2 c _ rfl rfl)
      exact ⟨⟨n1, l, m⟩, rfl, hm⟩
theorem ids_ofB {l : List Op} (h : ∀ o ∈ l, OpB B o) : Ids l := fun o ho => (h o ho).1
theorem held_ofB {l : List Op} (h : ∀ o ∈ l, OpB reachBytes o) : Held l := fun o ho => by
  obtain ⟨_, h1, h2, h3⟩ := h o ho
  have : reachBytes = 140737488351232 := rfl
  refine ⟨?_, ?_, ?_⟩ <;> omega
theorem shpB_ask {f : Nat} {cs : List AV} (h : ShpB td B f 50 cs) : ∃ x : Ask, cs = askC x ∧ (∀ o ∈ x.r.ops, OpB B o) ∧ I64 x.note := by
  cases f with
  | zero => exact absurd h (by simp [ShpB])
  | succ f =>
    have hk : (lk td 50).map (fun d : TD => d.k) = some (.struct [(25, 0), (3, 3), (3, 4), (3, 5), (9, 6)]) := rfl
    simp only [ShpB, hk] at h
    obtain ⟨parts, rfl, hl, hp⟩ := h
    match parts, hl with
    | [a, b, c, d, e], _ =>
      obtain ⟨r, rfl, hr⟩ := shpB_replica (hp 0 a _ rfl rfl)
      obtain ⟨n1, rfl, w⟩ := shpB_int (k := .i64) rfl (hp 1 b _ rfl rfl)
      obtain ⟨n2, rfl, _⟩ := shpB_int (k := .i64) rfl (hp 2 c _ rfl rfl)
      obtain ⟨n3, rfl, _⟩ := shpB_int (k := .i64) rfl (hp 3 d _ rfl rfl)
      obtain ⟨s, rfl, _⟩ := shpB_str rfl (hp 4 e _ rfl rfl)
      exact ⟨⟨r, n1, n2, n3, s⟩, rfl, hr, wf64 w⟩
end Go.Proofs.YtekkpfbjnjjcbaaGreatDoor
end
section
set_option linter.unusedVariables false
set_option linter.unusedSimpArgs false
set_option linter.unusedSectionVars false
namespace Go.Proofs.YtekkpfbjnjjcbaaGreatDoor
open Go.Ac
variable {B : Nat}
end Go.Proofs.YtekkpfbjnjjcbaaGreatDoor
end
section
set_option linter.unusedVariables false
set_option linter.unusedSimpArgs false
set_option linter.unusedSectionVars false
namespace Go.Proofs.YtekkpfbjnjjcbaaGreatDoor
open Go.Ac
theorem u8x : U8Extra Tryz.prog laysValid_ren := { n3 := by kernel_rfl, n4 := by kernel_rfl, y3 := by kernel_rfl, y4 := by kernel_rfl, c5 := by kernel_rfl, c119 := by kernel_rfl, c138 := by kernel_rfl }
theorem first_same : Rows.laid_unicode_utf8_first = Go.Lib.firstData := by kernel_rfl
theorem accept_same : (Rows.laid_unicode_utf8_acceptRanges : DataW Unit) = Go.Lib.acceptData := by kernel_rfl
abbrev laidL : List (String × DataW Unit) := [("unicode/utf8.acceptRanges", Rows.laid_unicode_utf8_acceptRanges), ("langdoc/replica.fields", Rows.laid_langdoc_replica_fields), ("unicode/utf8.first", Rows.laid_unicode_utf8_first)]
theorem below_of_cell {W : World} {b o : Nat} {u : Value} (h : W.cell? ⟨b, o, none⟩ = some u) : b < W.heap.size := by
  rcases Nat.lt_or_ge b W.heap.size with g | g
  · exact g
  · exfalso
    have : W.heap[b]? = none := Array.getElem?_eq_none g
    simp [World.cell?, this] at h
theorem laid_glob {W : World} (h : laidMet Tryz.prog laidL W) : ∀ q ∈ GL, below W q.1 ∧ MF (below W) W q.2 q.1 0 := by
  have r3 : Go.Lib.VarReads Tryz.prog W "unicode/utf8.first" Go.Lib.firstData := by
    rw [← first_same]; exact Go.Lib.laidMet.reads h (by simp [laidL])
  have r4 : Go.Lib.VarReads Tryz.prog W "unicode/utf8.acceptRanges" Go.Lib.acceptData := by
    rw [← accept_same]; exact Go.Lib.laidMet.reads h (by simp [laidL])
  have r0 : Go.Lib.VarReads Tryz.prog W "langdoc/replica.fields" (.agg [.lit (.int .i64 0), .lit (.int .i64 1), .lit (.int .i64 2)]) := Go.Lib.laidMet.reads h (by simp [laidL, Rows.laid_langdoc_replica_fields])
  have ht := utf8Tabs_of_readsT (U8Types.of196 laysValid) u8x r3 r4
  have f0 : ∀ i : Nat, i < 3 → W.cell? ⟨0, i, none⟩ = some (.int .i64 i) := by
    obtain ⟨g, t, cs, fuel, p, hg, hty, hvar, hd⟩ := r0
    obtain rfl : g = 0 := Option.some.inj (hg.symm.trans (show Tryz.prog.globalNamed "langdoc/replica.fields" = some 0 by kernel_rfl))
    obtain rfl : t = 106 := Option.some.inj (hty.symm.trans (show (Tryz.prog.globals[0]?).map (·.type) = some 106 by kernel_rfl))
    have hcs := Go.Lib.cells_of_tab (zs := [0, 1, 2]) Tryz.underlying106 Tryz.underlying3 (by kernel_rfl) (by kernel_rfl) hd
    intro i hi
    rw [World.var?_cell hg hvar i, ← Array.getElem?_toList, hcs]
    have : i = 0 ∨ i = 1 ∨ i = 2 := by omega
    rcases this with rfl | rfl | rfl <;> rfl
  intro q hq
  simp only [GL, List.mem_cons, List.not_mem_nil, or_false] at hq
  rcases hq with rfl | rfl | rfl
  · refine ⟨below_of_cell (f0 0 (by omega)), MF.mk fun i x hx => ?_⟩
    have hi : i < 3 := by have := (List.getElem?_eq_some_iff.1 hx).1; simpa using this
    refine ⟨_, by rw [Nat.zero_add]; exact f0 i hi, ?_, rfl⟩
    have : i = 0 ∨ i = 1 ∨ i = 2 := by omega
    rcases this with rfl | rfl | rfl <;> (simp at hx; subst hx; simp [RF])
  · refine ⟨below_of_cell (ht.1 0 (by omega)), MF.mk fun i x hx => ?_⟩
    have hi : i < 256 := by have := (List.getElem?_eq_some_iff.1 hx).1; simpa [firstCs] using this
    refine ⟨_, by rw [Nat.zero_add]; exact ht.1 i hi, ?_, rfl⟩
    simp only [firstCs, List.getElem?_map, List.getElem?_range hi, Option.map_some, Option.some.injEq] at hx
    subst hx; simp [RF]
  · refine ⟨below_of_cell (ht.2 0 (by omega)).1, MF.mk fun i x hx => ?_⟩
    have hi : i < 32 := by have := (List.getElem?_eq_some_iff.1 hx).1; simpa [acceptCs] using this
    simp only [acceptCs, List.getElem?_map, List.getElem?_range hi, Option.map_some, Option.some.injEq] at hx
    subst hx
    have h2 := ht.2 (i / 2) (by omega)
    by_cases he : i % 2 = 0
    · refine ⟨_, by rw [Nat.zero_add, show i = 2 * (i / 2) by omega]; exact h2.1, ?_, rfl⟩
      simp [RF, he]
    · refine ⟨_, by rw [Nat.zero_add, show i = 2 * (i / 2) + 1 by omega]; exact h2.2, ?_, rfl⟩
      simp [RF, he]
end Go.Proofs.YtekkpfbjnjjcbaaGreatDoor
end
section
set_option linter.unusedVariables false
set_option linter.unusedSimpArgs false
set_option linter.unusedSectionVars false
namespace Go.Ac
section
variable {P : Program} {G : Glo} {N : Nat} {S : SL} {L : List LB} {ty : TypeId} {u : Operand}
theorem ev_ne_bool {td : TDs} [T : TOK P td] {t yt : Nat} {e : Operand} {p q : Bool} {tdd : TD} (h1 : val G S u = some (.v (.bool p))) (h2 : val G S e = some (.v (.bool q))) (ht : lk td t = some tdd) (hs : tdd.k = .bool) :
    Ev P G N (.binOp .neq t u e yt) ty S L (.v (.bool (!(p == q)))) := by
  intro o ho _ cx a hc
  have e1 := val_R hc h1
  have e2 := val_R hc h2
  simp only [R] at e1 e2
  refine ⟨.bool (!(p == q)), ?_, by simp only [R]⟩
  have := run_neq_bool (P := P) (w := cx.w) t p q (bool_desc (P := P) ht hs)
  simp only [execOp, ho, e1, e2, Sem.run_bind]
  simp [eqGuard, Result.andThen_ok, Sem.run_pure, this]
end
end Go.Ac
end
section
set_option linter.unusedVariables false
set_option linter.unusedSimpArgs false
set_option linter.unusedSectionVars false
namespace Go.Ac
structure Hold (p : Prop) : Prop where
  out : p
theorem awp_hold (id : Nat) {P : Program} {G : Glo} {N : Nat} {Q : AQ} {S : SL} {L : List LB} {ops : Array Oper} {dr : Bool} (h : Hold (awp P G N (.region id ops dr) Q S L)) : awp P G N (.region id ops dr) Q S L := h.out
end Go.Ac
end
