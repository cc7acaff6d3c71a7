/- A logic of trees over the model's steps, and the contracts of the functions that the laws reach: part 11 of 11. -/
import Derived.Test.YtifpafbmfedpkaaGreatDoorB10
import Derived.Test.YtifpafbmfedpkaaGreatDoorRows
import Derived.Lib.LaidU8T
section
set_option linter.unusedVariables false
set_option linter.unusedSimpArgs false
set_option linter.unusedSectionVars false
namespace Go.Proofs.YtifpafbmfedpkaaGreatDoor
open Go.Ac Go.MapKept
attribute [local irreducible] awp awpL Ev Ev2 EvS thenQ blockQ retQ PCalls OCalls YieldOk IterC ICalls
set_option linter.unusedSimpArgs false
set_option linter.unusedVariables false
theorem FitM.r {a b : List Op} (h : FitM a b) : Fit a := h.fit (by omega) fun o ho => .inl ho
theorem FitM.l {a b : List Op} (h : FitM a b) : Fit b := h.fit (by omega) fun o ho => .inr ho
theorem sortedP {g : List (Nat × List AV)} (l : List Op) (hl : Fit l) : PCalls Tryz.prog g 32 [encOps l] (encOps (sorted l)) := sorted_spec _ l (Nat.le_refl _) hl
theorem last_get {α : Type} {l : List α} {p : α} (h : l.getLast? = some p) : 0 < l.length ∧ l[l.length - 1]? = some p := by
  rw [List.getLast?_eq_getElem?] at h
  refine ⟨?_, h⟩
  cases l with
  | nil => simp at h
  | cons x r => simp
set_option maxRecDepth 8000 in
set_option maxHeartbeats 8000000 in
theorem Merge_spec (r : Replica) (l : List Op) (hF : FitM r.ops l) (hi : Inc r.ops) : PCalls Tryz.prog GL 15 [.agg (repC r), encOps l] (mergeV (merge r l)) := by
  have hlen := hF.len
  have hJ := JoinP_nn (g := GL)
  have hSo := sortedP (g := GL) l hF.l
  have hB := both_spec (g := GL) r.ops (sorted l)
  have hI := both1_spec (g := GL) r.ops (sorted l) hF.r hF.l.sorted
  have hgu := gather_unite hi l
  have htl : (both r.ops (sorted l)).length = r.ops.length + l.length := by rw [both_len, sorted_len]
  have htm : ∀ o ∈ both r.ops (sorted l), o ∈ r.ops ∨ o ∈ l := fun o ho => by rw [both_mem, sorted_mem] at ho; exact ho
  have n1 : (!true) = false := rfl
  have n2 : (!false) = true := rfl
  refine pcalls' Tryz.func15 Tryz.ntmps15 rfl rfl rfl ?_
  repeat' (first
   | refine st [4, 5, 6] ?_
   | ((with_reducible refine is_awp ?_); refine awp_cond rfl (fun h => ?_) (fun h => ?_))
   | fail)
  generalize both r.ops (sorted l) = t at *
  have hok := outK_ok t
  refine awp_adoptC 2 2 50 15 rfl rfl rfl rfl ?_
  refine awp_rangeP (okK t) (fun i => [.box zeroRepC, .box [vi 0], .box [vi r.dev, encIs (seenL (outK t i)), .os 3 (outK t i).length], .own (outK t i).length 50 15 ((outK t i).map opC)]) rfl rfl rfl rfl hI (okK_zero t) rfl (fun _ => rfl) (fun _ => rfl) rfl (fun i xs hx => by obtain ⟨o, _, rfl⟩ := yield_get hx; rfl) ?_ ?_
  · intro i xs lp hx hφ
    obtain ⟨o, ho, rfl⟩ := yield_get hx
    have hil : i < t.length := (List.getElem?_eq_some_iff.1 ho).1
    obtain ⟨hol, hom⟩ := hok i
    have hoo : o.over.length ≤ 1000000 := by have := hF.ov o (htm o (List.mem_of_getElem? ho)); omega
    have hsucc := outK_succ ho
    have hmb : ((outK t i).map opC).length ≤ 1000 := by rw [List.length_map]; omega
    refine runn [4, 5, 6] ?_
    refine ⟨rfl, rfl, ?_⟩
    cases hlast : (outK t i).getLast? with
    | none =>
      obtain ⟨hb, hst⟩ := gbad_none (o := o) hlast
      rw [hst] at hsucc
      have hnil : (outK t i).length = 0 := by
        have : outK t i = [] := by simpa using hlast
        rw [this]; rfl
      have c1 : decide ((0 : Int) < (((outK t i).map opC).length : Nat)) = false := decide_eq_false (by rw [List.length_map]; omega)
      have hj : (outK t i).map opC ++ [opC o] = (outK t (i + 1)).map opC := by rw [hsucc]; simp
      have hv : (outK t (i + 1)).length = (outK t i).length + 1 := by rw [hsucc]; simp
      have hS := SeeP (g := GL) (seenL (outK t i)) o.at_ (by rw [seenL_len]; omega)
      rw [← seenL_snoc, ← hsucc] at hS
      repeat' (first
       | ((with_reducible refine is_un ?_); refine awpL_ev2 (ev_app (es' := (outK t (i + 1)).map opC) rfl rfl rfl rfl rfl rfl rfl rfl rfl rfl rfl rfl rfl (by simp only [List.length_map, List.length_cons, List.length_nil, List.length_append, List.length_take]; omega) hj rfl) rfl ?_)
       | refine st [4, 5, 6] ?_
       | fail)
      exact roundNP (okK_succ hφ ho hb) ⟨.nil, by rw [hv]; rfl, rfl, rfl⟩
    | some p =>
      obtain ⟨hpos, hpl⟩ := last_get hlast
      have c1 : decide ((0 : Int) < (((outK t i).map opC).length : Nat)) = true := decide_eq_true (by rw [List.length_map]; omega)
      have hc : 0 ≤ ((((outK t i).map opC).length : Nat) : Int) - 1 ∧ ((((outK t i).map opC).length : Nat) : Int) - 1 < ((outK t i).map opC).length := by rw [List.length_map]; omega
      have hel : ((outK t i).map opC)[(((((outK t i).map opC).length : Nat) : Int) - 1).toNat]? = some (opC p) := by
        rw [List.length_map, show ((((outK t i).length : Nat) : Int) - 1).toNat = (outK t i).length - 1 by omega, List.getElem?_map, hpl]; rfl
      by_cases he : p.at_ = o.at_
      · obtain ⟨hb, hst⟩ := gbad_eq hlast he
        rw [hst] at hsucc
        have e1 : (p.at_.count == o.at_.count && p.at_.dev == o.at_.dev) = true := by rw [he]; simp
        have hpo : p.over.length ≤ 1000000 := by have := hF.ov p (htm p (hom p (List.mem_of_getLast? hlast))); omega
        have hSm := Same_spec (g := GL) p o hpo hoo
        cases hd : decide (p = o) with
        | true =>
          rw [hd] at hSm hb
          repeat' (first
           | ((with_reducible refine isD_un ?_); (first | refine awpD_un (as_ev (fun _ => ev_eqA (b := true) stampEq_T (by kernel_rfl) rfl rfl rfl rfl (by rw [← e1]; rfl)) rfl rfl) (by (try simp only [List.nil_append, List.cons_append]); (try rfl)) ?_ | refine awpD_un (as_pure rfl (by repeat' (first | exact Msk.nil | apply Msk.base | apply Msk.vis rfl | apply Msk.hid rfl)) (ev_el_agg (f := stampC p.at_) rfl rfl rfl rfl hel rfl rfl) rfl rfl rfl) (by (try simp only [List.nil_append, List.cons_append]); (try rfl)) ?_ | refine awpD_un (as_pure rfl (by repeat' (first | exact Msk.nil | apply Msk.base | apply Msk.vis rfl | apply Msk.hid rfl)) (ev_el_agg (f := opC p) rfl rfl rfl rfl hel rfl rfl) rfl rfl rfl) (by (try simp only [List.nil_append, List.cons_append]); (try rfl)) ?_))
           | ((with_reducible refine isD_gd ?_); (first | refine awpD_gd rfl rfl (by first | with_reducible rfl | with_reducible assumption) (as_ev (fun _ => ev_eqA (b := true) stampEq_T (by kernel_rfl) rfl rfl rfl rfl (by rw [← e1]; rfl)) rfl rfl) (by (try simp only [List.nil_append, List.cons_append]); (try rfl)) ?_ | refine awpD_gd rfl rfl (by first | with_reducible rfl | with_reducible assumption) (as_pure rfl (by repeat' (first | exact Msk.nil | apply Msk.base | apply Msk.vis rfl | apply Msk.hid rfl)) (ev_el_agg (f := stampC p.at_) rfl rfl rfl rfl hel rfl rfl) rfl rfl rfl) (by (try simp only [List.nil_append, List.cons_append]); (try rfl)) ?_ | refine awpD_gd rfl rfl (by first | with_reducible rfl | with_reducible assumption) (as_pure rfl (by repeat' (first | exact Msk.nil | apply Msk.base | apply Msk.vis rfl | apply Msk.hid rfl)) (ev_el_agg (f := opC p) rfl rfl rfl rfl hel rfl rfl) rfl rfl rfl) (by (try simp only [List.nil_append, List.cons_append]); (try rfl)) ?_))
           | refine st [4, 5, 6] ?_
           | fail)
          exact roundNP (okK_succ hφ ho hb) ⟨.nil, by rw [hsucc]; rfl, rfl, rfl⟩
        | false =>
          rw [hd] at hSm hb
          repeat' (first
           | ((with_reducible refine isD_un ?_); (first | refine awpD_un (as_ev (fun _ => ev_eqA (b := true) stampEq_T (by kernel_rfl) rfl rfl rfl rfl (by rw [← e1]; rfl)) rfl rfl) (by (try simp only [List.nil_append, List.cons_append]); (try rfl)) ?_ | refine awpD_un (as_pure rfl (by repeat' (first | exact Msk.nil | apply Msk.base | apply Msk.vis rfl | apply Msk.hid rfl)) (ev_el_agg (f := stampC p.at_) rfl rfl rfl rfl hel rfl rfl) rfl rfl rfl) (by (try simp only [List.nil_append, List.cons_append]); (try rfl)) ?_ | refine awpD_un (as_pure rfl (by repeat' (first | exact Msk.nil | apply Msk.base | apply Msk.vis rfl | apply Msk.hid rfl)) (ev_el_agg (f := opC p) rfl rfl rfl rfl hel rfl rfl) rfl rfl rfl) (by (try simp only [List.nil_append, List.cons_append]); (try rfl)) ?_))
           | ((with_reducible refine isD_gd ?_); (first | refine awpD_gd rfl rfl (by first | with_reducible rfl | with_reducible assumption) (as_ev (fun _ => ev_eqA (b := true) stampEq_T (by kernel_rfl) rfl rfl rfl rfl (by rw [← e1]; rfl)) rfl rfl) (by (try simp only [List.nil_append, List.cons_append]); (try rfl)) ?_ | refine awpD_gd rfl rfl (by first | with_reducible rfl | with_reducible assumption) (as_pure rfl (by repeat' (first | exact Msk.nil | apply Msk.base | apply Msk.vis rfl | apply Msk.hid rfl)) (ev_el_agg (f := stampC p.at_) rfl rfl rfl rfl hel rfl rfl) rfl rfl rfl) (by (try simp only [List.nil_append, List.cons_append]); (try rfl)) ?_ | refine awpD_gd rfl rfl (by first | with_reducible rfl | with_reducible assumption) (as_pure rfl (by repeat' (first | exact Msk.nil | apply Msk.base | apply Msk.vis rfl | apply Msk.hid rfl)) (ev_el_agg (f := opC p) rfl rfl rfl rfl hel rfl rfl) rfl rfl rfl) (by (try simp only [List.nil_append, List.cons_append]); (try rfl)) ?_))
           | refine st [4, 5, 6] ?_
           | fail)
          refine roundRP [.box zeroRepC, .box [vi 8], .box [vi r.dev, encIs (seenL (outK t i)), .os 3 (outK t i).length], .own (outK t i).length 50 15 ((outK t i).map opC)] ⟨.nil, rfl, rfl, rfl⟩ rfl ?_
          rw [merge_none (hgu.symm.trans (okK_bad hφ ho hb))]
          refine blockQ_r (thenQ_r ?_)
          exact retLe rfl (le_zeroM 8)
      · obtain ⟨hb, hst⟩ := gbad_ne hlast he
        rw [hst] at hsucc
        have e1 : (p.at_.count == o.at_.count && p.at_.dev == o.at_.dev) = false := by
          cases hq : (p.at_.count == o.at_.count && p.at_.dev == o.at_.dev) with
          | false => rfl
          | true => exact absurd (stamp_ext (by simpa using hq)) he
        have hj : (outK t i).map opC ++ [opC o] = (outK t (i + 1)).map opC := by rw [hsucc]; simp
        have hv : (outK t (i + 1)).length = (outK t i).length + 1 := by rw [hsucc]; simp
        have hS := SeeP (g := GL) (seenL (outK t i)) o.at_ (by rw [seenL_len]; omega)
        rw [← seenL_snoc, ← hsucc] at hS
        repeat' (first
         | ((with_reducible refine is_un ?_); refine awpL_ev2 (ev_app (es' := (outK t (i + 1)).map opC) rfl rfl rfl rfl rfl rfl rfl rfl rfl rfl rfl rfl rfl (by simp only [List.length_map, List.length_cons, List.length_nil, List.length_append, List.length_take]; omega) hj rfl) rfl ?_)
         | ((with_reducible refine isD_un ?_); refine awpD_un (as_ev (fun _ => ev_eqA (b := false) stampEq_T (by kernel_rfl) rfl rfl rfl rfl (by rw [← e1]; rfl)) rfl rfl) (by (try simp only [List.nil_append, List.cons_append]); (try rfl)) ?_)
         | ((with_reducible refine isD_gd ?_); (first | refine awpD_gd rfl rfl (by first | with_reducible rfl | with_reducible assumption) (as_ev (fun _ => ev_eqA (b := false) stampEq_T (by kernel_rfl) rfl rfl rfl rfl (by rw [← e1]; rfl)) rfl rfl) (by (try simp only [List.nil_append, List.cons_append]); (try rfl)) ?_ | refine awpD_gd rfl rfl (by first | with_reducible rfl | with_reducible assumption) (as_pure rfl (by repeat' (first | exact Msk.nil | apply Msk.base | apply Msk.vis rfl | apply Msk.hid rfl)) (ev_el_agg (f := stampC p.at_) rfl rfl rfl rfl hel rfl rfl) rfl rfl rfl) (by (try simp only [List.nil_append, List.cons_append]); (try rfl)) ?_ | refine awpD_gd rfl rfl (by first | with_reducible rfl | with_reducible assumption) (as_pure rfl (by repeat' (first | exact Msk.nil | apply Msk.base | apply Msk.vis rfl | apply Msk.hid rfl)) (ev_el_agg (f := opC p) rfl rfl rfl rfl hel rfl rfl) rfl rfl rfl) (by (try simp only [List.nil_append, List.cons_append]); (try rfl)) ?_))
         | refine st [4, 5, 6] ?_
         | fail)
        exact roundNP (okK_succ hφ ho hb) ⟨.nil, by rw [hv]; rfl, rfl, rfl⟩
  · intro hφ
    simp only [List.length_map] at hφ ⊢
    have hu := hgu.symm.trans (okK_end hφ)
    obtain ⟨hol, hom⟩ := hok t.length
    generalize outK t t.length = out at *
    have hC := Check_spec (joined r out) (by rw [joined, seenL_len]; omega) (hF.ids fun o ho => htm o (hom o ho))
    have hC' : PCalls Tryz.prog GL 9 [.agg [vi r.dev, encIs (seenL out), .fs 15 (out.map opC).length (out.map opC)]] (vi (repE (joined r out))) := by rw [List.length_map]; exact hC
    have hx : exL [.box zeroRepC, .box [vi 0], .box [vi r.dev, encIs (seenL out), .os 3 out.length], .own out.length 50 15 (out.map opC)] [.lag [vi r.dev, encIs (seenL out), .os 3 out.length]] = [.agg [vi r.dev, encIs (seenL out), .fs 15 (out.map opC).length (out.map opC)]] := by simp [exL, ex]
    by_cases he : repE (joined r out) = 0
    · have c2 : (!decide (repE (joined r out) = 0)) = false := by simp [he]
      rw [merge_ok hu he]
      repeat' (first
       | ((with_reducible refine is_un ?_); refine awpL_callS rfl hx hC' rfl rfl ?_)
       | refine stn [4, 5, 6] ?_
       | fail)
      refine retP rfl ?_
      simp [ex, exL, mergeV, joined, repC]
    · have c2 : (!decide (repE (joined r out) = 0)) = true := by simp [he]
      rw [merge_bad hu he]
      repeat' (first
       | ((with_reducible refine is_un ?_); refine awpL_callS rfl hx hC' rfl rfl ?_)
       | refine stn [4, 5, 6] ?_
       | fail)
      exact retLe rfl (le_zeroM _)
end Go.Proofs.YtifpafbmfedpkaaGreatDoor
end
section
set_option linter.unusedVariables false
set_option linter.unusedSimpArgs false
set_option linter.unusedSectionVars false
namespace Go.Proofs.YtifpafbmfedpkaaGreatDoor
open Go.Ac Go.MapKept
attribute [local irreducible] awp awpL Ev Ev2 EvS thenQ blockQ retQ PCalls OCalls YieldOk IterC ICalls
set_option linter.unusedSimpArgs false
set_option linter.unusedVariables false
set_option maxRecDepth 4000 in
set_option maxHeartbeats 4000000 in
theorem Sync_spec (a b : Replica) (hF : FitM a.ops b.ops) (hG : FitM b.ops a.ops) (ha : Inc a.ops) (hb : Inc b.ops) : PCalls Tryz.prog GL 6 [.agg (repC a), .agg (repC b)] (syncV (sync a b)) := by
  have h1 := Merge_spec a b.ops hF ha
  have h2 := Merge_spec b a.ops hG hb
  rw [mergeV] at h1 h2
  refine pcalls' Tryz.func6 Tryz.ntmps6 rfl rfl rfl ?_
  by_cases he : (merge a b.ops).2 = 0
  · have c1 : (!decide ((merge a b.ops).2 = 0)) = false := by simp [he]
    by_cases hf : (merge b a.ops).2 = 0
    · have c2 : (!decide ((merge b a.ops).2 = 0)) = false := by simp [hf]
      rw [sync, if_neg (by simpa using he), if_neg (by simpa using hf)]
      refine run [4, 5] ?_
      exact retP rfl rfl
    · have c2 : (!decide ((merge b a.ops).2 = 0)) = true := by simp [hf]
      rw [sync, if_neg (by simpa using he), if_pos hf]
      refine run [4, 5] ?_
      exact retP rfl rfl
  · have c1 : (!decide ((merge a b.ops).2 = 0)) = true := by simp [he]
    rw [sync, if_pos he]
    refine run [4, 5] ?_
    exact retP rfl rfl
theorem Behind_eq (a b : Replica) (ha : FitR a) (hb : FitR b) (hi : Inc a.ops) {g : List (Nat × List AV)} : PCalls Tryz.prog g 11 [.agg (repC a), .agg (repC b)] (vi (behind a.ops b.ops)) := by
  have := Behind_spec (g := g) a b ha hb
  rwa [behindM_eq hi] at this
def agree (a b : Replica) : Bool := decide (behind a.ops b.ops = 0) && decide (behind b.ops a.ops = 0)
theorem Agree_spec (a b : Replica) (ha : FitR a) (hb : FitR b) (hi : Inc a.ops) (hj : Inc b.ops) {g : List (Nat × List AV)} : PCalls Tryz.prog g 10 [.agg (repC a), .agg (repC b)] (vb (agree a b)) := by
  have h1 := Behind_eq (g := g) a b ha hb hi
  have h2 := Behind_eq (g := g) b a hb ha hj
  refine pcalls' Tryz.func10 Tryz.ntmps10 rfl rfl rfl ?_
  repeat' (first
   | refine stn [] ?_
   | ((with_reducible refine is_gd ?_); refine awpL_split rfl rfl (fun h => ?_) (fun h => ?_))
   | fail)
  all_goals refine retP rfl ?_
  all_goals clear h1 h2
  all_goals simp_all [ex, agree]
  all_goals omega
theorem MissingP (r : Replica) (seen : List Int) (most : Int) (hr : FitR r) (hs : seen.length ≤ 1000000) {g : List (Nat × List AV)} : PCalls Tryz.prog g 18 [.agg (repC r), encIs seen, vi most] (encOps (missing r.ops seen most)) := by
  have := (Missing_spec (g := g) r seen most hr hs).toP
  rwa [List.length_map] at this
end Go.Proofs.YtifpafbmfedpkaaGreatDoor
end
section
set_option linter.unusedVariables false
set_option linter.unusedSimpArgs false
set_option linter.unusedSectionVars false
namespace Go.Proofs.YtifpafbmfedpkaaGreatDoor
open Go.Ac Go.MapKept
attribute [local irreducible] awp awpL Ev Ev2 EvS thenQ blockQ retQ PCalls OCalls YieldOk IterC ICalls
set_option linter.unusedSimpArgs false
set_option linter.unusedVariables false
def tBa : ByteArray := ⟨#[98, 97]⟩
def tMi : ByteArray := ⟨#[109, 105]⟩
def tPa : ByteArray := ⟨#[112, 97]⟩
def opA : Op := addOp 1 1 tBa
def opB : Op := addOp 1 2 tMi
def opP : Op := addOp 1 3 tPa
def opD : Op := addOp 1 1 tPa
def opS : Op := ⟨⟨3, 3⟩, 1, 1, ⟨19, 0, 0, ⟨0, 0⟩, 0, .empty⟩, 0, 0, ⟨#[120]⟩, [⟨1, 3⟩]⟩
def vec (a b c : Int) : List Int := [a, b, c, 0, 0, 0, 0, 0, 0, 0, 0, 0, 0, 0, 0]
def rA : Replica := ⟨1, vec 1 0 0, [opA]⟩
def rB : Replica := ⟨2, vec 0 1 0, [opB]⟩
def rC : Replica := ⟨3, vec 0 0 3, [opP, opS]⟩
def rX : Replica := ⟨1, vec 1 1 0, [opA, opB]⟩
def rY : Replica := ⟨2, vec 1 1 0, [opA, opB]⟩
def rV : Replica := ⟨2, vec 1 1 3, [opA, opB, opP, opS]⟩
def rZ : Replica := ⟨3, vec 1 1 3, [opA, opB, opP, opS]⟩
theorem m1 : merge (start 1) [opA] = (rA, 0) := by kernel_rfl
theorem m2 : merge (start 2) [opB] = (rB, 0) := by kernel_rfl
theorem m3 : merge (start 1) [opS] = (zeroRep, 9) := by kernel_rfl
theorem m4 : merge (start 3) [opS, opP] = (rC, 0) := by kernel_rfl
theorem m5 : merge (start 1) [opA, opD] = (zeroRep, 8) := by kernel_rfl
theorem s1 : sync rA rB = (rX, rY, 0) := by kernel_rfl
theorem s2 : sync rY rC = (rV, rZ, 0) := by kernel_rfl
theorem g1 : agree rX rY = true := by kernel_rfl
theorem g2 : agree rA rB = false := by kernel_rfl
theorem g3 : behind rA.ops rB.ops = 1 := by kernel_rfl
theorem g4 : (missing rZ.ops rA.seen 2).length = 2 := by kernel_rfl
theorem g5 : (missing rZ.ops rA.seen 9).length = 3 := by kernel_rfl
def opF (o : Op) : Bool := decide (o.over.length ≤ 1000) && (decide (-9223372036854775808 ≤ o.note.id) && decide (o.note.id ≤ 9223372036854775807))
def fitB (a b : List Op) : Bool := decide (a.length + b.length ≤ 1000) && (a.all opF && b.all opF)
theorem opF_ov {o : Op} (h : opF o = true) : o.over.length ≤ 100000 ∧ I64 o.note.id := by
  simp [opF] at h
  exact ⟨by omega, h.2⟩
theorem FitM.of {a b : List Op} (h : fitB a b = true) : FitM a b := by
  simp only [fitB, Bool.and_eq_true, decide_eq_true_eq, List.all_eq_true] at h
  refine ⟨h.1, fun o ho => (opF_ov (ho.elim (h.2.1 o) (h.2.2 o))).1, fun o ho => (opF_ov (ho.elim (h.2.1 o) (h.2.2 o))).2⟩
theorem Inc.of {l : List Op} (h : (decide (l.Pairwise fun a b => less a.at_ b.at_ = true)) = true) : Inc l := (of_decide_eq_true h : l.Pairwise fun a b => less a.at_ b.at_ = true)
def fitRB (r : Replica) : Bool := decide (r.ops.length ≤ 1000) && (r.ops.all opF && decide (r.seen.length ≤ 1000))
theorem FitR.of {r : Replica} (h : fitRB r = true) : FitR r := by
  simp only [fitRB, Bool.and_eq_true, decide_eq_true_eq, List.all_eq_true] at h
  exact ⟨⟨by omega, fun o ho => (opF_ov (h.2.1 o ho)).1⟩, by omega⟩
set_option maxRecDepth 8000 in
set_option maxHeartbeats 8000000 in
theorem awake_spec : PCalls Tryz.prog GL 5 [] (vb true) := by
  have k1 : PCalls Tryz.prog GL 15 [.agg (repC (start 1)), encOps [opA]] (.tup [.agg (repC rA), vi 0]) := by
    have := Merge_spec (start 1) [opA] (FitM.of (by kernel_rfl)) (Inc.of (by kernel_rfl)); rw [m1] at this; exact this
  have k2 : PCalls Tryz.prog GL 15 [.agg (repC (start 2)), encOps [opB]] (.tup [.agg (repC rB), vi 0]) := by
    have := Merge_spec (start 2) [opB] (FitM.of (by kernel_rfl)) (Inc.of (by kernel_rfl)); rw [m2] at this; exact this
  have k3 : PCalls Tryz.prog GL 15 [.agg (repC (start 1)), encOps [opS]] (.tup [.agg (repC zeroRep), vi 9]) := by
    have := Merge_spec (start 1) [opS] (FitM.of (by kernel_rfl)) (Inc.of (by kernel_rfl)); rw [m3] at this; exact this
  have k4 : PCalls Tryz.prog GL 15 [.agg (repC (start 3)), encOps [opS, opP]] (.tup [.agg (repC rC), vi 0]) := by
    have := Merge_spec (start 3) [opS, opP] (FitM.of (by kernel_rfl)) (Inc.of (by kernel_rfl)); rw [m4] at this; exact this
  have k5 : PCalls Tryz.prog GL 15 [.agg (repC (start 1)), encOps [opA, opD]] (.tup [.agg (repC zeroRep), vi 8]) := by
    have := Merge_spec (start 1) [opA, opD] (FitM.of (by kernel_rfl)) (Inc.of (by kernel_rfl)); rw [m5] at this; exact this
  have y1 : PCalls Tryz.prog GL 6 [.agg (repC rA), .agg (repC rB)] (.tup [.agg (repC rX), .agg (repC rY), vi 0]) := by
    have := Sync_spec rA rB (FitM.of (by kernel_rfl)) (FitM.of (by kernel_rfl)) (Inc.of (by kernel_rfl)) (Inc.of (by kernel_rfl)); rw [s1] at this; exact this
  have y2 : PCalls Tryz.prog GL 6 [.agg (repC rY), .agg (repC rC)] (.tup [.agg (repC rV), .agg (repC rZ), vi 0]) := by
    have := Sync_spec rY rC (FitM.of (by kernel_rfl)) (FitM.of (by kernel_rfl)) (Inc.of (by kernel_rfl)) (Inc.of (by kernel_rfl)); rw [s2] at this; exact this
  have a1 := Agree_spec rX rY (g := GL) (FitR.of (by kernel_rfl)) (FitR.of (by kernel_rfl)) (Inc.of (by kernel_rfl)) (Inc.of (by kernel_rfl))
  have a2 := Agree_spec rA rB (g := GL) (FitR.of (by kernel_rfl)) (FitR.of (by kernel_rfl)) (Inc.of (by kernel_rfl)) (Inc.of (by kernel_rfl))
  rw [g1] at a1
  rw [g2] at a2
  have b1 := Behind_eq rA rB (g := GL) (FitR.of (by kernel_rfl)) (FitR.of (by kernel_rfl)) (Inc.of (by kernel_rfl))
  rw [g3] at b1
  have q1 := MissingP rZ rA.seen 2 (g := GL) (FitR.of (by kernel_rfl)) (by decide)
  have q2 := MissingP rZ rA.seen 9 (g := GL) (FitR.of (by kernel_rfl)) (by decide)
  have st1 := start_spec (g := GL) 1
  have st2 := start_spec (g := GL) 2
  have st3 := start_spec (g := GL) 3
  have ad1 := add_spec (g := GL) 1 1 tBa (by omega) (by omega)
  have ad2 := add_spec (g := GL) 1 2 tMi (by omega) (by omega)
  have ad3 := add_spec (g := GL) 1 3 tPa (by omega) (by omega)
  have ad4 := add_spec (g := GL) 1 1 tPa (by omega) (by omega)
  have n0 : (!decide ((0 : Int) = 0)) = false := rfl
  have n9 : (!decide ((9 : Int) = 9)) = false := rfl
  have n8 : (!decide ((8 : Int) = 8)) = false := rfl
  have n2 : (!decide ((rC.ops.length : Int) = 2)) = false := rfl
  have n3 : (!decide (opP.at_.count = 1)) = false := rfl
  have n4 : (!decide ((rC.seen.length : Int) = 15)) = false := rfl
  have n5 : (!decide ((3 : Int) = 3)) = false := rfl
  have i0 : 0 ≤ (0 : Int) ∧ (rC.ops.map opC)[(0 : Int).toNat]? = some (opC opP) := ⟨by omega, rfl⟩
  have i2 : 0 ≤ (2 : Int) ∧ (rC.seen.map intC)[(2 : Int).toNat]? = some (intC 3) := ⟨by omega, rfl⟩
  have e0 : decide ((0 : Int) = 0) = true := rfl
  have e1 : decide (((1 : Nat) : Int) = 1) = true := rfl
  have e4 : decide ((rZ.ops.length : Int) = 4) = true := rfl
  have e2 : decide (((missing rZ.ops rA.seen 2).length : Int) = 2) = true := by rw [g4]; rfl
  have e3 : decide (((missing rZ.ops rA.seen 9).length : Int) = 3) = true := by rw [g5]; rfl
  have nt : (!false) = true := rfl
  refine pcalls' Tryz.func5 Tryz.ntmps5 rfl rfl rfl ?_
  refine run [] ?_
  refine retP rfl ?_
  simp [ex, e3]
end Go.Proofs.YtifpafbmfedpkaaGreatDoor
end
section
set_option linter.unusedVariables false
set_option linter.unusedSimpArgs false
set_option linter.unusedSectionVars false
namespace Go.Proofs.YtifpafbmfedpkaaGreatDoor
open Go.Ac Go.MapKept
attribute [local irreducible] awp awpL Ev Ev2 EvS thenQ blockQ retQ PCalls OCalls YieldOk IterC ICalls
set_option linter.unusedSimpArgs false
set_option linter.unusedVariables false
theorem light_rep {r : Replica} (h : light r = true) : repE r = 0 ∧ r.ops.length ≤ 16 ∧ r.seen.length ≤ 100 := by
  simp only [light, Bool.and_eq_true, decide_eq_true_eq] at h
  exact ⟨h.2.2, h.1, h.2.1⟩
theorem rep_op {r : Replica} (h : repE r = 0) : ∀ o ∈ r.ops, opE o = 0 := by
  intro o ho
  obtain ⟨k, hk⟩ := List.getElem?_of_mem ho
  exact oneE_opE (allE_split r.ops [] (repE_all h).1 k o hk)
theorem light_fit {r : Replica} (h : light r = true) : FitR r := by
  obtain ⟨h1, h2, h3⟩ := light_rep h
  exact ⟨⟨by omega, fun o ho => by have := opE_over (rep_op h1 o ho); omega⟩, by omega⟩
theorem light_inc {r : Replica} (h : light r = true) : Inc r.ops := repE_inc (light_rep h).1
theorem miss_mem (seen : List Int) (most : Int) : ∀ (l out : List Op) (o : Op), o ∈ l.foldl (missStep seen most) out → o ∈ out ∨ o ∈ l
  | [], out, o, h => .inl h
  | x :: r, out, o, h => by
    rw [List.foldl_cons] at h
    rcases miss_mem seen most r _ o h with h | h
    · unfold missStep at h
      split at h
      · rcases List.mem_append.1 h with h | h
        · exact .inl h
        · simp only [List.mem_singleton] at h; subst h; exact .inr (List.mem_cons_self ..)
      · exact .inl h
    · exact .inr (List.mem_cons_of_mem _ h)
theorem missing_mem {l : List Op} {seen : List Int} {most : Int} {o : Op} (h : o ∈ missing l seen most) : o ∈ l := by
  rcases miss_mem seen most l [] o h with h | h
  · cases h
  · exact h
theorem fitM_of {a b : List Op} (ha : Fit a) (hb : Fit b) (hl : a.length + b.length ≤ 1000) (ia : Ids a) (ib : Ids b) : FitM a b :=
  ⟨hl, fun o ho => ho.elim (ha.2 o) (hb.2 o), fun o ho => ho.elim (ia o) (ib o)⟩
end Go.Proofs.YtifpafbmfedpkaaGreatDoor
end
section
set_option linter.unusedVariables false
set_option linter.unusedSimpArgs false
set_option linter.unusedSectionVars false
namespace Go.Proofs.YtifpafbmfedpkaaGreatDoor
open Go.Ac Go.MapKept
attribute [local irreducible] awp awpL Ev Ev2 EvS thenQ blockQ retQ PCalls OCalls YieldOk IterC ICalls
set_option linter.unusedSimpArgs false
set_option linter.unusedVariables false
theorem rep_fit {r : Replica} (h : repE r = 0) : FitR r := by
  obtain ⟨_, h2, _, _, h3⟩ := repE_all h
  exact ⟨⟨by omega, fun o ho => by have := opE_over (repE_ops h o ho); omega⟩, by rw [h2, seenL_len]; omega⟩
theorem light_fitM {a b : Replica} (ha : light a = true) (hb : light b = true) (ia : Ids a.ops) (ib : Ids b.ops) : FitM a.ops b.ops :=
  fitM_of (light_fit ha).1 (light_fit hb).1 (by have := (light_rep ha).2.1; have := (light_rep hb).2.1; omega) ia ib
end Go.Proofs.YtifpafbmfedpkaaGreatDoor
end
section
set_option linter.unusedVariables false
set_option linter.unusedSimpArgs false
set_option linter.unusedSectionVars false
namespace Go.Proofs.YtifpafbmfedpkaaGreatDoor
theorem missing_take (seen : List Int) (most : Int) (l : List Op) : missing l seen most = (l.filter fun o => !covers seen o.at_).take most.toNat := by
  have H : ∀ (l out : List Op), l.foldl (missStep seen most) out = out ++ (l.filter fun o => !covers seen o.at_).take (most - out.length).toNat := by
    intro l
    induction l with
    | nil => intro out; simp
    | cons o r ih =>
      intro out
      rw [List.foldl_cons]
      by_cases hm : (out.length : Int) < most
      · cases hc : covers seen o.at_ with
        | true =>
          have : missStep seen most out o = out := by unfold missStep; rw [if_neg (by simp [hc])]
          rw [this, ih, List.filter_cons_of_neg (by simp [hc])]
        | false =>
          have : missStep seen most out o = out ++ [o] := by unfold missStep; rw [if_pos ⟨hm, hc⟩]
          rw [this, ih, List.filter_cons_of_pos (by simp [hc])]
          have e : (most - (out.length : Int)).toNat = (most - ((out ++ [o]).length : Int)).toNat + 1 := by simp; omega
          rw [e, List.take_succ_cons]; simp
      · rw [miss_full seen most r _ (by have : missStep seen most out o = out := by unfold missStep; rw [if_neg (by omega)]
                                        rw [this]; omega)]
        have : missStep seen most out o = out := by unfold missStep; rw [if_neg (by omega)]
        rw [this, show (most - (out.length : Int)).toNat = 0 by omega]; simp
  have := H l []
  simpa [missing] using this
theorem num_see {v : List Int} (hl : v.length = 15) (hn : ∀ x ∈ v, 0 ≤ x) {s : Stamp} (hs : right s = true) (i : Nat) : num (see v s) i = if i = (s.dev - 1).toNat then max (num v i) s.count else num v i := by
  rw [see, if_pos hs, join_self hl hn]
  have hd : (s.dev - 1).toNat < 15 := by simp only [right, Bool.and_eq_true, decide_eq_true_eq] at hs; omega
  have h0 := num_nonneg v (s.dev - 1).toNat
  unfold num at *
  rw [List.getElem?_set]
  by_cases h : (s.dev - 1).toNat = i
  · subst h
    rw [if_pos rfl, if_pos (by omega), if_pos rfl]
    simp only [Option.getD_some]; omega
  · rw [if_neg h, if_neg (fun e => h e.symm)]
theorem covers_seenL {l : List Op} (hr : ∀ o ∈ l, right o.at_ = true) {s : Stamp} (hs : right s = true) : covers (seenL l) s = true ↔ ∃ o ∈ l, o.at_.dev = s.dev ∧ s.count ≤ o.at_.count := by
  have H : ∀ (n : Nat) (l : List Op), l.length = n → (∀ o ∈ l, right o.at_ = true) → (s.count ≤ num (seenL l) (s.dev - 1).toNat ↔ ∃ o ∈ l, o.at_.dev = s.dev ∧ s.count ≤ o.at_.count) := by
    intro n
    have hc : 1 ≤ s.count ∧ 1 ≤ s.dev := by simp only [right, Bool.and_eq_true, decide_eq_true_eq] at hs; omega
    induction n with
    | zero =>
      intro l hl _
      have : l = [] := List.eq_nil_of_length_eq_zero hl
      subst this
      rw [seenL_nil]
      constructor
      · intro h
        exfalso
        have : num (List.replicate 15 0) (s.dev - 1).toNat = 0 := by
          unfold num
          rw [List.getElem?_replicate]
          split <;> simp
        omega
      · rintro ⟨o, ho, _⟩; cases ho
    | succ n ih =>
      intro l hl hr
      have hne : l ≠ [] := by intro e; rw [e] at hl; cases hl
      obtain ⟨q, o, rfl⟩ : ∃ q o, l = q ++ [o] := ⟨_, _, (List.dropLast_concat_getLast hne).symm⟩
      have ho := hr o (List.mem_append_right _ (List.mem_singleton_self _))
      have hI := ih q (by simp at hl; exact hl) fun p hp => hr p (List.mem_append_left _ hp)
      rw [seenL_snoc, num_see (seenL_len q) (seenL_nonneg q) ho]
      have hod : 1 ≤ o.at_.dev := by simp only [right, Bool.and_eq_true, decide_eq_true_eq] at ho; omega
      constructor
      · intro h
        split at h
        · rename_i he
          rcases Int.le_total s.count o.at_.count with g | g
          · exact ⟨o, List.mem_append_right _ (List.mem_singleton_self _), by omega, g⟩
          · by_cases g2 : s.count ≤ o.at_.count
            · exact ⟨o, List.mem_append_right _ (List.mem_singleton_self _), by omega, g2⟩
            · obtain ⟨p, hp, h2⟩ := hI.1 (by omega)
              exact ⟨p, List.mem_append_left _ hp, h2⟩
        · obtain ⟨p, hp, h2⟩ := hI.1 h
          exact ⟨p, List.mem_append_left _ hp, h2⟩
      · rintro ⟨p, hp, h1, h2⟩
        rcases List.mem_append.1 hp with hp | hp
        · have := hI.2 ⟨p, hp, h1, h2⟩
          split <;> omega
        · simp only [List.mem_singleton] at hp; subst hp
          rw [if_pos (by omega)]; omega
  have := H _ l rfl hr
  unfold covers
  rw [hs]
  simpa using this
theorem nodup_len {l m : List Op} (hl : l.Nodup) (h : ∀ o ∈ l, o ∈ m) : l.length ≤ m.length := by
  induction l generalizing m with
  | nil => simp
  | cons o r ih =>
    obtain ⟨h1, h2⟩ := List.nodup_cons.1 hl
    have ho := h o (List.mem_cons_self ..)
    have := ih (m := m.erase o) h2 fun p hp => (List.mem_erase_of_ne (fun (e : p = o) => h1 (by rw [← e]; exact hp))).2 (h p (List.mem_cons_of_mem _ hp))
    rw [List.length_erase_of_mem ho] at this
    have : 0 < m.length := List.length_pos_of_mem ho
    simp only [List.length_cons]; omega
theorem Inc.nodup {l : List Op} (h : Inc l) : l.Nodup := h.imp fun g e => by rw [e, less_irr] at g; cases g
structure Cons (x y : Replica) : Prop where
  rx : repE x = 0
  ry : repE y = 0
  hx : ∀ o ∈ y.ops, covers x.seen o.at_ = true → o ∈ x.ops
  hy : ∀ o ∈ x.ops, covers y.seen o.at_ = true → o ∈ y.ops
theorem half_iff {a b : Replica} : half a b = true ↔ ∀ o ∈ b.ops, covers a.seen o.at_ = true → o ∈ a.ops := by
  unfold half
  rw [List.all_eq_true]
  constructor
  · intro h o ho hc
    have := h o ho
    rw [hc] at this
    exact has_iff.1 (by simpa using this)
  · intro h o ho
    cases hc : covers a.seen o.at_ with
    | false => rfl
    | true => rw [has_iff.2 (h o ho hc)]; rfl
theorem Cons.symm {x y : Replica} (h : Cons x y) : Cons y x := ⟨h.ry, h.rx, h.hy, h.hx⟩
theorem rep_right {r : Replica} (h : repE r = 0) {o : Op} (ho : o ∈ r.ops) : right o.at_ = true := opE_right (repE_ops h o ho)
theorem rep_covers {r : Replica} (h : repE r = 0) {o : Op} (ho : o ∈ r.ops) : covers r.seen o.at_ = true := by
  rw [(repE_all h).2.1]
  exact (covers_seenL (fun p hp => rep_right h hp) (rep_right h ho)).2 ⟨o, ho, rfl, Int.le_refl _⟩
theorem Cons.cov {x y : Replica} (h : Cons x y) {o : Op} (ho : o ∈ y.ops) : covers x.seen o.at_ = has x.ops o := by
  cases hc : covers x.seen o.at_ with
  | true => rw [has_iff.2 (h.hx o ho hc)]
  | false =>
    cases hh : has x.ops o with
    | false => rfl
    | true => rw [rep_covers h.rx (has_iff.1 hh)] at hc; cases hc
def news (x y : List Op) : List Op := y.filter fun o => !has x o
theorem mem_news {x y : List Op} {o : Op} : o ∈ news x y ↔ o ∈ y ∧ o ∉ x := by
  unfold news
  rw [List.mem_filter]
  simp [← has_iff]
theorem Inc.news {x y : List Op} (h : Inc y) : Inc (news x y) := h.filter _
theorem news_behind (x y : List Op) : (news x y).length = behind x y := by
  unfold news behind; rw [List.countP_eq_length_filter]
theorem Cons.missing {x y : Replica} (h : Cons x y) (n : Int) : missing y.ops x.seen n = (news x.ops y.ops).take n.toNat := by
  rw [missing_take]
  congr 1
  unfold news
  exact List.filter_congr fun o ho => by rw [h.cov ho]
theorem Inc.sub {l m : List Op} (h : Inc m) (hs : l.Sublist m) : Inc l := List.Pairwise.sublist hs h
theorem Cons.part {x y : Replica} (h : Cons x y) {n : Int} (hn : 1 ≤ n) (hlen : x.ops.length + y.ops.length ≤ 400) :
    (merge x (Go.Proofs.YtifpafbmfedpkaaGreatDoor.missing y.ops x.seen n)).2 = 0 ∧ Cons (merge x (Go.Proofs.YtifpafbmfedpkaaGreatDoor.missing y.ops x.seen n)).1 y ∧
    (∀ o, o ∈ (merge x (Go.Proofs.YtifpafbmfedpkaaGreatDoor.missing y.ops x.seen n)).1.ops ↔ o ∈ x.ops ∨ o ∈ Go.Proofs.YtifpafbmfedpkaaGreatDoor.missing y.ops x.seen n) ∧
    behind (merge x (Go.Proofs.YtifpafbmfedpkaaGreatDoor.missing y.ops x.seen n)).1.ops y.ops ≤ behind x.ops y.ops - 1 ∧
    behind y.ops (merge x (Go.Proofs.YtifpafbmfedpkaaGreatDoor.missing y.ops x.seen n)).1.ops = behind y.ops x.ops ∧ (merge x (Go.Proofs.YtifpafbmfedpkaaGreatDoor.missing y.ops x.seen n)).1.dev = x.dev := by
  rw [h.missing]
  have hix := repE_inc h.rx
  have hiy := repE_inc h.ry
  have hin := hiy.news (x := x.ops)
  generalize hT : (news x.ops y.ops).take n.toNat = T
  have hTm : ∀ o ∈ T, o ∈ y.ops ∧ o ∉ x.ops := fun o ho => mem_news.1 (List.mem_of_mem_take (hT ▸ ho))
  obtain ⟨m, hu⟩ : ∃ m, unite x.ops T = some m := by
    have hU := unite_U T x.ops hix
    cases hu : unite x.ops T with
    | some m => exact ⟨m, rfl⟩
    | none =>
      rw [hu] at hU
      obtain ⟨a, b, ha, hb, e, hne⟩ := hU
      exfalso
      have key : ∀ a b : Op, a ∈ x.ops → b ∈ y.ops → a.at_ = b.at_ → a = b := by
        intro a b ha hb e
        have := rep_covers h.ry hb
        rw [← e] at this
        exact hiy.uniq (h.hy a ha this) hb e
      rcases ha with ha | ha
      · rcases hb with hb | hb
        · exact hne (hix.uniq ha hb e)
        · exact hne (key a b ha (hTm b hb).1 e)
      · rcases hb with hb | hb
        · exact hne (key b a hb (hTm a ha).1 e.symm).symm
        · exact hne (hiy.uniq (hTm a ha).1 (hTm b hb).1 e)
  have hU := unite_U T x.ops hix
  rw [hu] at hU
  obtain ⟨him, hm⟩ := hU
  have hml := unite_len T x.ops m hu
  have hTl : T.length ≤ y.ops.length := by
    rw [← hT, List.length_take]
    have : (news x.ops y.ops).length ≤ y.ops.length := List.length_filter_le ..
    omega
  obtain ⟨ax, sx, dx1, dx2, lx⟩ := repE_all h.rx
  obtain ⟨ay, sy, dy1, dy2, ly⟩ := repE_all h.ry
  have hTdown : ∀ o ∈ T, ∀ p ∈ y.ops, less p.at_ o.at_ = true → p ∈ m := by
    intro o ho p hp hlt
    by_cases hpx : p ∈ x.ops
    · exact (hm p).2 (.inl hpx)
    · refine (hm p).2 (.inr ?_)
      have hpn := mem_news.2 ⟨hp, hpx⟩
      rw [← List.take_append_drop n.toNat (news x.ops y.ops), hT] at hpn
      rcases List.mem_append.1 hpn with g | g
      · exact g
      · have hin2 := hin
        rw [← List.take_append_drop n.toNat (news x.ops y.ops), hT] at hin2
        have := (List.pairwise_append.1 hin2).2.2 o ho p g
        rw [less_asym this] at hlt; cases hlt
  have hall : allE [] m = 0 := allE_of him fun o ho => by
    rcases (hm o).1 ho with g | g
    · exact ⟨x.ops, ax, g, fun p hp _ => (hm p).2 (.inl hp)⟩
    · exact ⟨y.ops, ay, (hTm o g).1, hTdown o g⟩
  have hrep : repE (joined x m) = 0 := by
    unfold repE joined
    rw [if_neg (by simp [within]; omega), if_neg (by simp only; omega), if_neg (by simpa using hall), if_neg (by simp)]
  rw [merge_ok hu hrep]
  have hrm : ∀ o ∈ m, right o.at_ = true := fun o ho => rep_right hrep ho
  have hcons : Cons (joined x m) y := by
    refine ⟨hrep, h.ry, fun o ho hc => ?_, fun o ho hc => ?_⟩
    · have hro := rep_right h.ry ho
      obtain ⟨p, hp, hd, hle⟩ := (covers_seenL hrm hro).1 hc
      rcases (hm p).1 hp with g | g
      · refine (hm o).2 (.inl (h.hx o ho ?_))
        rw [sx]
        exact (covers_seenL (fun q hq => rep_right h.rx hq) hro).2 ⟨p, g, hd, hle⟩
      · have hpy := (hTm p g).1
        rcases less_tri o.at_ p.at_ with q | q | q
        · exact hTdown p g o ho q
        · rw [hiy.uniq ho hpy q]; exact hp
        · simp [less] at q; omega
    · rcases (hm o).1 ho with g | g
      · exact h.hy o g hc
      · exact (hTm o g).1
  refine ⟨rfl, hcons, hm, ?_, ?_, rfl⟩
  · rw [← news_behind, ← news_behind]
    have e : news (joined x m).ops y.ops = (news x.ops y.ops).drop n.toNat := by
      refine Inc.ext hiy.news (hin.sub (List.drop_sublist ..)) fun o => ?_
      rw [mem_news]
      constructor
      · rintro ⟨h1, h2⟩
        have hx : o ∉ x.ops := fun g => h2 ((hm o).2 (.inl g))
        have hpn := mem_news.2 ⟨h1, hx⟩
        rw [← List.take_append_drop n.toNat (news x.ops y.ops), hT] at hpn
        rcases List.mem_append.1 hpn with g | g
        · exact absurd ((hm o).2 (.inr g)) h2
        · exact g
      · intro g
        obtain ⟨h1, h2⟩ := mem_news.1 (List.mem_of_mem_drop g)
        refine ⟨h1, fun h3 => ?_⟩
        rcases (hm o).1 h3 with g2 | g2
        · exact h2 g2
        · have hin2 := hin
          rw [← List.take_append_drop n.toNat (news x.ops y.ops), hT] at hin2
          exact less_ne ((List.pairwise_append.1 hin2).2.2 o g2 o g) rfl
    rw [e, List.length_drop]; omega
  · rw [← news_behind, ← news_behind]
    have e : news y.ops (joined x m).ops = news y.ops x.ops := by
      refine Inc.ext (Inc.news him) (Inc.news hix) fun o => ?_
      rw [mem_news, mem_news]
      constructor
      · rintro ⟨h1, h2⟩
        rcases (hm o).1 h1 with g | g
        · exact ⟨g, h2⟩
        · exact absurd (hTm o g).1 h2
      · rintro ⟨h1, h2⟩
        exact ⟨(hm o).2 (.inl h1), h2⟩
    rw [e]
theorem behind_zero {a b : List Op} : behind a b = 0 ↔ ∀ o ∈ b, o ∈ a := by
  unfold behind
  rw [List.countP_eq_zero]
  constructor
  · intro h o ho; exact has_iff.1 (by simpa using h o ho)
  · intro h o ho; simp [has_iff.2 (h o ho)]
theorem behind_le (a b : List Op) : behind a b ≤ b.length := List.countP_le_length
structure Rounds (a b x y : Replica) (i : Nat) : Prop where
  c : Cons x y
  ax : ∀ o ∈ a.ops, o ∈ x.ops
  xab : ∀ o ∈ x.ops, o ∈ a.ops ∨ o ∈ b.ops
  bY : ∀ o ∈ b.ops, o ∈ y.ops
  yab : ∀ o ∈ y.ops, o ∈ a.ops ∨ o ∈ b.ops
  bx : behind x.ops y.ops ≤ 16 - i
  bY2 : behind y.ops x.ops ≤ 16 - i
theorem Rounds.len {a b x y : Replica} {i : Nat} (h : Rounds a b x y i) : x.ops.length ≤ a.ops.length + b.ops.length ∧ y.ops.length ≤ a.ops.length + b.ops.length := by
  have h1 := nodup_len (m := a.ops ++ b.ops) (repE_inc h.c.rx).nodup fun o ho => List.mem_append.2 (h.xab o ho)
  have h2 := nodup_len (m := a.ops ++ b.ops) (repE_inc h.c.ry).nodup fun o ho => List.mem_append.2 (h.yab o ho)
  rw [List.length_append] at h1 h2
  exact ⟨h1, h2⟩
theorem Rounds.zero {a b : Replica} (ha : light a = true) (hb : light b = true) (h1 : half a b = true) (h2 : half b a = true) : Rounds a b a b 0 := by
  obtain ⟨a1, a2, _⟩ := light_rep ha
  obtain ⟨b1, b2, _⟩ := light_rep hb
  refine ⟨⟨a1, b1, half_iff.1 h1, half_iff.1 h2⟩, fun _ h => h, fun _ h => .inl h, fun _ h => h, fun _ h => .inr h, ?_, ?_⟩
  · have := behind_le a.ops b.ops; omega
  · have := behind_le b.ops a.ops; omega
theorem Rounds.left {a b x y : Replica} {i : Nat} (h : Rounds a b x y i) (hl : a.ops.length + b.ops.length ≤ 32) {n : Int} (hn : 1 ≤ n) :
    (merge x (missing y.ops x.seen n)).2 = 0 ∧ Rounds a b (merge x (missing y.ops x.seen n)).1 y i ∧ behind (merge x (missing y.ops x.seen n)).1.ops y.ops ≤ 16 - (i + 1) := by
  have hlen := h.len
  obtain ⟨p1, p2, p3, p4, p5, _⟩ := h.c.part hn (by omega)
  have h1 := h.bx
  have h2 := h.bY2
  refine ⟨p1, ⟨p2, fun o ho => (p3 o).2 (.inl (h.ax o ho)), fun o ho => ?_, h.bY, h.yab, by omega, by omega⟩, by omega⟩
  rcases (p3 o).1 ho with g | g
  · exact h.xab o g
  · exact h.yab o (missing_mem g)
theorem Rounds.right {a b x y : Replica} {i : Nat} (h : Rounds a b x y i) (hb : behind x.ops y.ops ≤ 16 - (i + 1)) (hl : a.ops.length + b.ops.length ≤ 32) {n : Int} (hn : 1 ≤ n) :
    (merge y (missing x.ops y.seen n)).2 = 0 ∧ Rounds a b x (merge y (missing x.ops y.seen n)).1 (i + 1) := by
  have hlen := h.len
  obtain ⟨p1, p2, p3, p4, p5, _⟩ := h.c.symm.part hn (by omega)
  have h1 := h.bY2
  refine ⟨p1, ⟨p2.symm, h.ax, h.xab, fun o ho => (p3 o).2 (.inl (h.bY o ho)), fun o ho => ?_, by omega, by omega⟩⟩
  rcases (p3 o).1 ho with g | g
  · exact h.yab o g
  · exact h.xab o (missing_mem g)
end Go.Proofs.YtifpafbmfedpkaaGreatDoor
end
section
set_option linter.unusedVariables false
set_option linter.unusedSimpArgs false
set_option linter.unusedSectionVars false
namespace Go.Proofs.YtifpafbmfedpkaaGreatDoor
open Go.Ac
theorem shp_str {td : TDs} {f t : Nat} {cs : List AV} (hk : (lk td t).map (fun d : TD => d.k) = some .str) (h : Shp td f t cs) : ∃ s, cs = [.v (.string s)] ∧ s.size ≤ maxLen := by
  cases f with
  | zero => exact absurd h (by simp [Shp])
  | succ f => simp only [Shp, hk] at h; exact h
theorem shp_int {td : TDs} {f t : Nat} {k : IntKind} {cs : List AV} (hk : (lk td t).map (fun d : TD => d.k) = some (.int k)) (h : Shp td f t cs) : ∃ n, cs = [.v (.int k n)] ∧ (Lit.int k n).wf = true := by
  cases f with
  | zero => exact absurd h (by simp [Shp])
  | succ f => simp only [Shp, hk] at h; exact h
theorem wf64 {n : Int} (h : (Lit.int .i64 n).wf = true) : I64 n := by
  simp only [Lit.wf, Bool.and_eq_true, decide_eq_true_eq] at h
  have h1 : IntKind.i64.min = -9223372036854775808 := by decide
  have h2 : IntKind.i64.max = 9223372036854775807 := by decide
  rw [h1, h2] at h
  exact h
theorem shp_slice {α : Type} {e f t sz0 : Nat} {cs : List AV} {enc : α → List AV} {ok : α → Prop} (hk : (lk td t).map (fun d : TD => d.k) = some (.slice e)) (hz : (lk td e).map (fun d : TD => d.size) = some sz0)
    (he : ∀ {f : Nat} {x : List AV}, Shp td f e x → ∃ a, x = enc a ∧ ok a) (h : Shp td f t cs) : ∃ l : List α, cs = [.fs sz0 l.length (l.map enc)] ∧ l.length ≤ maxLen ∧ ∀ a ∈ l, ok a := by
  cases f with
  | zero => exact absurd h (by simp [Shp])
  | succ f =>
    simp only [Shp, hk] at h
    obtain ⟨sz, es, h1, rfl, hlen, hx⟩ := h
    rw [hz] at h1
    injection h1 with h1
    subst h1
    have : ∃ l : List α, es = l.map enc ∧ ∀ a ∈ l, ok a := by
      clear hlen
      induction es with
      | nil => exact ⟨[], rfl, by simp⟩
      | cons x r ih =>
        obtain ⟨t, rfl, ht⟩ := he (hx x (by simp))
        obtain ⟨l, rfl, hl⟩ := ih (fun y hy => hx y (by simp [hy]))
        refine ⟨t :: l, rfl, fun u hu => ?_⟩
        rcases List.mem_cons.1 hu with rfl | hu
        · exact ht
        · exact hl u hu
    obtain ⟨l, rfl, hl⟩ := this
    exact ⟨l, by simp, by simpa using hlen, hl⟩
theorem shp_stamp {f : Nat} {cs : List AV} (h : Shp td f 43 cs) : ∃ t : Stamp, cs = stampC t ∧ True := by
  cases f with
  | zero => exact absurd h (by simp [Shp])
  | succ f =>
    have hk : (lk td 43).map (fun d : TD => d.k) = some (.struct [(3, 0), (3, 1)]) := rfl
    simp only [Shp, hk] at h
    obtain ⟨parts, rfl, hl, hp⟩ := h
    match parts, hl with
    | [a, b], _ =>
      obtain ⟨n1, rfl, _⟩ := shp_int (k := .i64) rfl (hp 0 a _ rfl rfl)
      obtain ⟨n2, rfl, _⟩ := shp_int (k := .i64) rfl (hp 1 b _ rfl rfl)
      exact ⟨⟨n1, n2⟩, rfl, trivial⟩
theorem shp_span {f : Nat} {cs : List AV} (h : Shp td f 45 cs) : ∃ t : Span, cs = spanC t ∧ True := by
  cases f with
  | zero => exact absurd h (by simp [Shp])
  | succ f =>
    have hk : (lk td 45).map (fun d : TD => d.k) = some (.struct [(3, 0), (3, 1)]) := rfl
    simp only [Shp, hk] at h
    obtain ⟨parts, rfl, hl, hp⟩ := h
    match parts, hl with
    | [a, b], _ =>
      obtain ⟨n1, rfl, _⟩ := shp_int (k := .i64) rfl (hp 0 a _ rfl rfl)
      obtain ⟨n2, rfl, _⟩ := shp_int (k := .i64) rfl (hp 1 b _ rfl rfl)
      exact ⟨⟨n1, n2⟩, rfl, trivial⟩
theorem shp_note {f : Nat} {cs : List AV} (h : Shp td f 47 cs) : ∃ t : Note, cs = noteC t ∧ I64 t.id := by
  cases f with
  | zero => exact absurd h (by simp [Shp])
  | succ f =>
    have hk : (lk td 47).map (fun d : TD => d.k) = some (.struct [(3, 0), (3, 1), (3, 2), (45, 3), (3, 5), (9, 6)]) := rfl
    simp only [Shp, hk] at h
    obtain ⟨parts, rfl, hl, hp⟩ := h
    match parts, hl with
    | [a, b, c, d, e, g], _ =>
      obtain ⟨n1, rfl, w⟩ := shp_int (k := .i64) rfl (hp 0 a _ rfl rfl)
      obtain ⟨n2, rfl, _⟩ := shp_int (k := .i64) rfl (hp 1 b _ rfl rfl)
      obtain ⟨n3, rfl, _⟩ := shp_int (k := .i64) rfl (hp 2 c _ rfl rfl)
      obtain ⟨s, rfl, _⟩ := shp_span (hp 3 d _ rfl rfl)
      obtain ⟨n4, rfl, _⟩ := shp_int (k := .i64) rfl (hp 4 e _ rfl rfl)
      obtain ⟨t, rfl, _⟩ := shp_str rfl (hp 5 g _ rfl rfl)
      exact ⟨⟨n1, n2, n3, s, n4, t⟩, rfl, wf64 w⟩
theorem shp_stamps {f : Nat} {cs : List AV} (h : Shp td f 48 cs) : ∃ l : List Stamp, cs = [encStamps l] := by
  obtain ⟨l, h, _⟩ := shp_slice (enc := stampC) (ok := fun _ => True) rfl rfl (fun h => shp_stamp h) h
  exact ⟨l, h⟩
theorem shp_op {f : Nat} {cs : List AV} (h : Shp td f 50 cs) : ∃ o : Op, cs = opC o ∧ I64 o.note.id := by
  cases f with
  | zero => exact absurd h (by simp [Shp])
  | succ f =>
    have hk : (lk td 50).map (fun d : TD => d.k) = some (.struct [(43, 0), (3, 2), (3, 3), (47, 4), (3, 11), (3, 12), (9, 13), (48, 14)]) := rfl
    simp only [Shp, hk] at h
    obtain ⟨parts, rfl, hl, hp⟩ := h
    match parts, hl with
    | [a, b, c, d, e, g, i, j], _ =>
      obtain ⟨t, rfl, _⟩ := shp_stamp (hp 0 a _ rfl rfl)
      obtain ⟨n1, rfl, _⟩ := shp_int (k := .i64) rfl (hp 1 b _ rfl rfl)
      obtain ⟨n2, rfl, _⟩ := shp_int (k := .i64) rfl (hp 2 c _ rfl rfl)
      obtain ⟨n, rfl, hn⟩ := shp_note (hp 3 d _ rfl rfl)
      obtain ⟨n4, rfl, _⟩ := shp_int (k := .i64) rfl (hp 4 e _ rfl rfl)
      obtain ⟨n5, rfl, _⟩ := shp_int (k := .i64) rfl (hp 5 g _ rfl rfl)
      obtain ⟨s, rfl, _⟩ := shp_str rfl (hp 6 i _ rfl rfl)
      obtain ⟨l, rfl⟩ := shp_stamps (hp 7 j _ rfl rfl)
      exact ⟨⟨t, n1, n2, n, n4, n5, s, l⟩, rfl, hn⟩
theorem shp_ops {f : Nat} {cs : List AV} (h : Shp td f 23 cs) : ∃ l : List Op, cs = [encOps l] ∧ l.length ≤ maxLen ∧ Ids l :=
  shp_slice (enc := opC) rfl rfl (fun h => shp_op h) h
theorem shp_ints {f : Nat} {cs : List AV} (h : Shp td f 22 cs) : ∃ l : List Int, cs = [encIs l] ∧ l.length ≤ maxLen ∧ ∀ n ∈ l, I64 n :=
  shp_slice (enc := intC) rfl rfl (fun h => by obtain ⟨n, rfl, w⟩ := shp_int (k := .i64) rfl h; exact ⟨n, rfl, wf64 w⟩) h
theorem shp_replica {f : Nat} {cs : List AV} (h : Shp td f 25 cs) : ∃ r : Replica, cs = repC r ∧ Ids r.ops := by
  cases f with
  | zero => exact absurd h (by simp [Shp])
  | succ f =>
    have hk : (lk td 25).map (fun d : TD => d.k) = some (.struct [(3, 0), (22, 1), (23, 2)]) := rfl
    simp only [Shp, hk] at h
    obtain ⟨parts, rfl, hl, hp⟩ := h
    match parts, hl with
    | [a, b, c], _ =>
      obtain ⟨n1, rfl, _⟩ := shp_int (k := .i64) rfl (hp 0 a _ rfl rfl)
      obtain ⟨l, rfl, _⟩ := shp_ints (hp 1 b _ rfl rfl)
      obtain ⟨m, rfl, _, hm⟩ := shp_ops (hp 2 c _ rfl rfl)
      exact ⟨⟨n1, l, m⟩, rfl, hm⟩
end Go.Proofs.YtifpafbmfedpkaaGreatDoor
end
section
set_option linter.unusedVariables false
set_option linter.unusedSimpArgs false
set_option linter.unusedSectionVars false
namespace Go.Proofs.YtifpafbmfedpkaaGreatDoor
open Go.Ac
theorem u8x : U8Extra Tryz.prog laysValid_ren := { n3 := by kernel_rfl, n4 := by kernel_rfl, y3 := by kernel_rfl, y4 := by kernel_rfl, c5 := by kernel_rfl, c119 := by kernel_rfl, c138 := by kernel_rfl }
theorem first_same : Rows.laid_unicode_utf8_first = Go.Lib.firstData := by kernel_rfl
theorem accept_same : (Rows.laid_unicode_utf8_acceptRanges : DataW Unit) = Go.Lib.acceptData := by kernel_rfl
abbrev laidL : List (String × DataW Unit) := [("unicode/utf8.acceptRanges", Rows.laid_unicode_utf8_acceptRanges), ("langdoc/replica.fields", Rows.laid_langdoc_replica_fields), ("unicode/utf8.first", Rows.laid_unicode_utf8_first)]
theorem below_of_cell {W : World} {b o : Nat} {u : Value} (h : W.cell? ⟨b, o, none⟩ = some u) : b < W.heap.size := by
  rcases Nat.lt_or_ge b W.heap.size with g | g
  · exact g
  · exfalso
    have : W.heap[b]? = none := Array.getElem?_eq_none g
    simp [World.cell?, this] at h
theorem laid_glob {W : World} (h : laidMet Tryz.prog laidL W) : ∀ q ∈ GL, below W q.1 ∧ MF (below W) W q.2 q.1 0 := by
  have r3 : Go.Lib.VarReads Tryz.prog W "unicode/utf8.first" Go.Lib.firstData := by
    rw [← first_same]; exact Go.Lib.laidMet.reads h (by simp [laidL])
  have r4 : Go.Lib.VarReads Tryz.prog W "unicode/utf8.acceptRanges" Go.Lib.acceptData := by
    rw [← accept_same]; exact Go.Lib.laidMet.reads h (by simp [laidL])
  have r0 : Go.Lib.VarReads Tryz.prog W "langdoc/replica.fields" (.agg [.lit (.int .i64 0), .lit (.int .i64 1), .lit (.int .i64 2)]) := Go.Lib.laidMet.reads h (by simp [laidL, Rows.laid_langdoc_replica_fields])
  have ht := utf8Tabs_of_readsT (U8Types.of196 laysValid) u8x r3 r4
  have f0 : ∀ i : Nat, i < 3 → W.cell? ⟨0, i, none⟩ = some (.int .i64 i) := by
    obtain ⟨g, t, cs, fuel, p, hg, hty, hvar, hd⟩ := r0
    obtain rfl : g = 0 := Option.some.inj (hg.symm.trans (show Tryz.prog.globalNamed "langdoc/replica.fields" = some 0 by kernel_rfl))
    obtain rfl : t = 80 := Option.some.inj (hty.symm.trans (show (Tryz.prog.globals[0]?).map (·.type) = some 80 by kernel_rfl))
    have hcs := Go.Lib.cells_of_tab (zs := [0, 1, 2]) Tryz.underlying80 Tryz.underlying3 (by kernel_rfl) (by kernel_rfl) hd
    intro i hi
    rw [World.var?_cell hg hvar i, ← Array.getElem?_toList, hcs]
    have : i = 0 ∨ i = 1 ∨ i = 2 := by omega
    rcases this with rfl | rfl | rfl <;> rfl
  intro q hq
  simp only [GL, List.mem_cons, List.not_mem_nil, or_false] at hq
  rcases hq with rfl | rfl | rfl
  · refine ⟨below_of_cell (f0 0 (by omega)), MF.mk fun i x hx => ?_⟩
    have hi : i < 3 := by have := (List.getElem?_eq_some_iff.1 hx).1; simpa using this
    refine ⟨_, by rw [Nat.zero_add]; exact f0 i hi, ?_, rfl⟩
    have : i = 0 ∨ i = 1 ∨ i = 2 := by omega
    rcases this with rfl | rfl | rfl <;> (simp at hx; subst hx; simp [RF])
  · refine ⟨below_of_cell (ht.1 0 (by omega)), MF.mk fun i x hx => ?_⟩
    have hi : i < 256 := by have := (List.getElem?_eq_some_iff.1 hx).1; simpa [firstCs] using this
    refine ⟨_, by rw [Nat.zero_add]; exact ht.1 i hi, ?_, rfl⟩
    simp only [firstCs, List.getElem?_map, List.getElem?_range hi, Option.map_some, Option.some.injEq] at hx
    subst hx; simp [RF]
  · refine ⟨below_of_cell (ht.2 0 (by omega)).1, MF.mk fun i x hx => ?_⟩
    have hi : i < 32 := by have := (List.getElem?_eq_some_iff.1 hx).1; simpa [acceptCs] using this
    simp only [acceptCs, List.getElem?_map, List.getElem?_range hi, Option.map_some, Option.some.injEq] at hx
    subst hx
    have h2 := ht.2 (i / 2) (by omega)
    by_cases he : i % 2 = 0
    · refine ⟨_, by rw [Nat.zero_add, show i = 2 * (i / 2) by omega]; exact h2.1, ?_, rfl⟩
      simp [RF, he]
    · refine ⟨_, by rw [Nat.zero_add, show i = 2 * (i / 2) + 1 by omega]; exact h2.2, ?_, rfl⟩
      simp [RF, he]
end Go.Proofs.YtifpafbmfedpkaaGreatDoor
end
