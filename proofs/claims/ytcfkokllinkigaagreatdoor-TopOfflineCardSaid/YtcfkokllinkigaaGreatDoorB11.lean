/- A logic of trees over the model's steps, and the contracts of the functions that the laws reach: part 11 of 29. -/
import Derived.Test.YtcfkokllinkigaaGreatDoorB10
import Derived.Lib.SliceRun
set_option linter.unusedVariables false
set_option linter.unusedSimpArgs false
set_option linter.unusedSectionVars false
set_option linter.unnecessarySimpa false
namespace Go.Proofs.YtcfkokllinkigaaGreatDoor
section
open Go.Ac Go.MapKept
attribute [local irreducible] awp awpL Ev Ev2 EvS thenQ blockQ retQ PCalls OCalls YieldOk IterC ICalls
theorem FitM.r {a b : List Op} (h : FitM a b) : Fit a := h.fit (by omega) fun o ho => .inl ho
theorem FitM.l {a b : List Op} (h : FitM a b) : Fit b := h.fit (by omega) fun o ho => .inr ho
theorem sortedP {g : List (Nat × List AV)} (l : List Op) (hl : Fit l) : PCalls Tryz.prog g 32 [encOps l] (encOps (sorted l)) := sorted_spec _ l (Nat.le_refl _) hl
theorem last_get {α : Type} {l : List α} {p : α} (h : l.getLast? = some p) : 0 < l.length ∧ l[l.length - 1]? = some p := by
 rw [List.getLast?_eq_getElem?] at h
 refine ⟨?_, h⟩
 cases l with
 | nil => simp at h
 | cons x r => simp
set_option maxRecDepth 8000 in
set_option maxHeartbeats 8000000 in
theorem qo (r : Replica) (l : List Op) (hF : FitM r.ops l) (hi : Inc r.ops) : PCalls Tryz.prog GL 11 [.agg (repC r), encOps l] (mergeV (merge r l)) := by
 have hlen := hF.len
 have hJ := Yn (g := GL)
 have hSo := sortedP (g := GL) l hF.l
 have hB := both_spec (g := GL) r.ops (sorted l)
 have hI := Yb (g := GL) r.ops (sorted l) hF.r hF.l.sorted
 have hgu := gather_unite hi l
 have htl : (both r.ops (sorted l)).length = r.ops.length + l.length := by rw [jE, Jo]
 have htm : ∀ o ∈ both r.ops (sorted l), o ∈ r.ops ∨ o ∈ l := fun o ho => by rw [Qa, Jn] at ho; exact ho
 have n1 : (!true) = false := rfl
 have n2 : (!false) = true := rfl
 refine pcalls' Tryz.func11 Tryz.ntmps11 rfl rfl rfl ?_
 repeat' (first
  | refine st [4, 5, 6] ?_
  | ((with_reducible refine zl ?_); refine ze rfl (fun h => ?_) (fun h => ?_))
  | fail)
 generalize both r.ops (sorted l) = t at *
 have hok := outK_ok t
 refine qk 2 2 80 15 rfl rfl rfl rfl ?_
 refine Yc (okK t) (fun i => [.box zeroRepC, .box [vi 0], .box [vi r.dev, encIs (seenL (outK t i)), .os 3 (outK t i).length], .own (outK t i).length 80 15 ((outK t i).map opC)]) rfl rfl rfl rfl hI (okK_zero t) rfl (fun _ => rfl) (fun _ => rfl) rfl (fun i xs hx => by obtain ⟨o, _, rfl⟩ := jI hx; rfl) ?_ ?_
 ·intro i xs lp hx hφ
  obtain ⟨o, ho, rfl⟩ := jI hx
  have hil : i < t.length := (List.getElem?_eq_some_iff.1 ho).1
  obtain ⟨hol, hom⟩ := hok i
  have hoo : o.over.length ≤ 1000000 := by have := hF.ov o (htm o (List.mem_of_getElem? ho)); omega
  have hsucc := wu ho
  have hmb : ((outK t i).map opC).length ≤ 1000 := by rw [List.length_map]; omega
  refine runn [4, 5, 6] ?_
  refine ⟨rfl, rfl, ?_⟩
  cases hlast : (outK t i).getLast? with
  | none =>
   obtain ⟨hb, hst⟩ := gbad_none (o := o) hlast
   rw [hst] at hsucc
   have hnil : (outK t i).length = 0 := by
    have : outK t i = [] := by simpa using hlast
    rw [this]; rfl
   have c1 : decide ((0 : Int) < (((outK t i).map opC).length : Nat)) = false := decide_eq_false (by rw [List.length_map]; omega)
   have hj : (outK t i).map opC ++ [opC o] = (outK t (i + 1)).map opC := by rw [hsucc]; simp
   have hv : (outK t (i + 1)).length = (outK t i).length + 1 := by rw [hsucc]; simp
   have hS := SeeP (g := GL) (seenL (outK t i)) o.at_ (by rw [Zf]; omega)
   rw [← qR, ← hsucc] at hS
   repeat' (first
    | ((with_reducible refine zg ?_); refine zk (zZ (es' := (outK t (i + 1)).map opC) rfl rfl rfl rfl rfl rfl rfl rfl rfl rfl rfl rfl rfl qe0 hj rfl) rfl ?_)
    | refine st [4, 5, 6] ?_
    | fail)
   exact roundNP (yC hφ ho hb) ⟨.nil, by rw [hv]; rfl, rfl, rfl⟩
  | some p =>
   obtain ⟨hpos, hpl⟩ := last_get hlast
   have c1 : decide ((0 : Int) < (((outK t i).map opC).length : Nat)) = true := decide_eq_true (by rw [List.length_map]; omega)
   have hc : 0 ≤ ((((outK t i).map opC).length : Nat) : Int) - 1 ∧ ((((outK t i).map opC).length : Nat) : Int) - 1 < ((outK t i).map opC).length := by rw [List.length_map]; omega
   have hel : ((outK t i).map opC)[(((((outK t i).map opC).length : Nat) : Int) - 1).toNat]? = some (opC p) := by
    rw [List.length_map, show ((((outK t i).length : Nat) : Int) - 1).toNat = (outK t i).length - 1 by omega, List.getElem?_map, hpl]; rfl
   by_cases he : p.at_ = o.at_
   ·obtain ⟨hb, hst⟩ := gbad_eq hlast he
    rw [hst] at hsucc
    have e1 : (p.at_.count == o.at_.count && p.at_.dev == o.at_.dev) = true := by rw [he]; simp
    have hpo : p.over.length ≤ 1000000 := by have := hF.ov p (htm p (hom p (List.mem_of_getLast? hlast))); omega
    have hSm := Same_spec (g := GL) p o hpo hoo
    cases hd : decide (p = o) with
    | true =>
     rw [hd] at hSm hb
     repeat' (first
      | ((with_reducible refine zu ?_); (first | refine zc (zh (fun _ => qE (b := true) zF (by kernel_rfl) rfl rfl rfl rfl (by rw [← e1]; rfl)) rfl rfl) qb0 ?_ | refine zc (zm rfl qd0 (zx (f := stampC p.at_) rfl rfl rfl rfl hel rfl rfl) rfl rfl rfl) qb0 ?_ | refine zc (zm rfl qd0 (zx (f := opC p) rfl rfl rfl rfl hel rfl rfl) rfl rfl rfl) qb0 ?_))
      | ((with_reducible refine zp ?_); (first | refine zd rfl rfl qa0 (zh (fun _ => qE (b := true) zF (by kernel_rfl) rfl rfl rfl rfl (by rw [← e1]; rfl)) rfl rfl) qb0 ?_ | refine zd rfl rfl qa0 (zm rfl qd0 (zx (f := stampC p.at_) rfl rfl rfl rfl hel rfl rfl) rfl rfl rfl) qb0 ?_ | refine zd rfl rfl qa0 (zm rfl qd0 (zx (f := opC p) rfl rfl rfl rfl hel rfl rfl) rfl rfl rfl) qb0 ?_))
      | refine st [4, 5, 6] ?_
      | fail)
     exact roundNP (yC hφ ho hb) ⟨.nil, by rw [hsucc]; rfl, rfl, rfl⟩
    | false =>
     rw [hd] at hSm hb
     repeat' (first
      | ((with_reducible refine zu ?_); (first | refine zc (zh (fun _ => qE (b := true) zF (by kernel_rfl) rfl rfl rfl rfl (by rw [← e1]; rfl)) rfl rfl) qb0 ?_ | refine zc (zm rfl qd0 (zx (f := stampC p.at_) rfl rfl rfl rfl hel rfl rfl) rfl rfl rfl) qb0 ?_ | refine zc (zm rfl qd0 (zx (f := opC p) rfl rfl rfl rfl hel rfl rfl) rfl rfl rfl) qb0 ?_))
      | ((with_reducible refine zp ?_); (first | refine zd rfl rfl qa0 (zh (fun _ => qE (b := true) zF (by kernel_rfl) rfl rfl rfl rfl (by rw [← e1]; rfl)) rfl rfl) qb0 ?_ | refine zd rfl rfl qa0 (zm rfl qd0 (zx (f := stampC p.at_) rfl rfl rfl rfl hel rfl rfl) rfl rfl rfl) qb0 ?_ | refine zd rfl rfl qa0 (zm rfl qd0 (zx (f := opC p) rfl rfl rfl rfl hel rfl rfl) rfl rfl rfl) qb0 ?_))
      | refine st [4, 5, 6] ?_
      | fail)
     refine roundRP [.box zeroRepC, .box [vi 8], .box [vi r.dev, encIs (seenL (outK t i)), .os 3 (outK t i).length], .own (outK t i).length 80 15 ((outK t i).map opC)] ⟨.nil, rfl, rfl, rfl⟩ rfl ?_
     rw [Jt (hgu.symm.trans (okK_bad hφ ho hb))]
     refine jF (JE ?_)
     exact retLe rfl (jr 8)
   ·obtain ⟨hb, hst⟩ := gbad_ne hlast he
    rw [hst] at hsucc
    have e1 : (p.at_.count == o.at_.count && p.at_.dev == o.at_.dev) = false := by
     cases hq : (p.at_.count == o.at_.count && p.at_.dev == o.at_.dev) with
     | false => rfl
     | true => exact absurd (qM (by simpa using hq)) he
    have hj : (outK t i).map opC ++ [opC o] = (outK t (i + 1)).map opC := by rw [hsucc]; simp
    have hv : (outK t (i + 1)).length = (outK t i).length + 1 := by rw [hsucc]; simp
    have hS := SeeP (g := GL) (seenL (outK t i)) o.at_ (by rw [Zf]; omega)
    rw [← qR, ← hsucc] at hS
    repeat' (first
     | ((with_reducible refine zg ?_); refine zk (zZ (es' := (outK t (i + 1)).map opC) rfl rfl rfl rfl rfl rfl rfl rfl rfl rfl rfl rfl rfl qe0 hj rfl) rfl ?_)
     | ((with_reducible refine zu ?_); refine zc (zh (fun _ => qE (b := false) zF (by kernel_rfl) rfl rfl rfl rfl (by rw [← e1]; rfl)) rfl rfl) qb0 ?_)
     | ((with_reducible refine zp ?_); (first | refine zd rfl rfl qa0 (zh (fun _ => qE (b := false) zF (by kernel_rfl) rfl rfl rfl rfl (by rw [← e1]; rfl)) rfl rfl) qb0 ?_ | refine zd rfl rfl qa0 (zm rfl qd0 (zx (f := stampC p.at_) rfl rfl rfl rfl hel rfl rfl) rfl rfl rfl) qb0 ?_ | refine zd rfl rfl qa0 (zm rfl qd0 (zx (f := opC p) rfl rfl rfl rfl hel rfl rfl) rfl rfl rfl) qb0 ?_))
     | refine st [4, 5, 6] ?_
     | fail)
    exact roundNP (yC hφ ho hb) ⟨.nil, by rw [hv]; rfl, rfl, rfl⟩
 ·intro hφ
  simp only [List.length_map] at hφ ⊢
  have hu := hgu.symm.trans (okK_end hφ)
  obtain ⟨hol, hom⟩ := hok t.length
  generalize outK t t.length = out at *
  have hC := Yo (joined r out) (by rw [joined, Zf]; omega) (hF.ids fun o ho => htm o (hom o ho))
  have hC' : PCalls Tryz.prog GL 35 [.agg [vi r.dev, encIs (seenL out), .fs 15 (out.map opC).length (out.map opC)]] (vi (repE (joined r out))) := by rw [List.length_map]; exact hC
  have hx : exL [.box zeroRepC, .box [vi 0], .box [vi r.dev, encIs (seenL out), .os 3 out.length], .own out.length 80 15 (out.map opC)] [.lag [vi r.dev, encIs (seenL out), .os 3 out.length]] = [.agg [vi r.dev, encIs (seenL out), .fs 15 (out.map opC).length (out.map opC)]] := by simp [exL, ex]
  by_cases he : repE (joined r out) = 0
  ·have c2 : (!decide (repE (joined r out) = 0)) = false := by simp [he]
   rw [jn hu he]
   repeat' (first
    | ((with_reducible refine zg ?_); refine Q4 rfl hx hC' rfl rfl ?_)
    | refine stn [4, 5, 6] ?_
    | fail)
   refine retP rfl ?_
   simp [ex, exL, mergeV, joined, repC]
  ·have c2 : (!decide (repE (joined r out) = 0)) = true := by simp [he]
   rw [wB hu he]
   repeat' (first
    | ((with_reducible refine zg ?_); refine Q4 rfl hx hC' rfl rfl ?_)
    | refine stn [4, 5, 6] ?_
    | fail)
   exact retLe rfl (jr _)
end
section
open Go.Ac Go.MapKept
attribute [local irreducible] awp awpL Ev Ev2 EvS thenQ blockQ retQ PCalls OCalls YieldOk IterC ICalls
set_option maxRecDepth 4000 in
set_option maxHeartbeats 4000000 in
theorem Sync_spec (a b : Replica) (hF : FitM a.ops b.ops) (hG : FitM b.ops a.ops) (ha : Inc a.ops) (hb : Inc b.ops) : PCalls Tryz.prog GL 24 [.agg (repC a), .agg (repC b)] (syncV (sync a b)) := by
 have h1 := qo a b.ops hF ha
 have h2 := qo b a.ops hG hb
 rw [mergeV] at h1 h2
 refine pcalls' Tryz.func24 Tryz.ntmps24 rfl rfl rfl ?_
 by_cases he : (merge a b.ops).2 = 0
 ·have c1 : (!decide ((merge a b.ops).2 = 0)) = false := by simp [he]
  by_cases hf : (merge b a.ops).2 = 0
  ·have c2 : (!decide ((merge b a.ops).2 = 0)) = false := by simp [hf]
   rw [sync, if_neg (by simpa using he), if_neg (by simpa using hf)]
   refine run [4, 5] ?_
   exact retP rfl rfl
  ·have c2 : (!decide ((merge b a.ops).2 = 0)) = true := by simp [hf]
   rw [sync, if_neg (by simpa using he), if_pos hf]
   refine run [4, 5] ?_
   exact retP rfl rfl
 ·have c1 : (!decide ((merge a b.ops).2 = 0)) = true := by simp [he]
  rw [sync, if_pos he]
  refine run [4, 5] ?_
  exact retP rfl rfl
theorem Behind_eq (a b : Replica) (ha : FitR a) (hb : FitR b) (hi : Inc a.ops) {g : List (Nat × List AV)} : PCalls Tryz.prog g 37 [.agg (repC a), .agg (repC b)] (vi (behind a.ops b.ops)) := by
 have := Behind_spec (g := g) a b ha hb
 rwa [behindM_eq hi] at this
def agree (a b : Replica) : Bool := decide (behind a.ops b.ops = 0) && decide (behind b.ops a.ops = 0)
theorem Yp (a b : Replica) (ha : FitR a) (hb : FitR b) (hi : Inc a.ops) (hj : Inc b.ops) {g : List (Nat × List AV)} : PCalls Tryz.prog g 13 [.agg (repC a), .agg (repC b)] (vb (agree a b)) := by
 have h1 := Behind_eq (g := g) a b ha hb hi
 have h2 := Behind_eq (g := g) b a hb ha hj
 refine pcalls' Tryz.func13 Tryz.ntmps13 rfl rfl rfl ?_
 repeat' (first
  | refine stn [] ?_
  | ((with_reducible refine zr ?_); refine zf rfl rfl (fun h => ?_) (fun h => ?_))
  | fail)
 all_goals refine retP rfl ?_
 all_goals clear h1 h2
 all_goals simp_all [ex, agree]
 all_goals omega
theorem MissingP (r : Replica) (seen : List Int) (most : Int) (hr : FitR r) (hs : seen.length ≤ 1000000) {g : List (Nat × List AV)} : PCalls Tryz.prog g 36 [.agg (repC r), encIs seen, vi most] (encOps (missing r.ops seen most)) := by
 have := (Missing_spec (g := g) r seen most hr hs).toP
 rwa [List.length_map] at this
end
section
open Go.Ac Go.MapKept
attribute [local irreducible] awp awpL Ev Ev2 EvS thenQ blockQ retQ PCalls OCalls YieldOk IterC ICalls
def tBa : ByteArray := ⟨#[98, 97]⟩
def tMi : ByteArray := ⟨#[109, 105]⟩
def vec (a b c : Int) : List Int := [a, b, c, 0, 0, 0, 0, 0, 0, 0, 0, 0, 0, 0, 0]
def opF (o : Op) : Bool := decide (o.over.length ≤ 1000) && (decide (-9223372036854775808 ≤ o.note.id) && decide (o.note.id ≤ 9223372036854775807))
def fitB (a b : List Op) : Bool := decide (a.length + b.length ≤ 1000) && (a.all opF && b.all opF)
theorem opF_ov {o : Op} (h : opF o = true) : o.over.length ≤ 100000 ∧ I64 o.note.id := by
 simp [opF] at h
 exact ⟨by omega, h.2⟩
theorem FitM.of {a b : List Op} (h : fitB a b = true) : FitM a b := by
 simp only [fitB, Bool.and_eq_true, decide_eq_true_eq, List.all_eq_true] at h
 refine ⟨h.1, fun o ho => (opF_ov (ho.elim (h.2.1 o) (h.2.2 o))).1, fun o ho => (opF_ov (ho.elim (h.2.1 o) (h.2.2 o))).2⟩
theorem Inc.of {l : List Op} (h : (decide (l.Pairwise fun a b => less a.at_ b.at_ = true)) = true) : Inc l := (of_decide_eq_true h : l.Pairwise fun a b => less a.at_ b.at_ = true)
def fitRB (r : Replica) : Bool := decide (r.ops.length ≤ 1000) && (r.ops.all opF && decide (r.seen.length ≤ 1000))
theorem FitR.of {r : Replica} (h : fitRB r = true) : FitR r := by
 simp only [fitRB, Bool.and_eq_true, decide_eq_true_eq, List.all_eq_true] at h
 exact ⟨⟨by omega, fun o ho => (opF_ov (h.2.1 o ho)).1⟩, by omega⟩
end
section
open Go.Ac Go.MapKept
attribute [local irreducible] awp awpL Ev Ev2 EvS thenQ blockQ retQ PCalls OCalls YieldOk IterC ICalls
theorem light_rep {r : Replica} (h : light r = true) : repE r = 0 ∧ r.ops.length ≤ 16 ∧ r.seen.length ≤ 100 := by
 simp only [light, Bool.and_eq_true, decide_eq_true_eq] at h
 exact ⟨h.2.2, h.1, h.2.1⟩
theorem rep_op {r : Replica} (h : repE r = 0) : ∀ o ∈ r.ops, opE o = 0 := by
 intro o ho
 obtain ⟨k, hk⟩ := List.getElem?_of_mem ho
 exact Qw (Qd r.ops [] (Zy h).1 k o hk)
theorem miss_mem (seen : List Int) (most : Int) : ∀ (l out : List Op) (o : Op), o ∈ l.foldl (missStep seen most) out → o ∈ out ∨ o ∈ l
 | [], out, o, h => .inl h
 | x :: r, out, o, h => by
  rw [List.foldl_cons] at h
  rcases miss_mem seen most r _ o h with h | h
  ·unfold missStep at h
   split at h
   ·rcases List.mem_append.1 h with h | h
    ·exact .inl h
    ·simp only [List.mem_singleton] at h; subst h; exact .inr (List.mem_cons_self ..)
   ·exact .inl h
  ·exact .inr (List.mem_cons_of_mem _ h)
theorem jm {l : List Op} {seen : List Int} {most : Int} {o : Op} (h : o ∈ missing l seen most) : o ∈ l := by
 rcases miss_mem seen most l [] o h with h | h
 ·cases h
 ·exact h
theorem Wg (l : List Op) (seen : List Int) (most : Int) : (missing l seen most).length ≤ l.length := by
 have := yI seen most l []
 simpa [missing] using this
theorem missing_fit {l : List Op} (h : Fit l) (seen : List Int) (most : Int) : Fit (missing l seen most) := h.of_mem (Wg _ _ _) fun o ho => jm ho
theorem WL {a b : List Op} (ha : Fit a) (hb : Fit b) (hl : a.length + b.length ≤ 1000) (ia : Ids a) (ib : Ids b) : FitM a b :=
 ⟨hl, fun o ho => ho.elim (ha.2 o) (hb.2 o), fun o ho => ho.elim (ia o) (ib o)⟩
theorem merge_fit {r : Replica} {l : List Op} (h : FitM r.ops l) : FitR (merge r l).1 := by
 cases hu : unite r.ops l with
 | none => rw [Jt hu]; exact ⟨⟨by simp [zeroRep], fun o ho => by cases ho⟩, by simp [zeroRep]⟩
 | some m =>
  by_cases hr : repE (joined r m) = 0
  ·rw [jn hu hr]
   refine ⟨⟨?_, fun o ho => ?_⟩, by simp only [joined]; rw [Zf]; omega⟩
   ·have := Qq l r.ops m hu
    have := h.len
    simp only [joined]; omega
   ·have := JL (rep_op hr o ho); omega
  ·rw [wB hu hr]; exact ⟨⟨by simp [zeroRep], fun o ho => by cases ho⟩, by simp [zeroRep]⟩
end
section
theorem missing_take (seen : List Int) (most : Int) (l : List Op) : missing l seen most = (l.filter fun o => !covers seen o.at_).take most.toNat := by
  have H : ∀ (l out : List Op), l.foldl (missStep seen most) out = out ++ (l.filter fun o => !covers seen o.at_).take (most - out.length).toNat := by
    intro l
    induction l with
    | nil => intro out; simp
    | cons o r ih =>
      intro out
      rw [List.foldl_cons]
      by_cases hm : (out.length : Int) < most
      · cases hc : covers seen o.at_ with
        | true =>
          have : missStep seen most out o = out := by unfold missStep; rw [if_neg (by simp [hc])]
          rw [this, ih, List.filter_cons_of_neg (by simp [hc])]
        | false =>
          have : missStep seen most out o = out ++ [o] := by unfold missStep; rw [if_pos ⟨hm, hc⟩]
          rw [this, ih, List.filter_cons_of_pos (by simp [hc])]
          have e : (most - (out.length : Int)).toNat = (most - ((out ++ [o]).length : Int)).toNat + 1 := by simp; omega
          rw [e, List.take_succ_cons]; simp
      · rw [wz        seen most r _ (by have : missStep seen most out o = out := by unfold missStep; rw [if_neg (by omega)]
                                        rw [this]; omega)]
        have : missStep seen most out o = out := by unfold missStep; rw [if_neg (by omega)]
        rw [this, show (most - (out.length : Int)).toNat = 0 by omega]; simp
  have := H l []
  simpa [missing] using this
theorem num_see {v : List Int} (hl : v.length = 15) (hn : ∀ x ∈ v, 0 ≤ x) {s : Stamp} (hs : right s = true) (i : Nat) : num (see v s) i = if i = (s.dev - 1).toNat then max (num v i) s.count else num v i := by
 rw [see, if_pos hs, join_self hl hn]
 have hd : (s.dev - 1).toNat < 15 := by simp only [right, Bool.and_eq_true, decide_eq_true_eq] at hs; omega
 have h0 := Js v (s.dev - 1).toNat
 unfold num at *
 rw [List.getElem?_set]
 by_cases h : (s.dev - 1).toNat = i
 ·subst h
  rw [if_pos rfl, if_pos (by omega), if_pos rfl]
  simp only [Option.getD_some]; omega
 ·rw [if_neg h, if_neg (fun e => h e.symm)]
theorem qK {l : List Op} (hr : ∀ o ∈ l, right o.at_ = true) {s : Stamp} (hs : right s = true) : covers (seenL l) s = true ↔ ∃ o ∈ l, o.at_.dev = s.dev ∧ s.count ≤ o.at_.count := by
 have H : ∀ (n : Nat) (l : List Op), l.length = n → (∀ o ∈ l, right o.at_ = true) → (s.count ≤ num (seenL l) (s.dev - 1).toNat ↔ ∃ o ∈ l, o.at_.dev = s.dev ∧ s.count ≤ o.at_.count) := by
  intro n
  have hc : 1 ≤ s.count ∧ 1 ≤ s.dev := by simp only [right, Bool.and_eq_true, decide_eq_true_eq] at hs; omega
  induction n with
  | zero =>
   intro l hl _
   have : l = [] := List.eq_nil_of_length_eq_zero hl
   subst this
   rw [seenL_nil]
   constructor
   ·intro h
    exfalso
    have : num (List.replicate 15 0) (s.dev - 1).toNat = 0 := by
     unfold num
     rw [List.getElem?_replicate]
     split <;> simp
    omega
   ·rintro ⟨o, ho, _⟩; cases ho
  | succ n ih =>
   intro l hl hr
   have hne : l ≠ [] := by intro e; rw [e] at hl; cases hl
   obtain ⟨q, o, rfl⟩ : ∃ q o, l = q ++ [o] := ⟨_, _, (List.dropLast_concat_getLast hne).symm⟩
   have ho := hr o (List.mem_append_right _ (List.mem_singleton_self _))
   have hI := ih q (by simp at hl; exact hl) fun p hp => hr p (List.mem_append_left _ hp)
   rw [qR, num_see (Zf q) (QM q) ho]
   have hod : 1 ≤ o.at_.dev := by simp only [right, Bool.and_eq_true, decide_eq_true_eq] at ho; omega
   constructor
   ·intro h
    split at h
    ·rename_i he
     rcases Int.le_total s.count o.at_.count with g | g
     ·exact ⟨o, List.mem_append_right _ (List.mem_singleton_self _), by omega, g⟩
     ·by_cases g2 : s.count ≤ o.at_.count
      ·exact ⟨o, List.mem_append_right _ (List.mem_singleton_self _), by omega, g2⟩
      ·obtain ⟨p, hp, h2⟩ := hI.1 (by omega)
       exact ⟨p, List.mem_append_left _ hp, h2⟩
    ·obtain ⟨p, hp, h2⟩ := hI.1 h
     exact ⟨p, List.mem_append_left _ hp, h2⟩
   ·rintro ⟨p, hp, h1, h2⟩
    rcases List.mem_append.1 hp with hp | hp
    ·have := hI.2 ⟨p, hp, h1, h2⟩
     split <;> omega
    ·simp only [List.mem_singleton] at hp; subst hp
     rw [if_pos (by omega)]; omega
 have := H _ l rfl hr
 unfold covers
 rw [hs]
 simpa using this
theorem nodup_len {l m : List Op} (hl : l.Nodup) (h : ∀ o ∈ l, o ∈ m) : l.length ≤ m.length := by
 induction l generalizing m with
 | nil => simp
 | cons o r ih =>
  obtain ⟨h1, h2⟩ := List.nodup_cons.1 hl
  have ho := h o (List.mem_cons_self ..)
  have := ih (m := m.erase o) h2 fun p hp => (List.mem_erase_of_ne (fun (e : p = o) => h1 (by rw [← e]; exact hp))).2 (h p (List.mem_cons_of_mem _ hp))
  rw [List.length_erase_of_mem ho] at this
  have : 0 < m.length := List.length_pos_of_mem ho
  simp only [List.length_cons]; omega
theorem Inc.nodup {l : List Op} (h : Inc l) : l.Nodup := h.imp fun g e => by rw [e, qW] at g; cases g
structure Cons (x y : Replica) : Prop where
 rx : repE x = 0
 ry : repE y = 0
 hx : ∀ o ∈ y.ops, covers x.seen o.at_ = true → o ∈ x.ops
 hy : ∀ o ∈ x.ops, covers y.seen o.at_ = true → o ∈ y.ops
theorem half_iff {a b : Replica} : half a b = true ↔ ∀ o ∈ b.ops, covers a.seen o.at_ = true → o ∈ a.ops := by
 unfold half
 rw [List.all_eq_true]
 constructor
 ·intro h o ho hc
  have := h o ho
  rw [hc] at this
  exact qe.1 (by simpa using this)
 ·intro h o ho
  cases hc : covers a.seen o.at_ with
  | false => rfl
  | true => rw [qe.2 (h o ho hc)]; rfl
theorem Cons.symm {x y : Replica} (h : Cons x y) : Cons y x := ⟨h.ry, h.rx, h.hy, h.hx⟩
theorem ZN {r : Replica} (h : repE r = 0) {o : Op} (ho : o ∈ r.ops) : right o.at_ = true := zO (JJ h o ho)
theorem ym {r : Replica} (h : repE r = 0) {o : Op} (ho : o ∈ r.ops) : covers r.seen o.at_ = true := by
 rw [(Zy h).2.1]
 exact (qK (fun p hp => ZN h hp) (ZN h ho)).2 ⟨o, ho, rfl, Int.le_refl _⟩
theorem Cons.cov {x y : Replica} (h : Cons x y) {o : Op} (ho : o ∈ y.ops) : covers x.seen o.at_ = has x.ops o := by
 cases hc : covers x.seen o.at_ with
 | true => rw [qe.2 (h.hx o ho hc)]
 | false =>
  cases hh : has x.ops o with
  | false => rfl
  | true => rw [ym h.rx (qe.1 hh)] at hc; cases hc
def news (x y : List Op) : List Op := y.filter fun o => !has x o
theorem qU {x y : List Op} {o : Op} : o ∈ news x y ↔ o ∈ y ∧ o ∉ x := by
 unfold news
 rw [List.mem_filter]
 simp [← qe]
theorem Inc.news {x y : List Op} (h : Inc y) : Inc (news x y) := h.filter _
theorem qv (x y : List Op) : (news x y).length = behind x y := by
 unfold news behind; rw [List.countP_eq_length_filter]
theorem Cons.missing {x y : Replica} (h : Cons x y) (n : Int) : missing y.ops x.seen n = (news x.ops y.ops).take n.toNat := by
 rw [missing_take]
 congr 1
 unfold news
 exact List.filter_congr fun o ho => by rw [h.cov ho]
theorem Inc.sub {l m : List Op} (h : Inc m) (hs : l.Sublist m) : Inc l := List.Pairwise.sublist hs h
theorem Cons.part {x y : Replica} (h : Cons x y) {n : Int} (hn : 1 ≤ n) (hlen : x.ops.length + y.ops.length ≤ 400) :
  (merge x (Go.Proofs.YtcfkokllinkigaaGreatDoor.missing y.ops x.seen n)).2 = 0 ∧ Cons (merge x (Go.Proofs.YtcfkokllinkigaaGreatDoor.missing y.ops x.seen n)).1 y ∧
  (∀ o, o ∈ (merge x (Go.Proofs.YtcfkokllinkigaaGreatDoor.missing y.ops x.seen n)).1.ops ↔ o ∈ x.ops ∨ o ∈ Go.Proofs.YtcfkokllinkigaaGreatDoor.missing y.ops x.seen n) ∧
  behind (merge x (Go.Proofs.YtcfkokllinkigaaGreatDoor.missing y.ops x.seen n)).1.ops y.ops ≤ behind x.ops y.ops - 1 ∧
  behind y.ops (merge x (Go.Proofs.YtcfkokllinkigaaGreatDoor.missing y.ops x.seen n)).1.ops = behind y.ops x.ops ∧ (merge x (Go.Proofs.YtcfkokllinkigaaGreatDoor.missing y.ops x.seen n)).1.dev = x.dev := by
 rw [h.missing]
 have hix := Zo h.rx
 have hiy := Zo h.ry
 have hin := hiy.news (x := x.ops)
 generalize hT : (news x.ops y.ops).take n.toNat = T
 have hTm : ∀ o ∈ T, o ∈ y.ops ∧ o ∉ x.ops := fun o ho => qU.1 (List.mem_of_mem_take (hT ▸ ho))
 obtain ⟨m, hu⟩ : ∃ m, unite x.ops T = some m := by
  have hU := QJ T x.ops hix
  cases hu : unite x.ops T with
  | some m => exact ⟨m, rfl⟩
  | none =>
   rw [hu] at hU
   obtain ⟨a, b, ha, hb, e, hne⟩ := hU
   exfalso
   have key : ∀ a b : Op, a ∈ x.ops → b ∈ y.ops → a.at_ = b.at_ → a = b := by
    intro a b ha hb e
    have := ym h.ry hb
    rw [← e] at this
    exact hiy.uniq (h.hy a ha this) hb e
   rcases ha with ha | ha
   ·rcases hb with hb | hb
    ·exact hne (hix.uniq ha hb e)
    ·exact hne (key a b ha (hTm b hb).1 e)
   ·rcases hb with hb | hb
    ·exact hne (key b a hb (hTm a ha).1 e.symm).symm
    ·exact hne (hiy.uniq (hTm a ha).1 (hTm b hb).1 e)
 have hU := QJ T x.ops hix
 rw [hu] at hU
 obtain ⟨him, hm⟩ := hU
 have hml := Qq T x.ops m hu
 have hTl : T.length ≤ y.ops.length := by
  rw [← hT, List.length_take]
  have : (news x.ops y.ops).length ≤ y.ops.length := List.length_filter_le ..
  omega
 obtain ⟨ax, sx, dx1, dx2, lx⟩ := Zy h.rx
 obtain ⟨ay, sy, dy1, dy2, ly⟩ := Zy h.ry
 have hTdown : ∀ o ∈ T, ∀ p ∈ y.ops, less p.at_ o.at_ = true → p ∈ m := by
  intro o ho p hp hlt
  by_cases hpx : p ∈ x.ops
  ·exact (hm p).2 (.inl hpx)
  ·refine (hm p).2 (.inr ?_)
   have hpn := qU.2 ⟨hp, hpx⟩
   rw [← List.take_append_drop n.toNat (news x.ops y.ops), hT] at hpn
   rcases List.mem_append.1 hpn with g | g
   ·exact g
   ·have hin2 := hin
    rw [← List.take_append_drop n.toNat (news x.ops y.ops), hT] at hin2
    have := (List.pairwise_append.1 hin2).2.2 o ho p g
    rw [zW this] at hlt; cases hlt
 have hall : allE [] m = 0 := allE_of him fun o ho => by
  rcases (hm o).1 ho with g | g
  ·exact ⟨x.ops, ax, g, fun p hp _ => (hm p).2 (.inl hp)⟩
  ·exact ⟨y.ops, ay, (hTm o g).1, hTdown o g⟩
 have hrep : repE (joined x m) = 0 := by
  unfold repE joined
  rw [if_neg (by simp [within]; omega), if_neg (by simp only; omega), if_neg (by simpa using hall), if_neg (by simp)]
 rw [jn hu hrep]
 have hrm : ∀ o ∈ m, right o.at_ = true := fun o ho => ZN hrep ho
 have hcons : Cons (joined x m) y := by
  refine ⟨hrep, h.ry, fun o ho hc => ?_, fun o ho hc => ?_⟩
  ·have hro := ZN h.ry ho
   obtain ⟨p, hp, hd, hle⟩ := (qK hrm hro).1 hc
   rcases (hm p).1 hp with g | g
   ·refine (hm o).2 (.inl (h.hx o ho ?_))
    rw [sx]
    exact (qK (fun q hq => ZN h.rx hq) hro).2 ⟨p, g, hd, hle⟩
   ·have hpy := (hTm p g).1
    rcases less_tri o.at_ p.at_ with q | q | q
    ·exact hTdown p g o ho q
    ·rw [hiy.uniq ho hpy q]; exact hp
    ·simp [less] at q; omega
  ·rcases (hm o).1 ho with g | g
   ·exact h.hy o g hc
   ·exact (hTm o g).1
 refine ⟨rfl, hcons, hm, ?_, ?_, rfl⟩
 ·rw [← qv, ← qv]
  have e : news (joined x m).ops y.ops = (news x.ops y.ops).drop n.toNat := by
   refine Inc.ext hiy.news (hin.sub (List.drop_sublist ..)) fun o => ?_
   rw [qU]
   constructor
   ·rintro ⟨h1, h2⟩
    have hx : o ∉ x.ops := fun g => h2 ((hm o).2 (.inl g))
    have hpn := qU.2 ⟨h1, hx⟩
    rw [← List.take_append_drop n.toNat (news x.ops y.ops), hT] at hpn
    rcases List.mem_append.1 hpn with g | g
    ·exact absurd ((hm o).2 (.inr g)) h2
    ·exact g
   ·intro g
    obtain ⟨h1, h2⟩ := qU.1 (List.mem_of_mem_drop g)
    refine ⟨h1, fun h3 => ?_⟩
    rcases (hm o).1 h3 with g2 | g2
    ·exact h2 g2
    ·have hin2 := hin
     rw [← List.take_append_drop n.toNat (news x.ops y.ops), hT] at hin2
     exact qq ((List.pairwise_append.1 hin2).2.2 o g2 o g) rfl
  rw [e, List.length_drop]; omega
 ·rw [← qv, ← qv]
  have e : news y.ops (joined x m).ops = news y.ops x.ops := by
   refine Inc.ext (Inc.news him) (Inc.news hix) fun o => ?_
   rw [qU, qU]
   constructor
   ·rintro ⟨h1, h2⟩
    rcases (hm o).1 h1 with g | g
    ·exact ⟨g, h2⟩
    ·exact absurd (hTm o g).1 h2
   ·rintro ⟨h1, h2⟩
    exact ⟨(hm o).2 (.inl h1), h2⟩
  rw [e]
theorem jG {a b : List Op} : behind a b = 0 ↔ ∀ o ∈ b, o ∈ a := by
 unfold behind
 rw [List.countP_eq_zero]
 constructor
 ·intro h o ho; exact qe.1 (by simpa using h o ho)
 ·intro h o ho; simp [qe.2 (h o ho)]
theorem wP (a b : List Op) : behind a b ≤ b.length := List.countP_le_length
end
section
open Go.Ac
theorem good_of {r : Replica} (h : repE r = 0) : Good r.ops := ⟨Zo h, JJ h⟩
theorem y9 {l : List Op} {note : Int} : (cell l note).isSome = lives l note := by
 unfold cell lives
 cases addedO l note with
 | none => rfl
 | some a => simp only [Option.isSome_some, Bool.true_and]; split <;> simp_all
theorem idOf_mono {a b : Stamp} (ha : right a = true) (hb : right b = true) (h : less a b = true) : idOf a < idOf b := by
 rcases a with ⟨a1, a2⟩
 rcases b with ⟨b1, b2⟩
 rw [idOf, idOf, if_pos ha, if_pos hb]
 simp only [right, less, Bool.and_eq_true, Bool.or_eq_true, decide_eq_true_eq] at ha hb h ⊢
 omega
def cellsF (l : List Op) (rc : Int) (o : Op) : Option Cell := if o.kind = 0 ∧ o.rec_ = rc then cell l o.note.id else none
theorem wO (l : List Op) (rc : Int) : cells l rc = l.filterMap (cellsF l rc) := by
 have H : ∀ (k : List Op) (out : List Cell), k.foldl (cellsStep l rc) out = out ++ k.filterMap (cellsF l rc) := by
  intro k
  induction k with
  | nil => intro out; simp
  | cons o r ih =>
   intro out
   rw [List.foldl_cons, ih]
   have hst : cellsStep l rc out o = out ++ (cellsF l rc o).toList := by
    unfold cellsStep cellsF
    split
    ·cases cell l o.note.id with
     | none => simp
     | some c => simp
    ·simp
   rw [hst, List.append_assoc]
   congr 1
   cases h : cellsF l rc o with
   | none => rw [List.filterMap_cons_none h]; rfl
   | some c => rw [List.filterMap_cons_some h]; rfl
 have := H l []
 simpa [cells] using this
theorem jC {l : List Op} {note : Int} {c : Cell} (h : cell l note = some c) : ∃ a, addedO l note = some a ∧ c = cellOf l note a ∧ c.note.id = note ∧ c.rec_ = a.rec_ := by
 unfold cell at h
 cases ha : addedO l note with
 | none => rw [ha] at h; cases h
 | some a =>
  rw [ha] at h
  simp only at h
  split at h
  ·cases h
   have := List.find?_some ha
   simp only [Bool.and_eq_true, decide_eq_true_eq] at this
   exact ⟨a, rfl, rfl, this.2, rfl⟩
  ·cases h
theorem cells_mem {l : List Op} (hg : Good l) {rc : Int} {c : Cell} : c ∈ cells l rc ↔ cell l c.note.id = some c ∧ c.rec_ = rc := by
 rw [wO, List.mem_filterMap]
 constructor
 ·rintro ⟨o, ho, h⟩
  unfold cellsF at h
  split at h
  ·rename_i hc
   obtain ⟨a, ha, he, hid, hr⟩ := jC h
   have := Yk hg ho hc.1 rfl
   rw [ha] at this
   cases this
   exact ⟨by rw [hid]; exact h, by rw [hr]; exact hc.2⟩
  ·cases h
 ·rintro ⟨h, hr⟩
  obtain ⟨a, ha, he, hid, hr2⟩ := jC h
  have h1 := List.mem_of_find?_eq_some ha
  have h2 := List.find?_some ha
  simp only [Bool.and_eq_true, decide_eq_true_eq] at h2
  refine ⟨a, h1, ?_⟩
  unfold cellsF
  rw [if_pos ⟨h2.1, by rw [← hr2]; exact hr⟩, h2.2]
  exact h
theorem cells_inc {l : List Op} (hg : Good l) (rc : Int) : (cells l rc).Pairwise fun a b => a.note.id < b.note.id := by
 rw [wO, List.pairwise_filterMap]
 refine List.Pairwise.imp_of_mem ?_ hg.1
 intro a b ha hb hlt x hx y hy
 unfold cellsF at hx hy
 split at hx
 ·split at hy
  ·rename_i h1 h2
   obtain ⟨_, _, _, e1, _⟩ := jC hx
   obtain ⟨_, _, _, e2, _⟩ := jC hy
   rw [e1, e2, ww (hg.2 a ha) h1.1, ww (hg.2 b hb) h2.1]
   exact idOf_mono (zO (hg.2 a ha)) (zO (hg.2 b hb)) hlt
  ·cases hy
 ·cases hx
end
section
open Go.Ac
def current (c : Cell) : Note :=
  { c.note with
    text := match c.text.getLast? with | some v => v.text | none => c.note.text
    span := ⟨match c.fro.getLast? with | some v => v.n | none => c.note.span.fro, match c.til.getLast? with | some v => v.n | none => c.note.span.til⟩ }
end
section
open Go.Ac
end
section
open Go.Ac
abbrev valsK (l : List Op) (note f : Int) (k : Nat) : List Val := ((l.take k).filter (keepV l note f)).map (valueOf · f)
theorem valsK_yes {l : List Op} {note f : Int} {k : Nat} {x : Op} (h : l[k]? = some x) (hk : keepV l note f x = true) : valsK l note f (k + 1) = valsK l note f k ++ [valueOf x f] := by
 unfold valsK
 rw [List.take_add_one, h, Option.toList_some, List.filter_append, List.filter_cons_of_pos hk, List.filter_nil, List.map_append]; rfl
theorem valsK_no {l : List Op} {note f : Int} {k : Nat} {x : Op} (h : l[k]? = some x) (hk : keepV l note f x = false) : valsK l note f (k + 1) = valsK l note f k := by
 unfold valsK
 rw [List.take_add_one, h, Option.toList_some, List.filter_append, List.filter_cons_of_neg (by simp [hk]), List.filter_nil, List.append_nil]
theorem valsK_len (l : List Op) (note f : Int) (k : Nat) : (valsK l note f k).length ≤ l.length := by
 unfold valsK
 rw [List.length_map]
 have := List.length_filter_le (keepV l note f) (l.take k)
 rw [List.length_take] at this
 omega
theorem valuesL_len (l : List Op) (note f : Int) : (valuesL l note f).length ≤ l.length := by
 unfold valuesL
 rw [List.length_map]
 exact List.length_filter_le ..
end
end Go.Proofs.YtcfkokllinkigaaGreatDoor
namespace Go.Ac
section
section
variable {P : Program} {td : TDs} [T : TOK P td] {G : Glo} {N : Nat} {Q : AQ} {S Sb D : SL} {L : List LB} {ops : Array Oper} {rest : List Oper}
 {op : Op} {ty : TypeId} {pos : String} {af : Array Edge} {d i : Nat} {x : AV} {nb : Nat} {W : DW}
theorem run_callF {f : FuncId} (hf : Callable P f) {o : Oper} {p : Operand} {us : Array Operand} {ats : Array TypeId} (ho : o.op = .call { callee := .value p, args := us, argTypes := ats }) (a : Act) (w : World) (hp : a.eval p = .func (.func f) #[] #[]) :
  (execOp a.eval o).run P w = .ok (.enter f (us.map a.eval)) w := by
 obtain ⟨fn, h1, h2, h3⟩ := hf
 have h3' : ¬ fn.name = "runtime.NumGoroutine" := by simpa using h3
 have h2' : ¬ fn.body = none := by intro e; rw [e] at h2; cases h2
 simp [execOp, ho, resolve, hp, Deferred.ofValue, invoke, callFunc, h1, h2', h3']
theorem fn_R {cx : Cx} {a : Act} (hc : Cn G N S L cx a) {p : Operand} {f : FuncId} (hp : val G S p = some (.fn f [] [])) : a.eval p = .func (.func f) #[] #[] := by
 have h := zn hc hp
 simp only [R, TR] at h
 obtain ⟨xs, ys, h, e1, e2⟩ := h
 have hx : xs = #[] := by simpa using e1
 have hy : ys = #[] := by simpa using e2
 rw [h, hx, hy]
end
end
end Go.Ac
section
namespace Go.Ac
section
variable {P : Program} {td : TDs} [T : TOK P td] {G : Glo} {N : Nat} {Q : AQ} {S : SL} {L : List LB} {ops : Array Oper} {rest : List Oper}
 {ty : TypeId} {pos : String} {af : Array Edge} {d : Nat}
theorem Ye {t t' e sz n : Nat} {dd : TD} {u : Operand} {es : List (List AV)} (hu : val G S u = some (.fs sz n es)) (ht : lk td t = some dd) (hs : dd.k = .slice e) (hd : Nat.blt d N = true)
  (k0 : n = 0 → awpL P G N ops rest Q ((d, .v (.bool true)) :: S) L) (k1 : awpL P G N ops rest Q ((d, .v (.bool false)) :: S) L) :
  awpL P G N ops (⟨some d, .binOp .eql t u (.const (.slice none 0 0)) t', ty, pos, af, none⟩ :: rest) Q S L := by
 intro cx a hc
 have e1 := zn hc hu
 simp only [R, RF] at e1
 obtain ⟨hlen, ad, cap, e1, hcap, hmem⟩ := e1
 have hsd := zH (P := P) ht hs
 have hrun : (execOp a.eval ⟨some d, .binOp .eql t u (.const (.slice none 0 0)) t', ty, pos, af, none⟩).run P cx.w = .ok (.value (.bool ad.isNone)) cx.w := by
  have c0 : a.eval (.const (.slice none 0 0)) = .slice none 0 0 := rfl
  have := Go.Lib.run_eql_slice_nil (P := P) cx.w t e ad n cap 0 0 hsd
  simp only [execOp, e1, c0, Sem.run_bind]
  simp [eqGuard, Result.andThen_ok, Sem.run_pure, this]
 refine wpListIn_plain rfl fun K hK => zy rfl ?_
 rw [hrun, Oper.uponIn_value]
 cases had : ad with
 | none =>
  have hn : n = 0 := Decidable.byContradiction fun h => by
   obtain ⟨b, off, h1, _⟩ := hmem h
   rw [had] at h1; cases h1
  exact hK _ _ (k0 hn cx _ (hc.put hd (by simp only [R]; rfl)))
 | some x => exact hK _ _ (k1 cx _ (hc.put hd (by simp only [R]; rfl)))
end
end Go.Ac
namespace Go.Ac
section
variable {P : Program} {td : TDs} [T : TOK P td] {G : Glo} {N : Nat} {Q : AQ} {S Sb D D' : SL} {L : List LB} {rest : List Oper} {C : SL → List LB → Prop}
 {ty : TypeId} {pos : String} {af : Array Edge} {d nb : Nat} {W : DW}
theorem awp_retA {t E sz : Nat} (hg : get S t = some (.v (.slice none 0 0))) (h : Q .ret ((t, .os L.length 0) :: S) (L ++ [.own 0 E sz []])) : awp P G N .ret Q S L :=
 ZC (E := E) (sz := sz) hg rfl rfl (J7 h)
theorem pev_ocall {f : FuncId} {us : Array Operand} {ats : Array TypeId} {args : List AV} {E sz k : Nat} {es : List (List AV)} {L' : List LB} (hargs : vals G S us.toList = some args) (hF : args.all isF = true) (h : OCalls P G.g f args E sz es) (hk : L.length = k) (hL : L ++ [.own 0 E sz es] = L') :
  PEv P G N (.call { callee := .value (.func f), args := us, argTypes := ats }) ty S L (.os k 0) L' := by
 subst hk hL
 intro o ho ht cx a hc K Q hK
 have ha := QF hF (ZV hc hargs)
 refine zy (by rw [ho]; rfl) ?_
 rw [qa h.1 (o := o) ho a cx.w, Oper.uponIn_enter]
 refine ⟨fun h => by simp at h, CallsIn.mono (h.2 cx.F cx.w (us.map a.eval) hc.st.bare (by simpa using ha)) ?_⟩
 rintro e w' ⟨y, c', rfl, hr, st', ex, rfl, hφ⟩
 obtain ⟨c2, hst, hR, hw⟩ := hc.st.afterO hr st' ex hφ
 rw [← hw]
 exact hK y c2 hR hst
theorem awpD_oc {M : List LB} {f : FuncId} {us : Array Operand} {ats : Array TypeId} {args : List AV} {E sz k : Nat} {es : List (List AV)} {L' : List LB} {T' : TL} (hq : W.sq = false) (hM : Msk af.toList nb W.L W.T M) (hargs : vals G (pvS af D Sb) us.toList = some args) (hF : args.all isF = true) (h : OCalls P G.g f args E sz es)
  (hk : M.length = k) (hx : noid (okid (M ++ [.own 0 E sz es]) nb) (.os k 0) = true) (hT : addT af.toList D.length W.T ++ [(D.length, [D.length])] = T') (hL : W.L ++ [.own 0 E sz es] = L') (hD : D ++ [(d, .os k 0)] = D')
  (kk : awpD P G N C Sb nb rest D' ⟨L', T', D.length :: W.Z, false⟩) :
  awpD P G N C Sb nb (⟨some d, .call { callee := .value (.func f), args := us, argTypes := ats }, ty, pos, af, none⟩ :: rest) D W := by
 subst hD hk hL hT
 exact .step (r := (d, .os M.length 0, .op (some (W.L.length, .own 0 E sz es)))) (.new rfl rfl hq hM.eq (pev_ocall hargs hF h rfl rfl) hx rfl) kk
end
end Go.Ac
end
namespace Go.Proofs.YtcfkokllinkigaaGreatDoor
section
open Go.Ac Go.MapKept
attribute [local irreducible] awp awpL Ev Ev2 EvS thenQ blockQ retQ PCalls OCalls YieldOk IterC ICalls
set_option maxHeartbeats 1000000 in
theorem Clone_spec {g : List (Nat × List AV)} (l : List Op) (hl : l.length ≤ 100000) : OCalls Tryz.prog g 109 [encOps l] 80 15 (l.map opC) := by
 have hj : ([] : List (List AV)) ++ l.map opC = l.map opC := rfl
 refine ocalls' Tryz.func109 Tryz.ntmps109 rfl rfl rfl ?_
 repeat' (first
  | refine awp_retA (t := 2) (E := 80) (sz := 15) rfl ?_
  | ((with_reducible refine zg ?_); (first | refine Ye rfl rfl rfl rfl (fun h0 => ?_) ?_ | refine zk (ZM (t := 26) (n := 0) (es := []) rfl rfl rfl rfl rfl rfl rfl rfl rfl rfl rfl qf0 qc0) rfl ?_ | refine zk (zZ (es' := l.map opC) rfl rfl rfl rfl rfl rfl rfl rfl rfl rfl rfl rfl rfl qe0 hj rfl) rfl ?_))
  | refine stn [4] ?_
  | ((with_reducible refine zr ?_); refine zf rfl rfl (fun h => ?_) (fun h => ?_))
  | ((with_reducible refine zl ?_); refine ze rfl (fun h => ?_) (fun h => ?_))
  | fail)
 ·have hl0 : l = [] := List.eq_nil_of_length_eq_zero h0
  subst hl0
  exact retO rfl rfl
 ·exact retO rfl rfl
theorem ids_snoc {l : List Op} {o : Op} (h : Ids l) (ho : I64 o.note.id) : Ids (l ++ [o]) := fun p hp => by
 rcases List.mem_append.1 hp with g | g
 ·exact h p g
 ·simp only [List.mem_singleton] at g; subst g; exact ho
theorem withR_good {r : Replica} {o : Op} (h : repE (longerR r o) = 0) : withR r o = (longerR r o, 0) := if_pos h
theorem withR_err {r : Replica} {o : Op} (h : repE (longerR r o) ≠ 0) : withR r o = (zeroRep, repE (longerR r o)) := if_neg h
set_option maxRecDepth 8000 in
set_option maxHeartbeats 4000000 in
theorem with_spec (r : Replica) (o : Op) (hs : r.seen.length ≤ 1000000) (hl : r.ops.length ≤ 10000) (hid : Ids r.ops) (ho : I64 o.note.id) : PCalls Tryz.prog GL 85 [.agg (repC r), .agg (opC o)] (mergeV (withR r o)) := by
 have hS := SeeP (g := GL) r.seen o.at_ hs
 have hC := Clone_spec (g := GL) r.ops (by omega)
 have hK := Yo (longerR r o) (by rw [longerR, see_len]; omega) (ids_snoc hid ho)
 have hK' : PCalls Tryz.prog GL 35 [.agg [vi r.dev, encIs (see r.seen o.at_), .fs 15 ((r.ops ++ [o]).map opC).length ((r.ops ++ [o]).map opC)]] (vi (repE (longerR r o))) := by rw [List.length_map]; exact hK
 have hj : r.ops.map opC ++ [opC o] = (r.ops ++ [o]).map opC := by simp
 have hx : exL [.box zeroRepC, .own 1 80 15 ((r.ops ++ [o]).map opC), .box [vi r.dev, encIs (see r.seen o.at_), .os 1 1]] [.lag [vi r.dev, encIs (see r.seen o.at_), .os 1 1]] = [.agg [vi r.dev, encIs (see r.seen o.at_), .fs 15 ((r.ops ++ [o]).map opC).length ((r.ops ++ [o]).map opC)]] := by simp [exL, ex]
 refine pcalls' Tryz.func85 Tryz.ntmps85 rfl rfl rfl ?_
 by_cases he : repE (longerR r o) = 0
 ·have c2 : (!decide (repE (longerR r o) = 0)) = false := by simp [he]
  rw [withR_good he]
  repeat' (first
   | refine awpD_oc rfl qd0 rfl rfl hC rfl rfl rfl qc0 qb0 ?_
   | refine awpD_up (kk := 1) rfl qd0 rfl rfl rfl rfl (zZ (es' := (r.ops ++ [o]).map opC) rfl rfl rfl rfl rfl rfl rfl rfl rfl rfl rfl rfl rfl qe0 hj rfl) rfl rfl rfl rfl rfl rfl qb0 ?_
   | ((with_reducible refine zg ?_); refine Q4 rfl hx hK' rfl rfl ?_)
   | refine st [4] ?_
   | ((with_reducible refine zr ?_); refine zf rfl rfl (fun h => ?_) (fun h => ?_))
   | ((with_reducible refine zp ?_); ((fail_if_success (refine isD_kn (c := true) rfl qa0 ?_)); (fail_if_success (refine isD_kn (c := false) rfl qa0 ?_)); refine zI rfl (fun h => ?_) (fun h => ?_)))
   | ((with_reducible refine zl ?_); refine ze rfl (fun h => ?_) (fun h => ?_))
   | fail)
  refine retP rfl ?_
  simp [ex, exL, mergeV, longerR, repC]
 ·have c2 : (!decide (repE (longerR r o) = 0)) = true := by simp [he]
  rw [withR_err he]
  repeat' (first
   | refine awpD_oc rfl qd0 rfl rfl hC rfl rfl rfl qc0 qb0 ?_
   | refine awpD_up (kk := 1) rfl qd0 rfl rfl rfl rfl (zZ (es' := (r.ops ++ [o]).map opC) rfl rfl rfl rfl rfl rfl rfl rfl rfl rfl rfl rfl rfl qe0 hj rfl) rfl rfl rfl rfl rfl rfl qb0 ?_
   | ((with_reducible refine zg ?_); refine Q4 rfl hx hK' rfl rfl ?_)
   | refine st [4] ?_
   | ((with_reducible refine zr ?_); refine zf rfl rfl (fun h => ?_) (fun h => ?_))
   | ((with_reducible refine zp ?_); ((fail_if_success (refine isD_kn (c := true) rfl qa0 ?_)); (fail_if_success (refine isD_kn (c := false) rfl qa0 ?_)); refine zI rfl (fun h => ?_) (fun h => ?_)))
   | ((with_reducible refine zl ?_); refine ze rfl (fun h => ?_) (fun h => ?_))
   | fail)
  exact retLe rfl (jr _)
end
section
open Go.Ac Go.MapKept
attribute [local irreducible] awp awpL Ev Ev2 EvS thenQ blockQ retQ PCalls OCalls YieldOk IterC ICalls
def addV (p : Replica × Int × Int) : AV := .tup [.agg (repC p.1), vi p.2.1, vi p.2.2]
theorem le_zeroA (i e : Int) : Le (.tup [.agg zeroRepC, vi i, vi e]) (addV (zeroRep, i, e)) := Le.tup (.cons (Le.agg yN) (.cons (Le.rfl' _) (.cons (Le.rfl' _) .nil)))
theorem idOf_64 (s : Stamp) : I64 (idOf s) := by
 unfold I64 idOf
 split
 ·rename_i h
  simp only [right, Bool.and_eq_true, decide_eq_true_eq] at h
  omega
 ·omega
abbrev addC (s : Stamp) (rc : Int) (n : Note) : List AV := [vi s.count, vi s.dev, vi 0, vi rc, vi (idOf s), vi n.tier, vi n.parent, vi n.span.fro, vi n.span.til, vi n.rank, vs n.text, vi 0, vi 0, .v (.string .empty), nilS]
theorem le_addC (s : Stamp) (rc : Int) (n : Note) : LeA (addC s rc n) (opC (addOpR s rc n)) :=
 .cons (Le.rfl' _) (.cons (Le.rfl' _) (.cons (Le.rfl' _) (.cons (Le.rfl' _) (.cons (Le.rfl' _) (.cons (Le.rfl' _) (.cons (Le.rfl' _) (.cons (Le.rfl' _) (.cons (Le.rfl' _) (.cons (Le.rfl' _) (.cons (Le.rfl' _) (.cons (Le.rfl' _) (.cons (Le.rfl' _) (.cons (Le.rfl' _) (.cons (Le.nil 2) .nil))))))))))))))
theorem addR_none {r : Replica} {rc : Int} {n : Note} (h : nextS r.seen r.dev = none) : addR r rc n = (zeroRep, 0, 27) := by unfold addR; rw [h]; rfl
theorem addR_good {r : Replica} {rc : Int} {n : Note} {s : Stamp} (h : nextS r.seen r.dev = some s) (he : (withR r (addOpR s rc n)).2 = 0) : addR r rc n = ((withR r (addOpR s rc n)).1, idOf s, 0) := by unfold addR; rw [h]; exact if_pos he
theorem addR_bad {r : Replica} {rc : Int} {n : Note} {s : Stamp} (h : nextS r.seen r.dev = some s) (he : (withR r (addOpR s rc n)).2 ≠ 0) : addR r rc n = (zeroRep, 0, (withR r (addOpR s rc n)).2) := by unfold addR; rw [h]; exact if_neg he
set_option maxRecDepth 8000 in
set_option maxHeartbeats 4000000 in
theorem Add_spec (r : Replica) (rc : Int) (n : Note) (hs : r.seen.length ≤ 1000000) (hl : r.ops.length ≤ 10000) (hid : Ids r.ops) : PCalls Tryz.prog GL 54 [.agg (repC r), vi rc, .agg (noteC n)] (addV (addR r rc n)) := by
 have hN : PCalls Tryz.prog GL _ _ _ := Next_spec r.seen r.dev hs
 have n1 : (!true) = false := rfl
 have n2 : (!false) = true := rfl
 refine pcalls' Tryz.func54 Tryz.ntmps54 rfl rfl rfl ?_
 cases hn : nextS r.seen r.dev with
 | none =>
  rw [hn] at hN
  simp only [nextP, Option.getD_none, Option.isSome_none] at hN
  rw [addR_none hn]
  repeat' (first
   | refine st [5, 6] ?_
   | ((with_reducible refine zr ?_); refine zf rfl rfl (fun h => ?_) (fun h => ?_))
   | ((with_reducible refine zp ?_); ((fail_if_success (refine isD_kn (c := true) rfl qa0 ?_)); (fail_if_success (refine isD_kn (c := false) rfl qa0 ?_)); refine zI rfl (fun h => ?_) (fun h => ?_)))
   | ((with_reducible refine zl ?_); refine ze rfl (fun h => ?_) (fun h => ?_))
   | fail)
  exact retLe rfl (le_zeroA _ _)
 | some s =>
  rw [hn] at hN
  simp only [nextP, Option.getD_some, Option.isSome_some] at hN
  have hI : PCalls Tryz.prog GL _ _ _ := Id_spec s
  have hW0 : PCalls Tryz.prog GL _ _ _ := with_spec r (addOpR s rc n) hs hl hid (idOf_64 s)
  have hW := hW0.args (.cons (Le.rfl' _) (.cons (Le.agg (le_addC s rc n)) .nil))
  rw [mergeV] at hW
  by_cases he : (withR r (addOpR s rc n)).2 = 0
  ·have c1 : (!decide ((withR r (addOpR s rc n)).2 = 0)) = false := by simp [he]
   rw [addR_good hn he]
   repeat' (first
    | refine QY 5 (c := .region 8 _ _) rfl rfl rfl rfl ?_
    | refine st [5, 6] ?_
    | ((with_reducible refine zr ?_); refine zf rfl rfl (fun h => ?_) (fun h => ?_))
    | ((with_reducible refine zp ?_); ((fail_if_success (refine isD_kn (c := true) rfl qa0 ?_)); (fail_if_success (refine isD_kn (c := false) rfl qa0 ?_)); refine zI rfl (fun h => ?_) (fun h => ?_)))
    | ((with_reducible refine zl ?_); refine ze rfl (fun h => ?_) (fun h => ?_))
    | fail)
   exact retP rfl rfl
  ·have c1 : (!decide ((withR r (addOpR s rc n)).2 = 0)) = true := by simp [he]
   rw [addR_bad hn he]
   repeat' (first
    | refine st [5, 6] ?_
    | ((with_reducible refine zr ?_); refine zf rfl rfl (fun h => ?_) (fun h => ?_))
    | ((with_reducible refine zp ?_); ((fail_if_success (refine isD_kn (c := true) rfl qa0 ?_)); (fail_if_success (refine isD_kn (c := false) rfl qa0 ?_)); refine zI rfl (fun h => ?_) (fun h => ?_)))
    | ((with_reducible refine zl ?_); refine ze rfl (fun h => ?_) (fun h => ?_))
    | fail)
   exact retLe rfl (le_zeroA _ _)
end
end Go.Proofs.YtcfkokllinkigaaGreatDoor
