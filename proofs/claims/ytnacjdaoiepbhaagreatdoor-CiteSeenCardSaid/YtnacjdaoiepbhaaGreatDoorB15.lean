/- A logic of trees over the model's steps, and the contracts of the functions that the laws reach: part 15 of 19. -/
import Derived.Test.YtnacjdaoiepbhaaGreatDoorB14
set_option linter.unusedVariables false
set_option linter.unusedSimpArgs false
set_option linter.unusedSectionVars false
section
namespace Go.Proofs.YtnacjdaoiepbhaaGreatDoor
open Go.Ac
attribute [local irreducible] awp awpL Ev Ev2 EvS thenQ blockQ retQ PCalls OCalls YieldOk IterC ICalls
variable {g : List (Nat × List AV)}
def seenB (spans : List Span) (x : Option Span) : Bool := match x with
  | some s => covB spans s
  | none => false
structure FitD (d : Doc) : Prop where
  n : d.notes.length ≤ 1000000
  t : d.tiers.length ≤ 10000
set_option maxHeartbeats 1000000 in
theorem SeenD_spec (d : Doc) (spans : List Span) (id : Int) (x : Option Span) (hw : whereF d (d.tiers.length + 1) id = some x) (hd : FitD d) (hl : spans.length ≤ 20) : PCalls Tryz.prog g 31 [.agg (docC d), encSpans spans, vi id] (vb (seenB spans x)) := by
  have hW := Where_spec (g := g) d id (d.tiers.length + 1) x hw hd.n (by have := hd.t; omega)
  refine pcalls' Tryz.func31 Tryz.ntmps31 rfl rfl rfl ?_
  cases x with
  | none =>
    have hW : PCalls Tryz.prog g _ [.agg (docC d), vi id] (.tup [.agg (spanC ⟨0, 0⟩), vb false]) := hW
    repeat' (first
     | refine stn [] ?_
     | ((with_reducible refine is_gd ?_); refine awpL_split rfl rfl (fun h => ?_) (fun h => ?_))
     | ((with_reducible refine is_awp ?_); refine awp_cond rfl (fun h => ?_) (fun h => ?_))
     | fail)
    exact retP rfl rfl
  | some s =>
    have hW : PCalls Tryz.prog g _ [.agg (docC d), vi id] (.tup [.agg (spanC s), vb true]) := hW
    have hC := Covers_S (g := g) spans s (by omega)
    repeat' (first
     | refine stn [] ?_
     | ((with_reducible refine is_gd ?_); refine awpL_split rfl rfl (fun h => ?_) (fun h => ?_))
     | ((with_reducible refine is_awp ?_); refine awp_cond rfl (fun h => ?_) (fun h => ?_))
     | fail)
    exact retP rfl rfl
set_option maxHeartbeats 1000000 in
theorem rSeenD_spec (d : Doc) (spans : List Span) (id : Int) (x : Option Span) (hw : whereF d (d.tiers.length + 1) id = some x) (hd : FitD d) (hl : spans.length ≤ 20) : PCalls Tryz.prog g 55 [.agg (docC d), encSpans spans, vi id] (vb (seenB spans x)) := by
  have hW := rWhere_spec (g := g) d id hd.n (by have := hd.t; omega)
  rw [firstAl_chain hw] at hW
  refine pcalls' Tryz.func55 Tryz.ntmps55 rfl rfl rfl ?_
  cases x with
  | none =>
    have hW : PCalls Tryz.prog g _ [.agg (docC d), vi id] (.tup [.agg (spanC ⟨0, 0⟩), vb false]) := hW
    repeat' (first
     | refine stn [] ?_
     | ((with_reducible refine is_gd ?_); refine awpL_split rfl rfl (fun h => ?_) (fun h => ?_))
     | ((with_reducible refine is_awp ?_); refine awp_cond rfl (fun h => ?_) (fun h => ?_))
     | fail)
    exact retP rfl rfl
  | some s =>
    have hW : PCalls Tryz.prog g _ [.agg (docC d), vi id] (.tup [.agg (spanC s), vb true]) := hW
    have hC := rCovers_S (g := g) spans s (by omega)
    repeat' (first
     | refine stn [] ?_
     | ((with_reducible refine is_gd ?_); refine awpL_split rfl rfl (fun h => ?_) (fun h => ?_))
     | ((with_reducible refine is_awp ?_); refine awp_cond rfl (fun h => ?_) (fun h => ?_))
     | fail)
    exact retP rfl rfl
def openR (l : List Op) (d : Doc) (spans : List Span) (c : Cite) (x : Option Span) : ByteArray × Int :=
  if (resR l c).2 = 0 then
    (if (getN d.notes c.note).isSome = true ∧ d.rec_.id = c.rec_ then (if seenB spans x then ((resR l c).1, 0) else (.empty, 25)) else (.empty, 9))
  else (.empty, (resR l c).2)
set_option maxHeartbeats 2000000 in
theorem Open_spec (r : Replica) (d : Doc) (spans : List Span) (c : Cite) (x : Option Span) (hr : FitG r) (hw : whereF d (d.tiers.length + 1) c.note = some x) (hd : FitD d) (hl : spans.length ≤ 20) :
    PCalls Tryz.prog g 28 [.agg (repC r), .agg (docC d), encSpans spans, .agg (citeC c)] (resV (openR r.ops d spans c x)) := by
  have hR := Resolve_spec (g := g) r c hr
  have hG := Get_spec (g := g) d c.note hd.n
  have hS := SeenD_spec (g := g) d spans c.note x hw hd hl
  have n1 : (!true) = false := rfl
  have n2 : (!false) = true := rfl
  refine pcalls' Tryz.func28 Tryz.ntmps28 rfl rfl rfl ?_
  unfold openR
  rw [resV] at hR
  generalize resR r.ops c = p at *
  obtain ⟨p1, p2⟩ := p
  simp only at hR ⊢
  by_cases h0 : p2 = 0
  · have c0 : (!decide (p2 = 0)) = false := by simp [h0]
    rw [if_pos h0]
    cases hg : getN d.notes c.note with
    | none =>
      rw [getV, hg] at hG
      simp only [Option.getD_none, Option.isSome_none] at hG
      rw [if_neg (by simp)]
      repeat' (first
       | refine stn [] ?_
       | ((with_reducible refine is_gd ?_); refine awpL_split rfl rfl (fun h => ?_) (fun h => ?_))
       | ((with_reducible refine is_awp ?_); refine awp_cond rfl (fun h => ?_) (fun h => ?_))
       | fail)
      exact retP rfl rfl
    | some n =>
      rw [getV, hg] at hG
      simp only [Option.getD_some, Option.isSome_some] at hG
      by_cases he : d.rec_.id = c.rec_
      · have c1 : (!decide (d.rec_.id = c.rec_)) = false := by simp [he]
        have c1' : (!decide (c.rec_ = d.rec_.id)) = false := by simp [he]
        rw [if_pos ⟨rfl, he⟩]
        cases hs : seenB spans x with
        | true =>
          rw [hs] at hS
          repeat' (first
           | refine stn [] ?_
           | ((with_reducible refine is_gd ?_); refine awpL_split rfl rfl (fun h => ?_) (fun h => ?_))
           | ((with_reducible refine is_awp ?_); refine awp_cond rfl (fun h => ?_) (fun h => ?_))
           | fail)
          exact retP rfl rfl
        | false =>
          rw [hs] at hS
          repeat' (first
           | refine stn [] ?_
           | ((with_reducible refine is_gd ?_); refine awpL_split rfl rfl (fun h => ?_) (fun h => ?_))
           | ((with_reducible refine is_awp ?_); refine awp_cond rfl (fun h => ?_) (fun h => ?_))
           | fail)
          exact retP rfl rfl
      · have c1 : (!decide (d.rec_.id = c.rec_)) = true := by simp [he]
        have c1' : (!decide (c.rec_ = d.rec_.id)) = true := by simp; exact fun h => he h.symm
        rw [if_neg (fun h => he h.2)]
        repeat' (first
         | refine stn [] ?_
         | ((with_reducible refine is_gd ?_); refine awpL_split rfl rfl (fun h => ?_) (fun h => ?_))
         | ((with_reducible refine is_awp ?_); refine awp_cond rfl (fun h => ?_) (fun h => ?_))
         | fail)
        exact retP rfl rfl
  · have c0 : (!decide (p2 = 0)) = true := by simp [h0]
    rw [if_neg h0]
    repeat' (first
     | refine stn [] ?_
     | ((with_reducible refine is_gd ?_); refine awpL_split rfl rfl (fun h => ?_) (fun h => ?_))
     | ((with_reducible refine is_awp ?_); refine awp_cond rfl (fun h => ?_) (fun h => ?_))
     | fail)
    exact retP rfl rfl
set_option maxHeartbeats 2000000 in
theorem rOpen_spec (r : Replica) (d : Doc) (spans : List Span) (c : Cite) (x : Option Span) (hr : FitG r) (hw : whereF d (d.tiers.length + 1) c.note = some x) (hd : FitD d) (hl : spans.length ≤ 20) :
    PCalls Tryz.prog g 30 [.agg (repC r), .agg (docC d), encSpans spans, .agg (citeC c)] (resV (openR r.ops d spans c x)) := by
  have hR := rResolve_spec (g := g) r c hr
  have hG := rGet_spec (g := g) d c.note hd.n
  have hS := rSeenD_spec (g := g) d spans c.note x hw hd hl
  have n1 : (!true) = false := rfl
  have n2 : (!false) = true := rfl
  refine pcalls' Tryz.func30 Tryz.ntmps30 rfl rfl rfl ?_
  unfold openR
  rw [resV] at hR
  generalize resR r.ops c = p at *
  obtain ⟨p1, p2⟩ := p
  simp only at hR ⊢
  by_cases h0 : p2 = 0
  · have c0 : (!decide (p2 = 0)) = false := by simp [h0]
    rw [if_pos h0]
    cases hg : getN d.notes c.note with
    | none =>
      rw [getV, hg] at hG
      simp only [Option.getD_none, Option.isSome_none] at hG
      rw [if_neg (by simp)]
      repeat' (first
       | refine stn [] ?_
       | ((with_reducible refine is_gd ?_); refine awpL_split rfl rfl (fun h => ?_) (fun h => ?_))
       | ((with_reducible refine is_awp ?_); refine awp_cond rfl (fun h => ?_) (fun h => ?_))
       | fail)
      exact retP rfl rfl
    | some n =>
      rw [getV, hg] at hG
      simp only [Option.getD_some, Option.isSome_some] at hG
      by_cases he : d.rec_.id = c.rec_
      · have c1 : (!decide (d.rec_.id = c.rec_)) = false := by simp [he]
        have c1' : (!decide (c.rec_ = d.rec_.id)) = false := by simp [he]
        rw [if_pos ⟨rfl, he⟩]
        cases hs : seenB spans x with
        | true =>
          rw [hs] at hS
          repeat' (first
           | refine stn [] ?_
           | ((with_reducible refine is_gd ?_); refine awpL_split rfl rfl (fun h => ?_) (fun h => ?_))
           | ((with_reducible refine is_awp ?_); refine awp_cond rfl (fun h => ?_) (fun h => ?_))
           | fail)
          exact retP rfl rfl
        | false =>
          rw [hs] at hS
          repeat' (first
           | refine stn [] ?_
           | ((with_reducible refine is_gd ?_); refine awpL_split rfl rfl (fun h => ?_) (fun h => ?_))
           | ((with_reducible refine is_awp ?_); refine awp_cond rfl (fun h => ?_) (fun h => ?_))
           | fail)
          exact retP rfl rfl
      · have c1 : (!decide (d.rec_.id = c.rec_)) = true := by simp [he]
        have c1' : (!decide (c.rec_ = d.rec_.id)) = true := by simp; exact fun h => he h.symm
        rw [if_neg (fun h => he h.2)]
        repeat' (first
         | refine stn [] ?_
         | ((with_reducible refine is_gd ?_); refine awpL_split rfl rfl (fun h => ?_) (fun h => ?_))
         | ((with_reducible refine is_awp ?_); refine awp_cond rfl (fun h => ?_) (fun h => ?_))
         | fail)
        exact retP rfl rfl
  · have c0 : (!decide (p2 = 0)) = true := by simp [h0]
    rw [if_neg h0]
    repeat' (first
     | refine stn [] ?_
     | ((with_reducible refine is_gd ?_); refine awpL_split rfl rfl (fun h => ?_) (fun h => ?_))
     | ((with_reducible refine is_awp ?_); refine awp_cond rfl (fun h => ?_) (fun h => ?_))
     | fail)
    exact retP rfl rfl
end Go.Proofs.YtnacjdaoiepbhaaGreatDoor
end
section
namespace Go.Ac
inductive LeE : List (List AV) → List (List AV) → Prop
  | nil : LeE [] []
  | cons {a b : List AV} {asv bs : List (List AV)} : LeA a b → LeE asv bs → LeE (a :: asv) (b :: bs)
theorem LeA.len {asv bs : List AV} (h : LeA asv bs) : asv.length = bs.length := by
  induction h with
  | nil => rfl
  | cons _ _ ih => simp [ih]
theorem LeE.len {asv bs : List (List AV)} (h : LeE asv bs) : asv.length = bs.length := by
  induction h with
  | nil => rfl
  | cons _ _ ih => simp [ih]
theorem LeA.MF {asv bs : List AV} (h : LeA asv bs) {F : Nat → Prop} {w : World} : ∀ {b off : Nat}, MF F w asv b off → MF F w bs b off := by
  induction h with
  | nil => intro b off h; exact h
  | cons h1 _ ih =>
    intro b off h
    simp only [Ac.MF] at h ⊢
    obtain ⟨⟨u, e, hx, h2⟩, h⟩ := h
    exact ⟨⟨u, e, h1 F w u hx, h2⟩, ih h⟩
theorem LeE.EF {asv bs : List (List AV)} (h : LeE asv bs) {F : Nat → Prop} {w : World} {sz : Nat} : ∀ {b off : Nat}, EF F w sz asv b off → EF F w sz bs b off := by
  induction h with
  | nil => intro b off h; exact h
  | cons h1 _ ih =>
    intro b off h
    simp only [Ac.EF] at h ⊢
    obtain ⟨h2, h3, h⟩ := h
    exact ⟨h1.len ▸ h2, h1.MF h3, ih h⟩
theorem Le.fs {sz n : Nat} {asv bs : List (List AV)} (h : LeE asv bs) : Le (.fs sz n asv) (.fs sz n bs) := fun F w y hy => by
  simp only [RF] at hy ⊢
  obtain ⟨h1, a, cap, h2, h3, h4⟩ := hy
  refine ⟨h.len ▸ h1, a, cap, h2, h3, fun hn => ?_⟩
  obtain ⟨b, off, h5, h6, h7⟩ := h4 hn
  exact ⟨b, off, h5, h6, h.EF h7⟩
end Go.Ac
end
section
namespace Go.Proofs.YtnacjdaoiepbhaaGreatDoor
open Go.Ac Go.MapKept Go.Lib
attribute [local irreducible] awp awpL Ev Ev2 EvS thenQ blockQ retQ PCalls OCalls YieldOk IterC ICalls
variable {g : List (Nat × List AV)}
theorem repC_FitG {r : Replica} (hs : r.seen.length ≤ 1000000) (hl : r.ops.length ≤ 10000) (ho : ∀ o ∈ r.ops, o.over.length ≤ 100000) (hi : Ids r.ops) (h0 : repE r = 0) : FitG r := ⟨⟨hl, ho⟩, hs, hi, good_of h0⟩
def sO1 : Op := ⟨⟨1, 1⟩, 0, 3, ⟨17, 0, 0, ⟨0, 0⟩, 0, ⟨#[98, 97]⟩⟩, 0, 0, .empty, []⟩
def sO2 : Op := ⟨⟨2, 1⟩, 1, 3, ⟨17, 0, 0, ⟨0, 0⟩, 0, .empty⟩, 0, 0, ⟨#[112, 97]⟩, [⟨1, 1⟩]⟩
def sRep : Replica := ⟨1, [2, 0, 0, 0, 0, 0, 0, 0, 0, 0, 0, 0, 0, 0, 0], [sO1, sO2]⟩
def sWant : Cite := ⟨3, 17, ⟨2, 1⟩⟩
def sOld : Cite := ⟨3, 17, ⟨1, 1⟩⟩
def sDoc : Doc := ⟨⟨3, .empty, 9, 0, []⟩, [⟨⟨#[97]⟩, 0, 0, -1⟩], [⟨17, 0, 0, ⟨0, 5⟩, 0, .empty⟩]⟩
theorem sGood : FitG sRep := repC_FitG (by decide) (by decide) (by decide) (fun o ho => by simp only [sRep, List.mem_cons, List.not_mem_nil, or_false] at ho; rcases ho with rfl | rfl <;> (unfold I64; decide)) (by kernel_rfl)
def sRepA : List AV := [vi 1, .fs 1 15 (sRep.seen.map intC), .fs 15 2 [(opC sO1).dropLast ++ [nilS], opC sO2]]
theorem leOp {cs : List AV} : ∀ {ds : List AV}, LeA cs ds → ∀ {ps : List AV}, LeA (ps ++ cs) (ps ++ ds) := by
  intro ds h ps
  induction ps with
  | nil => exact h
  | cons p ps ih => exact .cons (Le.rfl' _) ih
theorem leRep : Le (.agg sRepA) (.agg (repC sRep)) := Le.agg (.cons (Le.rfl' _) (.cons (Le.rfl' _) (.cons (Le.fs (.cons (leOp (cs := [nilS]) (ds := [.fs 2 0 []]) (.cons (Le.nil 2) .nil) (ps := (opC sO1).dropLast)) (.cons (LeA.refl _) .nil))) .nil)))
set_option maxHeartbeats 2000000 in
theorem sample_spec : PCalls Tryz.prog g 41 [] (.agg (repC sRep)) := by
  refine pcalls' Tryz.func41 Tryz.ntmps41 rfl rfl rfl ?_
  have hm : (0 : Int) ≤ 15 ∧ (8 : Nat) * (15 : Int) ≤ 281474976710656 ∧ (15 : Int) ≤ 9223372036854775807 := by omega
  have hc : 0 ≤ (0 : Int) ∧ (0 : Int) < (((List.replicate 15 0).map intC).length : Int) := by decide
  have hel : ((List.replicate 15 0).map intC)[(0 : Int).toNat]? = some (intC 0) := rfl
  repeat' (first
   | ((with_reducible refine is_un ?_); (first | refine awpL_ev2 (ev_make (n := 15) (es := (List.replicate 15 0).map intC) rfl rfl rfl rfl rfl rfl rfl rfl hm rfl rfl rfl) rfl ?_ | refine awpL_evS (ev_st_ep (el' := intC 2) rfl rfl rfl rfl rfl rfl rfl rfl hel rfl rfl) ?_))
   | refine stn [0] ?_
   | ((with_reducible refine is_gd ?_); refine awpL_split rfl rfl (fun h => ?_) (fun h => ?_))
   | ((with_reducible refine is_awp ?_); refine awp_cond rfl (fun h => ?_) (fun h => ?_))
   | fail)
  refine retLe rfl ?_
  exact leRep
theorem i2 : itoa 2 = [50] := by unfold itoa; rw [if_neg (by omega), decDigits, dif_pos (by decide)]; rfl
theorem i1 : itoa 1 = [49] := by unfold itoa; rw [if_neg (by omega), decDigits, dif_pos (by decide)]; rfl
theorem i3 : itoa 3 = [51] := by unfold itoa; rw [if_neg (by omega), decDigits, dif_pos (by decide)]; rfl
theorem i17 : itoa 17 = [49, 55] := by unfold itoa; rw [if_neg (by omega), decDigits, dif_neg (by decide), decDigits, dif_pos (by decide)]; rfl
def sT : ByteArray := ⟨#[51, 46, 49, 55, 64, 50, 46, 49]⟩
def sT1 : ByteArray := ⟨#[51, 46, 49, 55, 64, 50]⟩
def sT2 : ByteArray := ⟨#[48, 51, 46, 49, 55, 64, 50, 46, 49]⟩
theorem sPrint : printB sWant = sT := by
  unfold printB citeT pairT sWant
  simp only [i1, i2, i3, i17]
  rfl
theorem sParse : citeP sT = some sWant := by
  rw [← sPrint]
  exact citeP_in (by unfold citeIn inNum sWant; decide)
theorem sParse1 : citeP sT1 = none := by
  have h1 : cutB sT1 64 = some (toB [51, 46, 49, 55], toB [50]) := by kernel_rfl
  have h2 : cutB (toB [50]) 46 = none := by kernel_rfl
  unfold citeP
  rw [h1]
  simp only [pairV, h2, Bool.and_false]
  rfl
theorem sParse2 : citeP sT2 = none := by
  cases h : citeP sT2 with
  | none => rfl
  | some c =>
    exfalso
    obtain ⟨h1, h2⟩ := citeP_back h
    have h3 : citeT c = sT2.data.toList := by rw [← toB_list (citeT c)]; exact congrArg (fun s => s.data.toList) h1
    have h4 : sT2.data.toList = [48, 51] ++ 46 :: [49, 55] ++ 64 :: [50, 46, 49] := rfl
    rw [h4] at h3
    obtain ⟨h5, _⟩ := append_cut (no64 _ _) (by decide) h3
    obtain ⟨h6, _⟩ := append_cut (no46 _) (by decide) h5
    have h7 := atoi_itoa c.rec_ (by have := h2.1; unfold inNum at this; omega) (by have := h2.1; unfold inNum at this; omega)
    rw [h6] at h7
    have h8 : atoiAll [48, 51] = .ok 3 := by kernel_rfl
    rw [h8] at h7
    have h9 : c.rec_ = 3 := by injection h7 with h7; exact h7.symm
    rw [h9, i3] at h6
    cases h6
theorem sMake : makeR sRep.ops 17 = (some sWant, 0) := by kernel_rfl
theorem sMake1 : makeR sRep.ops 18 = (none, 9) := by kernel_rfl
theorem sRes : resR sRep.ops sWant = (⟨#[112, 97]⟩, 0) := by kernel_rfl
theorem sRes1 : resR sRep.ops sOld = (⟨#[98, 97]⟩, 0) := by kernel_rfl
theorem sHist : histL sRep.ops 17 = [sOld, sWant] := by kernel_rfl
theorem sWhere : whereF sDoc (sDoc.tiers.length + 1) 17 = some (some ⟨0, 5⟩) := by kernel_rfl
theorem sOpen : openR sRep.ops sDoc [⟨0, 5⟩] sOld (some ⟨0, 5⟩) = (⟨#[98, 97]⟩, 0) := by kernel_rfl
theorem sOpen1 : openR sRep.ops sDoc [⟨0, 4⟩] sOld (some ⟨0, 5⟩) = (.empty, 25) := by kernel_rfl
def sDocA : List AV := [vi 3, vs .empty, vi 9, vi 0, nilS, encTiers sDoc.tiers, encNotes sDoc.notes]
theorem leDoc : Le (.agg sDocA) (.agg (docC sDoc)) := Le.agg (.cons (Le.rfl' _) (.cons (Le.rfl' _) (.cons (Le.rfl' _) (.cons (Le.rfl' _) (.cons (Le.nil 1) (.cons (Le.rfl' _) (.cons (Le.rfl' _) .nil)))))))
set_option maxRecDepth 8000 in
set_option maxHeartbeats 8000000 in
theorem awake_C (hN : NumG g) : PCalls Tryz.prog g 16 [] (vb true) := by
  have hSm := sample_spec (g := g)
  have hM := Make_spec (g := g) sRep 17 sGood
  rw [sMake, makeV] at hM
  have hM1 := Make_spec (g := g) sRep 18 sGood
  rw [sMake1, makeV] at hM1
  have hR := Resolve_spec (g := g) sRep sWant sGood
  rw [sRes, resV] at hR
  have hR1 := Resolve_spec (g := g) sRep sOld sGood
  rw [sRes1, resV] at hR1
  have hP := CParse_spec hN sT (by decide)
  rw [sParse, citeV] at hP
  have hP1 := CParse_spec hN sT1 (by decide)
  rw [sParse1, citeV] at hP1
  have hP2 := CParse_spec hN sT2 (by decide)
  rw [sParse2, citeV] at hP2
  simp only [Option.getD_some, Option.isSome_some, Option.getD_none, Option.isSome_none, if_true, Bool.false_eq_true, if_false] at hP hP1 hP2 hM hM1
  simp only at hR hR1
  have hO := (Open_spec (g := g) sRep sDoc [⟨0, 5⟩] sOld (some ⟨0, 5⟩) sGood sWhere ⟨by decide, by decide⟩ (by decide)).args (.cons (Le.rfl' _) (.cons leDoc (.cons (Le.rfl' _) (.cons (Le.rfl' _) .nil))))
  rw [sOpen, resV] at hO
  have hO1 := (Open_spec (g := g) sRep sDoc [⟨0, 4⟩] sOld (some ⟨0, 5⟩) sGood sWhere ⟨by decide, by decide⟩ (by decide)).args (.cons (Le.rfl' _) (.cons leDoc (.cons (Le.rfl' _) (.cons (Le.rfl' _) .nil))))
  rw [sOpen1, resV] at hO1
  simp only at hO hO1
  have hT := CPrint_spec hN sWant (by unfold CiteI I6 sWant; decide)
  rw [sPrint] at hT
  have hH := History_spec (g := g) sRep 17 (by decide)
  rw [sHist] at hH
  have hS := CSame_spec (g := g) [sOld, sWant] [sOld, sWant] (by decide) (by decide)
  rw [decide_eq_true rfl] at hS
  have e4 : decide True = true := rfl
  have e1 : decide ((⟨#[112, 97]⟩ : ByteArray) = (⟨#[112, 97]⟩ : ByteArray)) = true := by kernel_rfl
  have e2 : decide ((⟨#[98, 97]⟩ : ByteArray) = (⟨#[98, 97]⟩ : ByteArray)) = true := by kernel_rfl
  have e3 : decide (sT = (⟨#[51, 46, 49, 55, 64, 50, 46, 49]⟩ : ByteArray)) = true := by kernel_rfl
  refine pcalls' Tryz.func16 Tryz.ntmps16 rfl rfl rfl ?_
  repeat' (first
   | ((with_reducible refine is_un ?_); refine awpL_ev (ev_eqA citeEq_T rfl rfl rfl rfl rfl rfl) rfl ?_)
   | refine st [] ?_
   | ((with_reducible refine is_gd ?_); refine awpL_split rfl rfl (fun h => ?_) (fun h => ?_))
   | ((with_reducible refine isD_gd ?_); ((fail_if_success (refine isD_kn (c := true) rfl (by first | with_reducible rfl | with_reducible assumption) ?_)); (fail_if_success (refine isD_kn (c := false) rfl (by first | with_reducible rfl | with_reducible assumption) ?_)); refine awpD_split rfl (fun h => ?_) (fun h => ?_)))
   | ((with_reducible refine is_awp ?_); refine awp_cond rfl (fun h => ?_) (fun h => ?_))
   | fail)
  repeat' (first
   | ((with_reducible refine is_un ?_); refine awpL_ev (ev_eqA citeEq_T rfl rfl rfl rfl rfl rfl) rfl ?_)
   | refine st [] ?_
   | ((with_reducible refine is_gd ?_); refine awpL_split rfl rfl (fun h => ?_) (fun h => ?_))
   | ((with_reducible refine isD_gd ?_); ((fail_if_success (refine isD_kn (c := true) rfl (by first | with_reducible rfl | with_reducible assumption) ?_)); (fail_if_success (refine isD_kn (c := false) rfl (by first | with_reducible rfl | with_reducible assumption) ?_)); refine awpD_split rfl (fun h => ?_) (fun h => ?_)))
   | ((with_reducible refine is_awp ?_); refine awp_cond rfl (fun h => ?_) (fun h => ?_))
   | fail)
  simp only [List.append_eq, List.cons_append, List.nil_append]
  repeat' (first
   | ((with_reducible refine isD_un ?_); refine awpD_un (as_ev (fun _ => ev_eqA (b := true) citeEq_T (by kernel_rfl) rfl rfl rfl rfl rfl) rfl rfl) (by (try simp only [List.nil_append, List.cons_append]); (try rfl)) ?_)
   | ((with_reducible refine isD_gd ?_); refine awpD_gd rfl rfl (by first | with_reducible rfl | with_reducible assumption) (as_ev (fun _ => ev_eqA (b := true) citeEq_T (by kernel_rfl) rfl rfl rfl rfl rfl) rfl rfl) (by (try simp only [List.nil_append, List.cons_append]); (try rfl)) ?_)
   | refine st [] ?_
   | ((with_reducible refine is_gd ?_); refine awpL_split rfl rfl (fun h => ?_) (fun h => ?_))
   | ((with_reducible refine isD_gd ?_); ((fail_if_success (refine isD_kn (c := true) rfl (by first | with_reducible rfl | with_reducible assumption) ?_)); (fail_if_success (refine isD_kn (c := false) rfl (by first | with_reducible rfl | with_reducible assumption) ?_)); refine awpD_split rfl (fun h => ?_) (fun h => ?_)))
   | ((with_reducible refine is_awp ?_); refine awp_cond rfl (fun h => ?_) (fun h => ?_))
   | fail)
  exact retP rfl rfl
end Go.Proofs.YtnacjdaoiepbhaaGreatDoor
end
section
namespace Go.Proofs.YtnacjdaoiepbhaaGreatDoor
open Go.Ac
theorem rec_of {r : Replica} (h : repE r = 0) {o : Op} (ho : o ∈ r.ops) : ∃ a, addedO r.ops o.note.id = some a ∧ a.rec_ = o.rec_ := by
  obtain ⟨k, hk⟩ := List.getElem?_of_mem ho
  have h1 := allE_split r.ops [] (repE_all h).1 k o hk
  rw [List.nil_append] at h1
  have hg := good_of h
  by_cases h0 : o.kind = 0
  · exact ⟨o, addedO_mem hg ho h0 rfl, rfl⟩
  · have hE := oneE_opE h1
    have hb : ∃ a, addedO (r.ops.take k) o.note.id = some a ∧ a.rec_ = o.rec_ := by
      cases hb : (match addedO (r.ops.take k) o.note.id with | some a => decide (a.rec_ = o.rec_) | none => false) with
      | true =>
        cases ha : addedO (r.ops.take k) o.note.id with
        | none => rw [ha] at hb; cases hb
        | some a => rw [ha] at hb; exact ⟨a, rfl, by simpa using hb⟩
      | false =>
        exfalso
        cases hA : (match (r.ops.take k).getLast? with | some p => less p.at_ o.at_ | none => true) with
        | false => rw [oneE_10 hE hA] at h1; omega
        | true => rw [oneE_9 hE hA h0 hb] at h1; omega
    obtain ⟨a, ha, hr⟩ := hb
    refine ⟨a, ?_, hr⟩
    have e : addedO r.ops o.note.id = addedO (r.ops.take k ++ r.ops.drop k) o.note.id := by rw [List.take_append_drop]
    rw [e]
    unfold addedO at ha ⊢
    rw [List.find?_append, ha]
    rfl
theorem named_iff {c : Cite} {o : Op} : namedBy c o = true ↔ writes o c.note 0 = true ∧ (⟨o.rec_, c.note, o.at_⟩ : Cite) = c := by
  unfold namedBy
  rw [Bool.and_eq_true, decide_eq_true_eq]
theorem find_named {l : List Op} (h : Inc l) {o : Op} {c : Cite} (ho : o ∈ l) (hn : namedBy c o = true) : l.find? (namedBy c) = some o := by
  cases hf : l.find? (namedBy c) with
  | none => exact absurd hn (by have := (List.find?_eq_none.1 hf) o ho; exact this)
  | some p =>
    have hp := List.mem_of_find?_eq_some hf
    have hq := named_iff.1 (List.find?_some hf)
    have hn := named_iff.1 hn
    have e : p.at_ = o.at_ := by
      have := congrArg Cite.at_ (hq.2.trans hn.2.symm)
      exact this
    rw [Inc.uniq h hp ho e]
theorem res_named {l : List Op} (h : Inc l) {o : Op} {c : Cite} (ho : o ∈ l) (hn : namedBy c o = true) : resR l c = if (cell l c.note).isSome then ((valueOf o 0).text, 0) else (.empty, 26) := by
  unfold resR
  rw [find_named h ho hn]
theorem mem_hist {l : List Op} {note : Int} {x : Cite} : x ∈ histL l note ↔ ∃ o ∈ l, writes o note 0 = true ∧ x = ⟨o.rec_, note, o.at_⟩ := by
  unfold histL
  rw [List.mem_map]
  constructor
  · rintro ⟨o, ho, rfl⟩
    exact ⟨o, (List.mem_filter.1 ho).1, (List.mem_filter.1 ho).2, rfl⟩
  · rintro ⟨o, h1, h2, rfl⟩
    exact ⟨o, List.mem_filter.2 ⟨h1, h2⟩, rfl⟩
theorem hist_res {l : List Op} (h : Inc l) {note : Int} {x : Cite} (hx : x ∈ histL l note) : x.note = note ∧ ∃ t, resR l x = if (cell l note).isSome then (t, 0) else (.empty, 26) := by
  obtain ⟨o, ho, hw, rfl⟩ := mem_hist.1 hx
  exact ⟨rfl, _, res_named (c := ⟨o.rec_, note, o.at_⟩) h ho (named_iff.2 ⟨hw, rfl⟩)⟩
theorem hist_apart {l : List Op} (h : Inc l) {note : Int} : (histL l note).Pairwise fun a b => a ≠ b := by
  unfold histL
  rw [List.pairwise_map]
  refine List.Pairwise.imp ?_ (List.Pairwise.sublist List.filter_sublist h)
  intro a b hl e
  have : a.at_ = b.at_ := by have := congrArg Cite.at_ e; exact this
  exact less_ne hl this
theorem hist_next {l : List Op} (h : Inc l) {note : Int} {k : Nat} {x y : Cite} (hx : (histL l note)[k]? = some x) (hy : (histL l note)[k + 1]? = some y) : y ≠ x := by
  obtain ⟨i1, e1⟩ := List.getElem?_eq_some_iff.1 hx
  obtain ⟨i2, e2⟩ := List.getElem?_eq_some_iff.1 hy
  have := List.pairwise_iff_getElem.1 (hist_apart h (note := note)) k (k + 1) i1 i2 (by omega)
  rw [e1, e2] at this
  exact fun e => this e.symm
theorem hist_len (l : List Op) (note : Int) : (histL l note).length ≤ l.length := by
  unfold histL
  rw [List.length_map]
  exact List.length_filter_le _ _
theorem hist_none {r : Replica} (h : repE r = 0) {note : Int} (ha : addedO r.ops note = none) : histL r.ops note = [] := by
  cases hh : histL r.ops note with
  | nil => rfl
  | cons x t =>
    exfalso
    obtain ⟨o, ho, hw, _⟩ := mem_hist.1 (show x ∈ histL r.ops note by rw [hh]; exact List.mem_cons_self ..)
    obtain ⟨a, h1, _⟩ := rec_of h ho
    rw [(writes_within hw).2, ha] at h1
    cases h1
theorem hist_some {l : List Op} {note : Int} {a : Op} (ha : addedO l note = some a) : 0 < (histL l note).length := by
  have h1 := List.mem_of_find?_eq_some ha
  have h2 := List.find?_some ha
  simp only [Bool.and_eq_true, decide_eq_true_eq] at h2
  have h3 : writes a note 0 = true := by simp [writes, wrt, within, h2.1, h2.2]
  have := mem_hist.2 ⟨a, h1, h3, rfl⟩
  exact List.length_pos_of_mem this
theorem own_told {r : Replica} (h : repE r = 0) {note : Int} {c : Cell} (hc : cell r.ops note = some c) :
    ∃ x : Cite, ∃ v : Val, makeR r.ops note = (some x, 0) ∧ x ∈ histL r.ops note ∧ x.note = note ∧ c.text.getLast? = some v ∧ resR r.ops x = (v.text, 0) ∧ x.rec_ = c.rec_ ∧ x.at_ = v.at_ := by
  have hg := good_of h
  obtain ⟨a, ha, e, _, hr⟩ := cell_inv hc
  obtain ⟨v, hv⟩ := last_some (cell_ne hg hc).1
  have hv2 : v ∈ valuesL r.ops note 0 := by
    have := List.mem_of_getLast? hv
    rw [e] at this
    exact this
  obtain ⟨o, ho, hw, _, ev, eat⟩ := mem_values hv2
  obtain ⟨a', ha', hr'⟩ := rec_of h ho
  rw [(writes_within hw).2, ha] at ha'
  cases ha'
  refine ⟨⟨a.rec_, note, v.at_⟩, v, ?_, mem_hist.2 ⟨o, ho, hw, by rw [hr', eat]⟩, rfl, hv, ?_, hr.symm, rfl⟩
  · unfold makeR
    rw [ha]
    simp only
    rw [hc]
    simp only
    rw [hv]
    rfl
  · have hn : namedBy ⟨a.rec_, note, v.at_⟩ o = true := named_iff.2 ⟨hw, by rw [← hr', eat]⟩
    rw [res_named hg.1 ho hn, hc, ev]
    rfl
theorem make_dead {l : List Op} {note : Int} (hc : cell l note = none) : makeR l note = (none, if (addedO l note).isSome then 26 else 9) := by
  unfold makeR
  cases ha : addedO l note with
  | none => rfl
  | some a => simp only; rw [hc]; rfl
end Go.Proofs.YtnacjdaoiepbhaaGreatDoor
end
section
namespace Go.Ac
section
variable {P : Program} {G : Glo} {N : Nat} {S : SL} {L : List LB} {ty : TypeId} {u : Operand}
theorem ev_ne_bool {td : TDs} [T : TOK P td] {t yt : Nat} {e : Operand} {p q : Bool} {tdd : TD} (h1 : val G S u = some (.v (.bool p))) (h2 : val G S e = some (.v (.bool q))) (ht : lk td t = some tdd) (hs : tdd.k = .bool) :
    Ev P G N (.binOp .neq t u e yt) ty S L (.v (.bool (!(p == q)))) := by
  intro o ho _ cx a hc
  have e1 := val_R hc h1
  have e2 := val_R hc h2
  simp only [R] at e1 e2
  refine ⟨.bool (!(p == q)), ?_, by simp only [R]⟩
  have := run_neq_bool (P := P) (w := cx.w) t p q (bool_desc (P := P) ht hs)
  simp only [execOp, ho, e1, e2, Sem.run_bind]
  simp [eqGuard, Result.andThen_ok, Sem.run_pure, this]
end
end Go.Ac
end
section
namespace Go.Proofs.YtnacjdaoiepbhaaGreatDoor
open Go.Ac Go.MapKept
attribute [local irreducible] awp awpL Ev Ev2 EvS thenQ blockQ retQ PCalls OCalls YieldOk IterC ICalls
variable {g : List (Nat × List AV)}
theorem printB_size (c : Cite) (h : CiteI c) : (printB c).size ≤ 1000 := by
  obtain ⟨i1, i2, i3, i4⟩ := h
  have l1 := (numT_len _ i1).2
  have l2 := (numT_len _ i2).2
  have l3 := (numT_len _ i3).2
  have l4 := (numT_len _ i4).2
  have z1 : (⟨#[46]⟩ : ByteArray).size = 1 := rfl
  have z2 : (⟨#[64]⟩ : ByteArray).size = 1 := rfl
  rw [← printB_cat]
  simp only [ByteArray.size_append]
  omega
def citeNs (c : Cite) : List Int := [c.rec_, c.note, c.at_.count, c.at_.dev]
theorem ns_get {c : Cite} {k : Nat} {n : Int} (h : (citeNs c)[k]? = some n) : k < 4 ∧ (0 ≤ (k : Int) ∧ ((citeNs c).map intC)[(k : Int).toNat]? = some (intC n)) := by
  have := (List.getElem?_eq_some_iff.1 h).1
  exact ⟨this, by omega, by simp [h]⟩
theorem ns_all {c : Cite} : citeIn c ↔ ∀ n ∈ citeNs c, inNum n := by
  unfold citeIn citeNs
  simp
theorem ns_up {c : Cite} {k : Nat} (h : ∀ (j : Nat) (n : Int), j < k → (citeNs c)[j]? = some n → inNum n) {n : Int} (hn : (citeNs c)[k]? = some n) (h2 : inNum n) : ∀ (j : Nat) (n : Int), j < k + 1 → (citeNs c)[j]? = some n → inNum n := by
  intro j m hj hm
  by_cases e : j = k
  · subst e; rw [hn] at hm; cases hm; exact h2
  · exact h j m (by omega) hm
set_option maxRecDepth 8000 in
set_option maxHeartbeats 4000000 in
theorem law_CPrints (hN : NumG g) (c : Cite) (hc : CiteI c) : PCalls Tryz.prog g 3 [.agg (citeC c)] (vb true) := by
  have hA := awake_C hN
  have hP := CPrint_spec hN c hc
  have hR := rCPrint_spec hN c hc
  have hQ := CParse_spec hN (printB c) (by have := printB_size c hc; omega)
  rw [citeV] at hQ
  have q1 : citeIn c → citeP (printB c) = some c := citeP_in
  have q2 : ¬ citeIn c → citeP (printB c) = none := citeP_out hc
  generalize printB c = s at *
  obtain ⟨s', hs⟩ : ∃ s', s' = s := ⟨_, rfl⟩
  rw [← hs] at hR
  have e0 : (!decide (s = s')) = false := by simp [hs]
  have n1 : (!true) = false := rfl
  have zT : decide True = true := rfl
  have zNT : (!decide True) = false := rfl
  have zF : decide False = false := rfl
  have zNF : (!decide False) = true := rfl
  have z00 : decide ((0 : Int) = 0) = true := rfl
  have z33 : decide ((3 : Int) = 3) = true := rfl
  have z03 : decide ((0 : Int) = 3) = false := rfl
  have z2626 : decide ((26 : Int) = 26) = true := rfl
  have n2 : (!false) = true := rfl
  refine pcalls' Tryz.func3 Tryz.ntmps3 rfl rfl rfl ?_
  by_cases hi : citeIn c
  · rw [q1 hi] at hQ
    simp only [Option.getD_some, Option.isSome_some, if_true] at hQ
    have hall := ns_all.1 hi
    repeat' (first
     | refine stn [] ?_
     | ((with_reducible refine is_gd ?_); refine awpL_split rfl rfl (fun h => ?_) (fun h => ?_))
     | ((with_reducible refine is_awp ?_); refine awp_cond rfl (fun h => ?_) (fun h => ?_))
     | fail)
    refine awp_for (α := Nat) 0 (fun k => [(1, .fp (citeC c)), (4, .fp (citeC c)), (5, vi 0), (29, .fs 1 4 ((citeNs c).map intC)), (30, vi 4), (31, vi k)]) (fun _ => []) (fun k => k ≤ 4) (fun k => 4 - k) 0
      ⟨(.cons rfl rfl (.cons rfl rfl (.cons rfl rfl (.cons rfl rfl (.cons rfl rfl (.cons rfl rfl .nil)))))), rfl, rfl, rfl⟩ (Nat.zero_le _) ?_
    rintro k hk
    cases ht : (citeNs c)[k]? with
    | some n =>
      obtain ⟨hlt, ik⟩ := ns_get ht
      have c1 : decide ((k : Int) < 4) = true := decide_eq_true (by omega)
      have hn := hall n (List.mem_of_getElem? ht)
      unfold inNum at hn
      have c2 : decide (n < -1099511627776) = false := decide_eq_false (by omega)
      have c3 : decide (1099511627776 < n) = false := decide_eq_false (by omega)
      repeat' (first
       | refine stn [] ?_
       | ((with_reducible refine is_gd ?_); refine awpL_split rfl rfl (fun h => ?_) (fun h => ?_))
       | ((with_reducible refine is_awp ?_); refine awp_cond rfl (fun h => ?_) (fun h => ?_))
       | fail)
      exact ⟨k + 1, ⟨(.cons rfl rfl (.cons rfl rfl (.cons rfl rfl (.cons rfl rfl (.cons rfl rfl (.cons rfl rfl .nil)))))), rfl, rfl, rfl⟩, by omega, by omega⟩
    | none =>
      have hge : 4 ≤ k := by simpa [citeNs] using ht
      have c1 : decide ((k : Int) < 4) = false := decide_eq_false (by omega)
      have q := cite_eqb c c
      rw [decide_eq_true rfl] at q
      repeat' (first
       | ((with_reducible refine is_un ?_); refine awpL_ev (ev_eqA (b := true) citeEq_T (by kernel_rfl) rfl rfl rfl rfl (by rw [← q]; rfl)) rfl ?_)
       | refine stn [] ?_
       | ((with_reducible refine is_gd ?_); refine awpL_split rfl rfl (fun h => ?_) (fun h => ?_))
       | ((with_reducible refine is_awp ?_); refine awp_cond rfl (fun h => ?_) (fun h => ?_))
       | fail)
      exact retP rfl rfl
  · rw [q2 hi] at hQ
    simp only [Option.getD_none, Option.isSome_none, Bool.false_eq_true, if_false] at hQ
    have q := cite_eqb zeroCite zeroCite
    rw [decide_eq_true rfl] at q
    repeat' (first
     | refine stn [] ?_
     | ((with_reducible refine is_gd ?_); refine awpL_split rfl rfl (fun h => ?_) (fun h => ?_))
     | ((with_reducible refine is_awp ?_); refine awp_cond rfl (fun h => ?_) (fun h => ?_))
     | fail)
    refine awp_for (α := Nat) 0 (fun k => [(1, .fp (citeC c)), (4, .fp (citeC zeroCite)), (5, vi 3), (29, .fs 1 4 ((citeNs c).map intC)), (30, vi 4), (31, vi k)]) (fun _ => []) (fun k => k ≤ 4 ∧ ∀ (j : Nat) (n : Int), j < k → (citeNs c)[j]? = some n → inNum n) (fun k => 4 - k) 0
      ⟨(.cons rfl rfl (.cons rfl rfl (.cons rfl rfl (.cons rfl rfl (.cons rfl rfl (.cons rfl rfl .nil)))))), rfl, rfl, rfl⟩ ⟨Nat.zero_le _, fun j n h => absurd h (Nat.not_lt_zero _)⟩ ?_
    rintro k ⟨hk, hall⟩
    cases ht : (citeNs c)[k]? with
    | some n =>
      obtain ⟨hlt, ik⟩ := ns_get ht
      have c1 : decide ((k : Int) < 4) = true := decide_eq_true (by omega)
      by_cases g1 : n < -1099511627776
      · have c2 : decide (n < -1099511627776) = true := decide_eq_true g1
        repeat' (first
         | ((with_reducible refine is_un ?_); refine awpL_ev (ev_eqA (b := true) citeEq_T (by kernel_rfl) rfl rfl rfl rfl (by rw [← q]; rfl)) rfl ?_)
         | refine stn [] ?_
         | ((with_reducible refine is_gd ?_); refine awpL_split rfl rfl (fun h => ?_) (fun h => ?_))
         | ((with_reducible refine is_awp ?_); refine awp_cond rfl (fun h => ?_) (fun h => ?_))
         | fail)
        exact retP rfl rfl
      have c2 : decide (n < -1099511627776) = false := decide_eq_false g1
      by_cases g2 : 1099511627776 < n
      · have c3 : decide (1099511627776 < n) = true := decide_eq_true g2
        repeat' (first
         | ((with_reducible refine is_un ?_); refine awpL_ev (ev_eqA (b := true) citeEq_T (by kernel_rfl) rfl rfl rfl rfl (by rw [← q]; rfl)) rfl ?_)
         | refine stn [] ?_
         | ((with_reducible refine is_gd ?_); refine awpL_split rfl rfl (fun h => ?_) (fun h => ?_))
         | ((with_reducible refine is_awp ?_); refine awp_cond rfl (fun h => ?_) (fun h => ?_))
         | fail)
        exact retP rfl rfl
      have c3 : decide (1099511627776 < n) = false := decide_eq_false g2
      repeat' (first
       | refine stn [] ?_
       | ((with_reducible refine is_gd ?_); refine awpL_split rfl rfl (fun h => ?_) (fun h => ?_))
       | ((with_reducible refine is_awp ?_); refine awp_cond rfl (fun h => ?_) (fun h => ?_))
       | fail)
      exact ⟨k + 1, ⟨(.cons rfl rfl (.cons rfl rfl (.cons rfl rfl (.cons rfl rfl (.cons rfl rfl (.cons rfl rfl .nil)))))), rfl, rfl, rfl⟩, ⟨by omega, ns_up hall ht (by unfold inNum; omega)⟩, by omega⟩
    | none =>
      exfalso
      have hge : 4 ≤ k := by simpa [citeNs] using ht
      refine hi (ns_all.2 fun n hn => ?_)
      obtain ⟨j, hj⟩ := List.getElem?_of_mem hn
      have := (ns_get hj).1
      exact hall j n (by omega) hj
set_option maxRecDepth 8000 in
set_option maxHeartbeats 4000000 in
theorem law_CParses (hN : NumG g) (s : ByteArray) : PCalls Tryz.prog g 4 [.v (.string s)] (vb true) := by
  have hA := awake_C hN
  have n1 : (!true) = false := rfl
  have zT : decide True = true := rfl
  have zNT : (!decide True) = false := rfl
  have zF : decide False = false := rfl
  have zNF : (!decide False) = true := rfl
  have z00 : decide ((0 : Int) = 0) = true := rfl
  have z33 : decide ((3 : Int) = 3) = true := rfl
  have z03 : decide ((0 : Int) = 3) = false := rfl
  have z2626 : decide ((26 : Int) = 26) = true := rfl
  have n2 : (!false) = true := rfl
  refine pcalls' Tryz.func4 Tryz.ntmps4 rfl rfl rfl ?_
  by_cases h1 : 300 < s.size
  · have c1 : decide ((300 : Int) < s.size) = true := decide_eq_true (by omega)
    repeat' (first
     | refine stn [] ?_
     | ((with_reducible refine is_gd ?_); refine awpL_split rfl rfl (fun h => ?_) (fun h => ?_))
     | ((with_reducible refine is_awp ?_); refine awp_cond rfl (fun h => ?_) (fun h => ?_))
     | fail)
    exact retP rfl rfl
  have c1 : decide ((300 : Int) < s.size) = false := decide_eq_false (by omega)
  have hP := CParse_spec hN s (by omega)
  have hR := rCParse_spec hN s (by omega)
  rw [citeV] at hP hR
  generalize (citeP s).getD zeroCite = c at *
  generalize (if (citeP s).isSome = true then (0 : Int) else 3) = e at *
  obtain ⟨e', he⟩ : ∃ e', e' = e := ⟨_, rfl⟩
  rw [← he] at hR
  have e0 : decide (e = e') = true := decide_eq_true he.symm
  have q := cite_eqb c c
  rw [decide_eq_true rfl] at q
  repeat' (first
   | ((with_reducible refine is_un ?_); refine awpL_ev (ev_eqA (b := true) citeEq_T (by kernel_rfl) rfl rfl rfl rfl (by rw [← q]; rfl)) rfl ?_)
   | refine stn [] ?_
   | ((with_reducible refine is_gd ?_); refine awpL_split rfl rfl (fun h => ?_) (fun h => ?_))
   | ((with_reducible refine is_awp ?_); refine awp_cond rfl (fun h => ?_) (fun h => ?_))
   | fail)
  exact retP rfl rfl
theorem in_I {c : Cite} (h : citeIn c) : CiteI c := by
  unfold citeIn inNum at h
  unfold CiteI I6
  omega
set_option maxRecDepth 8000 in
set_option maxHeartbeats 4000000 in
theorem law_CApart (hN : NumG g) (a b : Cite) (s : ByteArray) (ha : CiteI a) (hb : CiteI b) : PCalls Tryz.prog g 5 [.agg (citeC a), .agg (citeC b), .v (.string s)] (vb true) := by
  have hA := awake_C hN
  have hPa := CPrint_spec hN a ha
  have hPb := CPrint_spec hN b hb
  obtain ⟨d, hd, hd2⟩ : ∃ d, decide (printB a = printB b) = d ∧ decide (a = b) = d := by
    by_cases h : a = b
    · exact ⟨true, decide_eq_true (by rw [h]), decide_eq_true h⟩
    · exact ⟨false, decide_eq_false fun e => h (printB_inj ha hb e), decide_eq_false h⟩
  have q := cite_eqb a b
  rw [hd2] at q
  generalize printB a = sa at *
  generalize printB b = sb at *
  have n1 : (!true) = false := rfl
  have zT : decide True = true := rfl
  have zNT : (!decide True) = false := rfl
  have zF : decide False = false := rfl
  have zNF : (!decide False) = true := rfl
  have z00 : decide ((0 : Int) = 0) = true := rfl
  have z33 : decide ((3 : Int) = 3) = true := rfl
  have z03 : decide ((0 : Int) = 3) = false := rfl
  have z2626 : decide ((26 : Int) = 26) = true := rfl
  have n2 : (!false) = true := rfl
  have nd : (!(decide (sa = sb) == d)) = false := by rw [hd]; simp
  refine pcalls' Tryz.func5 Tryz.ntmps5 rfl rfl rfl ?_
  by_cases h1 : 300 < s.size
  · have c1 : decide ((300 : Int) < s.size) = true := decide_eq_true (by omega)
    repeat' (first
     | ((with_reducible refine isD_un ?_); (first | refine awpD_un (as_ev (fun _ => ev_ne_bool rfl rfl rfl rfl) rfl rfl) (by (try simp only [List.nil_append, List.cons_append]); (try rfl)) ?_ | refine awpD_un (as_ev (fun _ => ev_eqA (b := d) citeEq_T (by kernel_rfl) rfl rfl rfl rfl (by rw [← q]; rfl)) rfl rfl) (by (try simp only [List.nil_append, List.cons_append]); (try rfl)) ?_))
     | ((with_reducible refine isD_gd ?_); (first | refine awpD_gd rfl rfl (by first | with_reducible rfl | with_reducible assumption) (as_ev (fun _ => ev_ne_bool rfl rfl rfl rfl) rfl rfl) (by (try simp only [List.nil_append, List.cons_append]); (try rfl)) ?_ | refine awpD_gd rfl rfl (by first | with_reducible rfl | with_reducible assumption) (as_ev (fun _ => ev_eqA (b := d) citeEq_T (by kernel_rfl) rfl rfl rfl rfl (by rw [← q]; rfl)) rfl rfl) (by (try simp only [List.nil_append, List.cons_append]); (try rfl)) ?_))
     | refine st [] ?_
     | ((with_reducible refine is_gd ?_); refine awpL_split rfl rfl (fun h => ?_) (fun h => ?_))
     | ((with_reducible refine isD_gd ?_); ((fail_if_success (refine isD_kn (c := true) rfl (by first | with_reducible rfl | with_reducible assumption) ?_)); (fail_if_success (refine isD_kn (c := false) rfl (by first | with_reducible rfl | with_reducible assumption) ?_)); refine awpD_split rfl (fun h => ?_) (fun h => ?_)))
     | ((with_reducible refine is_awp ?_); refine awp_cond rfl (fun h => ?_) (fun h => ?_))
     | fail)
    exact retP rfl rfl
  have c1 : decide ((300 : Int) < s.size) = false := decide_eq_false (by omega)
  have hQ := CParse_spec hN s (by omega)
  rw [citeV] at hQ
  cases ho : citeP s with
  | none =>
    rw [ho] at hQ
    simp only [Option.getD_none, Option.isSome_none, Bool.false_eq_true, if_false] at hQ
    have q2 := cite_eqb zeroCite zeroCite
    rw [decide_eq_true rfl] at q2
    repeat' (first
     | ((with_reducible refine is_un ?_); refine awpL_ev (ev_eqA (b := true) citeEq_T (by kernel_rfl) rfl rfl rfl rfl (by rw [← q2]; rfl)) rfl ?_)
     | ((with_reducible refine isD_un ?_); (first | refine awpD_un (as_ev (fun _ => ev_ne_bool rfl rfl rfl rfl) rfl rfl) (by (try simp only [List.nil_append, List.cons_append]); (try rfl)) ?_ | refine awpD_un (as_ev (fun _ => ev_eqA (b := d) citeEq_T (by kernel_rfl) rfl rfl rfl rfl (by rw [← q]; rfl)) rfl rfl) (by (try simp only [List.nil_append, List.cons_append]); (try rfl)) ?_))
     | ((with_reducible refine isD_gd ?_); (first | refine awpD_gd rfl rfl (by first | with_reducible rfl | with_reducible assumption) (as_ev (fun _ => ev_ne_bool rfl rfl rfl rfl) rfl rfl) (by (try simp only [List.nil_append, List.cons_append]); (try rfl)) ?_ | refine awpD_gd rfl rfl (by first | with_reducible rfl | with_reducible assumption) (as_ev (fun _ => ev_eqA (b := d) citeEq_T (by kernel_rfl) rfl rfl rfl rfl (by rw [← q]; rfl)) rfl rfl) (by (try simp only [List.nil_append, List.cons_append]); (try rfl)) ?_))
     | refine st [] ?_
     | ((with_reducible refine is_gd ?_); refine awpL_split rfl rfl (fun h => ?_) (fun h => ?_))
     | ((with_reducible refine isD_gd ?_); ((fail_if_success (refine isD_kn (c := true) rfl (by first | with_reducible rfl | with_reducible assumption) ?_)); (fail_if_success (refine isD_kn (c := false) rfl (by first | with_reducible rfl | with_reducible assumption) ?_)); refine awpD_split rfl (fun h => ?_) (fun h => ?_)))
     | ((with_reducible refine is_awp ?_); refine awp_cond rfl (fun h => ?_) (fun h => ?_))
     | fail)
    exact retP rfl rfl
  | some c =>
    rw [ho] at hQ
    obtain ⟨b1, b2⟩ := citeP_back ho
    simp only [Option.getD_some, Option.isSome_some, if_true] at hQ
    have hPc := CPrint_spec hN c (in_I b2)
    generalize printB c = sc at *
    have e3 : decide (sc = s) = true := decide_eq_true b1
    repeat' (first
     | ((with_reducible refine isD_un ?_); (first | refine awpD_un (as_ev (fun _ => ev_ne_bool rfl rfl rfl rfl) rfl rfl) (by (try simp only [List.nil_append, List.cons_append]); (try rfl)) ?_ | refine awpD_un (as_ev (fun _ => ev_eqA (b := d) citeEq_T (by kernel_rfl) rfl rfl rfl rfl (by rw [← q]; rfl)) rfl rfl) (by (try simp only [List.nil_append, List.cons_append]); (try rfl)) ?_))
     | ((with_reducible refine isD_gd ?_); (first | refine awpD_gd rfl rfl (by first | with_reducible rfl | with_reducible assumption) (as_ev (fun _ => ev_ne_bool rfl rfl rfl rfl) rfl rfl) (by (try simp only [List.nil_append, List.cons_append]); (try rfl)) ?_ | refine awpD_gd rfl rfl (by first | with_reducible rfl | with_reducible assumption) (as_ev (fun _ => ev_eqA (b := d) citeEq_T (by kernel_rfl) rfl rfl rfl rfl (by rw [← q]; rfl)) rfl rfl) (by (try simp only [List.nil_append, List.cons_append]); (try rfl)) ?_))
     | refine st [] ?_
     | ((with_reducible refine is_gd ?_); refine awpL_split rfl rfl (fun h => ?_) (fun h => ?_))
     | ((with_reducible refine isD_gd ?_); ((fail_if_success (refine isD_kn (c := true) rfl (by first | with_reducible rfl | with_reducible assumption) ?_)); (fail_if_success (refine isD_kn (c := false) rfl (by first | with_reducible rfl | with_reducible assumption) ?_)); refine awpD_split rfl (fun h => ?_) (fun h => ?_)))
     | ((with_reducible refine is_awp ?_); refine awp_cond rfl (fun h => ?_) (fun h => ?_))
     | fail)
    exact retP rfl rfl
end Go.Proofs.YtnacjdaoiepbhaaGreatDoor
end
