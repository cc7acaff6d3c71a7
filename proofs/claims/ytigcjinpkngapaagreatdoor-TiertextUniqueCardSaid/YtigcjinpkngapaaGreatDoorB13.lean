/- A logic of trees over the model's steps, and the contracts of the functions that the laws reach: part 13 of 16. -/
import Derived.Test.YtigcjinpkngapaaGreatDoorB12
set_option linter.unusedVariables false
set_option linter.unusedSimpArgs false
set_option linter.unusedSectionVars false
section
namespace Go.Proofs.YtigcjinpkngapaaGreatDoor
open Go.Ac
attribute [local irreducible] awp awpL Ev Ev2 EvS thenQ blockQ retQ PCalls OCalls
variable {g : List (Nat × List AV)}
set_option maxRecDepth 8000 in
set_option maxHeartbeats 8000000 in
theorem r12Same_spec (a b : Doc) (h1 : a.rec_.speakers.length ≤ 1000000) (h2 : a.tiers.length ≤ 1000000) (h3 : a.notes.length ≤ 1000000) (h4 : b.rec_.speakers.length ≤ 1000000) : PCalls Tryz.prog g 19 [.agg (docC a), .agg (docC b)] (vb (decide (a = b))) := by
  have hI := r12Ints_spec (g := g) a.rec_.speakers b.rec_.speakers h1 h4
  have n1 : (!true) = false := rfl
  have n2 : (!false) = true := rfl
  refine pcalls' Tryz.func19 Tryz.ntmps19 rfl rfl rfl ?_
  by_cases e1 : a.rec_.id = b.rec_.id
  case neg =>
    have c1 : (!decide (a.rec_.id = b.rec_.id)) = true := by rw [decide_eq_false e1]; rfl
    rw [decide_eq_false (fun q => e1 (by rw [q]))]
    repeat' (first
     | refine st [] ?_
     | ((with_reducible refine is_gd ?_); refine awpL_split rfl rfl (fun h => ?_) (fun h => ?_))
     | ((with_reducible refine isD_gd ?_); ((fail_if_success (refine isD_kn (c := true) rfl qa0 ?_)); (fail_if_success (refine isD_kn (c := false) rfl qa0 ?_)); refine awpD_split rfl (fun h => ?_) (fun h => ?_)))
     | ((with_reducible refine is_awp ?_); refine awp_cond rfl (fun h => ?_) (fun h => ?_))
     | fail)
    exact retP rfl rfl
  have c1 : (!decide (a.rec_.id = b.rec_.id)) = false := by rw [decide_eq_true e1]; rfl
  by_cases e2 : a.rec_.name = b.rec_.name
  case neg =>
    have c2 : (!decide (a.rec_.name = b.rec_.name)) = true := by rw [decide_eq_false e2]; rfl
    rw [decide_eq_false (fun q => e2 (by rw [q]))]
    repeat' (first
     | refine st [] ?_
     | ((with_reducible refine is_gd ?_); refine awpL_split rfl rfl (fun h => ?_) (fun h => ?_))
     | ((with_reducible refine isD_gd ?_); ((fail_if_success (refine isD_kn (c := true) rfl qa0 ?_)); (fail_if_success (refine isD_kn (c := false) rfl qa0 ?_)); refine awpD_split rfl (fun h => ?_) (fun h => ?_)))
     | ((with_reducible refine is_awp ?_); refine awp_cond rfl (fun h => ?_) (fun h => ?_))
     | fail)
    exact retP rfl rfl
  have c2 : (!decide (a.rec_.name = b.rec_.name)) = false := by rw [decide_eq_true e2]; rfl
  by_cases e3 : a.rec_.length = b.rec_.length
  case neg =>
    have c3 : (!decide (a.rec_.length = b.rec_.length)) = true := by rw [decide_eq_false e3]; rfl
    rw [decide_eq_false (fun q => e3 (by rw [q]))]
    repeat' (first
     | refine st [] ?_
     | ((with_reducible refine is_gd ?_); refine awpL_split rfl rfl (fun h => ?_) (fun h => ?_))
     | ((with_reducible refine isD_gd ?_); ((fail_if_success (refine isD_kn (c := true) rfl qa0 ?_)); (fail_if_success (refine isD_kn (c := false) rfl qa0 ?_)); refine awpD_split rfl (fun h => ?_) (fun h => ?_)))
     | ((with_reducible refine is_awp ?_); refine awp_cond rfl (fun h => ?_) (fun h => ?_))
     | fail)
    exact retP rfl rfl
  have c3 : (!decide (a.rec_.length = b.rec_.length)) = false := by rw [decide_eq_true e3]; rfl
  by_cases e4 : a.rec_.day = b.rec_.day
  case neg =>
    have c4 : (!decide (a.rec_.day = b.rec_.day)) = true := by rw [decide_eq_false e4]; rfl
    rw [decide_eq_false (fun q => e4 (by rw [q]))]
    repeat' (first
     | refine st [] ?_
     | ((with_reducible refine is_gd ?_); refine awpL_split rfl rfl (fun h => ?_) (fun h => ?_))
     | ((with_reducible refine isD_gd ?_); ((fail_if_success (refine isD_kn (c := true) rfl qa0 ?_)); (fail_if_success (refine isD_kn (c := false) rfl qa0 ?_)); refine awpD_split rfl (fun h => ?_) (fun h => ?_)))
     | ((with_reducible refine is_awp ?_); refine awp_cond rfl (fun h => ?_) (fun h => ?_))
     | fail)
    exact retP rfl rfl
  have c4 : (!decide (a.rec_.day = b.rec_.day)) = false := by rw [decide_eq_true e4]; rfl
  by_cases e5 : a.rec_.speakers = b.rec_.speakers
  case neg =>
    rw [decide_eq_false e5] at hI
    rw [decide_eq_false (fun q => e5 (by rw [q]))]
    repeat' (first
     | refine st [] ?_
     | ((with_reducible refine is_gd ?_); refine awpL_split rfl rfl (fun h => ?_) (fun h => ?_))
     | ((with_reducible refine isD_gd ?_); ((fail_if_success (refine isD_kn (c := true) rfl qa0 ?_)); (fail_if_success (refine isD_kn (c := false) rfl qa0 ?_)); refine awpD_split rfl (fun h => ?_) (fun h => ?_)))
     | ((with_reducible refine is_awp ?_); refine awp_cond rfl (fun h => ?_) (fun h => ?_))
     | fail)
    exact retP rfl rfl
  rw [decide_eq_true e5] at hI
  by_cases e6 : a.tiers.length = b.tiers.length
  case neg =>
    have c6 : (!decide ((a.tiers.length : Int) = b.tiers.length)) = true := by rw [decide_eq_false (by omega)]; rfl
    rw [decide_eq_false (fun q => e6 (by rw [q]))]
    repeat' (first
     | refine st [] ?_
     | ((with_reducible refine is_gd ?_); refine awpL_split rfl rfl (fun h => ?_) (fun h => ?_))
     | ((with_reducible refine isD_gd ?_); ((fail_if_success (refine isD_kn (c := true) rfl qa0 ?_)); (fail_if_success (refine isD_kn (c := false) rfl qa0 ?_)); refine awpD_split rfl (fun h => ?_) (fun h => ?_)))
     | ((with_reducible refine is_awp ?_); refine awp_cond rfl (fun h => ?_) (fun h => ?_))
     | fail)
    exact retP rfl rfl
  have c6 : (!decide ((a.tiers.length : Int) = b.tiers.length)) = false := by rw [decide_eq_true (by omega)]; rfl
  by_cases e7 : a.notes.length = b.notes.length
  case neg =>
    have c7 : (!decide ((a.notes.length : Int) = b.notes.length)) = true := by rw [decide_eq_false (by omega)]; rfl
    rw [decide_eq_false (fun q => e7 (by rw [q]))]
    repeat' (first
     | refine st [] ?_
     | ((with_reducible refine is_gd ?_); refine awpL_split rfl rfl (fun h => ?_) (fun h => ?_))
     | ((with_reducible refine isD_gd ?_); ((fail_if_success (refine isD_kn (c := true) rfl qa0 ?_)); (fail_if_success (refine isD_kn (c := false) rfl qa0 ?_)); refine awpD_split rfl (fun h => ?_) (fun h => ?_)))
     | ((with_reducible refine is_awp ?_); refine awp_cond rfl (fun h => ?_) (fun h => ?_))
     | fail)
    exact retP rfl rfl
  have c7 : (!decide ((a.notes.length : Int) = b.notes.length)) = false := by rw [decide_eq_true (by omega)]; rfl
  have hd : decide (a = b) = (decide (a.tiers = b.tiers) && decide (a.notes = b.notes)) := by
    rw [Bool.eq_iff_iff, Bool.and_eq_true, decide_eq_true_eq, decide_eq_true_eq, decide_eq_true_eq, docEq]
    simp only [e1, e2, e3, e4, e5, true_and]
  rw [hd]
  repeat' (first
   | refine st [] ?_
   | ((with_reducible refine is_gd ?_); refine awpL_split rfl rfl (fun h => ?_) (fun h => ?_))
   | ((with_reducible refine isD_gd ?_); ((fail_if_success (refine isD_kn (c := true) rfl qa0 ?_)); (fail_if_success (refine isD_kn (c := false) rfl qa0 ?_)); refine awpD_split rfl (fun h => ?_) (fun h => ?_)))
   | ((with_reducible refine is_awp ?_); refine awp_cond rfl (fun h => ?_) (fun h => ?_))
   | fail)
  refine awp_for (α := Nat) 0 (fun k => [(2, .fp (docC a)), (3, .fp (docC b)), (7, vi k)]) (fun _ => []) (fun k => k ≤ a.tiers.length ∧ a.tiers.take k = b.tiers.take k) (fun k => a.tiers.length - k) 0
    ⟨(.cons rfl rfl (.cons rfl rfl (.cons rfl rfl .nil))), rfl, rfl, rfl⟩ ⟨Nat.zero_le _, by simp⟩ ?_
  rintro k ⟨hk, hf⟩
  cases ht : a.tiers[k]? with
  | some n =>
    have hlt : k < a.tiers.length := (List.getElem?_eq_some_iff.1 ht).1
    have d1 : decide ((k : Int) < a.tiers.length) = true := decide_eq_true (by omega)
    obtain ⟨m, hm⟩ : ∃ m, b.tiers[k]? = some m := ⟨_, List.getElem?_eq_getElem (by omega)⟩
    have ik := tierC_get ht
    have im := tierC_get hm
    have hEq := tierEqV_eq n m
    by_cases e : n = m
    · rw [decide_eq_true e] at hEq
      repeat' (first
       | ((with_reducible refine isD_un ?_); refine awpD_un (as_ev (fun _ => ev_neA (b := true) tierEqV_T (by kernel_rfl) rfl rfl rfl rfl (by rw [← hEq]; rfl)) rfl rfl) qb0 ?_)
       | ((with_reducible refine isD_gd ?_); refine awpD_gd rfl rfl qa0 (as_ev (fun _ => ev_neA (b := true) tierEqV_T (by kernel_rfl) rfl rfl rfl rfl (by rw [← hEq]; rfl)) rfl rfl) qb0 ?_)
       | refine st [] ?_
       | ((with_reducible refine is_gd ?_); refine awpL_split rfl rfl (fun h => ?_) (fun h => ?_))
       | ((with_reducible refine isD_gd ?_); ((fail_if_success (refine isD_kn (c := true) rfl qa0 ?_)); (fail_if_success (refine isD_kn (c := false) rfl qa0 ?_)); refine awpD_split rfl (fun h => ?_) (fun h => ?_)))
       | ((with_reducible refine is_awp ?_); refine awp_cond rfl (fun h => ?_) (fun h => ?_))
       | fail)
      refine ⟨k + 1, ⟨(.cons rfl rfl (.cons rfl rfl (.cons rfl rfl .nil))), rfl, rfl, rfl⟩, ⟨by omega, ?_⟩, by omega⟩
      rw [List.take_add_one, List.take_add_one, hf, ht, hm, e]
    · rw [decide_eq_false e] at hEq
      have hne : a.tiers ≠ b.tiers := fun q => by rw [q, hm] at ht; exact e (Option.some.inj ht).symm
      rw [decide_eq_false hne, Bool.false_and]
      repeat' (first
       | ((with_reducible refine isD_un ?_); refine awpD_un (as_ev (fun _ => ev_neA (b := false) tierEqV_T (by kernel_rfl) rfl rfl rfl rfl (by rw [← hEq]; rfl)) rfl rfl) qb0 ?_)
       | ((with_reducible refine isD_gd ?_); refine awpD_gd rfl rfl qa0 (as_ev (fun _ => ev_neA (b := false) tierEqV_T (by kernel_rfl) rfl rfl rfl rfl (by rw [← hEq]; rfl)) rfl rfl) qb0 ?_)
       | refine st [] ?_
       | ((with_reducible refine is_gd ?_); refine awpL_split rfl rfl (fun h => ?_) (fun h => ?_))
       | ((with_reducible refine isD_gd ?_); ((fail_if_success (refine isD_kn (c := true) rfl qa0 ?_)); (fail_if_success (refine isD_kn (c := false) rfl qa0 ?_)); refine awpD_split rfl (fun h => ?_) (fun h => ?_)))
       | ((with_reducible refine is_awp ?_); refine awp_cond rfl (fun h => ?_) (fun h => ?_))
       | fail)
      exact retP rfl rfl
  | none =>
    have hge : a.tiers.length ≤ k := by simpa using ht
    have d1 : decide ((k : Int) < a.tiers.length) = false := decide_eq_false (by omega)
    rw [List.take_of_length_le hge, List.take_of_length_le (by omega)] at hf
    rw [decide_eq_true hf, Bool.true_and]
    repeat' (first
     | refine stn [] ?_
     | ((with_reducible refine is_gd ?_); refine awpL_split rfl rfl (fun h => ?_) (fun h => ?_))
     | ((with_reducible refine is_awp ?_); refine awp_cond rfl (fun h => ?_) (fun h => ?_))
     | fail)
    refine awp_for (α := Nat) 0 (fun k => [(2, .fp (docC a)), (3, .fp (docC b)), (8, vi k)]) (fun _ => []) (fun k => k ≤ a.notes.length ∧ a.notes.take k = b.notes.take k) (fun k => a.notes.length - k) 0
      ⟨(.cons rfl rfl (.cons rfl rfl (.cons rfl rfl .nil))), rfl, rfl, rfl⟩ ⟨Nat.zero_le _, by simp⟩ ?_
    rintro j ⟨hj, hg⟩
    cases hu : a.notes[j]? with
    | some n =>
      have hlt : j < a.notes.length := (List.getElem?_eq_some_iff.1 hu).1
      have d2 : decide ((j : Int) < a.notes.length) = true := decide_eq_true (by omega)
      obtain ⟨m, hm⟩ : ∃ m, b.notes[j]? = some m := ⟨_, List.getElem?_eq_getElem (by omega)⟩
      have ik := note_get hu
      have im := note_get hm
      have hEq := noteEq_eq n m
      by_cases e : n = m
      · rw [decide_eq_true e] at hEq
        repeat' (first
         | ((with_reducible refine isD_un ?_); refine awpD_un (as_ev (fun _ => ev_neA (b := true) noteEq_T (by kernel_rfl) rfl rfl rfl rfl (by rw [← hEq]; rfl)) rfl rfl) qb0 ?_)
         | ((with_reducible refine isD_gd ?_); refine awpD_gd rfl rfl qa0 (as_ev (fun _ => ev_neA (b := true) noteEq_T (by kernel_rfl) rfl rfl rfl rfl (by rw [← hEq]; rfl)) rfl rfl) qb0 ?_)
         | refine st [] ?_
         | ((with_reducible refine is_gd ?_); refine awpL_split rfl rfl (fun h => ?_) (fun h => ?_))
         | ((with_reducible refine isD_gd ?_); ((fail_if_success (refine isD_kn (c := true) rfl qa0 ?_)); (fail_if_success (refine isD_kn (c := false) rfl qa0 ?_)); refine awpD_split rfl (fun h => ?_) (fun h => ?_)))
         | ((with_reducible refine is_awp ?_); refine awp_cond rfl (fun h => ?_) (fun h => ?_))
         | fail)
        refine ⟨j + 1, ⟨(.cons rfl rfl (.cons rfl rfl (.cons rfl rfl .nil))), rfl, rfl, rfl⟩, ⟨by omega, ?_⟩, by omega⟩
        rw [List.take_add_one, List.take_add_one, hg, hu, hm, e]
      · rw [decide_eq_false e] at hEq
        have hne : a.notes ≠ b.notes := fun q => by rw [q, hm] at hu; exact e (Option.some.inj hu).symm
        rw [decide_eq_false hne]
        repeat' (first
         | ((with_reducible refine isD_un ?_); refine awpD_un (as_ev (fun _ => ev_neA (b := false) noteEq_T (by kernel_rfl) rfl rfl rfl rfl (by rw [← hEq]; rfl)) rfl rfl) qb0 ?_)
         | ((with_reducible refine isD_gd ?_); refine awpD_gd rfl rfl qa0 (as_ev (fun _ => ev_neA (b := false) noteEq_T (by kernel_rfl) rfl rfl rfl rfl (by rw [← hEq]; rfl)) rfl rfl) qb0 ?_)
         | refine st [] ?_
         | ((with_reducible refine is_gd ?_); refine awpL_split rfl rfl (fun h => ?_) (fun h => ?_))
         | ((with_reducible refine isD_gd ?_); ((fail_if_success (refine isD_kn (c := true) rfl qa0 ?_)); (fail_if_success (refine isD_kn (c := false) rfl qa0 ?_)); refine awpD_split rfl (fun h => ?_) (fun h => ?_)))
         | ((with_reducible refine is_awp ?_); refine awp_cond rfl (fun h => ?_) (fun h => ?_))
         | fail)
        exact retP rfl rfl
    | none =>
      have hge : a.notes.length ≤ j := by simpa using hu
      have d2 : decide ((j : Int) < a.notes.length) = false := decide_eq_false (by omega)
      rw [List.take_of_length_le hge, List.take_of_length_le (by omega)] at hg
      rw [decide_eq_true hg]
      repeat' (first
       | refine stn [] ?_
       | ((with_reducible refine is_gd ?_); refine awpL_split rfl rfl (fun h => ?_) (fun h => ?_))
       | ((with_reducible refine is_awp ?_); refine awp_cond rfl (fun h => ?_) (fun h => ?_))
       | fail)
      exact retP rfl rfl
end Go.Proofs.YtigcjinpkngapaaGreatDoor
end
section
namespace Go.Ac
inductive NewR (L : List LB) : AV → AV → Prop
  | own {k v E sz : Nat} {es : List (List AV)} {z : Value} (hk : L[k]? = some (.own v E sz es)) (hs : (es.all fun e => e.all scal) = true) : NewR L (.tup [.os k v, .v z]) (.tup [.fs sz es.length es, .v z])
  | none {sz : Nat} {z : Value} : NewR L (.tup [.v (.slice none 0 0), .v z]) (.tup [.fs sz 0 [], .v z])
section
variable {P : Program} {td : TDs} [T : TOK P td] {G : Glo} {N : Nat}
variable {Q : AQ} {S Sb D : SL} {L : List LB} {ty : TypeId} {nb i : Nat} {af : Array Edge} {W : DW}
end
end Go.Ac
end
section
namespace Go.Proofs.YtigcjinpkngapaaGreatDoor
open Go.Ac
attribute [local irreducible] awp awpL Ev Ev2 EvS thenQ blockQ retQ PCalls OCalls
variable {g : List (Nat × List AV)}
def numsP : List ByteArray → Option (List Int)
  | [] => some []
  | s :: r => match numP s with
    | none => none
    | some n => (numsP r).map (n :: ·)
theorem numsP_len : ∀ {l : List ByteArray} {m : List Int}, numsP l = some m → m.length = l.length
  | [], m, h => by simp [numsP] at h; subst h; rfl
  | s :: r, m, h => by
    rw [numsP] at h
    cases hs : numP s with
    | none => rw [hs] at h; cases h
    | some n =>
      rw [hs] at h
      cases hr : numsP r with
      | none => rw [hr] at h; cases h
      | some m' =>
        rw [hr] at h
        simp at h
        subst h
        simp [numsP_len hr]
theorem numsP_drop {l : List ByteArray} {k : Nat} {s : ByteArray} (h : l[k]? = some s) : numsP (l.drop k) = match numP s with | none => none | some n => (numsP (l.drop (k + 1))).map (n :: ·) := by
  obtain ⟨h1, rfl⟩ := List.getElem?_eq_some_iff.1 h
  rw [List.drop_eq_getElem_cons h1]
  rfl
abbrev optIs (o : Option (List Int)) : AV := .tup [encIs (o.getD []), vb o.isSome]
theorem word_get {l : List ByteArray} {k : Nat} {x : ByteArray} (h : l[k]? = some x) : 0 ≤ (k : Int) ∧ (l.map strC)[(k : Int).toNat]? = some (strC x) := ⟨by omega, by simp [h]⟩
set_option maxRecDepth 4000 in
set_option maxHeartbeats 2000000 in
theorem wparsed_spec (hN : NumG g) (l : List ByteArray) (hl : l.length ≤ 90000000) (hx : ∀ s ∈ l, s.size ≤ 281474976710656) : PCalls Tryz.prog g 97 [encSs l] (optIs (numsP l)) := by
  have n1 : (!true) = false := rfl
  have n2 : (!false) = true := rfl
  refine pcalls' Tryz.func97 Tryz.ntmps97 rfl rfl rfl ?_
  repeat' (first
   | refine stn [] ?_
   | ((with_reducible refine is_gd ?_); refine awpL_split rfl rfl (fun h => ?_) (fun h => ?_))
   | ((with_reducible refine is_awp ?_); refine awp_cond rfl (fun h => ?_) (fun h => ?_))
   | fail)
  refine awp_adopt (t := 4) (E := 3) (sz := 1) rfl rfl rfl ?_
  repeat' (first
   | refine stn [] ?_
   | ((with_reducible refine is_gd ?_); refine awpL_split rfl rfl (fun h => ?_) (fun h => ?_))
   | ((with_reducible refine is_awp ?_); refine awp_cond rfl (fun h => ?_) (fun h => ?_))
   | fail)
  refine awp_for (α := Nat × List Int) 1 (fun p => [(4, .os 0 0), (9, encSs l), (10, vi l.length), (11, vi p.1)]) (fun p => [.own 0 3 1 (p.2.map intC)]) (fun p => p.1 ≤ l.length ∧ p.2.length = p.1 ∧ numsP l = (numsP (l.drop p.1)).map (p.2 ++ ·)) (fun p => l.length - p.1) (0, [])
    ⟨(.cons rfl rfl (.cons rfl rfl (.cons rfl rfl (.cons rfl rfl .nil)))), rfl, rfl, rfl⟩ ⟨Nat.zero_le _, rfl, by simp⟩ ?_
  rintro ⟨k, M⟩ ⟨hk, hm, hf⟩
  simp only at hk hm hf
  cases ht : l[k]? with
  | none =>
    have hge : l.length ≤ k := by simpa using ht
    have c1 : decide ((k : Int) < l.length) = false := decide_eq_false (by omega)
    rw [List.drop_of_length_le hge] at hf
    have hf : numsP l = some M := by rw [hf]; simp [numsP]
    rw [hf]
    repeat' (first
     | refine stn [] ?_
     | ((with_reducible refine is_gd ?_); refine awpL_split rfl rfl (fun h => ?_) (fun h => ?_))
     | ((with_reducible refine is_awp ?_); refine awp_cond rfl (fun h => ?_) (fun h => ?_))
     | fail)
    refine retP rfl ?_
    simp [ex, exL]
  | some x =>
    have hlt : k < l.length := (List.getElem?_eq_some_iff.1 ht).1
    have c1 : decide ((k : Int) < l.length) = true := decide_eq_true (by omega)
    have ik := word_get ht
    have hP := NParse_spec hN x (hx x (List.mem_of_getElem? ht))
    rw [numsP_drop ht] at hf
    cases hn : numP x with
    | none =>
      rw [hn] at hP hf
      have s1 : (!(none : Option Int).isSome) = true := rfl
      have hf : numsP l = none := by rw [hf]; rfl
      rw [hf]
      repeat' (first
       | refine stn [] ?_
       | ((with_reducible refine is_gd ?_); refine awpL_split rfl rfl (fun h => ?_) (fun h => ?_))
       | ((with_reducible refine is_awp ?_); refine awp_cond rfl (fun h => ?_) (fun h => ?_))
       | fail)
      refine retLe rfl ?_
      exact Le.tup (.cons (Le.nil 1) (.cons (Le.rfl' _) .nil))
    | some n =>
      rw [hn] at hP hf
      have s1 : (!(some n).isSome) = false := rfl
      have hj : M.map intC ++ [intC n] = (M ++ [n]).map intC := by simp
      have hmb : (M.map intC).length ≤ 90000000 := by rw [List.length_map]; omega
      have hfl : (M ++ [n]).length = k + 1 := by simp [hm]
      have hf2 : numsP l = (numsP (l.drop (k + 1))).map ((M ++ [n]) ++ ·) := by
        rw [hf]
        cases numsP (l.drop (k + 1)) <;> simp
      generalize hM' : M ++ [n] = M' at *
      repeat' (first
       | ((with_reducible refine is_un ?_); refine awpL_ev2 (ev_appB (es' := M'.map intC) rfl rfl rfl rfl rfl rfl rfl rfl rfl rfl rfl rfl rfl qe0 hj rfl) rfl ?_)
       | refine stn [] ?_
       | ((with_reducible refine is_gd ?_); refine awpL_split rfl rfl (fun h => ?_) (fun h => ?_))
       | ((with_reducible refine is_awp ?_); refine awp_cond rfl (fun h => ?_) (fun h => ?_))
       | fail)
      exact ⟨(k + 1, M'), ⟨(.cons rfl rfl (.cons rfl rfl (.cons rfl rfl (.cons rfl rfl .nil)))), rfl, rfl, rfl⟩, ⟨by simp only; omega, hfl, hf2⟩, by simp only; omega⟩
end Go.Proofs.YtigcjinpkngapaaGreatDoor
end
section
namespace Go.Proofs.YtigcjinpkngapaaGreatDoor
open Go.Ac
attribute [local irreducible] awp awpL Ev Ev2 EvS thenQ blockQ retQ PCalls OCalls
variable {g : List (Nat × List AV)}
def zeroRec : Recording := ⟨0, .empty, 0, 0, []⟩
def recP (w : List ByteArray) : Option Recording := match w with
  | k :: a :: nm :: r => if k = kRec ∧ 2 ≤ r.length then (match numsP (a :: r) with
    | some (id :: x :: y :: sp) => some ⟨id, nm, x, y, sp⟩
    | _ => none) else none
  | _ => none
def tierP (w : List ByteArray) : Option Tier := match w with
  | [k, nm, a, b, c] => if k = kTier then (match numsP [a, b, c] with
    | some [x, y, z] => some ⟨nm, x, y, z⟩
    | _ => none) else none
  | _ => none
def noteP (w : List ByteArray) : Option Note := match w with
  | [k, a, b, c, d, e, f, t] => if k = kNote then (match numsP [a, b, c, d, e, f] with
    | some [x1, x2, x3, x4, x5, x6] => some ⟨x1, x2, x3, ⟨x4, x5⟩, x6, t⟩
    | _ => none) else none
  | _ => none
theorem three {α : Type} {l : List α} (h : l.length = 3) : ∃ x y z, l = [x, y, z] := by
  match l, h with
  | [x, y, z], _ => exact ⟨x, y, z, rfl⟩
theorem five {α : Type} {l : List α} (h : l.length = 5) : ∃ x y z u v, l = [x, y, z, u, v] := by
  match l, h with
  | [x, y, z, u, v], _ => exact ⟨x, y, z, u, v, rfl⟩
theorem six {α : Type} {l : List α} (h : l.length = 6) : ∃ x y z u v w, l = [x, y, z, u, v, w] := by
  match l, h with
  | [x, y, z, u, v, w], _ => exact ⟨x, y, z, u, v, w, rfl⟩
theorem eight {α : Type} {l : List α} (h : l.length = 8) : ∃ x y z u v w p q, l = [x, y, z, u, v, w, p, q] := by
  match l, h with
  | [x, y, z, u, v, w, p, q], _ => exact ⟨x, y, z, u, v, w, p, q, rfl⟩
theorem tierP_none {w : List ByteArray} (h : w.length ≠ 5) : tierP w = none := by
  unfold tierP
  split
  · exact absurd rfl h
  · rfl
theorem noteP_none {w : List ByteArray} (h : w.length ≠ 8) : noteP w = none := by
  unfold noteP
  split
  · exact absurd rfl h
  · rfl
theorem recP_none {w : List ByteArray} (h : w.length < 5) : recP w = none := by
  unfold recP
  split
  · rw [if_neg (fun q => by simp at h; omega)]
  · rfl
end Go.Proofs.YtigcjinpkngapaaGreatDoor
end
section
namespace Go.Proofs.YtigcjinpkngapaaGreatDoor
open Go.Ac
attribute [local irreducible] awp awpL Ev Ev2 EvS thenQ blockQ retQ PCalls OCalls ICalls
variable {g : List (Nat × List AV)}
abbrev docB (a b : Nat) (d : Doc) : List AV := [.v (.int .i64 d.rec_.id), .v (.string d.rec_.name), .v (.int .i64 d.rec_.length), .v (.int .i64 d.rec_.day), encIs d.rec_.speakers, .os 2 a, .os 3 b]
abbrev zeroB : List AV := [.v (.int .i64 0), .v (.string .empty), .v (.int .i64 0), .v (.int .i64 0), .v (.slice none 0 0), .v (.slice none 0 0), .v (.slice none 0 0)]
abbrev docLV (a b : Nat) (d : Doc) : List LB := [.box zeroB, .box (docB a b d), .own a 51 4 (d.tiers.map tierC), .own b 55 7 (d.notes.map noteC)]
abbrev docLB (d : Doc) : List LB := docLV 0 0 d
abbrev docL0 : List LB := [.box zeroB, .box [.v (.int .i64 0), .v (.string .empty), .v (.int .i64 0), .v (.int .i64 0), .v (.slice none 0 0), .os 2 0, .os 3 0], .own 0 51 4 [], .own 0 55 7 []]
theorem numsP_cons (a : ByteArray) (r : List ByteArray) : numsP (a :: r) = match numP a with | none => none | some n => (numsP r).map (n :: ·) := rfl
set_option maxRecDepth 8000 in
set_option maxHeartbeats 4000000 in
theorem wrecording_I (hN : NumG g) (w : List ByteArray) (hl : w.length ≤ 90000000) (hx : ∀ s ∈ w, s.size ≤ 281474976710656) : ICalls Tryz.prog (Glo.of g) 67 [.lp 1 0, encSs w] docL0 (match recP w with | some r => docLB ⟨r, [], []⟩ | none => docL0) (vb (recP w).isSome) := by
  have n1 : (!true) = false := rfl
  have n2 : (!false) = true := rfl
  by_cases h5 : w.length < 5
  · have c1 : decide ((w.length : Int) < 5) = true := decide_eq_true (by omega)
    rw [recP_none h5]
    refine icalls Tryz.func67 rfl Tryz.ntmps67 rfl rfl rfl rfl rfl rfl ?_
    repeat' (first
     | refine stn [] ?_
     | ((with_reducible refine is_gd ?_); refine awpL_split rfl rfl (fun h => ?_) (fun h => ?_))
     | ((with_reducible refine is_awp ?_); refine awp_cond rfl (fun h => ?_) (fun h => ?_))
     | fail)
    exact retI rfl ⟨rfl, rfl⟩
  have c1 : decide ((w.length : Int) < 5) = false := decide_eq_false (by omega)
  obtain ⟨k, a, nm, r, hw⟩ : ∃ k a nm r, w = k :: a :: nm :: r := by
    match w, h5 with
    | k :: a :: nm :: r, _ => exact ⟨k, a, nm, r, rfl⟩
    | [], h => simp at h
    | [_], h => simp at h
    | [_, _], h => simp at h
  have hr2 : 2 ≤ r.length := by rw [hw] at h5; simp at h5; omega
  have hwl : w.length = r.length + 3 := by rw [hw]; rfl
  have g0 : 0 ≤ (0 : Int) ∧ (w.map strC)[(0 : Int).toNat]? = some (strC k) := ⟨by omega, by rw [hw]; rfl⟩
  have he : recP w = if k = kRec then (match numsP (a :: r) with
    | some (id :: x :: y :: sp) => some ⟨id, nm, x, y, sp⟩
    | _ => none) else none := by
    rw [hw]; unfold recP; simp only [hr2, and_true]; try rfl
  rw [he]
  by_cases hk : k = kRec
  case neg =>
    have c2 : (!decide (k = kRec)) = true := by rw [decide_eq_false hk]; rfl
    unfold kRec at c2
    rw [if_neg hk]
    refine icalls Tryz.func67 rfl Tryz.ntmps67 rfl rfl rfl rfl rfl rfl ?_
    repeat' (first
     | refine stn [] ?_
     | ((with_reducible refine is_gd ?_); refine awpL_split rfl rfl (fun h => ?_) (fun h => ?_))
     | ((with_reducible refine is_awp ?_); refine awp_cond rfl (fun h => ?_) (fun h => ?_))
     | fail)
    exact retI rfl ⟨rfl, rfl⟩
  have c2 : (!decide (k = kRec)) = false := by rw [decide_eq_true hk]; rfl
  unfold kRec at c2
  rw [if_pos hk, numsP_cons]
  have j1 : 0 ≤ (1 : Int) ∧ (w.map strC)[(1 : Int).toNat]? = some (strC a) := ⟨by omega, by rw [hw]; rfl⟩
  have j2 : 0 ≤ (2 : Int) ∧ (w.map strC)[(2 : Int).toNat]? = some (strC nm) := ⟨by omega, by rw [hw]; rfl⟩
  have b0 : (0 : Int) ≤ 3 ∧ (3 : Int) ≤ (w.length : Int) ∧ (w.length : Int) ≤ (w.length : Nat) := by omega
  have m0 : ((w.length : Int) - 3).toNat = r.length := by omega
  have f0 : ((w.map strC).drop (3 : Int).toNat).take r.length = r.map strC := by
    rw [hw]
    show (r.map strC).take r.length = _
    rw [List.take_of_length_le (by simp)]
  have hA := NParse_spec hN a (hx a (by rw [hw]; simp))
  have hR := wparsed_spec hN r (by omega) (fun s hs => hx s (by rw [hw]; simp [hs]))
  have hlen := @numsP_len r
  clear he hw
  cases ha : numP a with
  | none =>
    rw [ha] at hA
    replace hA : PCalls _ _ _ _ (.tup [vi 0, vb false]) := hA
    simp only
    refine icalls Tryz.func67 rfl Tryz.ntmps67 rfl rfl rfl rfl rfl rfl ?_
    repeat' (first
     | ((with_reducible refine is_un ?_); refine awpL_ev (ev_slice_fs rfl rfl rfl rfl rfl rfl rfl b0 m0 f0) rfl ?_)
     | refine stn [] ?_
     | ((with_reducible refine is_gd ?_); refine awpL_split rfl rfl (fun h => ?_) (fun h => ?_))
     | ((with_reducible refine is_awp ?_); refine awp_cond rfl (fun h => ?_) (fun h => ?_))
     | fail)
    exact retI rfl ⟨rfl, rfl⟩
  | some id =>
    rw [ha] at hA
    replace hA : PCalls _ _ _ _ (.tup [vi id, vb true]) := hA
    cases hn : numsP r with
    | none =>
      rw [hn] at hR
      replace hR : PCalls _ _ _ _ (.tup [encIs [], vb false]) := hR
      simp only [Option.map_none]
      refine icalls Tryz.func67 rfl Tryz.ntmps67 rfl rfl rfl rfl rfl rfl ?_
      repeat' (first
       | ((with_reducible refine is_un ?_); refine awpL_ev (ev_slice_fs rfl rfl rfl rfl rfl rfl rfl b0 m0 f0) rfl ?_)
       | refine stn [] ?_
       | ((with_reducible refine is_gd ?_); refine awpL_split rfl rfl (fun h => ?_) (fun h => ?_))
       | ((with_reducible refine is_awp ?_); refine awp_cond rfl (fun h => ?_) (fun h => ?_))
       | fail)
      exact retI rfl ⟨rfl, rfl⟩
    | some l =>
      obtain ⟨x, y, sp, rfl⟩ : ∃ x y sp, l = x :: y :: sp := by
        have := hlen hn
        match l, this with
        | x :: y :: sp, _ => exact ⟨x, y, sp, rfl⟩
        | [], h => simp only [List.length_nil] at h; omega
        | [_], h => simp only [List.length_cons, List.length_nil] at h; omega
      rw [hn] at hR
      replace hR : PCalls _ _ _ _ (.tup [encIs (x :: y :: sp), vb true]) := hR
      simp only [Option.map_some]
      have i0 : 0 ≤ (0 : Int) ∧ ((x :: y :: sp).map intC)[(0 : Int).toNat]? = some (intC x) := ⟨by omega, rfl⟩
      have i1 : 0 ≤ (1 : Int) ∧ ((x :: y :: sp).map intC)[(1 : Int).toNat]? = some (intC y) := ⟨by omega, rfl⟩
      have q0 : (0 : Int) ≤ 2 ∧ (2 : Int) ≤ ((x :: y :: sp).length : Int) ∧ ((x :: y :: sp).length : Int) ≤ ((x :: y :: sp).length : Nat) := by simp; omega
      have w0 : (((x :: y :: sp).length : Int) - 2).toNat = sp.length := by simp; omega
      have v0 : (((x :: y :: sp).map intC).drop (2 : Int).toNat).take sp.length = sp.map intC := by
        show (sp.map intC).take sp.length = _
        rw [List.take_of_length_le (by simp)]
      refine icalls Tryz.func67 rfl Tryz.ntmps67 rfl rfl rfl rfl rfl rfl ?_
      repeat' (first
       | refine awp_drawT2 14 (by simp only [List.take_succ_cons, List.take_zero, List.take_nil]; rfl) (by simp only [List.drop_succ_cons, List.drop_zero, List.drop_nil]; rfl) (by kernel_rfl) rfl rfl rfl rfl (by repeat' (first | exact Strip.nil | apply Strip.keep rfl | apply Strip.drop rfl)) ?_
       | ((with_reducible refine is_un ?_); refine awpL_ev (ev_slice_fs rfl rfl rfl rfl rfl rfl rfl b0 m0 f0) rfl ?_)
       | ((with_reducible refine isD_un ?_); refine awpD_un (as_ev (fun _ => ev_slice_fs rfl rfl rfl rfl rfl rfl rfl q0 w0 v0) rfl rfl) qb0 ?_)
       | ((with_reducible refine isD_gd ?_); refine awpD_gd rfl rfl qa0 (as_ev (fun _ => ev_slice_fs rfl rfl rfl rfl rfl rfl rfl q0 w0 v0) rfl rfl) qb0 ?_)
       | refine st [] ?_
       | ((with_reducible refine is_gd ?_); refine awpL_split rfl rfl (fun h => ?_) (fun h => ?_))
       | ((with_reducible refine isD_gd ?_); ((fail_if_success (refine isD_kn (c := true) rfl qa0 ?_)); (fail_if_success (refine isD_kn (c := false) rfl qa0 ?_)); refine awpD_split rfl (fun h => ?_) (fun h => ?_)))
       | ((with_reducible refine is_awp ?_); refine awp_cond rfl (fun h => ?_) (fun h => ?_))
       | fail)
      exact retI rfl ⟨rfl, rfl⟩
end Go.Proofs.YtigcjinpkngapaaGreatDoor
end
section
namespace Go.Ac
def moreE (o : Oper) (x : List Edge) : Oper := { o with after := o.after ++ x.toArray }
section
variable {F : Fence} {n : Nat} {P : Program} {Q : Exit → Act → World → Prop}
theorem any_edges {l : List Oper} {k : Nat} {x : List Edge} {o : Oper} (ho : l[k]? = some o) (hx : (x.all fun e => reachE l l.length o.after.toList e.on) = true) :
    ∀ (fuel : Nat) (listed : Array Bool) (a : Act) (w : World), listed.size = l.length → (∀ (i : Nat) (o : Oper), l[i]? = some o → listed.getD i false = true → ∀ e ∈ o.after.toList, Region.binds .any e = true → listed.getD e.on false = true) →
      wpAnyIn F n P .any (l.set k (moreE o x)).toArray Q fuel listed a w → wpAnyIn F n P .any l.toArray Q fuel listed a w := by
  have hk : k < l.length := (List.getElem?_eq_some_iff.1 ho).1
  have get : ∀ i, (l.set k (moreE o x)).toArray[i]? = if k = i then some (moreE o x) else l[i]? := fun i => by
    rw [List.getElem?_toArray, List.getElem?_set]
    by_cases e : k = i
    · rw [if_pos e, if_pos e, if_pos (by omega)]
    · rw [if_neg e, if_neg e]
  have rd : ∀ (listed : Array Bool), listed.size = l.length → (∀ (i : Nat) (o : Oper), l[i]? = some o → listed.getD i false = true → ∀ e ∈ o.after.toList, Region.binds .any e = true → listed.getD e.on false = true) →
      ∀ i, i ∈ Region.ready .any (l.set k (moreE o x)).toArray listed ↔ i ∈ Region.ready .any l.toArray listed := by
    intro listed hs hcl i
    rw [mem_ready, mem_ready, get, List.getElem?_toArray]
    by_cases e : k = i
    · subst e
      rw [if_pos rfl, ho]
      constructor
      · rintro ⟨h0, o', ho', h⟩
        injection ho' with ho'; subst ho'
        exact ⟨h0, o, rfl, fun e he hb => h e (by simp only [moreE, Array.mem_append]; exact .inl he) hb⟩
      · rintro ⟨h0, o', ho', h⟩
        injection ho' with ho'; subst ho'
        refine ⟨h0, _, rfl, fun e he hb => ?_⟩
        simp only [moreE, Array.mem_append] at he
        rcases he with he | he
        · exact h e he hb
        · have hr := List.all_eq_true.1 hx e (by simpa using he)
          exact reach_done hcl _ _ _ (fun e he hb => h e (by simpa using he) hb) hr
    · rw [if_neg e]
  intro fuel
  induction fuel with
  | zero =>
    intro listed a w hs hcl h
    refine ⟨?_, h.2⟩
    cases hq : Region.ready .any l.toArray listed with
    | nil => rfl
    | cons i r =>
      have := (rd listed hs hcl i).2 (by rw [hq]; exact List.mem_cons_self ..)
      rw [h.1] at this; cases this
  | succ f ih =>
    intro listed a w hs hcl h
    refine ⟨fun hr => h.1 ?_, fun i hi => ?_⟩
    · cases hq : Region.ready .any (l.set k (moreE o x)).toArray listed with
      | nil => rfl
      | cons i r =>
        have := (rd listed hs hcl i).1 (by rw [hq]; exact List.mem_cons_self ..)
        rw [hr] at this; cases this
    · have hw := h.2 i ((rd listed hs hcl i).2 hi)
      rw [mem_ready] at hi
      obtain ⟨h0, oi, hoi, haft⟩ := hi
      have hoi : l[i]? = some oi := by simpa using hoi
      have hil : i < l.length := (List.getElem?_eq_some_iff.1 hoi).1
      have next : ∀ a w, wpAnyIn F n P .any (l.set k (moreE o x)).toArray Q f (listed.setIfInBounds i true) a w → wpAnyIn F n P .any l.toArray Q f (listed.setIfInBounds i true) a w := by
        intro a w
        refine ih _ a w (by simpa using hs) fun j oj hj hl e he hb => ?_
        by_cases e1 : i = e.on
        · subst e1; simp [Array.getD_eq_getD_getElem?, hs, hil]
        · rw [getD_set_ne false e1]
          by_cases e2 : i = j
          · subst e2
            rw [hoi] at hj; injection hj with hj; subst hj
            exact haft e (by simpa using he) hb
          · rw [getD_set_ne false e2] at hl
            exact hcl j oj hj hl e he hb
      have hy : ∀ j, yielded (l.set k (moreE o x)).toArray a.tmps j = yielded l.toArray a.tmps j := fun j => by
        unfold yielded
        rw [get, List.getElem?_toArray]
        by_cases e : k = j
        · subst e; rw [if_pos rfl, ho]; rfl
        · rw [if_neg e]
      have hy : yielded (l.set k (moreE o x)).toArray a.tmps = yielded l.toArray a.tmps := funext hy
      unfold wpOpIn at hw ⊢
      rw [get] at hw
      rw [List.getElem?_toArray, hoi]
      by_cases e : k = i
      · subst e
        rw [hoi] at ho; injection ho with ho; subst ho
        rw [if_pos rfl, hy] at hw
        simp only at hw ⊢
        have hwant : Region.wanted (moreE oi x) (yielded l.toArray a.tmps) = Region.wanted oi (yielded l.toArray a.tmps) := rfl
        rw [hwant] at hw
        split at hw
        · rename_i hq
          rw [if_pos hq]
          exact Oper.wpIn_mono next hw
        · rename_i hq
          rw [if_neg hq]
          exact ⟨hw.1, next _ _ hw.2⟩
      · rw [if_neg e, hoi, hy] at hw
        simp only at hw ⊢
        split at hw
        · rename_i hq
          rw [if_pos hq]
          exact Oper.wpIn_mono next hw
        · rename_i hq
          rw [if_neg hq]
          exact ⟨hw.1, next _ _ hw.2⟩
end
section
variable {P : Program} {td : TDs} [T : TOK P td] {G : Glo} {N : Nat} {Q : AQ} {S Sb : SL} {L : List LB} {lx l l1 l2 : List Oper}
theorem awp_drawE (k : Nat) (x : List Edge) (n : Nat) {id : Nat} {ds : List Nat} {o : Oper} (ho : lx[k]? = some o) (hx : (x.all fun e => reachE lx lx.length o.after.toList e.on) = true) (h0 : lx.set k (moreE o x) = l) (h1 : l.take n = l1) (h2 : l.drop n = l2) (hm : P.follows .mixedOrders = true) (hk : drawOk N 0 [] l1 = true) (ht : tailOk2 l1.length l2 = true) (hg : gdOk l1.length l1 = true) (hds : dsts l1 = ds) (hS : Strip ds S Sb)
    (h : awpD P G N (fun S' L' => awpL P G N l.toArray l2 Q S' L') Sb L.length l1 [] ⟨L, [], [], false⟩) : awp P G N (.region id lx.toArray true) Q S L := by
  have hl : l = l1 ++ l2 := by rw [← h1, ← h2, List.take_append_drop]
  subst hl
  clear h1 h2
  have hb : (Sb.all fun p => !(l1.any fun o => match o.dst with | some d => Nat.beq d p.1 | none => false)) = true := by
    rw [List.all_eq_true]
    rintro ⟨t, x⟩ hp
    have hm := strip_keep hS t x hp
    rw [Bool.not_eq_true', List.any_eq_false]
    intro o ho
    cases hd : o.dst with
    | none => simp
    | some d =>
      have hdm : d ∈ ds := by rw [← hds]; exact List.mem_filterMap.2 ⟨o, ho, hd⟩
      simp only [Bool.not_eq_true]
      cases he : Nat.beq d t with
      | false => rfl
      | true =>
        have := Nat.eq_of_beq_eq_true he
        subst this
        rw [memN_of hdm] at hm; cases hm
  intro cx a hc
  refine wpIn_region_any hm ?_
  have hsz : lx.length = (l1 ++ l2).length := by rw [← h0, List.length_set]
  have hlx : lx.toArray.size = (l1 ++ l2).toArray.size := by simpa using hsz
  rw [hlx]
  refine any_edges ho hx _ _ _ _ (by simpa using hsz.symm) (fun i o hi hl => ?_) ?_
  · exfalso; have hi2 := (List.getElem?_eq_some_iff.1 hi).1; rw [hsz] at hi2; have hi3 : i < l1.length + l2.length := by simpa using hi2
    simp [Array.getD_eq_getD_getElem?, hi3] at hl
  rw [h0]
  have hA := draw_any (Q := thenQ (fun S' L' => awpL P G N (l1 ++ l2).toArray l2 Q S' L') Q) hk (fun t x hx => (hS.get t x hx).1) hb h cx a hc
  refine body_run2 ht hg hk (Qt := conc G N (thenQ (fun S' L' => awpL P G N (l1 ++ l2).toArray l2 Q S' L') Q) cx) (fun e a w hne q => ?_) (fun a w q => ?_) _ _ _ _ _ (by simp) (by simp) (fun i hi => ?_) (fun i hi hil => ?_) hA _ (by simp)
  · obtain ⟨S', L', c', q1, q2, q3, q4⟩ := q
    refine ⟨S', L', c', ?_, q2, q3, q4⟩
    cases e with
    | normal => exact absurd rfl hne
    | _ => exact q1
  · obtain ⟨S', L', c', q1, q2, q3, q4⟩ := q
    subst q4
    exact wpListIn_mono (fun e a w r => r.trans q3) _ _ _ (q1 c' a q2)
  · have hi2 : i < l1.length + l2.length := by omega
    simp [Array.getD_eq_getD_getElem?, hi, hi2]
  · simp at hil
    simp [Array.getD_eq_getD_getElem?, hil]
end
end Go.Ac
end
section
namespace Go.Proofs.YtigcjinpkngapaaGreatDoor
open Go.Ac
attribute [local irreducible] awp awpL Ev Ev2 EvS thenQ blockQ retQ PCalls OCalls ICalls
variable {g : List (Nat × List AV)}
def furP (d : Doc) (w : List ByteArray) : Option Doc := match tierP w with
  | some t => if d.notes.length = 0 then some { d with tiers := d.tiers ++ [t] } else none
  | none => match noteP w with
    | some n => some { d with notes := d.notes ++ [n] }
    | none => none
def furA (d : Doc) (w : List ByteArray) : Nat := if (furP d w).isSome = true ∧ (tierP w).isSome = true then 1 else 0
def furB (d : Doc) (w : List ByteArray) : Nat := if (furP d w).isSome = true ∧ (tierP w).isSome = false then 1 else 0
def furD (d : Doc) (w : List ByteArray) : Doc := (furP d w).getD d
set_option maxRecDepth 8000 in
set_option maxHeartbeats 8000000 in
theorem wfurther_I (hN : NumG g) (d : Doc) (w : List ByteArray) (hl : w.length ≤ 90000000) (hx : ∀ s ∈ w, s.size ≤ 281474976710656) (ht : d.tiers.length ≤ 90000000) (hn : d.notes.length ≤ 90000000) :
    ICalls Tryz.prog (Glo.of g) 68 [.lp 1 0, encSs w] (docLB d) (docLV (furA d w) (furB d w) (furD d w)) (vb (furP d w).isSome) := by
  have n1 : (!true) = false := rfl
  have n2 : (!false) = true := rfl
  have ht2 : (d.tiers.map tierC).length ≤ 90000000 := by rw [List.length_map]; exact ht
  have hn2 : (d.notes.map noteC).length ≤ 90000000 := by rw [List.length_map]; exact hn
  by_cases h5 : w.length = 5
  · have c1 : decide ((w.length : Int) = 5) = true := decide_eq_true (by omega)
    have c8 : decide ((w.length : Int) = 8) = false := decide_eq_false (by omega)
    obtain ⟨k, nm, a, b, c, hw⟩ := five h5
    have g0 : 0 ≤ (0 : Int) ∧ (w.map strC)[(0 : Int).toNat]? = some (strC k) := ⟨by omega, by rw [hw]; rfl⟩
    have he : tierP w = if k = kTier then (match numsP [a, b, c] with
      | some [x, y, z] => some ⟨nm, x, y, z⟩
      | _ => none) else none := by rw [hw]; rfl
    have hno : noteP w = none := noteP_none (by omega)
    by_cases hk : k = kTier
    case neg =>
      have c2 : decide (k = kTier) = false := decide_eq_false hk
      unfold kTier at c2
      have hf : furP d w = none := by unfold furP; rw [he, if_neg hk, hno]
      unfold furA furB furD
      rw [hf]
      simp only [Option.isSome_none, Bool.false_eq_true, false_and, if_false, Option.getD_none]
      refine icalls Tryz.func68 rfl Tryz.ntmps68 rfl rfl rfl rfl rfl rfl ?_
      repeat' (first
       | refine stn [] ?_
       | ((with_reducible refine is_gd ?_); refine awpL_split rfl rfl (fun h => ?_) (fun h => ?_))
       | ((with_reducible refine is_awp ?_); refine awp_cond rfl (fun h => ?_) (fun h => ?_))
       | fail)
      exact retI rfl ⟨rfl, rfl⟩
    have c2 : decide (k = kTier) = true := decide_eq_true hk
    unfold kTier at c2
    by_cases h0 : d.notes.length = 0
    case neg =>
      have c3 : decide (((d.notes.map noteC).length : Int) = 0) = false := decide_eq_false (by rw [List.length_map]; omega)
      have hf : furP d w = none := by
        unfold furP; rw [he, if_pos hk]
        cases hq : numsP [a, b, c] with
        | none => simp only [hno]
        | some l =>
          obtain ⟨x, y, z, rfl⟩ := three (numsP_len hq)
          simp only [h0, if_false]
      unfold furA furB furD
      rw [hf]
      simp only [Option.isSome_none, Bool.false_eq_true, false_and, if_false, Option.getD_none]
      refine icalls Tryz.func68 rfl Tryz.ntmps68 rfl rfl rfl rfl rfl rfl ?_
      repeat' (first
       | refine stn [] ?_
       | ((with_reducible refine is_gd ?_); refine awpL_split rfl rfl (fun h => ?_) (fun h => ?_))
       | ((with_reducible refine is_awp ?_); refine awp_cond rfl (fun h => ?_) (fun h => ?_))
       | fail)
      exact retI rfl ⟨rfl, rfl⟩
    have c3 : decide (((d.notes.map noteC).length : Int) = 0) = true := decide_eq_true (by rw [List.length_map]; omega)
    have b0 : (0 : Int) ≤ 2 ∧ (2 : Int) ≤ (w.length : Int) ∧ (w.length : Int) ≤ (w.length : Nat) := by omega
    have m0 : ((w.length : Int) - 2).toNat = 3 := by omega
    have f0 : ((w.map strC).drop (2 : Int).toNat).take 3 = [a, b, c].map strC := by rw [hw]; rfl
    have hR := wparsed_spec hN [a, b, c] (by simp) (fun s hs => hx s (by rw [hw]; exact List.mem_of_mem_drop (i := 2) (l := [k, nm, a, b, c]) hs))
    have j1 : 0 ≤ (1 : Int) ∧ (w.map strC)[(1 : Int).toNat]? = some (strC nm) := ⟨by omega, by rw [hw]; rfl⟩
    cases hq : numsP [a, b, c] with
    | none =>
      rw [hq] at hR
      replace hR : PCalls _ _ _ _ (.tup [encIs [], vb false]) := hR
      have hf : furP d w = none := by unfold furP; rw [he, if_pos hk, hq, hno]
      unfold furA furB furD
      rw [hf]
      simp only [Option.isSome_none, Bool.false_eq_true, false_and, if_false, Option.getD_none]
      refine icalls Tryz.func68 rfl Tryz.ntmps68 rfl rfl rfl rfl rfl rfl ?_
      repeat' (first
       | ((with_reducible refine is_un ?_); refine awpL_ev (ev_slice_fs rfl rfl rfl rfl rfl rfl rfl b0 m0 f0) rfl ?_)
       | refine stn [] ?_
       | ((with_reducible refine is_gd ?_); refine awpL_split rfl rfl (fun h => ?_) (fun h => ?_))
       | ((with_reducible refine is_awp ?_); refine awp_cond rfl (fun h => ?_) (fun h => ?_))
       | fail)
      exact retI rfl ⟨rfl, rfl⟩
    | some l =>
      obtain ⟨x, y, z, rfl⟩ := three (numsP_len hq)
      rw [hq] at hR
      replace hR : PCalls _ _ _ _ (.tup [encIs [x, y, z], vb true]) := hR
      have htp : (tierP w).isSome = true := by rw [he, if_pos hk, hq]; rfl
      have hf : furP d w = some { d with tiers := d.tiers ++ [⟨nm, x, y, z⟩] } := by unfold furP; rw [he, if_pos hk, hq]; simp only [h0, if_true]
      have i0 : 0 ≤ (0 : Int) ∧ ([x, y, z].map intC)[(0 : Int).toNat]? = some (intC x) := ⟨by omega, rfl⟩
      have i1 : 0 ≤ (1 : Int) ∧ ([x, y, z].map intC)[(1 : Int).toNat]? = some (intC y) := ⟨by omega, rfl⟩
      have i2 : 0 ≤ (2 : Int) ∧ ([x, y, z].map intC)[(2 : Int).toNat]? = some (intC z) := ⟨by omega, rfl⟩
      have hj : d.tiers.map tierC ++ [tierC (⟨nm, x, y, z⟩ : Tier)] = (d.tiers ++ [(⟨nm, x, y, z⟩ : Tier)]).map tierC := by simp
      unfold furA furB furD
      rw [hf]
      simp only [Option.getD_some, Option.isSome_some, docLB, docLV, docB, ← hj, htp, true_and, and_true, and_self, if_true, if_false, Bool.true_eq_false, Bool.false_eq_true, and_false]
      clear he hw hf
      refine icalls Tryz.func68 rfl Tryz.ntmps68 rfl rfl rfl rfl rfl rfl ?_
      repeat' (first
       | refine awp_drawE 19 [⟨2, .data⟩, ⟨3, .data⟩] 20 rfl rfl rfl (by simp only [List.set_cons_zero, List.set_cons_succ, moreE, List.take_succ_cons, List.take_zero, List.take_nil]; rfl) (by simp only [List.set_cons_zero, List.set_cons_succ, moreE, List.drop_succ_cons, List.drop_zero, List.drop_nil]; rfl) (by kernel_rfl) rfl rfl rfl rfl (by repeat' (first | exact Strip.nil | apply Strip.keep rfl | apply Strip.drop rfl)) ?_
       | refine awpD_nw rfl qd0 (ev_bslice_o (t := 25) (n := 1) (es := [tierC (⟨nm, x, y, z⟩ : Tier)]) rfl rfl rfl rfl rfl rfl rfl rfl rfl rfl rfl qf0 qc0) rfl rfl rfl rfl rfl qc0 qb0 ?_
       | refine awpD_sV rfl rfl (ev_appB (es' := d.tiers.map tierC ++ [tierC (⟨nm, x, y, z⟩ : Tier)]) rfl rfl rfl rfl rfl rfl rfl rfl rfl rfl rfl rfl rfl qe0 rfl rfl) rfl qb0 ?_
       | ((with_reducible refine is_un ?_); refine awpL_ev (ev_slice_fs rfl rfl rfl rfl rfl rfl rfl b0 m0 f0) rfl ?_)
       | refine st [] ?_
       | ((with_reducible refine is_gd ?_); refine awpL_split rfl rfl (fun h => ?_) (fun h => ?_))
       | ((with_reducible refine isD_gd ?_); ((fail_if_success (refine isD_kn (c := true) rfl qa0 ?_)); (fail_if_success (refine isD_kn (c := false) rfl qa0 ?_)); refine awpD_split rfl (fun h => ?_) (fun h => ?_)))
       | ((with_reducible refine is_awp ?_); refine awp_cond rfl (fun h => ?_) (fun h => ?_))
       | fail)
      exact retI rfl ⟨rfl, rfl⟩
  have c1 : decide ((w.length : Int) = 5) = false := decide_eq_false (by omega)
  have htn : tierP w = none := tierP_none h5
  by_cases h8 : w.length = 8
  case neg =>
    have c8 : decide ((w.length : Int) = 8) = false := decide_eq_false (by omega)
    have hf : furP d w = none := by unfold furP; rw [htn, noteP_none h8]
    unfold furA furB furD
    rw [hf]
    simp only [Option.isSome_none, Bool.false_eq_true, false_and, if_false, Option.getD_none]
    refine icalls Tryz.func68 rfl Tryz.ntmps68 rfl rfl rfl rfl rfl rfl ?_
    repeat' (first
     | refine stn [] ?_
     | ((with_reducible refine is_gd ?_); refine awpL_split rfl rfl (fun h => ?_) (fun h => ?_))
     | ((with_reducible refine is_awp ?_); refine awp_cond rfl (fun h => ?_) (fun h => ?_))
     | fail)
    exact retI rfl ⟨rfl, rfl⟩
  have c8 : decide ((w.length : Int) = 8) = true := decide_eq_true (by omega)
  obtain ⟨k, a, b, c, e, f, m, t, hw⟩ := eight h8
  have g0 : 0 ≤ (0 : Int) ∧ (w.map strC)[(0 : Int).toNat]? = some (strC k) := ⟨by omega, by rw [hw]; rfl⟩
  have he : noteP w = if k = kNote then (match numsP [a, b, c, e, f, m] with
    | some [x1, x2, x3, x4, x5, x6] => some ⟨x1, x2, x3, ⟨x4, x5⟩, x6, t⟩
    | _ => none) else none := by rw [hw]; rfl
  by_cases hk : k = kNote
  case neg =>
    have c2 : decide (k = kNote) = false := decide_eq_false hk
    unfold kNote at c2
    have hf : furP d w = none := by unfold furP; rw [htn, he, if_neg hk]
    unfold furA furB furD
    rw [hf]
    simp only [Option.isSome_none, Bool.false_eq_true, false_and, if_false, Option.getD_none]
    refine icalls Tryz.func68 rfl Tryz.ntmps68 rfl rfl rfl rfl rfl rfl ?_
    repeat' (first
     | refine stn [] ?_
     | ((with_reducible refine is_gd ?_); refine awpL_split rfl rfl (fun h => ?_) (fun h => ?_))
     | ((with_reducible refine is_awp ?_); refine awp_cond rfl (fun h => ?_) (fun h => ?_))
     | fail)
    exact retI rfl ⟨rfl, rfl⟩
  have c2 : decide (k = kNote) = true := decide_eq_true hk
  unfold kNote at c2
  have b0 : (0 : Int) ≤ 1 ∧ (1 : Int) ≤ 7 ∧ (7 : Int) ≤ (w.length : Nat) := by omega
  have m0 : ((7 : Int) - 1).toNat = 6 := rfl
  have f0 : ((w.map strC).drop (1 : Int).toNat).take 6 = [a, b, c, e, f, m].map strC := by rw [hw]; rfl
  have hR := wparsed_spec hN [a, b, c, e, f, m] (by simp) (fun s hs => hx s (by rw [hw]; exact List.mem_of_mem_take (i := 7) (l := [k, a, b, c, e, f, m, t]) (List.mem_of_mem_drop (i := 1) (l := [k, a, b, c, e, f, m]) hs)))
  have j1 : 0 ≤ (7 : Int) ∧ (w.map strC)[(7 : Int).toNat]? = some (strC t) := ⟨by omega, by rw [hw]; rfl⟩
  cases hq : numsP [a, b, c, e, f, m] with
  | none =>
    rw [hq] at hR
    replace hR : PCalls _ _ _ _ (.tup [encIs [], vb false]) := hR
    have hf : furP d w = none := by unfold furP; rw [htn, he, if_pos hk, hq]
    unfold furA furB furD
    rw [hf]
    simp only [Option.isSome_none, Bool.false_eq_true, false_and, if_false, Option.getD_none]
    refine icalls Tryz.func68 rfl Tryz.ntmps68 rfl rfl rfl rfl rfl rfl ?_
    repeat' (first
     | ((with_reducible refine is_un ?_); refine awpL_ev (ev_slice_fs rfl rfl rfl rfl rfl rfl rfl b0 m0 f0) rfl ?_)
     | refine stn [] ?_
     | ((with_reducible refine is_gd ?_); refine awpL_split rfl rfl (fun h => ?_) (fun h => ?_))
     | ((with_reducible refine is_awp ?_); refine awp_cond rfl (fun h => ?_) (fun h => ?_))
     | fail)
    exact retI rfl ⟨rfl, rfl⟩
  | some l =>
    obtain ⟨x1, x2, x3, x4, x5, x6, rfl⟩ := six (numsP_len hq)
    rw [hq] at hR
    replace hR : PCalls _ _ _ _ (.tup [encIs [x1, x2, x3, x4, x5, x6], vb true]) := hR
    have hf : furP d w = some { d with notes := d.notes ++ [⟨x1, x2, x3, ⟨x4, x5⟩, x6, t⟩] } := by unfold furP; rw [htn, he, if_pos hk, hq]
    have i0 : 0 ≤ (0 : Int) ∧ ([x1, x2, x3, x4, x5, x6].map intC)[(0 : Int).toNat]? = some (intC x1) := ⟨by omega, rfl⟩
    have i1 : 0 ≤ (1 : Int) ∧ ([x1, x2, x3, x4, x5, x6].map intC)[(1 : Int).toNat]? = some (intC x2) := ⟨by omega, rfl⟩
    have i2 : 0 ≤ (2 : Int) ∧ ([x1, x2, x3, x4, x5, x6].map intC)[(2 : Int).toNat]? = some (intC x3) := ⟨by omega, rfl⟩
    have i3 : 0 ≤ (3 : Int) ∧ ([x1, x2, x3, x4, x5, x6].map intC)[(3 : Int).toNat]? = some (intC x4) := ⟨by omega, rfl⟩
    have i4 : 0 ≤ (4 : Int) ∧ ([x1, x2, x3, x4, x5, x6].map intC)[(4 : Int).toNat]? = some (intC x5) := ⟨by omega, rfl⟩
    have i5 : 0 ≤ (5 : Int) ∧ ([x1, x2, x3, x4, x5, x6].map intC)[(5 : Int).toNat]? = some (intC x6) := ⟨by omega, rfl⟩
    have hj : d.notes.map noteC ++ [noteC (⟨x1, x2, x3, ⟨x4, x5⟩, x6, t⟩ : Note)] = (d.notes ++ [(⟨x1, x2, x3, ⟨x4, x5⟩, x6, t⟩ : Note)]).map noteC := by simp
    unfold furA furB furD
    rw [hf]
    simp only [Option.getD_some, Option.isSome_some, docLB, docLV, docB, ← hj, htn, Option.isSome_none, true_and, and_true, and_self, if_true, if_false, Bool.true_eq_false, Bool.false_eq_true, and_false]
    clear he hw hf
    refine icalls Tryz.func68 rfl Tryz.ntmps68 rfl rfl rfl rfl rfl rfl ?_
    repeat' (first
     | ((with_reducible refine is_un ?_); refine awpL_ev (ev_slice_fs rfl rfl rfl rfl rfl rfl rfl b0 m0 f0) rfl ?_)
     | refine stn [] ?_
     | ((with_reducible refine is_gd ?_); refine awpL_split rfl rfl (fun h => ?_) (fun h => ?_))
     | ((with_reducible refine is_awp ?_); refine awp_cond rfl (fun h => ?_) (fun h => ?_))
     | fail)
    simp only [List.append_eq, List.cons_append, List.nil_append]
    repeat' (first
     | refine awp_drawE 29 [⟨2, .data⟩, ⟨3, .data⟩] 30 rfl rfl rfl (by simp only [List.set_cons_zero, List.set_cons_succ, moreE, List.take_succ_cons, List.take_zero, List.take_nil]; rfl) (by simp only [List.set_cons_zero, List.set_cons_succ, moreE, List.drop_succ_cons, List.drop_zero, List.drop_nil]; rfl) (by kernel_rfl) rfl rfl rfl rfl (by repeat' (first | exact Strip.nil | apply Strip.keep rfl | apply Strip.drop rfl)) ?_
     | refine awpD_nw rfl qd0 (ev_bslice_o (t := 26) (n := 1) (es := [noteC (⟨x1, x2, x3, ⟨x4, x5⟩, x6, t⟩ : Note)]) rfl rfl rfl rfl rfl rfl rfl rfl rfl rfl rfl qf0 qc0) rfl rfl rfl rfl rfl qc0 qb0 ?_
     | refine awpD_sV rfl rfl (ev_appB (es' := d.notes.map noteC ++ [noteC (⟨x1, x2, x3, ⟨x4, x5⟩, x6, t⟩ : Note)]) rfl rfl rfl rfl rfl rfl rfl rfl rfl rfl rfl rfl rfl qe0 rfl rfl) rfl qb0 ?_
     | refine st [] ?_
     | ((with_reducible refine is_gd ?_); refine awpL_split rfl rfl (fun h => ?_) (fun h => ?_))
     | ((with_reducible refine isD_gd ?_); ((fail_if_success (refine isD_kn (c := true) rfl qa0 ?_)); (fail_if_success (refine isD_kn (c := false) rfl qa0 ?_)); refine awpD_split rfl (fun h => ?_) (fun h => ?_)))
     | ((with_reducible refine is_awp ?_); refine awp_cond rfl (fun h => ?_) (fun h => ?_))
     | fail)
    exact retI rfl ⟨rfl, rfl⟩
end Go.Proofs.YtigcjinpkngapaaGreatDoor
end
section
namespace Go.Proofs.YtigcjinpkngapaaGreatDoor
theorem mapM_all {α β : Type} {f : α → Option β} : ∀ {l : List α} {m : List β}, l.mapM f = some m → m.length = l.length ∧ ∀ y ∈ m, ∃ x ∈ l, f x = some y
  | [], m, h => by
    simp at h; subst h; simp
  | a :: r, m, h => by
    rw [List.mapM_cons] at h
    cases ha : f a with
    | none => rw [ha] at h; simp at h
    | some b =>
      cases hr : r.mapM f with
      | none => rw [ha, hr] at h; simp at h
      | some m' =>
        rw [ha, hr] at h
        simp at h
        subst h
        obtain ⟨h1, h2⟩ := mapM_all hr
        refine ⟨by simp [h1], fun y hy => ?_⟩
        rcases List.mem_cons.1 hy with rfl | hy
        · exact ⟨a, by simp, ha⟩
        · obtain ⟨x, hx, e⟩ := h2 y hy
          exact ⟨x, by simp [hx], e⟩
theorem flat_ge (s : List UInt8) : s.length ≤ (s.flatMap quoteC).length := by
  induction s with
  | nil => simp
  | cons a r ih =>
    rw [List.flatMap_cons, List.length_append, List.length_cons]
    have : 1 ≤ (quoteC a).length := by unfold quoteC; split <;> simp
    omega
theorem unquoteL_len {w s : List UInt8} (h : unquoteL w = some s) : s.length ≤ w.length := by
  unfold unquoteL at h
  split at h
  · injection h with h; subst h; simp
  split at h
  · cases h
  · have := quote_unq w.length w s (Nat.le_refl _) h
    rw [← this]
    exact flat_ge s
theorem splitW_fit {s : List UInt8} {ws : List (List UInt8)} (h : splitW s = some ws) : ws.length ≤ s.length + 1 ∧ ∀ w ∈ ws, w.length ≤ s.length := by
  unfold splitW at h
  split at h
  · injection h with h; subst h; simp
  · obtain ⟨h1, h2⟩ := mapM_all h
    refine ⟨by rw [h1]; exact splitOn_len 32 s, fun w hw => ?_⟩
    obtain ⟨x, hx, e⟩ := h2 w hw
    exact Nat.le_trans (unquoteL_len e) (splitOn_part 32 s x hx)
def zeroDoc : Doc := ⟨zeroRec, [], []⟩
def lineP (i : Nat) (d : Doc) (ln : ByteArray) : Option Doc := match splitW (lst ln) with
  | none => none
  | some ws => if i = 0 then (recP (ws.map toB)).map fun r => { d with rec_ := r } else furP d (ws.map toB)
def readF : Nat → Doc → List ByteArray → Doc × Nat
  | _, d, [] => (d, 0)
  | i, d, ln :: r => match lineP i d ln with
    | none => (d, i + 1)
    | some d' => readF (i + 1) d' r
theorem readF_drop {i : Nat} {d : Doc} {l : List ByteArray} {k : Nat} {x : ByteArray} (h : l[k]? = some x) : readF i d (l.drop k) = match lineP i d x with | none => (d, i + 1) | some d' => readF (i + 1) d' (l.drop (k + 1)) := by
  obtain ⟨h1, rfl⟩ := List.getElem?_eq_some_iff.1 h
  rw [List.drop_eq_getElem_cons h1]
  rfl
theorem furP_len {d d' : Doc} {w : List ByteArray} (h : furP d w = some d') : d'.tiers.length + d'.notes.length = d.tiers.length + d.notes.length + 1 := by
  unfold furP at h
  split at h
  · split at h
    · injection h with h; subst h; simp; omega
    · cases h
  · split at h
    · injection h with h; subst h; simp; omega
    · cases h
theorem words_fit {s : ByteArray} {ws : List (List UInt8)} (h : splitW (lst s) = some ws) : (ws.map toB).length ≤ s.size + 1 ∧ ∀ w ∈ ws.map toB, w.size ≤ s.size := by
  obtain ⟨h1, h2⟩ := splitW_fit h
  have hl : (lst s).length = s.size := size_list s
  rw [hl] at h1 h2
  refine ⟨by simpa using h1, fun w hw => ?_⟩
  obtain ⟨x, hx, rfl⟩ := List.mem_map.1 hw
  rw [toB_size]
  exact h2 x hx
end Go.Proofs.YtigcjinpkngapaaGreatDoor
end
