/- A logic of trees over the model's steps, and the contracts of the functions that the laws reach: part 19 of 19. -/
import Derived.Test.YtnacjdaoiepbhaaGreatDoorB18
import Derived.ChangeArms
import Derived.Test.YtnacjdaoiepbhaaGreatDoorRows
import Derived.Lib.LaidU8T
import Derived.Lib.LaidTab
import Derived.LaidLaws
set_option linter.unusedVariables false
set_option linter.unusedSimpArgs false
set_option linter.unusedSectionVars false
section
namespace Go.Proofs.YtnacjdaoiepbhaaGreatDoor
open Go.Ac
attribute [local irreducible] awp awpL Ev Ev2 EvS thenQ blockQ retQ PCalls OCalls
variable {g : List (Nat × List AV)}
theorem notesE_drop {d : Doc} {l : List Note} {k : Nat} {p : Option Note} {n : Note} (h : l[k]? = some n) : notesE d p (l.drop k) = if noteE d p n ≠ 0 then noteE d p n else notesE d (some n) (l.drop (k + 1)) := by
  obtain ⟨h1, rfl⟩ := List.getElem?_eq_some_iff.1 h
  rw [List.drop_eq_getElem_cons h1]
  rfl
theorem prevN_succ {d : Doc} {k : Nat} {n : Note} (h : d.notes[k]? = some n) : prevN d (k + 1) = some n := by
  unfold prevN
  rw [if_neg (by omega)]
  exact h
theorem eachE_step {d : Doc} {k : Nat} (h : k < d.tiers.length) : eachE d (d.tiers.length - k) k = if tierE d (k : Int) ≠ 0 then tierE d (k : Int) else eachE d (d.tiers.length - (k + 1)) (k + 1) := by
  rw [show d.tiers.length - k = (d.tiers.length - (k + 1)) + 1 by omega]
  rfl
structure FitN (d : Doc) : Prop where
  n : d.notes.length ≤ 1000000
  s : ∀ t ∈ d.tiers, t.name.size ≤ 9223372036854775807
set_option maxRecDepth 8000 in
set_option maxHeartbeats 8000000 in
theorem rdoc_spec (d : Doc) (hd : FitN d) (hC : CovH g d) : PCalls Tryz.prog g 81 [.agg (docC d)] (vi (docE d)) := by
  have hT := rTiers_spec (g := g) d.tiers hd.s
  have n1 : (!true) = false := rfl
  have n2 : (!false) = true := rfl
  refine pcalls' Tryz.func81 Tryz.ntmps81 rfl rfl rfl ?_
  unfold docE
  generalize hte : tiersE d.tiers = te at *
  by_cases e0 : te = 0
  · have c0 : (!decide (te = 0)) = false := by simp [e0]
    rw [if_neg (by simpa using e0)]
    by_cases l1 : d.rec_.length < 0
    · have c1 : decide (d.rec_.length < 0) = true := decide_eq_true l1
      rw [if_pos (.inl l1)]
      repeat' (first
       | refine stn [] ?_
       | ((with_reducible refine is_gd ?_); refine awpL_split rfl rfl (fun h => ?_) (fun h => ?_))
       | ((with_reducible refine is_awp ?_); refine awp_cond rfl (fun h => ?_) (fun h => ?_))
       | fail)
      exact retP rfl rfl
    have c1 : decide (d.rec_.length < 0) = false := decide_eq_false l1
    by_cases l2 : 86400000 < d.rec_.length
    · have c2 : decide (86400000 < d.rec_.length) = true := decide_eq_true l2
      rw [if_pos (.inr l2)]
      repeat' (first
       | refine stn [] ?_
       | ((with_reducible refine is_gd ?_); refine awpL_split rfl rfl (fun h => ?_) (fun h => ?_))
       | ((with_reducible refine is_awp ?_); refine awp_cond rfl (fun h => ?_) (fun h => ?_))
       | fail)
      exact retP rfl rfl
    have c2 : decide (86400000 < d.rec_.length) = false := decide_eq_false l2
    rw [if_neg (by omega)]
    by_cases l3 : 300 < d.notes.length
    · have c3 : decide ((300 : Int) < d.notes.length) = true := decide_eq_true (by omega)
      rw [if_pos l3]
      repeat' (first
       | refine stn [] ?_
       | ((with_reducible refine is_gd ?_); refine awpL_split rfl rfl (fun h => ?_) (fun h => ?_))
       | ((with_reducible refine is_awp ?_); refine awp_cond rfl (fun h => ?_) (fun h => ?_))
       | fail)
      exact retP rfl rfl
    have c3 : decide ((300 : Int) < d.notes.length) = false := decide_eq_false (by omega)
    rw [if_neg l3]
    have htl : d.tiers.length ≤ 12 := tiersE_len (hte.trans e0)
    repeat' (first
     | refine stn [] ?_
     | ((with_reducible refine is_gd ?_); refine awpL_split rfl rfl (fun h => ?_) (fun h => ?_))
     | ((with_reducible refine is_awp ?_); refine awp_cond rfl (fun h => ?_) (fun h => ?_))
     | fail)
    refine awp_for (α := Nat) 0 (fun k => [(1, .fp (docC d)), (4, vi k)]) (fun _ => []) (fun k => k ≤ d.notes.length ∧ notesE d none d.notes = notesE d (prevN d k) (d.notes.drop k)) (fun k => d.notes.length - k) 0
      ⟨(.cons rfl rfl (.cons rfl rfl .nil)), rfl, rfl, rfl⟩ ⟨Nat.zero_le _, rfl⟩ ?_
    rintro k ⟨hk, hf⟩
    cases hx : d.notes[k]? with
    | some x =>
      have hlt : k < d.notes.length := (List.getElem?_eq_some_iff.1 hx).1
      have d1 : decide ((k : Int) < d.notes.length) = true := decide_eq_true (by omega)
      have hN := rnoteE_spec (g := g) d k x hx (by omega)
      have hdr := notesE_drop (d := d) (p := prevN d k) hx
      generalize noteE d (prevN d k) x = e at *
      by_cases ee : e = 0
      · have d2 : (!decide (e = 0)) = false := by simp [ee]
        rw [if_neg (by simpa using ee)] at hdr
        repeat' (first
         | refine stn [] ?_
         | ((with_reducible refine is_gd ?_); refine awpL_split rfl rfl (fun h => ?_) (fun h => ?_))
         | ((with_reducible refine is_awp ?_); refine awp_cond rfl (fun h => ?_) (fun h => ?_))
         | fail)
        exact ⟨k + 1, ⟨(.cons rfl rfl (.cons rfl rfl .nil)), rfl, rfl, rfl⟩, ⟨by omega, by rw [hf, hdr, prevN_succ hx]⟩, by omega⟩
      · have d2 : (!decide (e = 0)) = true := by simp [ee]
        rw [if_pos ee] at hdr
        rw [hf, hdr, if_pos ee]
        repeat' (first
         | refine stn [] ?_
         | ((with_reducible refine is_gd ?_); refine awpL_split rfl rfl (fun h => ?_) (fun h => ?_))
         | ((with_reducible refine is_awp ?_); refine awp_cond rfl (fun h => ?_) (fun h => ?_))
         | fail)
        exact retP rfl rfl
    | none =>
      have hge : d.notes.length ≤ k := by simpa using hx
      have d1 : decide ((k : Int) < d.notes.length) = false := decide_eq_false (by omega)
      rw [List.drop_of_length_le hge] at hf
      have hf : notesE d none d.notes = 0 := by rw [hf]; rfl
      rw [if_neg (by simpa using hf)]
      repeat' (first
       | refine stn [] ?_
       | ((with_reducible refine is_gd ?_); refine awpL_split rfl rfl (fun h => ?_) (fun h => ?_))
       | ((with_reducible refine is_awp ?_); refine awp_cond rfl (fun h => ?_) (fun h => ?_))
       | fail)
      refine awp_for (α := Nat) 0 (fun k => [(1, .fp (docC d)), (6, vi k)]) (fun _ => []) (fun k => k ≤ d.tiers.length ∧ eachE d d.tiers.length 0 = eachE d (d.tiers.length - k) k) (fun k => d.tiers.length - k) 0
        ⟨(.cons rfl rfl (.cons rfl rfl .nil)), rfl, rfl, rfl⟩ ⟨Nat.zero_le _, rfl⟩ ?_
      rintro j ⟨hj, hg⟩
      cases hy : d.tiers[j]? with
      | some t =>
        have hlt : j < d.tiers.length := (List.getElem?_eq_some_iff.1 hy).1
        have f1 : decide ((j : Int) < d.tiers.length) = true := decide_eq_true (by omega)
        have hE := rtierE_spec (g := g) d j t hy (by omega) hC
        have hdr := eachE_step hlt
        generalize tierE d (j : Int) = e at *
        by_cases ee : e = 0
        · have d2 : (!decide (e = 0)) = false := by simp [ee]
          rw [if_neg (by simpa using ee)] at hdr
          repeat' (first
           | refine stn [] ?_
           | ((with_reducible refine is_gd ?_); refine awpL_split rfl rfl (fun h => ?_) (fun h => ?_))
           | ((with_reducible refine is_awp ?_); refine awp_cond rfl (fun h => ?_) (fun h => ?_))
           | fail)
          exact ⟨j + 1, ⟨(.cons rfl rfl (.cons rfl rfl .nil)), rfl, rfl, rfl⟩, ⟨by omega, by rw [hg, hdr]⟩, by omega⟩
        · have d2 : (!decide (e = 0)) = true := by simp [ee]
          rw [if_pos ee] at hdr
          rw [hg, hdr]
          repeat' (first
           | refine stn [] ?_
           | ((with_reducible refine is_gd ?_); refine awpL_split rfl rfl (fun h => ?_) (fun h => ?_))
           | ((with_reducible refine is_awp ?_); refine awp_cond rfl (fun h => ?_) (fun h => ?_))
           | fail)
          exact retP rfl rfl
      | none =>
        have hge : d.tiers.length ≤ j := by simpa using hy
        have f1 : decide ((j : Int) < d.tiers.length) = false := decide_eq_false (by omega)
        rw [hg, show d.tiers.length - j = 0 by omega]
        repeat' (first
         | refine stn [] ?_
         | ((with_reducible refine is_gd ?_); refine awpL_split rfl rfl (fun h => ?_) (fun h => ?_))
         | ((with_reducible refine is_awp ?_); refine awp_cond rfl (fun h => ?_) (fun h => ?_))
         | fail)
        exact retP rfl rfl
  · have c0 : (!decide (te = 0)) = true := by simp [e0]
    rw [if_pos e0]
    repeat' (first
     | refine stn [] ?_
     | ((with_reducible refine is_gd ?_); refine awpL_split rfl rfl (fun h => ?_) (fun h => ?_))
     | ((with_reducible refine is_awp ?_); refine awp_cond rfl (fun h => ?_) (fun h => ?_))
     | fail)
    exact retP rfl rfl
theorem few_cov (d : Doc) (h : d.notes.length ≤ 20) : CovH g d := fun t p s _ => rCovers_S _ s (by have := sibs_len d t p; rw [List.length_map]; omega)
set_option maxHeartbeats 4000000 in
theorem rLightD_spec (d : Doc) (hs : ∀ t ∈ d.tiers, t.name.size ≤ 9223372036854775807) : PCalls Tryz.prog g 52 [.agg (docC d)] (vb (lightD d)) := by
  refine pcalls' Tryz.func52 Tryz.ntmps52 rfl rfl rfl ?_
  unfold lightD
  by_cases h1 : d.notes.length ≤ 14
  · have c1 : decide ((d.notes.length : Int) ≤ 14) = true := decide_eq_true (by omega)
    have hC := rdoc_spec (g := g) d ⟨by omega, hs⟩ (few_cov d (by omega))
    rw [decide_eq_true h1, Bool.true_and]
    by_cases h2 : d.tiers.length ≤ 6
    · have c2 : decide ((d.tiers.length : Int) ≤ 6) = true := decide_eq_true (by omega)
      rw [decide_eq_true h2, Bool.true_and]
      by_cases h3 : d.rec_.speakers.length ≤ 6
      · have c3 : decide ((d.rec_.speakers.length : Int) ≤ 6) = true := decide_eq_true (by omega)
        rw [decide_eq_true h3, Bool.true_and]
        repeat' (first
         | refine stn [] ?_
         | ((with_reducible refine is_gd ?_); refine awpL_split rfl rfl (fun h => ?_) (fun h => ?_))
         | ((with_reducible refine is_awp ?_); refine awp_cond rfl (fun h => ?_) (fun h => ?_))
         | fail)
        exact retP rfl rfl
      · have c3 : decide ((d.rec_.speakers.length : Int) ≤ 6) = false := decide_eq_false (by omega)
        rw [decide_eq_false h3, Bool.false_and]
        repeat' (first
         | refine stn [] ?_
         | ((with_reducible refine is_gd ?_); refine awpL_split rfl rfl (fun h => ?_) (fun h => ?_))
         | ((with_reducible refine is_awp ?_); refine awp_cond rfl (fun h => ?_) (fun h => ?_))
         | fail)
        exact retP rfl rfl
    · have c2 : decide ((d.tiers.length : Int) ≤ 6) = false := decide_eq_false (by omega)
      rw [decide_eq_false h2, Bool.false_and]
      repeat' (first
       | refine stn [] ?_
       | ((with_reducible refine is_gd ?_); refine awpL_split rfl rfl (fun h => ?_) (fun h => ?_))
       | ((with_reducible refine is_awp ?_); refine awp_cond rfl (fun h => ?_) (fun h => ?_))
       | fail)
      exact retP rfl rfl
  · have c1 : decide ((d.notes.length : Int) ≤ 14) = false := decide_eq_false (by omega)
    rw [decide_eq_false h1, Bool.false_and]
    repeat' (first
     | refine stn [] ?_
     | ((with_reducible refine is_gd ?_); refine awpL_split rfl rfl (fun h => ?_) (fun h => ?_))
     | ((with_reducible refine is_awp ?_); refine awp_cond rfl (fun h => ?_) (fun h => ?_))
     | fail)
    exact retP rfl rfl
theorem light_doc {d : Doc} (h : lightD d = true) : d.notes.length ≤ 14 ∧ d.tiers.length ≤ 6 ∧ d.rec_.speakers.length ≤ 6 ∧ docE d = 0 := by
  simpa [lightD] using h
set_option maxHeartbeats 2000000 in
theorem rCopyD_spec (d : Doc) (h1 : d.notes.length ≤ 100000) (h2 : d.tiers.length ≤ 100000) (h3 : d.rec_.speakers.length ≤ 100000) : PCalls Tryz.prog g 29 [.agg (docC d)] (.agg (docC d)) := by
  refine pcalls' Tryz.func29 Tryz.ntmps29 rfl rfl rfl ?_
  repeat' (first
   | ((with_reducible refine is_un ?_); (first | refine awpL_ev2 (ev_append_zf (n := d.rec_.speakers.length) rfl rfl rfl rfl rfl rfl rfl rfl rfl rfl rfl rfl rfl (by simp only [List.length_map, List.length_cons, List.length_nil, List.length_append, List.length_take]; omega) (List.length_map _)) rfl ?_ | refine awpL_ev2 (ev_append_zf (n := d.tiers.length) rfl rfl rfl rfl rfl rfl rfl rfl rfl rfl rfl rfl rfl (by simp only [List.length_map, List.length_cons, List.length_nil, List.length_append, List.length_take]; omega) (List.length_map _)) rfl ?_ | refine awpL_ev2 (ev_append_zf (n := d.notes.length) rfl rfl rfl rfl rfl rfl rfl rfl rfl rfl rfl rfl rfl (by simp only [List.length_map, List.length_cons, List.length_nil, List.length_append, List.length_take]; omega) (List.length_map _)) rfl ?_))
   | refine stn [1, 2] ?_
   | ((with_reducible refine is_gd ?_); refine awpL_split rfl rfl (fun h => ?_) (fun h => ?_))
   | ((with_reducible refine is_awp ?_); refine awp_cond rfl (fun h => ?_) (fun h => ?_))
   | fail)
  refine retP rfl ?_
  rfl
end Go.Proofs.YtnacjdaoiepbhaaGreatDoor
end
section
namespace Go.Proofs.YtnacjdaoiepbhaaGreatDoor
open Go.Ac Go.MapKept
attribute [local irreducible] awp awpL Ev Ev2 EvS thenQ blockQ retQ PCalls OCalls YieldOk IterC ICalls
variable {g : List (Nat × List AV)}
def shownC (d : Doc) (l : List Span) : List AV := [.v (.int .i64 d.rec_.id), .v (.string d.rec_.name), .v (.int .i64 d.rec_.length), .v (.int .i64 d.rec_.day), encIs d.rec_.speakers, encTiers d.tiers, encNotes d.notes, encSpans l]
def lightS (r : Replica) (d : Doc) (l : List Span) : Bool := light r && (lightD d && decide (l.length ≤ 20))
set_option maxHeartbeats 2000000 in
theorem llight_spec (hN : NumG g) (r : Replica) (d : Doc) (l : List Span) (hid : Ids r.ops) (hs : ∀ t ∈ d.tiers, t.name.size ≤ 9223372036854775807) : PCalls Tryz.prog g 27 [.agg (repC r), .agg (shownC d l)] (vb (lightS r d l)) := by
  have hL := Light_spec (g := g) r hid
  have hD := rLightD_spec (g := g) d hs
  refine pcalls' Tryz.func27 Tryz.ntmps27 rfl rfl rfl ?_
  unfold lightS
  cases h1 : light r with
  | false =>
    rw [h1] at hL
    repeat' (first
     | refine stn [] ?_
     | ((with_reducible refine is_gd ?_); refine awpL_split rfl rfl (fun h => ?_) (fun h => ?_))
     | ((with_reducible refine is_awp ?_); refine awp_cond rfl (fun h => ?_) (fun h => ?_))
     | fail)
    exact retP rfl rfl
  | true =>
    rw [h1] at hL
    cases h2 : lightD d with
    | false =>
      rw [h2] at hD
      repeat' (first
       | refine stn [] ?_
       | ((with_reducible refine is_gd ?_); refine awpL_split rfl rfl (fun h => ?_) (fun h => ?_))
       | ((with_reducible refine is_awp ?_); refine awp_cond rfl (fun h => ?_) (fun h => ?_))
       | fail)
      exact retP rfl rfl
    | true =>
      rw [h2] at hD
      obtain ⟨b, hb⟩ : ∃ b, decide ((l.length : Int) ≤ 20) = b ∧ decide (l.length ≤ 20) = b := ⟨_, rfl, by rw [decide_eq_decide]; omega⟩
      rw [hb.2]
      have hb1 := hb.1
      repeat' (first
       | refine stn [] ?_
       | ((with_reducible refine is_gd ?_); refine awpL_split rfl rfl (fun h => ?_) (fun h => ?_))
       | ((with_reducible refine is_awp ?_); refine awp_cond rfl (fun h => ?_) (fun h => ?_))
       | fail)
      refine retP rfl ?_
      simp [ex, hb1]
theorem lightS_all {r : Replica} {d : Doc} {l : List Span} (h : lightS r d l = true) : light r = true ∧ lightD d = true ∧ l.length ≤ 20 := by
  simpa [lightS] using h
set_option maxRecDepth 8000 in
set_option maxHeartbeats 8000000 in
theorem law_COpens (hN : NumG g) (r : Replica) (d : Doc) (l : List Span) (c : Cite) (hid : Ids r.ops) (hs : ∀ t ∈ d.tiers, t.name.size ≤ 9223372036854775807) : PCalls Tryz.prog g 8 [.agg (repC r), .agg (shownC d l), .agg (citeC c)] (vb true) := by
  have hA := awake_C hN
  have hL := llight_spec hN r d l hid hs
  have n1 : (!true) = false := rfl
  have zT : decide True = true := rfl
  have zNT : (!decide True) = false := rfl
  have zF : decide False = false := rfl
  have zNF : (!decide False) = true := rfl
  have z00 : decide ((0 : Int) = 0) = true := rfl
  have z33 : decide ((3 : Int) = 3) = true := rfl
  have z03 : decide ((0 : Int) = 3) = false := rfl
  have z2626 : decide ((26 : Int) = 26) = true := rfl
  have n2 : (!false) = true := rfl
  refine pcalls' Tryz.func8 Tryz.ntmps8 rfl rfl rfl ?_
  cases hl : lightS r d l with
  | false =>
    rw [hl] at hL
    repeat' (first
     | refine stn [] ?_
     | ((with_reducible refine is_gd ?_); refine awpL_split rfl rfl (fun h => ?_) (fun h => ?_))
     | ((with_reducible refine is_awp ?_); refine awp_cond rfl (fun h => ?_) (fun h => ?_))
     | fail)
    exact retP rfl rfl
  | true =>
    rw [hl] at hL
    obtain ⟨hl1, hl2, hl3⟩ := lightS_all hl
    obtain ⟨hG, hr⟩ := lightC_G hl1 hid
    obtain ⟨d1, d2, d3, d4⟩ := light_doc hl2
    obtain ⟨x, hw⟩ := where_light d4 c.note
    have hCp := Copy_spec (g := g) r (light_fit hl1)
    have hCd := rCopyD_spec (g := g) d (by omega) (by omega) (by omega)
    have hO := Open_spec (g := g) r d l c x hG hw ⟨by omega, by omega⟩ hl3
    have hR := rOpen_spec (g := g) r d l c x hG hw ⟨by omega, by omega⟩ hl3
    rw [resV] at hO hR
    generalize openR r.ops d l c x = p at *
    obtain ⟨t, e⟩ := p
    simp only at hO hR
    obtain ⟨t', ht⟩ : ∃ t', t' = t := ⟨_, rfl⟩
    obtain ⟨e', he⟩ : ∃ e', e' = e := ⟨_, rfl⟩
    rw [← he, ← ht] at hR
    have e0 : decide (e = e') = true := decide_eq_true he.symm
    have e1 : decide (t = t') = true := decide_eq_true ht.symm
    repeat' (first
     | ((with_reducible refine isD_un ?_); refine awpD_un (as_ev2 (fun _ => ev_append_zf (n := l.length) rfl rfl rfl rfl rfl rfl rfl rfl rfl rfl rfl rfl rfl (by simp only [List.length_map, List.length_cons, List.length_nil, List.length_append, List.length_take]; omega) (by simp only [List.length_map])) rfl rfl) (by (try simp only [List.nil_append, List.cons_append]); (try rfl)) ?_)
     | ((with_reducible refine isD_gd ?_); refine awpD_gd rfl rfl (by first | with_reducible rfl | with_reducible assumption) (as_ev2 (fun _ => ev_append_zf (n := l.length) rfl rfl rfl rfl rfl rfl rfl rfl rfl rfl rfl rfl rfl (by simp only [List.length_map, List.length_cons, List.length_nil, List.length_append, List.length_take]; omega) (by simp only [List.length_map])) rfl rfl) (by (try simp only [List.nil_append, List.cons_append]); (try rfl)) ?_)
     | refine st [] ?_
     | ((with_reducible refine is_gd ?_); refine awpL_split rfl rfl (fun h => ?_) (fun h => ?_))
     | ((with_reducible refine isD_gd ?_); ((fail_if_success (refine isD_kn (c := true) rfl (by first | with_reducible rfl | with_reducible assumption) ?_)); (fail_if_success (refine isD_kn (c := false) rfl (by first | with_reducible rfl | with_reducible assumption) ?_)); refine awpD_split rfl (fun h => ?_) (fun h => ?_)))
     | ((with_reducible refine is_awp ?_); refine awp_cond rfl (fun h => ?_) (fun h => ?_))
     | fail)
    exact retP rfl rfl
theorem open_cases (l : List Op) (d : Doc) (spans : List Span) (c : Cite) (x : Option Span) (hw : whereF d (d.tiers.length + 1) c.note = some x) :
    ((resR l c).2 ≠ 0 ∧ openR l d spans c x = (.empty, (resR l c).2)) ∨ ((resR l c).2 = 0 ∧ ((∃ e, e ≠ 0 ∧ openR l d spans c x = (.empty, e) ∧ (d.rec_.id ≠ c.rec_ ∨ (d.rec_.id = c.rec_ ∧ seenB spans x = false))) ∨ (openR l d spans c x = ((resR l c).1, 0) ∧ d.rec_.id = c.rec_ ∧ seenB spans x = true))) := by
  unfold openR
  by_cases h0 : (resR l c).2 = 0
  · refine .inr ⟨h0, ?_⟩
    rw [if_pos h0]
    by_cases hr : d.rec_.id = c.rec_
    · cases hg : (getN d.notes c.note).isSome with
      | false =>
        rw [if_neg (by simp)]
        refine .inl ⟨9, by decide, rfl, .inr ⟨hr, ?_⟩⟩
        have : x = none := by
          rw [whereF] at hw
          cases hn : getN d.notes c.note with
          | none => rw [hn] at hw; cases hw; rfl
          | some n => rw [hn] at hg; cases hg
        rw [this]; rfl
      | true =>
        rw [if_pos ⟨rfl, hr⟩]
        cases hs : seenB spans x with
        | false => exact .inl ⟨25, by decide, rfl, .inr ⟨hr, rfl⟩⟩
        | true => exact .inr ⟨rfl, hr, rfl⟩
    · rw [if_neg (fun h => hr h.2)]
      exact .inl ⟨9, by decide, rfl, .inl hr⟩
  · rw [if_neg h0]
    exact .inl ⟨h0, rfl⟩
set_option maxRecDepth 8000 in
set_option maxHeartbeats 8000000 in
theorem law_CSeen (hN : NumG g) (r : Replica) (d : Doc) (l : List Span) (c : Cite) (hid : Ids r.ops) (hs : ∀ t ∈ d.tiers, t.name.size ≤ 9223372036854775807) : PCalls Tryz.prog g 9 [.agg (repC r), .agg (shownC d l), .agg (citeC c)] (vb true) := by
  have hA := awake_C hN
  have hL := llight_spec hN r d l hid hs
  have n1 : (!true) = false := rfl
  have zT : decide True = true := rfl
  have zNT : (!decide True) = false := rfl
  have zF : decide False = false := rfl
  have zNF : (!decide False) = true := rfl
  have z00 : decide ((0 : Int) = 0) = true := rfl
  have z33 : decide ((3 : Int) = 3) = true := rfl
  have z03 : decide ((0 : Int) = 3) = false := rfl
  have z2626 : decide ((26 : Int) = 26) = true := rfl
  have n2 : (!false) = true := rfl
  have z0 : (!decide ((0 : Int) = 0)) = false := rfl
  have y1 : decide (ByteArray.empty = (⟨#[]⟩ : ByteArray)) = true := decide_eq_true rfl
  refine pcalls' Tryz.func9 Tryz.ntmps9 rfl rfl rfl ?_
  cases hl : lightS r d l with
  | false =>
    rw [hl] at hL
    repeat' (first
     | refine stn [] ?_
     | ((with_reducible refine is_gd ?_); refine awpL_split rfl rfl (fun h => ?_) (fun h => ?_))
     | ((with_reducible refine is_awp ?_); refine awp_cond rfl (fun h => ?_) (fun h => ?_))
     | fail)
    exact retP rfl rfl
  | true =>
    rw [hl] at hL
    obtain ⟨hl1, hl2, hl3⟩ := lightS_all hl
    obtain ⟨hG, hr⟩ := lightC_G hl1 hid
    obtain ⟨d1, d2, d3, d4⟩ := light_doc hl2
    obtain ⟨x, hw⟩ := where_light d4 c.note
    have hCp := Copy_spec (g := g) r (light_fit hl1)
    have hCd := rCopyD_spec (g := g) d (by omega) (by omega) (by omega)
    have hO := Open_spec (g := g) r d l c x hG hw ⟨by omega, by omega⟩ hl3
    have hR := Resolve_spec (g := g) r c hG
    have hS := SeenD_spec (g := g) d l c.note x hw ⟨by omega, by omega⟩ hl3
    have hc := open_cases r.ops d l c x hw
    rw [resV] at hO hR
    generalize openR r.ops d l c x = p at *
    generalize resR r.ops c = q at *
    obtain ⟨s, e⟩ := p
    obtain ⟨t, f⟩ := q
    simp only [Prod.mk.injEq] at hO hR hc
    rcases hc with ⟨c1, c2, c3⟩ | ⟨c1, ⟨e', c2, ⟨c3, c3'⟩, c4⟩ | ⟨⟨c2, c3⟩, c4, c5⟩⟩
    · have f1 : (!decide (f = 0)) = true := by simp [c1]
      have f2 : decide (e = f) = true := decide_eq_true c3
      subst c2
      repeat' (first
       | ((with_reducible refine isD_un ?_); refine awpD_un (as_ev2 (fun _ => ev_append_zf (n := l.length) rfl rfl rfl rfl rfl rfl rfl rfl rfl rfl rfl rfl rfl (by simp only [List.length_map, List.length_cons, List.length_nil, List.length_append, List.length_take]; omega) (by simp only [List.length_map])) rfl rfl) (by (try simp only [List.nil_append, List.cons_append]); (try rfl)) ?_)
       | ((with_reducible refine isD_gd ?_); refine awpD_gd rfl rfl (by first | with_reducible rfl | with_reducible assumption) (as_ev2 (fun _ => ev_append_zf (n := l.length) rfl rfl rfl rfl rfl rfl rfl rfl rfl rfl rfl rfl rfl (by simp only [List.length_map, List.length_cons, List.length_nil, List.length_append, List.length_take]; omega) (by simp only [List.length_map])) rfl rfl) (by (try simp only [List.nil_append, List.cons_append]); (try rfl)) ?_)
       | refine st [] ?_
       | ((with_reducible refine is_gd ?_); refine awpL_split rfl rfl (fun h => ?_) (fun h => ?_))
       | ((with_reducible refine isD_gd ?_); ((fail_if_success (refine isD_kn (c := true) rfl (by first | with_reducible rfl | with_reducible assumption) ?_)); (fail_if_success (refine isD_kn (c := false) rfl (by first | with_reducible rfl | with_reducible assumption) ?_)); refine awpD_split rfl (fun h => ?_) (fun h => ?_)))
       | ((with_reducible refine is_awp ?_); refine awp_cond rfl (fun h => ?_) (fun h => ?_))
       | fail)
      exact retP rfl rfl
    · have f1 : (!decide (f = 0)) = false := by simp [c1]
      subst c3'
      have f2 : (!decide (e = 0)) = true := by simp [c2]
      subst c3
      rcases c4 with c4 | ⟨c4, c5⟩
      · have f3 : decide (d.rec_.id = c.rec_) = false := decide_eq_false c4
        repeat' (first
         | ((with_reducible refine isD_un ?_); refine awpD_un (as_ev2 (fun _ => ev_append_zf (n := l.length) rfl rfl rfl rfl rfl rfl rfl rfl rfl rfl rfl rfl rfl (by simp only [List.length_map, List.length_cons, List.length_nil, List.length_append, List.length_take]; omega) (by simp only [List.length_map])) rfl rfl) (by (try simp only [List.nil_append, List.cons_append]); (try rfl)) ?_)
         | ((with_reducible refine isD_gd ?_); refine awpD_gd rfl rfl (by first | with_reducible rfl | with_reducible assumption) (as_ev2 (fun _ => ev_append_zf (n := l.length) rfl rfl rfl rfl rfl rfl rfl rfl rfl rfl rfl rfl rfl (by simp only [List.length_map, List.length_cons, List.length_nil, List.length_append, List.length_take]; omega) (by simp only [List.length_map])) rfl rfl) (by (try simp only [List.nil_append, List.cons_append]); (try rfl)) ?_)
         | refine st [] ?_
         | ((with_reducible refine is_gd ?_); refine awpL_split rfl rfl (fun h => ?_) (fun h => ?_))
         | ((with_reducible refine isD_gd ?_); ((fail_if_success (refine isD_kn (c := true) rfl (by first | with_reducible rfl | with_reducible assumption) ?_)); (fail_if_success (refine isD_kn (c := false) rfl (by first | with_reducible rfl | with_reducible assumption) ?_)); refine awpD_split rfl (fun h => ?_) (fun h => ?_)))
         | ((with_reducible refine is_awp ?_); refine awp_cond rfl (fun h => ?_) (fun h => ?_))
         | fail)
        exact retP rfl rfl
      · have f3 : decide (d.rec_.id = c.rec_) = true := decide_eq_true c4
        rw [c5] at hS
        repeat' (first
         | ((with_reducible refine isD_un ?_); refine awpD_un (as_ev2 (fun _ => ev_append_zf (n := l.length) rfl rfl rfl rfl rfl rfl rfl rfl rfl rfl rfl rfl rfl (by simp only [List.length_map, List.length_cons, List.length_nil, List.length_append, List.length_take]; omega) (by simp only [List.length_map])) rfl rfl) (by (try simp only [List.nil_append, List.cons_append]); (try rfl)) ?_)
         | ((with_reducible refine isD_gd ?_); refine awpD_gd rfl rfl (by first | with_reducible rfl | with_reducible assumption) (as_ev2 (fun _ => ev_append_zf (n := l.length) rfl rfl rfl rfl rfl rfl rfl rfl rfl rfl rfl rfl rfl (by simp only [List.length_map, List.length_cons, List.length_nil, List.length_append, List.length_take]; omega) (by simp only [List.length_map])) rfl rfl) (by (try simp only [List.nil_append, List.cons_append]); (try rfl)) ?_)
         | refine st [] ?_
         | ((with_reducible refine is_gd ?_); refine awpL_split rfl rfl (fun h => ?_) (fun h => ?_))
         | ((with_reducible refine isD_gd ?_); ((fail_if_success (refine isD_kn (c := true) rfl (by first | with_reducible rfl | with_reducible assumption) ?_)); (fail_if_success (refine isD_kn (c := false) rfl (by first | with_reducible rfl | with_reducible assumption) ?_)); refine awpD_split rfl (fun h => ?_) (fun h => ?_)))
         | ((with_reducible refine is_awp ?_); refine awp_cond rfl (fun h => ?_) (fun h => ?_))
         | fail)
        exact retP rfl rfl
    · have f1 : (!decide (f = 0)) = false := by simp [c1]
      subst c3
      have f2 : (!decide ((0 : Int) = 0)) = false := rfl
      have f3 : decide (d.rec_.id = c.rec_) = true := decide_eq_true c4
      have f4 : decide (s = t) = true := decide_eq_true c2
      rw [c5] at hS
      repeat' (first
       | ((with_reducible refine isD_un ?_); refine awpD_un (as_ev2 (fun _ => ev_append_zf (n := l.length) rfl rfl rfl rfl rfl rfl rfl rfl rfl rfl rfl rfl rfl (by simp only [List.length_map, List.length_cons, List.length_nil, List.length_append, List.length_take]; omega) (by simp only [List.length_map])) rfl rfl) (by (try simp only [List.nil_append, List.cons_append]); (try rfl)) ?_)
       | ((with_reducible refine isD_gd ?_); refine awpD_gd rfl rfl (by first | with_reducible rfl | with_reducible assumption) (as_ev2 (fun _ => ev_append_zf (n := l.length) rfl rfl rfl rfl rfl rfl rfl rfl rfl rfl rfl rfl rfl (by simp only [List.length_map, List.length_cons, List.length_nil, List.length_append, List.length_take]; omega) (by simp only [List.length_map])) rfl rfl) (by (try simp only [List.nil_append, List.cons_append]); (try rfl)) ?_)
       | refine st [] ?_
       | ((with_reducible refine is_gd ?_); refine awpL_split rfl rfl (fun h => ?_) (fun h => ?_))
       | ((with_reducible refine isD_gd ?_); ((fail_if_success (refine isD_kn (c := true) rfl (by first | with_reducible rfl | with_reducible assumption) ?_)); (fail_if_success (refine isD_kn (c := false) rfl (by first | with_reducible rfl | with_reducible assumption) ?_)); refine awpD_split rfl (fun h => ?_) (fun h => ?_)))
       | ((with_reducible refine is_awp ?_); refine awp_cond rfl (fun h => ?_) (fun h => ?_))
       | fail)
      exact retP rfl rfl
end Go.Proofs.YtnacjdaoiepbhaaGreatDoor
end
section
namespace Go.Proofs.YtnacjdaoiepbhaaGreatDoor
open Go.Ac
theorem wf64 {n : Int} (h : (Lit.int .i64 n).wf = true) : I64 n := by
  simp only [Lit.wf, Bool.and_eq_true, decide_eq_true_eq] at h
  have h1 : IntKind.i64.min = -9223372036854775808 := by decide
  have h2 : IntKind.i64.max = 9223372036854775807 := by decide
  rw [h1, h2] at h
  exact h
end Go.Proofs.YtnacjdaoiepbhaaGreatDoor
end
section
namespace Go.Ac
def ShpB (td : TDs) (B : Nat) : Nat → TypeId → List AV → Prop
  | 0, _, _ => False
  | f + 1, t, cas => match (lk td t).map (fun d : TD => d.k) with
    | some .bool => ∃ b, cas = [.v (.bool b)]
    | some (.int k) => ∃ n, cas = [.v (.int k n)] ∧ (Lit.int k n).wf = true
    | some .str => ∃ s, cas = [.v (.string s)] ∧ s.size ≤ B
    | some (.slice e) => ∃ sz es, (lk td e).map (fun d : TD => d.size) = some sz ∧ cas = [.fs sz es.length es] ∧ es.length ≤ B ∧ ∀ x ∈ es, ShpB td B f e x
    | some (.struct fs) => ∃ parts : List (List AV), cas = parts.flatten ∧ parts.length = fs.length ∧ ∀ (i : Nat) (x : List AV) (q : TypeId × Nat), parts[i]? = some x → fs[i]? = some q → ShpB td B f q.1 x
    | some (.arr n e) => ∃ parts : List (List AV), cas = parts.flatten ∧ parts.length = n ∧ ∀ x ∈ parts, ShpB td B f e x
    | _ => False
theorem weightsAll_mem {H : Type} {P : Program} {e : TypeId} {B : Nat} : ∀ {l : List (DataW H)}, (DataW.weightsAll P e l).all (· ≤ B) = true → ∀ d ∈ l, (d.weights P e).all (· ≤ B) = true
  | [], _, d, hd => by cases hd
  | x :: r, h, d, hd => by
    simp only [DataW.weightsAll, List.all_append, Bool.and_eq_true] at h
    rcases List.mem_cons.1 hd with rfl | hd
    · exact h.1
    · exact weightsAll_mem h.2 d hd
theorem weightsEach_get {H : Type} {P : Program} {B : Nat} : ∀ {ts : List TypeId} {l : List (DataW H)}, (DataW.weightsEach P ts l).all (· ≤ B) = true → ∀ (i : Nat) t d, ts[i]? = some t → l[i]? = some d → (d.weights P t).all (· ≤ B) = true
  | [], l, _, i, t, d, ht, hd => by simp at ht
  | t :: ts, [], _, i, u, d, ht, hd => by simp at hd
  | t :: ts, x :: r, h, i, u, d, ht, hd => by
    simp only [DataW.weightsEach, List.all_append, Bool.and_eq_true] at h
    cases i with
    | zero => simp at ht hd; subst ht hd; exact h.1
    | succ i => exact weightsEach_get h.2 i u d (by simpa using ht) (by simpa using hd)
def byteT (td : TDs) (C : List Nat) : Bool := C.all fun t => match lk td t with
  | some d => (match d.k with | .slice e => (match lk td e with | some ed => Nat.blt 0 ed.bytes | none => false) | _ => true)
  | none => true
section
variable {P : Program} {td : TDs} [T : TOK P td] {H : Type} {enc : TypeId × Value → H} {W : World} {sp : Nat → Bool} {B : Nat}
theorem consec_partsB {f : Nat} {F : Nat → Prop} {w : World} {cs : List Value} {n : Nat} (hl : cs.length = n) : ∀ {fs : List (TypeId × Nat)} {o : Nat}, consec td o fs n = true → o ≤ n →
    (∀ q ∈ fs, ∃ cas, ShpB td B f q.1 cas ∧ LF F w cas ((cs.drop q.2).take (P.cellsOf q.1))) → ∃ parts : List (List AV), parts.length = fs.length ∧ LF F w parts.flatten (cs.drop o) ∧
      ∀ (i : Nat) (x : List AV) (q : TypeId × Nat), parts[i]? = some x → fs[i]? = some q → LF F w x ((cs.drop q.2).take (P.cellsOf q.1)) ∧ ShpB td B f q.1 x
  | [], o, h, ho, _ => by
    simp only [consec] at h
    have := Nat.eq_of_beq_eq_true h; subst this
    refine ⟨[], rfl, ?_, fun i x q hi => by simp at hi⟩
    rw [List.drop_of_length_le (by omega)]; simp only [List.flatten_nil, LF]
  | (t, off) :: r, o, h, ho, hp => by
    simp only [consec, Bool.and_eq_true] at h
    have := Nat.eq_of_beq_eq_true h.1; subst this
    obtain ⟨cas, hs, hLF⟩ := hp (t, off) (List.mem_cons_self ..)
    cases hlk : lk td t with
    | none => rw [hlk] at h; cases h.2
    | some d =>
      rw [hlk] at h
      have hcs := cellsOf_td (P := P) hlk
      have hle : off + d.size ≤ n := by
        have key : ∀ {fs : List (TypeId × Nat)} {o : Nat}, consec td o fs n = true → o ≤ n := by
          intro fs
          induction fs with
          | nil => intro o h; simp only [consec] at h; exact Nat.le_of_eq (Nat.eq_of_beq_eq_true h)
          | cons q r ih =>
            intro o h
            obtain ⟨t, off⟩ := q
            simp only [consec, Bool.and_eq_true] at h
            cases hq : lk td t with
            | none => rw [hq] at h; cases h.2
            | some d => rw [hq] at h; have := ih h.2; omega
        exact key h.2
      obtain ⟨parts, q1, q2, q3⟩ := consec_partsB hl h.2 hle (fun q hq => hp q (List.mem_cons_of_mem _ hq))
      refine ⟨cas :: parts, by simp [q1], ?_, fun i x q hi hq => ?_⟩
      · rw [List.flatten_cons]
        simp only [hcs] at hLF
        have := LF_append hLF q2
        have e : (cs.drop off).take d.size ++ cs.drop (off + d.size) = cs.drop off := by
          rw [← List.drop_drop]; exact List.take_append_drop ..
        rwa [e] at this
      · cases i with
        | zero => simp at hi hq; subst hi hq; exact ⟨hLF, hs⟩
        | succ i => exact q3 i x q (by simpa using hi) (by simpa using hq)
theorem trod_LFB {C : List Nat} (hC : closedT td C = true) (hB : byteT td C = true) : ∀ (f : Nat) (t : Nat) (cs : List Value) (r : DataW H × List MemPlace), t ∈ C → DataW.trod enc P W 0 sp true f t cs = some r → (r.1.weights P t).all (· ≤ B) = true →
    ∃ cas, ShpB td B f t cas ∧ LF (below W) W cas cs := by
  intro f
  induction f with
  | zero => intro t cs r _ h _; simp [DataW.trod] at h
  | succ f ih =>
    intro t cs r ht h hw
    have hc := List.all_eq_true.1 hC t ht
    cases hl : lk td t with
    | none => simp [hl] at hc
    | some d =>
      simp only [hl] at hc
      obtain ⟨i, u, z, h1, h2, h3, h4, h5, h6, h7⟩ := tok_parts (P := P) hl
      cases hk : d.k with
      | bool =>
        rw [hk] at h4
        cases u <;> simp only [tk, reduceCtorEq] at h4
        obtain ⟨b, rfl, _⟩ := DataW.trod_bool h2 h
        exact ⟨[.v (.bool b)], by simp only [ShpB, hl, Option.map_some, hk]; exact ⟨b, rfl⟩, by simp only [LF, RF]; exact ⟨_, [], rfl, rfl, rfl, rfl⟩⟩
      | int k =>
        rw [hk] at h4
        cases u <;> simp only [tk, reduceCtorEq, TK.int.injEq] at h4
        subst h4
        obtain ⟨n, rfl, _, hwf⟩ := DataW.trod_int h2 h
        exact ⟨[.v (.int _ n)], by simp only [ShpB, hl, Option.map_some, hk]; exact ⟨n, rfl, hwf⟩, by simp only [LF, RF]; exact ⟨_, [], rfl, rfl, rfl, rfl⟩⟩
      | str =>
        rw [hk] at h4
        cases u <;> simp only [tk, reduceCtorEq] at h4
        obtain ⟨s, rfl, hx, _⟩ := DataW.trod_string h2 h
        have hs : s.size ≤ B := by
          subst hx
          simp only [DataW.weights, List.all_cons, List.all_nil, Bool.and_true, decide_eq_true_eq, Array.length_toList] at hw
          exact hw
        exact ⟨[.v (.string s)], by simp only [ShpB, hl, Option.map_some, hk]; exact ⟨s, rfl, hs⟩, by simp only [LF, RF]; exact ⟨_, [], rfl, rfl, rfl, rfl⟩⟩
      | slice e =>
        rw [hk] at h4
        cases u <;> simp only [tk, reduceCtorEq, TK.slice.injEq] at h4
        subst h4
        rename_i e
        simp only [hk, Bool.and_eq_true] at hc
        obtain ⟨⟨_, he⟩, hsz⟩ := hc
        have he' : e ∈ C := List.contains_iff_mem.1 he
        cases hle : lk td e with
        | none => rw [hle] at hsz; cases hsz
        | some ed =>
          rw [hle] at hsz
          have hpos : 0 < ed.size := Nat.le_of_ble_eq_true hsz
          have hce := cellsOf_td (P := P) hle
          rcases DataW.trod_slice h2 h with ⟨rfl, _⟩ | ⟨a, len, cap, elems, rest, n, hf, rfl, hx, _, hlc, hcm, hel, hget, _⟩
          · refine ⟨[.fs ed.size 0 []], ?_, ?_⟩
            · simp only [ShpB, hl, Option.map_some, hk]
              exact ⟨ed.size, [], by simp [hle], rfl, Nat.zero_le _, fun x hx => by cases hx⟩
            · simp only [LF, RF]
              exact ⟨_, [], rfl, ⟨rfl, none, 0, rfl, Nat.le_refl _, fun h => absurd rfl h⟩, rfl, rfl⟩
          · injection hf with hf; subst hf
            have hbt := List.all_eq_true.1 hB t ht
            simp only [hl, hk, hle] at hbt
            have hby : 0 < P.bytesOf e := by
              obtain ⟨i', u', z', k1, _, _, _, _, k6, _⟩ := tok_parts (P := P) hle
              simp only [Program.bytesOf, k1, Option.map_some, Option.getD_some]
              rw [k6]; exact Nat.le_of_ble_eq_true hbt
            subst hx
            simp only [DataW.weights, h2, List.all_cons, List.all_append, Bool.and_eq_true, decide_eq_true_eq, List.length_map] at hw
            obtain ⟨hw1, hw2, _⟩ := hw
            have hlenB : len ≤ B := by
              have := Nat.le_mul_of_pos_right (elems.length + rest.length) hby
              omega
            have hwe : ∀ i (y : DataW H × List MemPlace), elems[i]? = some y → (y.1.weights P e).all (· ≤ B) = true := fun i y hy =>
              weightsAll_mem hw2 y.1 (List.mem_map_of_mem (List.mem_of_getElem? hy))
            have key : ∀ i, i < len → ∃ x, ShpB td B f e x ∧ ∃ ys, LF (below W) W x ys ∧ ys.length = ed.size ∧ W.cells? 0 (a.add (i * ed.size)) ed.size = some ys := by
              intro i hi
              have hg := hget i hi
              rw [List.getElem?_eq_getElem (by omega), hce] at hg
              cases hcl : W.cells? 0 (a.add (i * ed.size)) ed.size with
              | none => rw [hcl] at hg; cases hg
              | some ys =>
                rw [hcl] at hg
                simp only [Option.bind_some] at hg
                obtain ⟨x, g1, g2⟩ := ih e ys _ he' hg (hwe i _ (List.getElem?_eq_getElem (by omega)))
                exact ⟨x, g1, ys, g2, (cells?_spec hpos hcl).2.2.1, rfl⟩
            have hes : ∃ es : List (List AV), es.length = len ∧ ∀ i, i < len → ∃ x, es[i]? = some x ∧ ShpB td B f e x ∧ ∃ ys, LF (below W) W x ys ∧ ys.length = ed.size ∧ W.cells? 0 (a.add (i * ed.size)) ed.size = some ys := by
              have : ∀ m, m ≤ len → ∃ es : List (List AV), es.length = m ∧ ∀ i, i < m → ∃ x, es[i]? = some x ∧ ShpB td B f e x ∧ ∃ ys, LF (below W) W x ys ∧ ys.length = ed.size ∧ W.cells? 0 (a.add (i * ed.size)) ed.size = some ys := by
                intro m
                induction m with
                | zero => intro _; exact ⟨[], rfl, fun i h => by omega⟩
                | succ m ihm =>
                  intro hm
                  obtain ⟨es, q1, q2⟩ := ihm (by omega)
                  obtain ⟨x, k1, k2⟩ := key m (by omega)
                  refine ⟨es ++ [x], by simp [q1], fun i hi => ?_⟩
                  by_cases e' : i = m
                  · subst e'; exact ⟨x, by rw [← q1]; simp, k1, k2⟩
                  · obtain ⟨x', r1, r2⟩ := q2 i (by omega)
                    exact ⟨x', by rw [List.getElem?_append_left (by omega)]; exact r1, r2⟩
              exact this len (Nat.le_refl _)
            obtain ⟨es, q1, q2⟩ := hes
            refine ⟨[.fs ed.size len es], ?_, ?_⟩
            · simp only [ShpB, hl, Option.map_some, hk]
              refine ⟨ed.size, es, by simp [hle], by rw [q1], by omega, fun x hx => ?_⟩
              obtain ⟨i, hi⟩ := List.getElem?_of_mem hx
              have hil : i < len := by rcases Nat.lt_or_ge i es.length with h' | h'; omega; rw [List.getElem?_eq_none h'] at hi; cases hi
              obtain ⟨x', r1, r2, _⟩ := q2 i hil
              rw [hi] at r1; injection r1 with r1; subst r1; exact r2
            · simp only [LF, RF]
              refine ⟨_, [], rfl, ⟨q1, some a, cap, rfl, hlc, fun hne => ?_⟩, rfl, rfl⟩
              obtain ⟨x0, _, _, ys0, _, _, hc0⟩ := q2 0 (by omega)
              have hadd0 : a.add (0 * ed.size) = a := by simp [Addr.add]
              rw [hadd0] at hc0
              obtain ⟨hsp, hbl, _, _⟩ := cells?_spec hpos hc0
              obtain ⟨b, off, spot⟩ := a
              simp only at hsp hbl; subst hsp
              refine ⟨b, off, rfl, hbl, ?_⟩
              have : ∀ (es' : List (List AV)) (k : Nat), k + es'.length = len → (∀ i x, es'[i]? = some x → es[k + i]? = some x) → EF (below W) W ed.size es' b (off + k * ed.size) := by
                intro es'
                induction es' with
                | nil => intro k _ _; simp only [EF]
                | cons x r ihr =>
                  intro k hk' hx
                  simp only [EF]
                  obtain ⟨x', r1, _, ys, r2, r3, r4⟩ := q2 k (by simp at hk'; omega)
                  have := hx 0 x rfl
                  rw [Nat.add_zero, r1] at this; injection this with this; subst this
                  rw [Addr.add_mid] at r4
                  obtain ⟨_, _, _, hra⟩ := cells?_spec hpos r4
                  refine ⟨by rw [← r2.length, r3], MF.of r2 hra, ?_⟩
                  have := ihr (k + 1) (by simp at hk'; omega) (fun i z hz => by have := hx (i + 1) z (by simpa using hz); rwa [show k + (i + 1) = k + 1 + i by omega] at this)
                  rwa [show off + (k + 1) * ed.size = off + k * ed.size + ed.size by rw [Nat.add_mul]; omega] at this
              have := this es 0 (by omega) (fun i x h => by simpa using h)
              simpa using this
      | struct fs =>
        rw [hk] at h4
        cases u <;> simp only [tk, reduceCtorEq, TK.struct.injEq] at h4
        subst h4
        rename_i fields
        simp only [hk, Bool.and_eq_true] at hc
        obtain ⟨xs, n, hf, hx, hlen, hxl, hget⟩ := DataW.trod_struct h2 h
        injection hf with hf; subst hf
        subst hx
        simp only [DataW.weights, h2] at hw
        have hcd := cellsOf_td (P := P) hl
        have hin := List.all_eq_true.1 hc.1
        obtain ⟨parts, p1, p2, p3⟩ := consec_partsB (P := P) (f := f) (F := below W) (w := W) (cs := cs) (n := d.size) (by rw [hlen, hcd]) hc.2 (Nat.zero_le _) (fun q hq => by
          obtain ⟨j, hj⟩ := List.getElem?_of_mem hq
          simp only [List.getElem?_map, Array.getElem?_toList] at hj
          cases hfj : fields[j]? with
          | none => simp [hfj] at hj
          | some fl =>
            simp only [hfj, Option.map_some, Option.some.injEq] at hj
            subst hj
            have hg := hget j fl hfj
            have hjl : j < xs.length := by rw [hxl]; exact (Array.getElem?_eq_some_iff.1 hfj).1
            rw [List.getElem?_eq_getElem hjl] at hg
            exact ih _ _ _ (List.contains_iff_mem.1 (hin _ hq)) hg (weightsEach_get hw j _ _ (by simp [hfj]) (by rw [List.getElem?_map, List.getElem?_eq_getElem hjl]; rfl)))
        refine ⟨parts.flatten, ?_, by simpa using p2⟩
        simp only [ShpB, hl, Option.map_some, hk]
        exact ⟨parts, rfl, p1, fun i x q hi hq => (p3 i x q hi hq).2⟩
      | arr n e => simp [hk] at hc
      | ptr e => simp [hk] at hc
      | map k e => simp [hk] at hc
      | iface => simp [hk] at hc
      | other => simp [hk] at hc
end
end Go.Ac
end
section
namespace Go.Proofs.YtnacjdaoiepbhaaGreatDoor
open Go.Ac
variable {B : Nat}
theorem shpB_str {td : TDs} {f t : Nat} {cs : List AV} (hk : (lk td t).map (fun d : TD => d.k) = some .str) (h : ShpB td B f t cs) : ∃ s, cs = [.v (.string s)] ∧ s.size ≤ B := by
  cases f with
  | zero => exact absurd h (by simp [ShpB])
  | succ f => simp only [ShpB, hk] at h; exact h
theorem shpB_int {td : TDs} {f t : Nat} {k : IntKind} {cs : List AV} (hk : (lk td t).map (fun d : TD => d.k) = some (.int k)) (h : ShpB td B f t cs) : ∃ n, cs = [.v (.int k n)] ∧ (Lit.int k n).wf = true := by
  cases f with
  | zero => exact absurd h (by simp [ShpB])
  | succ f => simp only [ShpB, hk] at h; exact h
theorem shpB_slice {α : Type} {e f t sz0 : Nat} {cs : List AV} {enc : α → List AV} {ok : α → Prop} (hk : (lk td t).map (fun d : TD => d.k) = some (.slice e)) (hz : (lk td e).map (fun d : TD => d.size) = some sz0)
    (he : ∀ {f : Nat} {x : List AV}, ShpB td B f e x → ∃ a, x = enc a ∧ ok a) (h : ShpB td B f t cs) : ∃ l : List α, cs = [.fs sz0 l.length (l.map enc)] ∧ l.length ≤ B ∧ ∀ a ∈ l, ok a := by
  cases f with
  | zero => exact absurd h (by simp [ShpB])
  | succ f =>
    simp only [ShpB, hk] at h
    obtain ⟨sz, es, h1, rfl, hlen, hx⟩ := h
    rw [hz] at h1
    injection h1 with h1
    subst h1
    have : ∃ l : List α, es = l.map enc ∧ ∀ a ∈ l, ok a := by
      clear hlen
      induction es with
      | nil => exact ⟨[], rfl, by simp⟩
      | cons x r ih =>
        obtain ⟨t, rfl, ht⟩ := he (hx x (by simp))
        obtain ⟨l, rfl, hl⟩ := ih (fun y hy => hx y (by simp [hy]))
        refine ⟨t :: l, rfl, fun u hu => ?_⟩
        rcases List.mem_cons.1 hu with rfl | hu
        · exact ht
        · exact hl u hu
    obtain ⟨l, rfl, hl⟩ := this
    exact ⟨l, by simp, by simpa using hlen, hl⟩
theorem shpB_stamp {f : Nat} {cs : List AV} (h : ShpB td B f 23 cs) : ∃ t : Stamp, cs = stampC t ∧ True := by
  cases f with
  | zero => exact absurd h (by simp [ShpB])
  | succ f =>
    have hk : (lk td 23).map (fun d : TD => d.k) = some (.struct [(3, 0), (3, 1)]) := rfl
    simp only [ShpB, hk] at h
    obtain ⟨parts, rfl, hl, hp⟩ := h
    match parts, hl with
    | [a, b], _ =>
      obtain ⟨n1, rfl, _⟩ := shpB_int (k := .i64) rfl (hp 0 a _ rfl rfl)
      obtain ⟨n2, rfl, _⟩ := shpB_int (k := .i64) rfl (hp 1 b _ rfl rfl)
      exact ⟨⟨n1, n2⟩, rfl, trivial⟩
theorem shpB_span {f : Nat} {cs : List AV} (h : ShpB td B f 63 cs) : ∃ t : Span, cs = spanC t ∧ True := by
  cases f with
  | zero => exact absurd h (by simp [ShpB])
  | succ f =>
    have hk : (lk td 63).map (fun d : TD => d.k) = some (.struct [(3, 0), (3, 1)]) := rfl
    simp only [ShpB, hk] at h
    obtain ⟨parts, rfl, hl, hp⟩ := h
    match parts, hl with
    | [a, b], _ =>
      obtain ⟨n1, rfl, _⟩ := shpB_int (k := .i64) rfl (hp 0 a _ rfl rfl)
      obtain ⟨n2, rfl, _⟩ := shpB_int (k := .i64) rfl (hp 1 b _ rfl rfl)
      exact ⟨⟨n1, n2⟩, rfl, trivial⟩
theorem shpB_note {f : Nat} {cs : List AV} (h : ShpB td B f 65 cs) : ∃ t : Note, cs = noteC t ∧ I64 t.id ∧ t.text.size ≤ B := by
  cases f with
  | zero => exact absurd h (by simp [ShpB])
  | succ f =>
    have hk : (lk td 65).map (fun d : TD => d.k) = some (.struct [(3, 0), (3, 1), (3, 2), (63, 3), (3, 5), (9, 6)]) := rfl
    simp only [ShpB, hk] at h
    obtain ⟨parts, rfl, hl, hp⟩ := h
    match parts, hl with
    | [a, b, c, d, e, g], _ =>
      obtain ⟨n1, rfl, w⟩ := shpB_int (k := .i64) rfl (hp 0 a _ rfl rfl)
      obtain ⟨n2, rfl, _⟩ := shpB_int (k := .i64) rfl (hp 1 b _ rfl rfl)
      obtain ⟨n3, rfl, _⟩ := shpB_int (k := .i64) rfl (hp 2 c _ rfl rfl)
      obtain ⟨s, rfl, _⟩ := shpB_span (hp 3 d _ rfl rfl)
      obtain ⟨n4, rfl, _⟩ := shpB_int (k := .i64) rfl (hp 4 e _ rfl rfl)
      obtain ⟨t, rfl, ht⟩ := shpB_str rfl (hp 5 g _ rfl rfl)
      exact ⟨⟨n1, n2, n3, s, n4, t⟩, rfl, wf64 w, ht⟩
theorem shpB_stamps {f : Nat} {cs : List AV} (h : ShpB td B f 72 cs) : ∃ l : List Stamp, cs = [encStamps l] ∧ l.length ≤ B := by
  obtain ⟨l, h, hl, _⟩ := shpB_slice (enc := stampC) (ok := fun _ => True) rfl rfl (fun h => shpB_stamp h) h
  exact ⟨l, h, hl⟩
def OpB (B : Nat) (o : Op) : Prop := I64 o.note.id ∧ o.text.size ≤ B ∧ o.note.text.size ≤ B ∧ o.over.length ≤ B
theorem shpB_op {f : Nat} {cs : List AV} (h : ShpB td B f 74 cs) : ∃ o : Op, cs = opC o ∧ OpB B o := by
  cases f with
  | zero => exact absurd h (by simp [ShpB])
  | succ f =>
    have hk : (lk td 74).map (fun d : TD => d.k) = some (.struct [(23, 0), (3, 2), (3, 3), (65, 4), (3, 11), (3, 12), (9, 13), (72, 14)]) := rfl
    simp only [ShpB, hk] at h
    obtain ⟨parts, rfl, hl, hp⟩ := h
    match parts, hl with
    | [a, b, c, d, e, g, i, j], _ =>
      obtain ⟨t, rfl, _⟩ := shpB_stamp (hp 0 a _ rfl rfl)
      obtain ⟨n1, rfl, _⟩ := shpB_int (k := .i64) rfl (hp 1 b _ rfl rfl)
      obtain ⟨n2, rfl, _⟩ := shpB_int (k := .i64) rfl (hp 2 c _ rfl rfl)
      obtain ⟨n, rfl, hn, hnt⟩ := shpB_note (hp 3 d _ rfl rfl)
      obtain ⟨n4, rfl, _⟩ := shpB_int (k := .i64) rfl (hp 4 e _ rfl rfl)
      obtain ⟨n5, rfl, _⟩ := shpB_int (k := .i64) rfl (hp 5 g _ rfl rfl)
      obtain ⟨s, rfl, hs⟩ := shpB_str rfl (hp 6 i _ rfl rfl)
      obtain ⟨l, rfl, hl⟩ := shpB_stamps (hp 7 j _ rfl rfl)
      exact ⟨⟨t, n1, n2, n, n4, n5, s, l⟩, rfl, hn, hs, hnt, hl⟩
theorem shpB_ops {f : Nat} {cs : List AV} (h : ShpB td B f 35 cs) : ∃ l : List Op, cs = [encOps l] ∧ l.length ≤ B ∧ ∀ o ∈ l, OpB B o :=
  shpB_slice (enc := opC) rfl rfl (fun h => shpB_op h) h
theorem shpB_ints {f : Nat} {cs : List AV} (h : ShpB td B f 30 cs) : ∃ l : List Int, cs = [encIs l] ∧ l.length ≤ B ∧ ∀ n ∈ l, I64 n :=
  shpB_slice (enc := intC) rfl rfl (fun h => by obtain ⟨n, rfl, w⟩ := shpB_int (k := .i64) rfl h; exact ⟨n, rfl, wf64 w⟩) h
theorem shpB_replica {f : Nat} {cs : List AV} (h : ShpB td B f 37 cs) : ∃ r : Replica, cs = repC r ∧ ∀ o ∈ r.ops, OpB B o := by
  cases f with
  | zero => exact absurd h (by simp [ShpB])
  | succ f =>
    have hk : (lk td 37).map (fun d : TD => d.k) = some (.struct [(3, 0), (30, 1), (35, 2)]) := rfl
    simp only [ShpB, hk] at h
    obtain ⟨parts, rfl, hl, hp⟩ := h
    match parts, hl with
    | [a, b, c], _ =>
      obtain ⟨n1, rfl, _⟩ := shpB_int (k := .i64) rfl (hp 0 a _ rfl rfl)
      obtain ⟨l, rfl, _⟩ := shpB_ints (hp 1 b _ rfl rfl)
      obtain ⟨m, rfl, _, hm⟩ := shpB_ops (hp 2 c _ rfl rfl)
      exact ⟨⟨n1, l, m⟩, rfl, hm⟩
theorem ids_ofB {l : List Op} (h : ∀ o ∈ l, OpB B o) : Ids l := fun o ho => (h o ho).1
end Go.Proofs.YtnacjdaoiepbhaaGreatDoor
end
section
namespace Go.Proofs.YtnacjdaoiepbhaaGreatDoor
open Go.Ac
variable {B : Nat}
theorem shpB_cite {f : Nat} {cs : List AV} (h : ShpB td B f 25 cs) : ∃ c : Cite, cs = citeC c ∧ CiteI c := by
  cases f with
  | zero => exact absurd h (by simp [ShpB])
  | succ f =>
    have hk : (lk td 25).map (fun d : TD => d.k) = some (.struct [(3, 0), (3, 1), (23, 2)]) := rfl
    simp only [ShpB, hk] at h
    obtain ⟨parts, rfl, hl, hp⟩ := h
    match parts, hl with
    | [a, b, c], _ =>
      obtain ⟨n1, rfl, w1⟩ := shpB_int (k := .i64) rfl (hp 0 a _ rfl rfl)
      obtain ⟨n2, rfl, w2⟩ := shpB_int (k := .i64) rfl (hp 1 b _ rfl rfl)
      have h3 := hp 2 c _ rfl rfl
      cases f with
      | zero => exact absurd h3 (by simp [ShpB])
      | succ f =>
        have hk : (lk td 23).map (fun d : TD => d.k) = some (.struct [(3, 0), (3, 1)]) := rfl
        simp only [ShpB, hk] at h3
        obtain ⟨parts, rfl, hl, hp⟩ := h3
        match parts, hl with
        | [a, b], _ =>
          obtain ⟨n3, rfl, w3⟩ := shpB_int (k := .i64) rfl (hp 0 a _ rfl rfl)
          obtain ⟨n4, rfl, w4⟩ := shpB_int (k := .i64) rfl (hp 1 b _ rfl rfl)
          exact ⟨⟨n1, n2, ⟨n3, n4⟩⟩, rfl, wf64 w1, wf64 w2, wf64 w3, wf64 w4⟩
theorem shpB_tier {f : Nat} {cs : List AV} (h : ShpB td B f 88 cs) : ∃ t : Tier, cs = tierC t ∧ t.name.size ≤ B := by
  cases f with
  | zero => exact absurd h (by simp [ShpB])
  | succ f =>
    have hk : (lk td 88).map (fun d : TD => d.k) = some (.struct [(9, 0), (3, 1), (3, 2), (3, 3)]) := rfl
    simp only [ShpB, hk] at h
    obtain ⟨parts, rfl, hl, hp⟩ := h
    match parts, hl with
    | [a, b, c, d], _ =>
      obtain ⟨s, rfl, hs⟩ := shpB_str rfl (hp 0 a _ rfl rfl)
      obtain ⟨n1, rfl, _⟩ := shpB_int (k := .i64) rfl (hp 1 b _ rfl rfl)
      obtain ⟨n2, rfl, _⟩ := shpB_int (k := .i64) rfl (hp 2 c _ rfl rfl)
      obtain ⟨n3, rfl, _⟩ := shpB_int (k := .i64) rfl (hp 3 d _ rfl rfl)
      exact ⟨⟨s, n1, n2, n3⟩, rfl, hs⟩
theorem shpB_rec {f : Nat} {cs : List AV} (h : ShpB td B f 49 cs) : ∃ r : Recording, cs = [.v (.int .i64 r.id), .v (.string r.name), .v (.int .i64 r.length), .v (.int .i64 r.day), encIs r.speakers] ∧ r.name.size ≤ B := by
  cases f with
  | zero => exact absurd h (by simp [ShpB])
  | succ f =>
    have hk : (lk td 49).map (fun d : TD => d.k) = some (.struct [(3, 0), (9, 1), (3, 2), (3, 3), (30, 4)]) := rfl
    simp only [ShpB, hk] at h
    obtain ⟨parts, rfl, hl, hp⟩ := h
    match parts, hl with
    | [a, b, c, d, e], _ =>
      obtain ⟨n1, rfl, _⟩ := shpB_int (k := .i64) rfl (hp 0 a _ rfl rfl)
      obtain ⟨s, rfl, hs⟩ := shpB_str rfl (hp 1 b _ rfl rfl)
      obtain ⟨n2, rfl, _⟩ := shpB_int (k := .i64) rfl (hp 2 c _ rfl rfl)
      obtain ⟨n3, rfl, _⟩ := shpB_int (k := .i64) rfl (hp 3 d _ rfl rfl)
      obtain ⟨l, rfl, _⟩ := shpB_ints (hp 4 e _ rfl rfl)
      exact ⟨⟨n1, s, n2, n3, l⟩, rfl, hs⟩
theorem shpB_doc {f : Nat} {cs : List AV} (h : ShpB td B f 53 cs) : ∃ d : Doc, cs = docC d ∧ ∀ t ∈ d.tiers, t.name.size ≤ B := by
  cases f with
  | zero => exact absurd h (by simp [ShpB])
  | succ f =>
    have hk : (lk td 53).map (fun d : TD => d.k) = some (.struct [(49, 0), (50, 5), (51, 6)]) := rfl
    simp only [ShpB, hk] at h
    obtain ⟨parts, rfl, hl, hp⟩ := h
    match parts, hl with
    | [a, b, c], _ =>
      obtain ⟨r, rfl, _⟩ := shpB_rec (hp 0 a _ rfl rfl)
      obtain ⟨l, rfl, _, hT⟩ := shpB_slice (enc := tierC) (ok := fun t => t.name.size ≤ B) rfl rfl (fun h => shpB_tier h) (hp 1 b _ rfl rfl)
      obtain ⟨m, rfl, _, _⟩ := shpB_slice (enc := noteC) (ok := fun _ => True) rfl rfl (fun h => by obtain ⟨n, e, _⟩ := shpB_note h; exact ⟨n, e, trivial⟩) (hp 2 c _ rfl rfl)
      exact ⟨⟨r, l, m⟩, rfl, hT⟩
theorem shpB_shown {f : Nat} {cs : List AV} (h : ShpB td B f 56 cs) : ∃ x : Doc × List Span, cs = shownC x.1 x.2 ∧ ∀ t ∈ x.1.tiers, t.name.size ≤ B := by
  cases f with
  | zero => exact absurd h (by simp [ShpB])
  | succ f =>
    have hk : (lk td 56).map (fun d : TD => d.k) = some (.struct [(53, 0), (54, 7)]) := rfl
    simp only [ShpB, hk] at h
    obtain ⟨parts, rfl, hl, hp⟩ := h
    match parts, hl with
    | [a, b], _ =>
      obtain ⟨d, rfl, hT⟩ := shpB_doc (hp 0 a _ rfl rfl)
      obtain ⟨l, rfl, _, _⟩ := shpB_slice (enc := spanC) (ok := fun _ => True) rfl rfl (fun h => shpB_span h) (hp 1 b _ rfl rfl)
      exact ⟨(d, l), rfl, hT⟩
end Go.Proofs.YtnacjdaoiepbhaaGreatDoor
end
section
namespace Go.Proofs.YtnacjdaoiepbhaaGreatDoor
open Go.Ac Go.Lib
theorem var_block {P : Program} {W : World} {n : String} {b : Nat} {cs : Array Value} (hg : P.globalNamed n = some b) (h : W.var? P n = some cs) : below W b ∧ ∀ k, cs.size = k → Exact W k b := by
  simp only [World.var?, hg, Option.bind_some] at h
  split at h
  · rename_i c T z hb
    cases h
    refine ⟨?_, fun k hk => ⟨_, _, _, hb, hk⟩⟩
    rcases Nat.lt_or_ge b W.heap.size with q | q
    · exact q
    · exfalso
      have : W.heap[b]? = none := Array.getElem?_eq_none q
      rw [this] at hb
      cases hb
  · cases h
theorem tab_glob {P : Program} {W : World} {name : String} {b t e n : Nat} {k : IntKind} {zs : List Int} (hn : P.globalNamed name = some b) (hy : (P.globals[b]?).map (·.type) = some t) (ht : P.underlying t = some (.array n e)) (he : P.underlying e = some (.int k)) (hce : P.cellsOf e = 1) (hct : P.cellsOf t = n)
    (h : VarReads P W name (tabData k zs)) : below W b ∧ MF (below W) W (zs.map fun z => AV.v (.int k z)) b 0 ∧ Exact W (zs.map fun z => AV.v (.int k z)).length b := by
  obtain ⟨g, t', cs, fuel, p, hg, hty, hvar, hd⟩ := h
  obtain rfl : g = b := Option.some.inj (hg.symm.trans hn)
  obtain rfl : t' = t := Option.some.inj (hty.symm.trans hy)
  have hcs := cells_of_tab (zs := zs) ht he hce hct hd
  obtain ⟨h1, h2⟩ := var_block hg hvar
  have hsz : cs.size = zs.length := by rw [← Array.length_toList, hcs, List.length_map]
  refine ⟨h1, MF.mk fun i x hx => ?_, h2 _ (by rw [List.length_map]; exact hsz)⟩
  rw [List.getElem?_map, Option.map_eq_some_iff] at hx
  obtain ⟨z, hz, rfl⟩ := hx
  refine ⟨.int k z, ?_, by simp [RF], rfl⟩
  rw [Nat.zero_add, World.var?_cell hg hvar i, ← Array.getElem?_toList, hcs, List.getElem?_map, hz]
  rfl
theorem err_type (u : TypeId) (hu : Tryz.prog.typeName? 3 u = some "*errors.errorString") : u = 250 :=
  typeName_ptr_named (nm := "errors.errorString") (by kernel_rfl) (by kernel_rfl) (by decide) u hu
theorem err_glob {W : World} {name : String} {b t : Nat} {ms : Array (String × TypeId)} (hn : Tryz.prog.globalNamed name = some b) (hy : (Tryz.prog.globals[b]?).map (·.type) = some t) (hi : Tryz.prog.underlying t = some (.interface ms)) {d : DataW Unit}
    (h : VarReads Tryz.prog W name (.iface "*errors.errorString" d)) : below W b ∧ MF (below W) W errCs b 0 ∧ Exact W errCs.length b := by
  obtain ⟨g, t', cs, fuel, p, hg, hty, hvar, hd⟩ := h
  obtain rfl : g = b := Option.some.inj (hg.symm.trans hn)
  obtain rfl : t' = t := Option.some.inj (hty.symm.trans hy)
  obtain ⟨_, u, v, hcs, hu, _⟩ := iface_of_trod hi hd
  obtain rfl := err_type u hu
  obtain ⟨h1, h2⟩ := var_block hg hvar
  have hsz : cs.size = 1 := by rw [← Array.length_toList, hcs]; rfl
  refine ⟨h1, MF.mk fun i x hx => ?_, h2 _ hsz⟩
  have hi0 : i = 0 := by have := (List.getElem?_eq_some_iff.1 hx).1; simpa using this
  subst hi0
  cases hx
  refine ⟨.iface 250 v, ?_, by simp [RF], rfl⟩
  rw [Nat.zero_add, World.var?_cell hg hvar 0, ← Array.getElem?_toList, hcs]
  rfl
abbrev laidN : List (String × DataW Unit) := [("math/bits.deBruijn32tab", Rows.laid_math_bits_deBruijn32tab), ("math/bits.deBruijn64tab", Rows.laid_math_bits_deBruijn64tab), ("internal/strconv.uint64pow10", Rows.laid_internal_strconv_uint64pow10), ("strconv.ErrRange", Rows.laid_strconv_ErrRange), ("strconv.ErrSyntax", Rows.laid_strconv_ErrSyntax), ("langdoc/num.limits", Rows.laid_langdoc_num_limits)]
abbrev laidL : List (String × DataW Unit) := [("math/bits.deBruijn32tab", Rows.laid_math_bits_deBruijn32tab), ("math/bits.deBruijn64tab", Rows.laid_math_bits_deBruijn64tab), ("internal/strconv.uint64pow10", Rows.laid_internal_strconv_uint64pow10), ("unicode/utf8.acceptRanges", Rows.laid_unicode_utf8_acceptRanges), ("strconv.ErrRange", Rows.laid_strconv_ErrRange), ("strconv.ErrSyntax", Rows.laid_strconv_ErrSyntax), ("langdoc/num.limits", Rows.laid_langdoc_num_limits), ("langdoc/replica.fields", Rows.laid_langdoc_replica_fields), ("unicode/utf8.first", Rows.laid_unicode_utf8_first)]
theorem pow_same : (Rows.laid_internal_strconv_uint64pow10 : DataW Unit) = tabData .u64 pow10Tab := by kernel_rfl
theorem lim_same : (Rows.laid_langdoc_num_limits : DataW Unit) = tabData .i64 [-1099511627776, 1099511627776] := by kernel_rfl
theorem num_reads {W : World} (h1 : VarReads Tryz.prog W "internal/strconv.uint64pow10" Rows.laid_internal_strconv_uint64pow10) (h2 : VarReads Tryz.prog W "langdoc/num.limits" Rows.laid_langdoc_num_limits)
    (h3 : VarReads Tryz.prog W "strconv.ErrSyntax" Rows.laid_strconv_ErrSyntax) (h4 : VarReads Tryz.prog W "strconv.ErrRange" Rows.laid_strconv_ErrRange) : ∀ q ∈ GN, below W q.1 ∧ MF (below W) W q.2 q.1 0 ∧ Exact W q.2.length q.1 := by
  rw [pow_same] at h1
  rw [lim_same] at h2
  intro q hq
  simp only [GN, List.mem_cons, List.not_mem_nil, or_false] at hq
  rcases hq with rfl | rfl | rfl | rfl
  · exact tab_glob (b := 0) (by kernel_rfl) (by kernel_rfl) Tryz.underlying151 Tryz.underlying3 (by kernel_rfl) (by kernel_rfl) h2
  · exact tab_glob (b := 2) (by kernel_rfl) (by kernel_rfl) Tryz.underlying233 Tryz.underlying195 (by kernel_rfl) (by kernel_rfl) h1
  · exact err_glob (b := 3) (by kernel_rfl) (by kernel_rfl) Tryz.underlying148 h3
  · exact err_glob (b := 4) (by kernel_rfl) (by kernel_rfl) Tryz.underlying148 h4
theorem laid_globN {W : World} (h : laidMet Tryz.prog laidN W) : ∀ q ∈ GN, below W q.1 ∧ MF (below W) W q.2 q.1 0 ∧ Exact W q.2.length q.1 :=
  num_reads (laidMet.reads h (by simp [laidN])) (laidMet.reads h (by simp [laidN])) (laidMet.reads h (by simp [laidN])) (laidMet.reads h (by simp [laidN]))
end Go.Proofs.YtnacjdaoiepbhaaGreatDoor
end
