/- A logic of trees over the model's steps, and the contracts of the functions that the laws reach: part 17 of 20. -/
import Derived.Test.YtigcjinpkngapaaGreatDoorC16
set_option linter.unusedVariables false
set_option linter.unusedSimpArgs false
set_option linter.unusedSectionVars false
section
namespace Go.Proofs.YtigcjinpkngapaaGreatDoor
open Go.Ac Go.MapKept
attribute [local irreducible] awp awpL Ev Ev2 EvS thenQ blockQ retQ PCalls OCalls
variable {g : List (Nat × List AV)}
set_option maxRecDepth 8000 in
set_option maxHeartbeats 8000000 in
theorem wCheck_spec (hu : Utf g) (d : Doc) (hl : d.notes.length ≤ 100000) (hlt : d.tiers.length ≤ 1000000) (hk : ∀ n ∈ d.notes, n.rank ≤ 9223372036854775807) : PCalls Tryz.prog g 20 [.agg (docC d)] (vi (docE d)) := by
  have hT := wTiers_spec (g := g) d.tiers
  have n1 : (!true) = false := rfl
  have n2 : (!false) = true := rfl
  refine pcalls' Tryz.func20 Tryz.ntmps20 rfl rfl rfl ?_
  unfold docE
  generalize hte : tiersE d.tiers = te at *
  by_cases e0 : te = 0
  case neg =>
    have c0 : (!decide (te = 0)) = true := by rw [decide_eq_false e0]; rfl
    rw [if_pos e0]
    repeat' (first
     | refine stn [] ?_
     | ((with_reducible refine is_gd ?_); refine awpL_split rfl rfl (fun h => ?_) (fun h => ?_))
     | ((with_reducible refine is_awp ?_); refine awp_cond rfl (fun h => ?_) (fun h => ?_))
     | fail)
    exact retP rfl rfl
  have c0 : (!decide (te = 0)) = false := by rw [decide_eq_true e0]; rfl
  rw [if_neg (by simpa using e0)]
  by_cases l1 : d.rec_.length < 0
  · have c1 : decide (d.rec_.length < 0) = true := decide_eq_true l1
    rw [if_pos (.inl l1)]
    repeat' (first
     | refine stn [] ?_
     | ((with_reducible refine is_gd ?_); refine awpL_split rfl rfl (fun h => ?_) (fun h => ?_))
     | ((with_reducible refine is_awp ?_); refine awp_cond rfl (fun h => ?_) (fun h => ?_))
     | fail)
    exact retP rfl rfl
  have c1 : decide (d.rec_.length < 0) = false := decide_eq_false l1
  by_cases l2 : 86400000 < d.rec_.length
  · have c2 : decide (86400000 < d.rec_.length) = true := decide_eq_true l2
    rw [if_pos (.inr l2)]
    repeat' (first
     | refine stn [] ?_
     | ((with_reducible refine is_gd ?_); refine awpL_split rfl rfl (fun h => ?_) (fun h => ?_))
     | ((with_reducible refine is_awp ?_); refine awp_cond rfl (fun h => ?_) (fun h => ?_))
     | fail)
    exact retP rfl rfl
  have c2 : decide (86400000 < d.rec_.length) = false := decide_eq_false l2
  rw [if_neg (by omega)]
  by_cases l3 : 300 < d.notes.length
  · have c3 : decide ((300 : Int) < d.notes.length) = true := decide_eq_true (by omega)
    rw [if_pos l3]
    repeat' (first
     | refine stn [] ?_
     | ((with_reducible refine is_gd ?_); refine awpL_split rfl rfl (fun h => ?_) (fun h => ?_))
     | ((with_reducible refine is_awp ?_); refine awp_cond rfl (fun h => ?_) (fun h => ?_))
     | fail)
    exact retP rfl rfl
  have c3 : decide ((300 : Int) < d.notes.length) = false := decide_eq_false (by omega)
  rw [if_neg l3]
  have hB := wById_spec (g := g) d (by omega)
  have hm := idM_nd d.notes d.notes.length
  have hgt := fun id => idM_get d.notes id
  generalize idM d.notes d.notes.length = m at *
  repeat' (first
   | refine stn [] ?_
   | ((with_reducible refine is_gd ?_); refine awpL_split rfl rfl (fun h => ?_) (fun h => ?_))
   | ((with_reducible refine is_awp ?_); refine awp_cond rfl (fun h => ?_) (fun h => ?_))
   | fail)
  refine awp_for (α := Nat) 0 (fun k => [(1, .fp (docC d)), (4, .fm (nks m) (nxs m)), (33, encNotes d.notes), (34, vi d.notes.length), (35, vi k)]) (fun _ => []) (fun k => k ≤ d.notes.length ∧ notesE d none d.notes = notesE d (prevN d k) (d.notes.drop k) ∧ ∀ n ∈ d.notes.take k, 0 ≤ n.rank) (fun k => d.notes.length - k) 0
    ⟨(.cons rfl rfl (.cons rfl rfl (.cons rfl rfl (.cons rfl rfl (.cons rfl rfl .nil))))), rfl, rfl, rfl⟩ ⟨Nat.zero_le _, rfl, by simp⟩ ?_
  rintro k ⟨hk2, hf, hrk⟩
  cases hx : d.notes[k]? with
  | some x =>
    have hlt2 : k < d.notes.length := (List.getElem?_eq_some_iff.1 hx).1
    have d1 : decide ((k : Int) < d.notes.length) = true := decide_eq_true (by omega)
    have g1 := note_get hx
    rw [notesE_drop (d := d) (p := prevN d k) hx] at hf
    have hps := prevN_succ hx
    by_cases i1 : x.id < 1
    · have f1 : decide (x.id < 1) = true := decide_eq_true i1
      have he : noteE d (prevN d k) x = 2 := by unfold noteE; rw [if_pos (.inl i1)]
      rw [he, if_pos (by decide)] at hf
      rw [hf, if_pos (by decide)]
      repeat' (first
       | refine stn [] ?_
       | ((with_reducible refine is_gd ?_); refine awpL_split rfl rfl (fun h => ?_) (fun h => ?_))
       | ((with_reducible refine is_awp ?_); refine awp_cond rfl (fun h => ?_) (fun h => ?_))
       | fail)
      exact retP rfl rfl
    have f1 : decide (x.id < 1) = false := decide_eq_false i1
    by_cases i2 : 1099511627776 < x.id
    · have f2 : decide ((1099511627776 : Int) < x.id) = true := decide_eq_true i2
      have he : noteE d (prevN d k) x = 2 := by unfold noteE; rw [if_pos (.inr i2)]
      rw [he, if_pos (by decide)] at hf
      rw [hf, if_pos (by decide)]
      repeat' (first
       | refine stn [] ?_
       | ((with_reducible refine is_gd ?_); refine awpL_split rfl rfl (fun h => ?_) (fun h => ?_))
       | ((with_reducible refine is_awp ?_); refine awp_cond rfl (fun h => ?_) (fun h => ?_))
       | fail)
      exact retP rfl rfl
    have f2 : decide ((1099511627776 : Int) < x.id) = false := decide_eq_false i2
    repeat' (first
     | refine stn [] ?_
     | ((with_reducible refine is_gd ?_); refine awpL_split rfl rfl (fun h => ?_) (fun h => ?_))
     | ((with_reducible refine is_awp ?_); refine awp_cond rfl (fun h => ?_) (fun h => ?_))
     | fail)
    refine awp_cut 0 [(1, .fp (docC d)), (4, .fm (nks m) (nxs m)), (33, encNotes d.notes), (34, vi d.notes.length), (35, vi k), (5, vi k), (6, .fp (noteC x)), (61, vb (lateB (prevN d k) x))] [] ?_ ?_
    · by_cases k0 : k = 0
      · subst k0
        have d2 : decide ((0 : Int) < ((0 : Nat) : Int)) = false := rfl
        have hla : lateB (prevN d 0) x = false := rfl
        rw [hla]
        repeat' (first
         | refine st [] ?_
         | ((with_reducible refine is_gd ?_); refine awpL_split rfl rfl (fun h => ?_) (fun h => ?_))
         | ((with_reducible refine isD_gd ?_); ((fail_if_success (refine isD_kn (c := true) rfl qa0 ?_)); (fail_if_success (refine isD_kn (c := false) rfl qa0 ?_)); refine awpD_split rfl (fun h => ?_) (fun h => ?_)))
         | ((with_reducible refine is_awp ?_); refine awp_cond rfl (fun h => ?_) (fun h => ?_))
         | fail)
        exact ⟨(.cons rfl rfl (.cons rfl rfl (.cons rfl rfl (.cons rfl rfl (.cons rfl rfl (.cons rfl rfl (.cons rfl rfl (.cons rfl rfl .nil)))))))), rfl, rfl, rfl⟩
      · obtain ⟨p, hp⟩ : ∃ p, d.notes[k - 1]? = some p := ⟨_, List.getElem?_eq_getElem (by omega)⟩
        have d2 : decide ((0 : Int) < (k : Int)) = true := decide_eq_true (by omega)
        have hpv : prevN d k = some p := by unfold prevN; rw [if_neg k0, hp]
        have ip : 0 ≤ (k : Int) - 1 ∧ (d.notes.map noteC)[((k : Int) - 1).toNat]? = some (noteC p) := ⟨by omega, by rw [show ((k : Int) - 1).toNat = k - 1 by omega]; simp [hp]⟩
        have hla : lateB (prevN d k) x = decide (x.id ≤ p.id) := by rw [hpv]; rfl
        rw [hla]
        repeat' (first
         | refine st [] ?_
         | ((with_reducible refine is_gd ?_); refine awpL_split rfl rfl (fun h => ?_) (fun h => ?_))
         | ((with_reducible refine isD_gd ?_); ((fail_if_success (refine isD_kn (c := true) rfl qa0 ?_)); (fail_if_success (refine isD_kn (c := false) rfl qa0 ?_)); refine awpD_split rfl (fun h => ?_) (fun h => ?_)))
         | ((with_reducible refine is_awp ?_); refine awp_cond rfl (fun h => ?_) (fun h => ?_))
         | fail)
        exact ⟨(.cons rfl rfl (.cons rfl rfl (.cons rfl rfl (.cons rfl rfl (.cons rfl rfl (.cons rfl rfl (.cons rfl rfl (.cons rfl rfl .nil)))))))), rfl, rfl, rfl⟩
    have hid : ¬ (x.id < 1 ∨ 1099511627776 < x.id) := by omega
    cases hla : lateB (prevN d k) x with
    | true =>
      have he : noteE d (prevN d k) x = 10 := by unfold noteE; rw [if_neg hid, if_pos hla]
      rw [he, if_pos (by decide)] at hf
      rw [hf, if_pos (by decide)]
      repeat' (first
       | refine stn [] ?_
       | ((with_reducible refine is_gd ?_); refine awpL_split rfl rfl (fun h => ?_) (fun h => ?_))
       | ((with_reducible refine is_awp ?_); refine awp_cond rfl (fun h => ?_) (fun h => ?_))
       | fail)
      exact retP rfl rfl
    | false =>
    cases htr : tierAt d.tiers x.tier with
    | none =>
      have he : noteE d (prevN d k) x = 2 := by unfold noteE; rw [if_neg hid, if_neg (by rw [hla]; simp), htr]
      rw [he, if_pos (by decide)] at hf
      rw [hf, if_pos (by decide)]
      rcases tier_none htr with q | ⟨q1, q2⟩
      · have f3 : decide (x.tier < 0) = true := decide_eq_true q
        repeat' (first
         | refine stn [] ?_
         | ((with_reducible refine is_gd ?_); refine awpL_split rfl rfl (fun h => ?_) (fun h => ?_))
         | ((with_reducible refine is_awp ?_); refine awp_cond rfl (fun h => ?_) (fun h => ?_))
         | fail)
        exact retP rfl rfl
      · have f3 : decide (x.tier < 0) = false := decide_eq_false (by omega)
        have f4 : decide ((d.tiers.length : Int) ≤ x.tier) = true := decide_eq_true q2
        repeat' (first
         | refine stn [] ?_
         | ((with_reducible refine is_gd ?_); refine awpL_split rfl rfl (fun h => ?_) (fun h => ?_))
         | ((with_reducible refine is_awp ?_); refine awp_cond rfl (fun h => ?_) (fun h => ?_))
         | fail)
        exact retP rfl rfl
    | some t =>
      obtain ⟨q1, q2, q3⟩ := tier_get htr
      have f3 : decide (x.tier < 0) = false := decide_eq_false (by omega)
      have f4 : decide ((d.tiers.length : Int) ≤ x.tier) = false := decide_eq_false (by omega)
      have he : noteE d (prevN d k) x = if textE x.text ≠ 0 then textE x.text else placedE d t x := by unfold noteE; rw [if_neg hid, if_neg (by rw [hla]; simp), htr]
      have hNo := wNote_spec hu d m hm hgt x t htr hlt
      rw [← he] at hNo
      have hz : noteE d (prevN d k) x = 0 → 0 ≤ x.rank := fun h => by
        obtain ⟨_, _, _, t2, h1, h2⟩ := noteE_zero h
        exact (placedE_zero h2).r
      generalize noteE d (prevN d k) x = e at *
      by_cases ee : e = 0
      · have f5 : (!decide (e = 0)) = false := by rw [decide_eq_true ee]; rfl
        rw [if_neg (by simpa using ee)] at hf
        repeat' (first
         | refine stn [] ?_
         | ((with_reducible refine is_gd ?_); refine awpL_split rfl rfl (fun h => ?_) (fun h => ?_))
         | ((with_reducible refine is_awp ?_); refine awp_cond rfl (fun h => ?_) (fun h => ?_))
         | fail)
        refine ⟨k + 1, ⟨(.cons rfl rfl (.cons rfl rfl (.cons rfl rfl (.cons rfl rfl (.cons rfl rfl .nil))))), rfl, rfl, rfl⟩, ⟨by omega, by rw [hf, hps], fun n hn => ?_⟩, by omega⟩
        rw [List.take_add_one, hx] at hn
        rcases List.mem_append.1 hn with hn | hn
        · exact hrk n hn
        · simp only [Option.toList_some, List.mem_singleton] at hn
          rw [hn]; exact hz ee
      · have f5 : (!decide (e = 0)) = true := by rw [decide_eq_false ee]; rfl
        rw [if_pos ee] at hf
        rw [hf, if_pos ee]
        repeat' (first
         | refine stn [] ?_
         | ((with_reducible refine is_gd ?_); refine awpL_split rfl rfl (fun h => ?_) (fun h => ?_))
         | ((with_reducible refine is_awp ?_); refine awp_cond rfl (fun h => ?_) (fun h => ?_))
         | fail)
        exact retP rfl rfl
  | none =>
    have hge : d.notes.length ≤ k := by simpa using hx
    have d1 : decide ((k : Int) < d.notes.length) = false := decide_eq_false (by omega)
    rw [List.drop_of_length_le hge] at hf
    rw [List.take_of_length_le hge] at hrk
    have hf : notesE d none d.notes = 0 := by rw [hf]; rfl
    rw [if_neg (by simpa using hf)]
    have hT0 : tiersE d.tiers = 0 := hte.trans e0
    repeat' (first
     | refine stn [] ?_
     | ((with_reducible refine is_gd ?_); refine awpL_split rfl rfl (fun h => ?_) (fun h => ?_))
     | ((with_reducible refine is_awp ?_); refine awp_cond rfl (fun h => ?_) (fun h => ?_))
     | fail)
    refine awp_for (α := Nat) 0 (fun k => [(1, .fp (docC d)), (4, .fm (nks m) (nxs m)), (83, vi d.tiers.length), (84, vi k)]) (fun _ => []) (fun k => k ≤ d.tiers.length ∧ eachE d d.tiers.length 0 = eachE d (d.tiers.length - k) k) (fun k => d.tiers.length - k) 0
      ⟨(.cons rfl rfl (.cons rfl rfl (.cons rfl rfl (.cons rfl rfl .nil)))), rfl, rfl, rfl⟩ ⟨Nat.zero_le _, rfl⟩ ?_
    rintro j ⟨hj, hg⟩
    cases hy : d.tiers[j]? with
    | some t =>
      have hlt2 : j < d.tiers.length := (List.getElem?_eq_some_iff.1 hy).1
      have f1 : decide ((j : Int) < d.tiers.length) = true := decide_eq_true (by omega)
      have hE := wTier_spec (g := g) d hT0 hf m hm hgt j t hy hl (fun n hn => ⟨hrk n hn, hk n hn⟩)
      have hdr := eachE_step hlt2
      generalize tierE d (j : Int) = e at *
      by_cases ee : e = 0
      · have d2 : (!decide (e = 0)) = false := by simp [ee]
        rw [if_neg (by simpa using ee)] at hdr
        repeat' (first
         | refine stn [] ?_
         | ((with_reducible refine is_gd ?_); refine awpL_split rfl rfl (fun h => ?_) (fun h => ?_))
         | ((with_reducible refine is_awp ?_); refine awp_cond rfl (fun h => ?_) (fun h => ?_))
         | fail)
        exact ⟨j + 1, ⟨(.cons rfl rfl (.cons rfl rfl (.cons rfl rfl (.cons rfl rfl .nil)))), rfl, rfl, rfl⟩, ⟨by omega, by rw [hg, hdr]⟩, by omega⟩
      · have d2 : (!decide (e = 0)) = true := by simp [ee]
        rw [if_pos ee] at hdr
        rw [hg, hdr]
        repeat' (first
         | refine stn [] ?_
         | ((with_reducible refine is_gd ?_); refine awpL_split rfl rfl (fun h => ?_) (fun h => ?_))
         | ((with_reducible refine is_awp ?_); refine awp_cond rfl (fun h => ?_) (fun h => ?_))
         | fail)
        exact retP rfl rfl
    | none =>
      have hge : d.tiers.length ≤ j := by simpa using hy
      have f1 : decide ((j : Int) < d.tiers.length) = false := decide_eq_false (by omega)
      rw [hg, show d.tiers.length - j = 0 by omega]
      repeat' (first
       | refine stn [] ?_
       | ((with_reducible refine is_gd ?_); refine awpL_split rfl rfl (fun h => ?_) (fun h => ?_))
       | ((with_reducible refine is_awp ?_); refine awp_cond rfl (fun h => ?_) (fun h => ?_))
       | fail)
      exact retP rfl rfl
end Go.Proofs.YtigcjinpkngapaaGreatDoor
end
section
namespace Go.Proofs.YtigcjinpkngapaaGreatDoor
open Go.Ac
attribute [local irreducible] awp awpL Ev Ev2 EvS thenQ blockQ retQ PCalls OCalls
variable {g : List (Nat × List AV)}
theorem listB {s t : ByteArray} : (s.toList == t.toList) = decide (s = t) := by
  rw [ByteArray.toList_eq, ByteArray.toList_eq, Bool.eq_iff_iff, beq_iff_eq, decide_eq_true_eq]
  constructor
  · intro h; exact (eq_toB s (lst t)).2 h ▸ ((eq_toB t (lst t)).2 rfl).symm
  · rintro rfl; rfl
def tierVs (t : Tier) : List Value := [.string t.name, .int .i64 t.kind, .int .i64 t.role, .int .i64 t.parent]
def noteVs (n : Note) : List Value := [.int .i64 n.id, .int .i64 n.tier, .int .i64 n.parent, .int .i64 n.span.fro, .int .i64 n.span.til, .int .i64 n.rank, .string n.text]
theorem tierEqV_eq (x y : Tier) : tierEqV (tierVs x) (tierVs y) = some (decide (x = y)) := by
  obtain ⟨s, a, b, c⟩ := x
  obtain ⟨s', a', b', c'⟩ := y
  show some (s.toList == s'.toList && (a == a' && (b == b' && c == c'))) = _
  congr 1
  rw [listB, Bool.eq_iff_iff]
  simp only [Tier.mk.injEq, Bool.and_eq_true, decide_eq_true_eq, beq_iff_eq]
theorem noteEq_eq (x y : Note) : noteEq (noteVs x) (noteVs y) = some (decide (x = y)) := by
  obtain ⟨a, b, c, ⟨d, e⟩, f, s⟩ := x
  obtain ⟨a', b', c', ⟨d', e'⟩, f', s'⟩ := y
  show some (a == a' && (b == b' && (c == c' && ((d == d' && e == e') && (f == f' && s.toList == s'.toList))))) = _
  congr 1
  rw [listB, Bool.eq_iff_iff]
  simp only [Note.mk.injEq, Span.mk.injEq, Bool.and_eq_true, decide_eq_true_eq, beq_iff_eq]
theorem docEq {a b : Doc} : a = b ↔ a.rec_.id = b.rec_.id ∧ a.rec_.name = b.rec_.name ∧ a.rec_.length = b.rec_.length ∧ a.rec_.day = b.rec_.day ∧ a.rec_.speakers = b.rec_.speakers ∧ a.tiers = b.tiers ∧ a.notes = b.notes := by
  obtain ⟨⟨a1, a2, a3, a4, a5⟩, a6, a7⟩ := a
  obtain ⟨⟨b1, b2, b3, b4, b5⟩, b6, b7⟩ := b
  simp only [Doc.mk.injEq, Recording.mk.injEq]
  constructor
  · rintro ⟨⟨h1, h2, h3, h4, h5⟩, h6, h7⟩; exact ⟨h1, h2, h3, h4, h5, h6, h7⟩
  · rintro ⟨h1, h2, h3, h4, h5, h6, h7⟩; exact ⟨⟨h1, h2, h3, h4, h5⟩, h6, h7⟩
end Go.Proofs.YtigcjinpkngapaaGreatDoor
end
section
namespace Go.Proofs.YtigcjinpkngapaaGreatDoor
open Go.Ac
attribute [local irreducible] awp awpL Ev Ev2 EvS thenQ blockQ retQ PCalls OCalls
variable {g : List (Nat × List AV)}
set_option maxRecDepth 8000 in
set_option maxHeartbeats 8000000 in
theorem r12Same_spec (a b : Doc) (h1 : a.rec_.speakers.length ≤ 1000000) (h2 : a.tiers.length ≤ 1000000) (h3 : a.notes.length ≤ 1000000) (h4 : b.rec_.speakers.length ≤ 1000000) : PCalls Tryz.prog g 19 [.agg (docC a), .agg (docC b)] (vb (decide (a = b))) := by
  have hI := r12Ints_spec (g := g) a.rec_.speakers b.rec_.speakers h1 h4
  have n1 : (!true) = false := rfl
  have n2 : (!false) = true := rfl
  refine pcalls' Tryz.func19 Tryz.ntmps19 rfl rfl rfl ?_
  by_cases e1 : a.rec_.id = b.rec_.id
  case neg =>
    have c1 : (!decide (a.rec_.id = b.rec_.id)) = true := by rw [decide_eq_false e1]; rfl
    rw [decide_eq_false (fun q => e1 (by rw [q]))]
    repeat' (first
     | refine st [] ?_
     | ((with_reducible refine is_gd ?_); refine awpL_split rfl rfl (fun h => ?_) (fun h => ?_))
     | ((with_reducible refine isD_gd ?_); ((fail_if_success (refine isD_kn (c := true) rfl qa0 ?_)); (fail_if_success (refine isD_kn (c := false) rfl qa0 ?_)); refine awpD_split rfl (fun h => ?_) (fun h => ?_)))
     | ((with_reducible refine is_awp ?_); refine awp_cond rfl (fun h => ?_) (fun h => ?_))
     | fail)
    exact retP rfl rfl
  have c1 : (!decide (a.rec_.id = b.rec_.id)) = false := by rw [decide_eq_true e1]; rfl
  by_cases e2 : a.rec_.name = b.rec_.name
  case neg =>
    have c2 : (!decide (a.rec_.name = b.rec_.name)) = true := by rw [decide_eq_false e2]; rfl
    rw [decide_eq_false (fun q => e2 (by rw [q]))]
    repeat' (first
     | refine st [] ?_
     | ((with_reducible refine is_gd ?_); refine awpL_split rfl rfl (fun h => ?_) (fun h => ?_))
     | ((with_reducible refine isD_gd ?_); ((fail_if_success (refine isD_kn (c := true) rfl qa0 ?_)); (fail_if_success (refine isD_kn (c := false) rfl qa0 ?_)); refine awpD_split rfl (fun h => ?_) (fun h => ?_)))
     | ((with_reducible refine is_awp ?_); refine awp_cond rfl (fun h => ?_) (fun h => ?_))
     | fail)
    exact retP rfl rfl
  have c2 : (!decide (a.rec_.name = b.rec_.name)) = false := by rw [decide_eq_true e2]; rfl
  by_cases e3 : a.rec_.length = b.rec_.length
  case neg =>
    have c3 : (!decide (a.rec_.length = b.rec_.length)) = true := by rw [decide_eq_false e3]; rfl
    rw [decide_eq_false (fun q => e3 (by rw [q]))]
    repeat' (first
     | refine st [] ?_
     | ((with_reducible refine is_gd ?_); refine awpL_split rfl rfl (fun h => ?_) (fun h => ?_))
     | ((with_reducible refine isD_gd ?_); ((fail_if_success (refine isD_kn (c := true) rfl qa0 ?_)); (fail_if_success (refine isD_kn (c := false) rfl qa0 ?_)); refine awpD_split rfl (fun h => ?_) (fun h => ?_)))
     | ((with_reducible refine is_awp ?_); refine awp_cond rfl (fun h => ?_) (fun h => ?_))
     | fail)
    exact retP rfl rfl
  have c3 : (!decide (a.rec_.length = b.rec_.length)) = false := by rw [decide_eq_true e3]; rfl
  by_cases e4 : a.rec_.day = b.rec_.day
  case neg =>
    have c4 : (!decide (a.rec_.day = b.rec_.day)) = true := by rw [decide_eq_false e4]; rfl
    rw [decide_eq_false (fun q => e4 (by rw [q]))]
    repeat' (first
     | refine st [] ?_
     | ((with_reducible refine is_gd ?_); refine awpL_split rfl rfl (fun h => ?_) (fun h => ?_))
     | ((with_reducible refine isD_gd ?_); ((fail_if_success (refine isD_kn (c := true) rfl qa0 ?_)); (fail_if_success (refine isD_kn (c := false) rfl qa0 ?_)); refine awpD_split rfl (fun h => ?_) (fun h => ?_)))
     | ((with_reducible refine is_awp ?_); refine awp_cond rfl (fun h => ?_) (fun h => ?_))
     | fail)
    exact retP rfl rfl
  have c4 : (!decide (a.rec_.day = b.rec_.day)) = false := by rw [decide_eq_true e4]; rfl
  by_cases e5 : a.rec_.speakers = b.rec_.speakers
  case neg =>
    rw [decide_eq_false e5] at hI
    rw [decide_eq_false (fun q => e5 (by rw [q]))]
    repeat' (first
     | refine st [] ?_
     | ((with_reducible refine is_gd ?_); refine awpL_split rfl rfl (fun h => ?_) (fun h => ?_))
     | ((with_reducible refine isD_gd ?_); ((fail_if_success (refine isD_kn (c := true) rfl qa0 ?_)); (fail_if_success (refine isD_kn (c := false) rfl qa0 ?_)); refine awpD_split rfl (fun h => ?_) (fun h => ?_)))
     | ((with_reducible refine is_awp ?_); refine awp_cond rfl (fun h => ?_) (fun h => ?_))
     | fail)
    exact retP rfl rfl
  rw [decide_eq_true e5] at hI
  by_cases e6 : a.tiers.length = b.tiers.length
  case neg =>
    have c6 : (!decide ((a.tiers.length : Int) = b.tiers.length)) = true := by rw [decide_eq_false (by omega)]; rfl
    rw [decide_eq_false (fun q => e6 (by rw [q]))]
    repeat' (first
     | refine st [] ?_
     | ((with_reducible refine is_gd ?_); refine awpL_split rfl rfl (fun h => ?_) (fun h => ?_))
     | ((with_reducible refine isD_gd ?_); ((fail_if_success (refine isD_kn (c := true) rfl qa0 ?_)); (fail_if_success (refine isD_kn (c := false) rfl qa0 ?_)); refine awpD_split rfl (fun h => ?_) (fun h => ?_)))
     | ((with_reducible refine is_awp ?_); refine awp_cond rfl (fun h => ?_) (fun h => ?_))
     | fail)
    exact retP rfl rfl
  have c6 : (!decide ((a.tiers.length : Int) = b.tiers.length)) = false := by rw [decide_eq_true (by omega)]; rfl
  by_cases e7 : a.notes.length = b.notes.length
  case neg =>
    have c7 : (!decide ((a.notes.length : Int) = b.notes.length)) = true := by rw [decide_eq_false (by omega)]; rfl
    rw [decide_eq_false (fun q => e7 (by rw [q]))]
    repeat' (first
     | refine st [] ?_
     | ((with_reducible refine is_gd ?_); refine awpL_split rfl rfl (fun h => ?_) (fun h => ?_))
     | ((with_reducible refine isD_gd ?_); ((fail_if_success (refine isD_kn (c := true) rfl qa0 ?_)); (fail_if_success (refine isD_kn (c := false) rfl qa0 ?_)); refine awpD_split rfl (fun h => ?_) (fun h => ?_)))
     | ((with_reducible refine is_awp ?_); refine awp_cond rfl (fun h => ?_) (fun h => ?_))
     | fail)
    exact retP rfl rfl
  have c7 : (!decide ((a.notes.length : Int) = b.notes.length)) = false := by rw [decide_eq_true (by omega)]; rfl
  have hd : decide (a = b) = (decide (a.tiers = b.tiers) && decide (a.notes = b.notes)) := by
    rw [Bool.eq_iff_iff, Bool.and_eq_true, decide_eq_true_eq, decide_eq_true_eq, decide_eq_true_eq, docEq]
    simp only [e1, e2, e3, e4, e5, true_and]
  rw [hd]
  repeat' (first
   | refine st [] ?_
   | ((with_reducible refine is_gd ?_); refine awpL_split rfl rfl (fun h => ?_) (fun h => ?_))
   | ((with_reducible refine isD_gd ?_); ((fail_if_success (refine isD_kn (c := true) rfl qa0 ?_)); (fail_if_success (refine isD_kn (c := false) rfl qa0 ?_)); refine awpD_split rfl (fun h => ?_) (fun h => ?_)))
   | ((with_reducible refine is_awp ?_); refine awp_cond rfl (fun h => ?_) (fun h => ?_))
   | fail)
  refine awp_for (α := Nat) 0 (fun k => [(2, .fp (docC a)), (3, .fp (docC b)), (7, vi k)]) (fun _ => []) (fun k => k ≤ a.tiers.length ∧ a.tiers.take k = b.tiers.take k) (fun k => a.tiers.length - k) 0
    ⟨(.cons rfl rfl (.cons rfl rfl (.cons rfl rfl .nil))), rfl, rfl, rfl⟩ ⟨Nat.zero_le _, by simp⟩ ?_
  rintro k ⟨hk, hf⟩
  cases ht : a.tiers[k]? with
  | some n =>
    have hlt : k < a.tiers.length := (List.getElem?_eq_some_iff.1 ht).1
    have d1 : decide ((k : Int) < a.tiers.length) = true := decide_eq_true (by omega)
    obtain ⟨m, hm⟩ : ∃ m, b.tiers[k]? = some m := ⟨_, List.getElem?_eq_getElem (by omega)⟩
    have ik := tierC_get ht
    have im := tierC_get hm
    have hEq := tierEqV_eq n m
    by_cases e : n = m
    · rw [decide_eq_true e] at hEq
      repeat' (first
       | ((with_reducible refine isD_un ?_); refine awpD_un (as_ev (fun _ => ev_neA (b := true) tierEqV_T (by kernel_rfl) rfl rfl rfl rfl (by rw [← hEq]; rfl)) rfl rfl) qb0 ?_)
       | ((with_reducible refine isD_gd ?_); refine awpD_gd rfl rfl qa0 (as_ev (fun _ => ev_neA (b := true) tierEqV_T (by kernel_rfl) rfl rfl rfl rfl (by rw [← hEq]; rfl)) rfl rfl) qb0 ?_)
       | refine st [] ?_
       | ((with_reducible refine is_gd ?_); refine awpL_split rfl rfl (fun h => ?_) (fun h => ?_))
       | ((with_reducible refine isD_gd ?_); ((fail_if_success (refine isD_kn (c := true) rfl qa0 ?_)); (fail_if_success (refine isD_kn (c := false) rfl qa0 ?_)); refine awpD_split rfl (fun h => ?_) (fun h => ?_)))
       | ((with_reducible refine is_awp ?_); refine awp_cond rfl (fun h => ?_) (fun h => ?_))
       | fail)
      refine ⟨k + 1, ⟨(.cons rfl rfl (.cons rfl rfl (.cons rfl rfl .nil))), rfl, rfl, rfl⟩, ⟨by omega, ?_⟩, by omega⟩
      rw [List.take_add_one, List.take_add_one, hf, ht, hm, e]
    · rw [decide_eq_false e] at hEq
      have hne : a.tiers ≠ b.tiers := fun q => by rw [q, hm] at ht; exact e (Option.some.inj ht).symm
      rw [decide_eq_false hne, Bool.false_and]
      repeat' (first
       | ((with_reducible refine isD_un ?_); refine awpD_un (as_ev (fun _ => ev_neA (b := false) tierEqV_T (by kernel_rfl) rfl rfl rfl rfl (by rw [← hEq]; rfl)) rfl rfl) qb0 ?_)
       | ((with_reducible refine isD_gd ?_); refine awpD_gd rfl rfl qa0 (as_ev (fun _ => ev_neA (b := false) tierEqV_T (by kernel_rfl) rfl rfl rfl rfl (by rw [← hEq]; rfl)) rfl rfl) qb0 ?_)
       | refine st [] ?_
       | ((with_reducible refine is_gd ?_); refine awpL_split rfl rfl (fun h => ?_) (fun h => ?_))
       | ((with_reducible refine isD_gd ?_); ((fail_if_success (refine isD_kn (c := true) rfl qa0 ?_)); (fail_if_success (refine isD_kn (c := false) rfl qa0 ?_)); refine awpD_split rfl (fun h => ?_) (fun h => ?_)))
       | ((with_reducible refine is_awp ?_); refine awp_cond rfl (fun h => ?_) (fun h => ?_))
       | fail)
      exact retP rfl rfl
  | none =>
    have hge : a.tiers.length ≤ k := by simpa using ht
    have d1 : decide ((k : Int) < a.tiers.length) = false := decide_eq_false (by omega)
    rw [List.take_of_length_le hge, List.take_of_length_le (by omega)] at hf
    rw [decide_eq_true hf, Bool.true_and]
    repeat' (first
     | refine stn [] ?_
     | ((with_reducible refine is_gd ?_); refine awpL_split rfl rfl (fun h => ?_) (fun h => ?_))
     | ((with_reducible refine is_awp ?_); refine awp_cond rfl (fun h => ?_) (fun h => ?_))
     | fail)
    refine awp_for (α := Nat) 0 (fun k => [(2, .fp (docC a)), (3, .fp (docC b)), (8, vi k)]) (fun _ => []) (fun k => k ≤ a.notes.length ∧ a.notes.take k = b.notes.take k) (fun k => a.notes.length - k) 0
      ⟨(.cons rfl rfl (.cons rfl rfl (.cons rfl rfl .nil))), rfl, rfl, rfl⟩ ⟨Nat.zero_le _, by simp⟩ ?_
    rintro j ⟨hj, hg⟩
    cases hu : a.notes[j]? with
    | some n =>
      have hlt : j < a.notes.length := (List.getElem?_eq_some_iff.1 hu).1
      have d2 : decide ((j : Int) < a.notes.length) = true := decide_eq_true (by omega)
      obtain ⟨m, hm⟩ : ∃ m, b.notes[j]? = some m := ⟨_, List.getElem?_eq_getElem (by omega)⟩
      have ik := note_get hu
      have im := note_get hm
      have hEq := noteEq_eq n m
      by_cases e : n = m
      · rw [decide_eq_true e] at hEq
        repeat' (first
         | ((with_reducible refine isD_un ?_); refine awpD_un (as_ev (fun _ => ev_neA (b := true) noteEq_T (by kernel_rfl) rfl rfl rfl rfl (by rw [← hEq]; rfl)) rfl rfl) qb0 ?_)
         | ((with_reducible refine isD_gd ?_); refine awpD_gd rfl rfl qa0 (as_ev (fun _ => ev_neA (b := true) noteEq_T (by kernel_rfl) rfl rfl rfl rfl (by rw [← hEq]; rfl)) rfl rfl) qb0 ?_)
         | refine st [] ?_
         | ((with_reducible refine is_gd ?_); refine awpL_split rfl rfl (fun h => ?_) (fun h => ?_))
         | ((with_reducible refine isD_gd ?_); ((fail_if_success (refine isD_kn (c := true) rfl qa0 ?_)); (fail_if_success (refine isD_kn (c := false) rfl qa0 ?_)); refine awpD_split rfl (fun h => ?_) (fun h => ?_)))
         | ((with_reducible refine is_awp ?_); refine awp_cond rfl (fun h => ?_) (fun h => ?_))
         | fail)
        refine ⟨j + 1, ⟨(.cons rfl rfl (.cons rfl rfl (.cons rfl rfl .nil))), rfl, rfl, rfl⟩, ⟨by omega, ?_⟩, by omega⟩
        rw [List.take_add_one, List.take_add_one, hg, hu, hm, e]
      · rw [decide_eq_false e] at hEq
        have hne : a.notes ≠ b.notes := fun q => by rw [q, hm] at hu; exact e (Option.some.inj hu).symm
        rw [decide_eq_false hne]
        repeat' (first
         | ((with_reducible refine isD_un ?_); refine awpD_un (as_ev (fun _ => ev_neA (b := false) noteEq_T (by kernel_rfl) rfl rfl rfl rfl (by rw [← hEq]; rfl)) rfl rfl) qb0 ?_)
         | ((with_reducible refine isD_gd ?_); refine awpD_gd rfl rfl qa0 (as_ev (fun _ => ev_neA (b := false) noteEq_T (by kernel_rfl) rfl rfl rfl rfl (by rw [← hEq]; rfl)) rfl rfl) qb0 ?_)
         | refine st [] ?_
         | ((with_reducible refine is_gd ?_); refine awpL_split rfl rfl (fun h => ?_) (fun h => ?_))
         | ((with_reducible refine isD_gd ?_); ((fail_if_success (refine isD_kn (c := true) rfl qa0 ?_)); (fail_if_success (refine isD_kn (c := false) rfl qa0 ?_)); refine awpD_split rfl (fun h => ?_) (fun h => ?_)))
         | ((with_reducible refine is_awp ?_); refine awp_cond rfl (fun h => ?_) (fun h => ?_))
         | fail)
        exact retP rfl rfl
    | none =>
      have hge : a.notes.length ≤ j := by simpa using hu
      have d2 : decide ((j : Int) < a.notes.length) = false := decide_eq_false (by omega)
      rw [List.take_of_length_le hge, List.take_of_length_le (by omega)] at hg
      rw [decide_eq_true hg]
      repeat' (first
       | refine stn [] ?_
       | ((with_reducible refine is_gd ?_); refine awpL_split rfl rfl (fun h => ?_) (fun h => ?_))
       | ((with_reducible refine is_awp ?_); refine awp_cond rfl (fun h => ?_) (fun h => ?_))
       | fail)
      exact retP rfl rfl
end Go.Proofs.YtigcjinpkngapaaGreatDoor
end
section
namespace Go.Ac
def NCalls (P : Program) (g : List (Nat × List AV)) (f : FuncId) (args : List AV) (r : AV) : Prop :=
  Callable P f ∧ ∀ (F : Nat → Prop) (w : World) (vs : Array Value), St (Glo.of g) (Cx.bare F w) [] → TF F w args vs.toList →
    CallsIn Fence.wide 0 P f vs w fun e w' => ∃ y F', e = .returned y ∧ RF (fun b => w.heap.size ≤ b ∧ b < w'.heap.size) w' r y ∧ Ext (Cx.bare F w) (Cx.bare F' w')
theorem new_st {g : List (Nat × List AV)} {F F1 F' : Nat → Prop} {w w' : World} (st : St (Glo.of g) (Cx.bare F w) []) (ex : Ext (Cx.bare F1 w) (Cx.bare F' w')) :
    St (Glo.of g) (Cx.bare (fun b => F b ∨ w.heap.size ≤ b ∧ b < w'.heap.size) w') [] ∧ Ext (Cx.bare F w) (Cx.bare (fun b => F b ∨ w.heap.size ≤ b ∧ b < w'.heap.size) w') := by
  have hF : ∀ b, F b → b < w.heap.size := st.inF
  have hb : ∀ b, b < w.heap.size → w'.heap[b]? = w.heap[b]? := fun b hb => ex.keep b hb (fun h => h) (fun ⟨k, h⟩ => by simp [Cx.bare] at h)
  have hk : ∀ b, F b → w'.heap[b]? = w.heap[b]? := fun b h => hb b (hF b h)
  have hz : w.heap.size ≤ w'.heap.size := ex.size
  refine ⟨⟨fun k h => h.elim, fun k x h => by simp at h, fun b h => h.elim (fun h => Nat.lt_of_lt_of_le (hF b h) hz) (fun h => h.2), fun k b h => by simp [Cx.bare] at h, fun k k' b h => by simp [Cx.bare] at h, fun k x h => by simp at h,
    fun p hp => ?_, fun b h => h.elim, List.nodup_nil, .inl rfl, fun r h => by simp [Cx.bare] at h, .inl rfl⟩,
    ⟨ex.os, ex.tape, ex.output, hz, fun b h => h.elim .inl (fun h => .inr (.inr h.1)), fun b ⟨j, h⟩ => by simp [Cx.bare] at h, fun b h => h.elim, fun r h => by simp [Cx.bare] at h, fun b h1 _ _ => hb b h1, rfl, ?_⟩⟩
  · obtain ⟨h1, h2, h3⟩ := st.glob p hp
    exact ⟨.inl h1, MF.mono (F := F) (w := w) (fun b h => .inl h) hk p.2 p.1 0 (hk p.1 h1) h2, h3.keep (hk p.1 h1)⟩
  · refine ⟨fun b h => .inl h, fun b h => hk b h, fun k h => h.elim, fun k h => h.elim, fun k h => h.elim, fun k h => h.elim, fun k h => h.elim, fun k b arr T h => h.elim⟩
theorem NCalls.toP {P : Program} {g : List (Nat × List AV)} {f : FuncId} {args : List AV} {r : AV} (h : NCalls P g f args r) : PCalls P g f args r := by
  refine ⟨h.1, fun F w vs st ha => (h.2 F w vs st ha).mono ?_⟩
  rintro e w' ⟨y, F', rfl, hr, ex⟩
  obtain ⟨s1, s2⟩ := new_st st ex
  exact ⟨y, _, rfl, RF.mono (F' := fun b => F b ∨ w.heap.size ≤ b ∧ b < w'.heap.size) (fun b h => .inr h) (fun _ _ => rfl) _ _ hr, s1, s2⟩
inductive NewR (L : List LB) : AV → AV → Prop
  | own {k v E sz : Nat} {es : List (List AV)} {z : Value} (hk : L[k]? = some (.own v E sz es)) (hs : (es.all fun e => e.all scal) = true) : NewR L (.tup [.os k v, .v z]) (.tup [.fs sz es.length es, .v z])
  | none {sz : Nat} {z : Value} : NewR L (.tup [.v (.slice none 0 0), .v z]) (.tup [.fs sz 0 [], .v z])
section
variable {P : Program} {td : TDs} [T : TOK P td] {G : Glo} {N : Nat}
theorem ncalls {g : List (Nat × List AV)} {f : FuncId} {fn : Func} {c : Code} {args : List AV} {r : AV} (hf : P.funcs[f]? = some fn) (hn : fn.ntmps = N) (hb : fn.body = some c) (hN : Nat.ble args.length N = true) (hname : (fn.name == "runtime.NumGoroutine") = false)
    (h : awp P (Glo.of g) N c (retQ td fn.results.toList fun r' L' => NewR L' r' r) (argS 0 args) []) : NCalls P g f args r := by
  refine ⟨⟨fn, hf, by rw [hb]; rfl, hname⟩, fun F w vs st ha => ?_⟩
  refine (body_wp (P := P) hf hb hn (Nat.le_of_ble_eq_true hN) rfl h st rfl (TR.of_TF _ _ _ ha)).mono ?_
  rintro e w' ⟨y, r', L', c2, rfl, hq, st2, hr, he, rfl⟩
  refine ⟨y, allF c2, rfl, ?_, he.toBare⟩
  have hnew : ∀ b, rng c2 b → w.heap.size ≤ b ∧ b < c2.w.heap.size := fun b hb => by
    obtain ⟨k, hk⟩ := hb
    refine ⟨?_, (st2.loc k b hk).2.2⟩
    rcases he.newφ b ⟨k, hk⟩ with ⟨j, hj⟩ | h
    · simp [Cx.bare] at hj
    · exact h
  cases hq with
  | none =>
    simp only [R, TR] at hr
    obtain ⟨xs, rfl, y1, s1, hx, rfl, y2, s2, rfl, rfl, rfl⟩ := hr
    simp only [RF, TF]
    exact ⟨xs, rfl, _, _, hx, ⟨rfl, none, 0, rfl, Nat.le_refl _, fun h => absurd rfl h⟩, _, _, rfl, rfl, rfl⟩
  | own hk hs =>
    rename_i k v E sz es z
    have hbk := st2.blk k _ hk
    simp only [BR] at hbk
    obtain ⟨b0, b1, b2, hbk⟩ := hbk
    simp only [R, TR] at hr
    obtain ⟨xs, rfl, y1, s1, hx, ⟨o1, o2, o3, o4⟩, y2, s2, rfl, rfl, rfl⟩ := hr
    have o4 := o4 b0
    simp only [RF, TF]
    refine ⟨xs, rfl, _, _, hx, ⟨trivial, ?_⟩, _, _, rfl, rfl, rfl⟩
    rcases hbk with ⟨e1, e2⟩ | ⟨b, arr, e1, e2, e3, e4⟩
    · subst e2
      rcases o4 with ⟨_, h, _⟩ | ⟨b, _, _, _, h, _⟩
      · exact ⟨none, 0, h, Nat.le_refl _, fun h => absurd rfl h⟩
      · rw [e1] at h; cases h
    · rcases o4 with ⟨q1, h, q3⟩ | ⟨b', cap, _, _, h, h2, _, h4, _⟩
      · rw [e1] at q3; cases q3
      · rw [e1] at h; cases h
        refine ⟨some ⟨b, 0, none⟩, cap, by rw [h2, b2], by rw [← b2]; exact h4, fun _ => ⟨b, 0, rfl, hnew b ⟨k, e1⟩, EF.mk fun i e hie => ?_⟩⟩
        obtain ⟨g1, g2⟩ := e4.get hie
        refine ⟨g1, MF.mk fun c x hcx => ?_⟩
        obtain ⟨u, u1, u2, u3⟩ := g2.get hcx
        have hsx : scal x = true := List.all_eq_true.1 (List.all_eq_true.1 hs e (List.mem_of_getElem? hie)) x (List.mem_of_getElem? hcx)
        exact ⟨u, u1, scal_RF hsx u2, u3⟩
variable {Q : AQ} {S Sb D : SL} {L : List LB} {ty : TypeId} {nb i : Nat} {af : Array Edge} {W : DW}
theorem pev_callN {f : FuncId} {us : Array Operand} {ats : Array TypeId} {args args' : List AV} {r : AV} (hargs : vals G S us.toList = some args) (hex : exL L args = args') (h : NCalls P G.g f args' r) :
    PEv P G N (.call { callee := .value (.func f), args := us, argTypes := ats }) ty S L r L := by
  subst hex
  intro o ho ht cx a hc K Q hK
  have ha := exL_TR hc.st args _ (vals_R hc hargs)
  refine wpIn_of_run (by rw [ho]; rfl) ?_
  rw [run_call h.1 (o := o) ho a cx.w, Oper.uponIn_enter]
  refine ⟨fun h => by simp at h, CallsIn.mono (h.2 (allF cx) cx.w (us.map a.eval) hc.st.freeze (by simpa using ha)) ?_⟩
  rintro e w' ⟨y, F', rfl, hr, ex⟩
  obtain ⟨s1, s2⟩ := new_st hc.st.bare ex
  exact hK y { cx with F := fun b => cx.F b ∨ cx.w.heap.size ≤ b ∧ b < w'.heap.size, w := w' } (R.of_RF _ _ _ (RF.mono (F' := fun b => cx.F b ∨ cx.w.heap.size ≤ b ∧ b < w'.heap.size) (fun b h => .inr h) (fun _ _ => rfl) _ _ hr)) (hc.st.after s2 s1)
theorem as_callN {f : FuncId} {us : Array Operand} {ats : Array TypeId} {args args' : List AV} {x : AV} {M : List LB} {T' : TL} (hq : W.sq = false) (hM : Msk af.toList nb W.L W.T M) (hargs : vals G (pvS af D Sb) us.toList = some args) (hex : exL M args = args') (h : NCalls P G.g f args' x) (hx : noid (okid M nb) x = true) (hT : addT af.toList i W.T = T') :
    AStep P G N Sb nb i (.call { callee := .value (.func f), args := us, argTypes := ats }) ty af D W x ⟨W.L, T', i :: W.Z, false⟩ := .pure hq hM (pev_callN hargs hex h) hx hT
end
end Go.Ac
end
section
namespace Go.Proofs.YtigcjinpkngapaaGreatDoor
open Go.Ac
attribute [local irreducible] awp awpL Ev Ev2 EvS thenQ blockQ retQ PCalls OCalls
variable {g : List (Nat × List AV)}
def numsP : List ByteArray → Option (List Int)
  | [] => some []
  | s :: r => match numP s with
    | none => none
    | some n => (numsP r).map (n :: ·)
theorem numsP_len : ∀ {l : List ByteArray} {m : List Int}, numsP l = some m → m.length = l.length
  | [], m, h => by simp [numsP] at h; subst h; rfl
  | s :: r, m, h => by
    rw [numsP] at h
    cases hs : numP s with
    | none => rw [hs] at h; cases h
    | some n =>
      rw [hs] at h
      cases hr : numsP r with
      | none => rw [hr] at h; cases h
      | some m' =>
        rw [hr] at h
        simp at h
        subst h
        simp [numsP_len hr]
theorem numsP_drop {l : List ByteArray} {k : Nat} {s : ByteArray} (h : l[k]? = some s) : numsP (l.drop k) = match numP s with | none => none | some n => (numsP (l.drop (k + 1))).map (n :: ·) := by
  obtain ⟨h1, rfl⟩ := List.getElem?_eq_some_iff.1 h
  rw [List.drop_eq_getElem_cons h1]
  rfl
abbrev optIs (o : Option (List Int)) : AV := .tup [encIs (o.getD []), vb o.isSome]
theorem scal_ints (M : List Int) : ((M.map intC).all fun e => e.all Go.Ac.scal) = true := by
  rw [List.all_eq_true]
  intro e he
  obtain ⟨n, _, rfl⟩ := List.mem_map.1 he
  rfl
theorem word_get {l : List ByteArray} {k : Nat} {x : ByteArray} (h : l[k]? = some x) : 0 ≤ (k : Int) ∧ (l.map strC)[(k : Int).toNat]? = some (strC x) := ⟨by omega, by simp [h]⟩
set_option maxRecDepth 4000 in
set_option maxHeartbeats 2000000 in
theorem wparsed_spec (hN : NumG g) (l : List ByteArray) (hl : l.length ≤ 90000000) (hx : ∀ s ∈ l, s.size ≤ 281474976710656) : PCalls Tryz.prog g 97 [encSs l] (optIs (numsP l)) := by
  have n1 : (!true) = false := rfl
  have n2 : (!false) = true := rfl
  refine pcalls' Tryz.func97 Tryz.ntmps97 rfl rfl rfl ?_
  repeat' (first
   | refine stn [] ?_
   | ((with_reducible refine is_gd ?_); refine awpL_split rfl rfl (fun h => ?_) (fun h => ?_))
   | ((with_reducible refine is_awp ?_); refine awp_cond rfl (fun h => ?_) (fun h => ?_))
   | fail)
  refine awp_adopt (t := 4) (E := 3) (sz := 1) rfl rfl rfl ?_
  repeat' (first
   | refine stn [] ?_
   | ((with_reducible refine is_gd ?_); refine awpL_split rfl rfl (fun h => ?_) (fun h => ?_))
   | ((with_reducible refine is_awp ?_); refine awp_cond rfl (fun h => ?_) (fun h => ?_))
   | fail)
  refine awp_for (α := Nat × List Int) 1 (fun p => [(4, .os 0 0), (9, encSs l), (10, vi l.length), (11, vi p.1)]) (fun p => [.own 0 3 1 (p.2.map intC)]) (fun p => p.1 ≤ l.length ∧ p.2.length = p.1 ∧ numsP l = (numsP (l.drop p.1)).map (p.2 ++ ·)) (fun p => l.length - p.1) (0, [])
    ⟨(.cons rfl rfl (.cons rfl rfl (.cons rfl rfl (.cons rfl rfl .nil)))), rfl, rfl, rfl⟩ ⟨Nat.zero_le _, rfl, by simp⟩ ?_
  rintro ⟨k, M⟩ ⟨hk, hm, hf⟩
  simp only at hk hm hf
  cases ht : l[k]? with
  | none =>
    have hge : l.length ≤ k := by simpa using ht
    have c1 : decide ((k : Int) < l.length) = false := decide_eq_false (by omega)
    rw [List.drop_of_length_le hge] at hf
    have hf : numsP l = some M := by rw [hf]; simp [numsP]
    rw [hf]
    repeat' (first
     | refine stn [] ?_
     | ((with_reducible refine is_gd ?_); refine awpL_split rfl rfl (fun h => ?_) (fun h => ?_))
     | ((with_reducible refine is_awp ?_); refine awp_cond rfl (fun h => ?_) (fun h => ?_))
     | fail)
    refine retP rfl ?_
    simp [ex, exL]
  | some x =>
    have hlt : k < l.length := (List.getElem?_eq_some_iff.1 ht).1
    have c1 : decide ((k : Int) < l.length) = true := decide_eq_true (by omega)
    have ik := word_get ht
    have hP := NParse_spec hN x (hx x (List.mem_of_getElem? ht))
    rw [numsP_drop ht] at hf
    cases hn : numP x with
    | none =>
      rw [hn] at hP hf
      have s1 : (!(none : Option Int).isSome) = true := rfl
      have hf : numsP l = none := by rw [hf]; rfl
      rw [hf]
      repeat' (first
       | refine stn [] ?_
       | ((with_reducible refine is_gd ?_); refine awpL_split rfl rfl (fun h => ?_) (fun h => ?_))
       | ((with_reducible refine is_awp ?_); refine awp_cond rfl (fun h => ?_) (fun h => ?_))
       | fail)
      refine retLe rfl ?_
      exact Le.tup (.cons (Le.nil 1) (.cons (Le.rfl' _) .nil))
    | some n =>
      rw [hn] at hP hf
      have s1 : (!(some n).isSome) = false := rfl
      have hj : M.map intC ++ [intC n] = (M ++ [n]).map intC := by simp
      have hmb : (M.map intC).length ≤ 90000000 := by rw [List.length_map]; omega
      have hfl : (M ++ [n]).length = k + 1 := by simp [hm]
      have hf2 : numsP l = (numsP (l.drop (k + 1))).map ((M ++ [n]) ++ ·) := by
        rw [hf]
        cases numsP (l.drop (k + 1)) <;> simp
      generalize hM' : M ++ [n] = M' at *
      repeat' (first
       | ((with_reducible refine is_un ?_); refine awpL_ev2 (ev_appB (es' := M'.map intC) rfl rfl rfl rfl rfl rfl rfl rfl rfl rfl rfl rfl rfl qe0 hj rfl) rfl ?_)
       | refine stn [] ?_
       | ((with_reducible refine is_gd ?_); refine awpL_split rfl rfl (fun h => ?_) (fun h => ?_))
       | ((with_reducible refine is_awp ?_); refine awp_cond rfl (fun h => ?_) (fun h => ?_))
       | fail)
      exact ⟨(k + 1, M'), ⟨(.cons rfl rfl (.cons rfl rfl (.cons rfl rfl (.cons rfl rfl .nil)))), rfl, rfl, rfl⟩, ⟨by simp only; omega, hfl, hf2⟩, by simp only; omega⟩
set_option maxRecDepth 4000 in
set_option maxHeartbeats 2000000 in
theorem r15readN_spec (l : List ByteArray) (hl : l.length ≤ 1000000) (hx : ∀ s ∈ l, s.size ≤ 1000000) : NCalls Tryz.prog g 102 [encSs l] (optIs (numsP l)) := by
  have n1 : (!true) = false := rfl
  have n2 : (!false) = true := rfl
  refine ncalls Tryz.func102 Tryz.ntmps102 rfl rfl rfl ?_
  repeat' (first
   | ((with_reducible refine is_un ?_); refine awpL_ev2 (ev_bslice_o (t := 22) (n := 0) (es := []) rfl rfl rfl rfl rfl rfl rfl rfl rfl rfl rfl qf0 qc0) rfl ?_)
   | refine stn [] ?_
   | ((with_reducible refine is_gd ?_); refine awpL_split rfl rfl (fun h => ?_) (fun h => ?_))
   | ((with_reducible refine is_awp ?_); refine awp_cond rfl (fun h => ?_) (fun h => ?_))
   | fail)
  refine awp_for (α := Nat × List Int) 1 (fun p => [(0, encSs l), (4, .os 0 0), (5, vi p.1)]) (fun p => [.own 0 3 1 (p.2.map intC)]) (fun p => p.1 ≤ l.length ∧ p.2.length = p.1 ∧ numsP l = (numsP (l.drop p.1)).map (p.2 ++ ·)) (fun p => l.length - p.1) (0, [])
    ⟨(.cons rfl rfl (.cons rfl rfl (.cons rfl rfl .nil))), rfl, rfl, rfl⟩ ⟨Nat.zero_le _, rfl, by simp⟩ ?_
  rintro ⟨k, M⟩ ⟨hk, hm, hf⟩
  simp only at hk hm hf
  cases ht : l[k]? with
  | none =>
    have hge : l.length ≤ k := by simpa using ht
    have c1 : decide ((k : Int) < l.length) = false := decide_eq_false (by omega)
    rw [List.drop_of_length_le hge] at hf
    have hf : numsP l = some M := by rw [hf]; simp [numsP]
    rw [hf]
    repeat' (first
     | refine stn [] ?_
     | ((with_reducible refine is_gd ?_); refine awpL_split rfl rfl (fun h => ?_) (fun h => ?_))
     | ((with_reducible refine is_awp ?_); refine awp_cond rfl (fun h => ?_) (fun h => ?_))
     | fail)
    refine retI rfl ?_
    have := NewR.own (L := [.own 0 3 1 (M.map intC)]) (k := 0) (z := .bool true) rfl (scal_ints M)
    rw [List.length_map] at this
    exact this
  | some x =>
    have hlt : k < l.length := (List.getElem?_eq_some_iff.1 ht).1
    have c1 : decide ((k : Int) < l.length) = true := decide_eq_true (by omega)
    have ik := word_get ht
    have hP := rNParse_spec (g := g) x (hx x (List.mem_of_getElem? ht))
    rw [numsP_drop ht] at hf
    cases hn : numP x with
    | none =>
      rw [hn] at hP hf
      have s1 : (!(none : Option Int).isSome) = true := rfl
      have hf : numsP l = none := by rw [hf]; rfl
      rw [hf]
      repeat' (first
       | refine stn [] ?_
       | ((with_reducible refine is_gd ?_); refine awpL_split rfl rfl (fun h => ?_) (fun h => ?_))
       | ((with_reducible refine is_awp ?_); refine awp_cond rfl (fun h => ?_) (fun h => ?_))
       | fail)
      exact retI rfl .none
    | some n =>
      rw [hn] at hP hf
      have s1 : (!(some n).isSome) = false := rfl
      have hj : M.map intC ++ [intC n] = (M ++ [n]).map intC := by simp
      have hmb : (M.map intC).length ≤ 90000000 := by rw [List.length_map]; omega
      have hfl : (M ++ [n]).length = k + 1 := by simp [hm]
      have hf2 : numsP l = (numsP (l.drop (k + 1))).map ((M ++ [n]) ++ ·) := by
        rw [hf]
        cases numsP (l.drop (k + 1)) <;> simp
      generalize hM' : M ++ [n] = M' at *
      repeat' (first
       | ((with_reducible refine is_un ?_); refine awpL_ev2 (ev_appB (es' := M'.map intC) rfl rfl rfl rfl rfl rfl rfl rfl rfl rfl rfl rfl rfl qe0 hj rfl) rfl ?_)
       | refine stn [] ?_
       | ((with_reducible refine is_gd ?_); refine awpL_split rfl rfl (fun h => ?_) (fun h => ?_))
       | ((with_reducible refine is_awp ?_); refine awp_cond rfl (fun h => ?_) (fun h => ?_))
       | fail)
      exact ⟨(k + 1, M'), ⟨(.cons rfl rfl (.cons rfl rfl (.cons rfl rfl .nil))), rfl, rfl, rfl⟩, ⟨by simp only; omega, hfl, hf2⟩, by simp only; omega⟩
theorem r15read_spec (l : List ByteArray) (hl : l.length ≤ 1000000) (hx : ∀ s ∈ l, s.size ≤ 1000000) : PCalls Tryz.prog g 102 [encSs l] (optIs (numsP l)) := (r15readN_spec l hl hx).toP
end Go.Proofs.YtigcjinpkngapaaGreatDoor
end
