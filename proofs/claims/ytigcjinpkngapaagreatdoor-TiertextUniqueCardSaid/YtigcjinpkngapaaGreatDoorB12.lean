/- A logic of trees over the model's steps, and the contracts of the functions that the laws reach: part 12 of 16. -/
import Derived.Test.YtigcjinpkngapaaGreatDoorB11
set_option linter.unusedVariables false
set_option linter.unusedSimpArgs false
set_option linter.unusedSectionVars false
section
namespace Go.Proofs.YtigcjinpkngapaaGreatDoor
open Go.Ac Go.MapKept
attribute [local irreducible] awp awpL Ev Ev2 EvS thenQ blockQ retQ PCalls OCalls
variable {g : List (Nat × List AV)}
set_option maxRecDepth 8000 in
set_option maxHeartbeats 8000000 in
theorem wCheck_spec (hu : Utf g) (d : Doc) (hl : d.notes.length ≤ 100000) (hlt : d.tiers.length ≤ 1000000) (hk : ∀ n ∈ d.notes, n.rank ≤ 9223372036854775807) : PCalls Tryz.prog g 20 [.agg (docC d)] (vi (docE d)) := by
  have hT := wTiers_spec (g := g) d.tiers
  have n1 : (!true) = false := rfl
  have n2 : (!false) = true := rfl
  refine pcalls' Tryz.func20 Tryz.ntmps20 rfl rfl rfl ?_
  unfold docE
  generalize hte : tiersE d.tiers = te at *
  by_cases e0 : te = 0
  case neg =>
    have c0 : (!decide (te = 0)) = true := by rw [decide_eq_false e0]; rfl
    rw [if_pos e0]
    repeat' (first
     | refine stn [] ?_
     | ((with_reducible refine is_gd ?_); refine awpL_split rfl rfl (fun h => ?_) (fun h => ?_))
     | ((with_reducible refine is_awp ?_); refine awp_cond rfl (fun h => ?_) (fun h => ?_))
     | fail)
    exact retP rfl rfl
  have c0 : (!decide (te = 0)) = false := by rw [decide_eq_true e0]; rfl
  rw [if_neg (by simpa using e0)]
  by_cases l1 : d.rec_.length < 0
  · have c1 : decide (d.rec_.length < 0) = true := decide_eq_true l1
    rw [if_pos (.inl l1)]
    repeat' (first
     | refine stn [] ?_
     | ((with_reducible refine is_gd ?_); refine awpL_split rfl rfl (fun h => ?_) (fun h => ?_))
     | ((with_reducible refine is_awp ?_); refine awp_cond rfl (fun h => ?_) (fun h => ?_))
     | fail)
    exact retP rfl rfl
  have c1 : decide (d.rec_.length < 0) = false := decide_eq_false l1
  by_cases l2 : 86400000 < d.rec_.length
  · have c2 : decide (86400000 < d.rec_.length) = true := decide_eq_true l2
    rw [if_pos (.inr l2)]
    repeat' (first
     | refine stn [] ?_
     | ((with_reducible refine is_gd ?_); refine awpL_split rfl rfl (fun h => ?_) (fun h => ?_))
     | ((with_reducible refine is_awp ?_); refine awp_cond rfl (fun h => ?_) (fun h => ?_))
     | fail)
    exact retP rfl rfl
  have c2 : decide (86400000 < d.rec_.length) = false := decide_eq_false l2
  rw [if_neg (by omega)]
  by_cases l3 : 300 < d.notes.length
  · have c3 : decide ((300 : Int) < d.notes.length) = true := decide_eq_true (by omega)
    rw [if_pos l3]
    repeat' (first
     | refine stn [] ?_
     | ((with_reducible refine is_gd ?_); refine awpL_split rfl rfl (fun h => ?_) (fun h => ?_))
     | ((with_reducible refine is_awp ?_); refine awp_cond rfl (fun h => ?_) (fun h => ?_))
     | fail)
    exact retP rfl rfl
  have c3 : decide ((300 : Int) < d.notes.length) = false := decide_eq_false (by omega)
  rw [if_neg l3]
  have hB := wById_spec (g := g) d (by omega)
  have hm := idM_nd d.notes d.notes.length
  have hgt := fun id => idM_get d.notes id
  generalize idM d.notes d.notes.length = m at *
  repeat' (first
   | refine stn [] ?_
   | ((with_reducible refine is_gd ?_); refine awpL_split rfl rfl (fun h => ?_) (fun h => ?_))
   | ((with_reducible refine is_awp ?_); refine awp_cond rfl (fun h => ?_) (fun h => ?_))
   | fail)
  refine awp_for (α := Nat) 0 (fun k => [(1, .fp (docC d)), (4, .fm (nks m) (nxs m)), (33, encNotes d.notes), (34, vi d.notes.length), (35, vi k)]) (fun _ => []) (fun k => k ≤ d.notes.length ∧ notesE d none d.notes = notesE d (prevN d k) (d.notes.drop k) ∧ ∀ n ∈ d.notes.take k, 0 ≤ n.rank) (fun k => d.notes.length - k) 0
    ⟨(.cons rfl rfl (.cons rfl rfl (.cons rfl rfl (.cons rfl rfl (.cons rfl rfl .nil))))), rfl, rfl, rfl⟩ ⟨Nat.zero_le _, rfl, by simp⟩ ?_
  rintro k ⟨hk2, hf, hrk⟩
  cases hx : d.notes[k]? with
  | some x =>
    have hlt2 : k < d.notes.length := (List.getElem?_eq_some_iff.1 hx).1
    have d1 : decide ((k : Int) < d.notes.length) = true := decide_eq_true (by omega)
    have g1 := note_get hx
    rw [notesE_drop (d := d) (p := prevN d k) hx] at hf
    have hps := prevN_succ hx
    by_cases i1 : x.id < 1
    · have f1 : decide (x.id < 1) = true := decide_eq_true i1
      have he : noteE d (prevN d k) x = 2 := by unfold noteE; rw [if_pos (.inl i1)]
      rw [he, if_pos (by decide)] at hf
      rw [hf, if_pos (by decide)]
      repeat' (first
       | refine stn [] ?_
       | ((with_reducible refine is_gd ?_); refine awpL_split rfl rfl (fun h => ?_) (fun h => ?_))
       | ((with_reducible refine is_awp ?_); refine awp_cond rfl (fun h => ?_) (fun h => ?_))
       | fail)
      exact retP rfl rfl
    have f1 : decide (x.id < 1) = false := decide_eq_false i1
    by_cases i2 : 1099511627776 < x.id
    · have f2 : decide ((1099511627776 : Int) < x.id) = true := decide_eq_true i2
      have he : noteE d (prevN d k) x = 2 := by unfold noteE; rw [if_pos (.inr i2)]
      rw [he, if_pos (by decide)] at hf
      rw [hf, if_pos (by decide)]
      repeat' (first
       | refine stn [] ?_
       | ((with_reducible refine is_gd ?_); refine awpL_split rfl rfl (fun h => ?_) (fun h => ?_))
       | ((with_reducible refine is_awp ?_); refine awp_cond rfl (fun h => ?_) (fun h => ?_))
       | fail)
      exact retP rfl rfl
    have f2 : decide ((1099511627776 : Int) < x.id) = false := decide_eq_false i2
    repeat' (first
     | refine stn [] ?_
     | ((with_reducible refine is_gd ?_); refine awpL_split rfl rfl (fun h => ?_) (fun h => ?_))
     | ((with_reducible refine is_awp ?_); refine awp_cond rfl (fun h => ?_) (fun h => ?_))
     | fail)
    refine awp_cut 0 [(1, .fp (docC d)), (4, .fm (nks m) (nxs m)), (33, encNotes d.notes), (34, vi d.notes.length), (35, vi k), (5, vi k), (6, .fp (noteC x)), (61, vb (lateB (prevN d k) x))] [] ?_ ?_
    · by_cases k0 : k = 0
      · subst k0
        have d2 : decide ((0 : Int) < ((0 : Nat) : Int)) = false := rfl
        have hla : lateB (prevN d 0) x = false := rfl
        rw [hla]
        repeat' (first
         | refine st [] ?_
         | ((with_reducible refine is_gd ?_); refine awpL_split rfl rfl (fun h => ?_) (fun h => ?_))
         | ((with_reducible refine isD_gd ?_); ((fail_if_success (refine isD_kn (c := true) rfl qa0 ?_)); (fail_if_success (refine isD_kn (c := false) rfl qa0 ?_)); refine awpD_split rfl (fun h => ?_) (fun h => ?_)))
         | ((with_reducible refine is_awp ?_); refine awp_cond rfl (fun h => ?_) (fun h => ?_))
         | fail)
        exact ⟨(.cons rfl rfl (.cons rfl rfl (.cons rfl rfl (.cons rfl rfl (.cons rfl rfl (.cons rfl rfl (.cons rfl rfl (.cons rfl rfl .nil)))))))), rfl, rfl, rfl⟩
      · obtain ⟨p, hp⟩ : ∃ p, d.notes[k - 1]? = some p := ⟨_, List.getElem?_eq_getElem (by omega)⟩
        have d2 : decide ((0 : Int) < (k : Int)) = true := decide_eq_true (by omega)
        have hpv : prevN d k = some p := by unfold prevN; rw [if_neg k0, hp]
        have ip : 0 ≤ (k : Int) - 1 ∧ (d.notes.map noteC)[((k : Int) - 1).toNat]? = some (noteC p) := ⟨by omega, by rw [show ((k : Int) - 1).toNat = k - 1 by omega]; simp [hp]⟩
        have hla : lateB (prevN d k) x = decide (x.id ≤ p.id) := by rw [hpv]; rfl
        rw [hla]
        repeat' (first
         | refine st [] ?_
         | ((with_reducible refine is_gd ?_); refine awpL_split rfl rfl (fun h => ?_) (fun h => ?_))
         | ((with_reducible refine isD_gd ?_); ((fail_if_success (refine isD_kn (c := true) rfl qa0 ?_)); (fail_if_success (refine isD_kn (c := false) rfl qa0 ?_)); refine awpD_split rfl (fun h => ?_) (fun h => ?_)))
         | ((with_reducible refine is_awp ?_); refine awp_cond rfl (fun h => ?_) (fun h => ?_))
         | fail)
        exact ⟨(.cons rfl rfl (.cons rfl rfl (.cons rfl rfl (.cons rfl rfl (.cons rfl rfl (.cons rfl rfl (.cons rfl rfl (.cons rfl rfl .nil)))))))), rfl, rfl, rfl⟩
    have hid : ¬ (x.id < 1 ∨ 1099511627776 < x.id) := by omega
    cases hla : lateB (prevN d k) x with
    | true =>
      have he : noteE d (prevN d k) x = 10 := by unfold noteE; rw [if_neg hid, if_pos hla]
      rw [he, if_pos (by decide)] at hf
      rw [hf, if_pos (by decide)]
      repeat' (first
       | refine stn [] ?_
       | ((with_reducible refine is_gd ?_); refine awpL_split rfl rfl (fun h => ?_) (fun h => ?_))
       | ((with_reducible refine is_awp ?_); refine awp_cond rfl (fun h => ?_) (fun h => ?_))
       | fail)
      exact retP rfl rfl
    | false =>
    cases htr : tierAt d.tiers x.tier with
    | none =>
      have he : noteE d (prevN d k) x = 2 := by unfold noteE; rw [if_neg hid, if_neg (by rw [hla]; simp), htr]
      rw [he, if_pos (by decide)] at hf
      rw [hf, if_pos (by decide)]
      rcases tier_none htr with q | ⟨q1, q2⟩
      · have f3 : decide (x.tier < 0) = true := decide_eq_true q
        repeat' (first
         | refine stn [] ?_
         | ((with_reducible refine is_gd ?_); refine awpL_split rfl rfl (fun h => ?_) (fun h => ?_))
         | ((with_reducible refine is_awp ?_); refine awp_cond rfl (fun h => ?_) (fun h => ?_))
         | fail)
        exact retP rfl rfl
      · have f3 : decide (x.tier < 0) = false := decide_eq_false (by omega)
        have f4 : decide ((d.tiers.length : Int) ≤ x.tier) = true := decide_eq_true q2
        repeat' (first
         | refine stn [] ?_
         | ((with_reducible refine is_gd ?_); refine awpL_split rfl rfl (fun h => ?_) (fun h => ?_))
         | ((with_reducible refine is_awp ?_); refine awp_cond rfl (fun h => ?_) (fun h => ?_))
         | fail)
        exact retP rfl rfl
    | some t =>
      obtain ⟨q1, q2, q3⟩ := tier_get htr
      have f3 : decide (x.tier < 0) = false := decide_eq_false (by omega)
      have f4 : decide ((d.tiers.length : Int) ≤ x.tier) = false := decide_eq_false (by omega)
      have he : noteE d (prevN d k) x = if textE x.text ≠ 0 then textE x.text else placedE d t x := by unfold noteE; rw [if_neg hid, if_neg (by rw [hla]; simp), htr]
      have hNo := wNote_spec hu d m hm hgt x t htr hlt
      rw [← he] at hNo
      have hz : noteE d (prevN d k) x = 0 → 0 ≤ x.rank := fun h => by
        obtain ⟨_, _, _, t2, h1, h2⟩ := noteE_zero h
        exact (placedE_zero h2).r
      generalize noteE d (prevN d k) x = e at *
      by_cases ee : e = 0
      · have f5 : (!decide (e = 0)) = false := by rw [decide_eq_true ee]; rfl
        rw [if_neg (by simpa using ee)] at hf
        repeat' (first
         | refine stn [] ?_
         | ((with_reducible refine is_gd ?_); refine awpL_split rfl rfl (fun h => ?_) (fun h => ?_))
         | ((with_reducible refine is_awp ?_); refine awp_cond rfl (fun h => ?_) (fun h => ?_))
         | fail)
        refine ⟨k + 1, ⟨(.cons rfl rfl (.cons rfl rfl (.cons rfl rfl (.cons rfl rfl (.cons rfl rfl .nil))))), rfl, rfl, rfl⟩, ⟨by omega, by rw [hf, hps], fun n hn => ?_⟩, by omega⟩
        rw [List.take_add_one, hx] at hn
        rcases List.mem_append.1 hn with hn | hn
        · exact hrk n hn
        · simp only [Option.toList_some, List.mem_singleton] at hn
          rw [hn]; exact hz ee
      · have f5 : (!decide (e = 0)) = true := by rw [decide_eq_false ee]; rfl
        rw [if_pos ee] at hf
        rw [hf, if_pos ee]
        repeat' (first
         | refine stn [] ?_
         | ((with_reducible refine is_gd ?_); refine awpL_split rfl rfl (fun h => ?_) (fun h => ?_))
         | ((with_reducible refine is_awp ?_); refine awp_cond rfl (fun h => ?_) (fun h => ?_))
         | fail)
        exact retP rfl rfl
  | none =>
    have hge : d.notes.length ≤ k := by simpa using hx
    have d1 : decide ((k : Int) < d.notes.length) = false := decide_eq_false (by omega)
    rw [List.drop_of_length_le hge] at hf
    rw [List.take_of_length_le hge] at hrk
    have hf : notesE d none d.notes = 0 := by rw [hf]; rfl
    rw [if_neg (by simpa using hf)]
    have hT0 : tiersE d.tiers = 0 := hte.trans e0
    repeat' (first
     | refine stn [] ?_
     | ((with_reducible refine is_gd ?_); refine awpL_split rfl rfl (fun h => ?_) (fun h => ?_))
     | ((with_reducible refine is_awp ?_); refine awp_cond rfl (fun h => ?_) (fun h => ?_))
     | fail)
    refine awp_for (α := Nat) 0 (fun k => [(1, .fp (docC d)), (4, .fm (nks m) (nxs m)), (83, vi d.tiers.length), (84, vi k)]) (fun _ => []) (fun k => k ≤ d.tiers.length ∧ eachE d d.tiers.length 0 = eachE d (d.tiers.length - k) k) (fun k => d.tiers.length - k) 0
      ⟨(.cons rfl rfl (.cons rfl rfl (.cons rfl rfl (.cons rfl rfl .nil)))), rfl, rfl, rfl⟩ ⟨Nat.zero_le _, rfl⟩ ?_
    rintro j ⟨hj, hg⟩
    cases hy : d.tiers[j]? with
    | some t =>
      have hlt2 : j < d.tiers.length := (List.getElem?_eq_some_iff.1 hy).1
      have f1 : decide ((j : Int) < d.tiers.length) = true := decide_eq_true (by omega)
      have hE := wTier_spec (g := g) d hT0 hf m hm hgt j t hy hl (fun n hn => ⟨hrk n hn, hk n hn⟩)
      have hdr := eachE_step hlt2
      generalize tierE d (j : Int) = e at *
      by_cases ee : e = 0
      · have d2 : (!decide (e = 0)) = false := by simp [ee]
        rw [if_neg (by simpa using ee)] at hdr
        repeat' (first
         | refine stn [] ?_
         | ((with_reducible refine is_gd ?_); refine awpL_split rfl rfl (fun h => ?_) (fun h => ?_))
         | ((with_reducible refine is_awp ?_); refine awp_cond rfl (fun h => ?_) (fun h => ?_))
         | fail)
        exact ⟨j + 1, ⟨(.cons rfl rfl (.cons rfl rfl (.cons rfl rfl (.cons rfl rfl .nil)))), rfl, rfl, rfl⟩, ⟨by omega, by rw [hg, hdr]⟩, by omega⟩
      · have d2 : (!decide (e = 0)) = true := by simp [ee]
        rw [if_pos ee] at hdr
        rw [hg, hdr]
        repeat' (first
         | refine stn [] ?_
         | ((with_reducible refine is_gd ?_); refine awpL_split rfl rfl (fun h => ?_) (fun h => ?_))
         | ((with_reducible refine is_awp ?_); refine awp_cond rfl (fun h => ?_) (fun h => ?_))
         | fail)
        exact retP rfl rfl
    | none =>
      have hge : d.tiers.length ≤ j := by simpa using hy
      have f1 : decide ((j : Int) < d.tiers.length) = false := decide_eq_false (by omega)
      rw [hg, show d.tiers.length - j = 0 by omega]
      repeat' (first
       | refine stn [] ?_
       | ((with_reducible refine is_gd ?_); refine awpL_split rfl rfl (fun h => ?_) (fun h => ?_))
       | ((with_reducible refine is_awp ?_); refine awp_cond rfl (fun h => ?_) (fun h => ?_))
       | fail)
      exact retP rfl rfl
end Go.Proofs.YtigcjinpkngapaaGreatDoor
end
section
namespace Go.Proofs.YtigcjinpkngapaaGreatDoor
open Go.Ac
attribute [local irreducible] awp awpL Ev Ev2 EvS thenQ blockQ retQ PCalls OCalls
variable {g : List (Nat × List AV)}
theorem listB {s t : ByteArray} : (s.toList == t.toList) = decide (s = t) := by
  rw [ByteArray.toList_eq, ByteArray.toList_eq, Bool.eq_iff_iff, beq_iff_eq, decide_eq_true_eq]
  constructor
  · intro h; exact (eq_toB s (lst t)).2 h ▸ ((eq_toB t (lst t)).2 rfl).symm
  · rintro rfl; rfl
def tierVs (t : Tier) : List Value := [.string t.name, .int .i64 t.kind, .int .i64 t.role, .int .i64 t.parent]
def noteVs (n : Note) : List Value := [.int .i64 n.id, .int .i64 n.tier, .int .i64 n.parent, .int .i64 n.span.fro, .int .i64 n.span.til, .int .i64 n.rank, .string n.text]
theorem tierEqV_eq (x y : Tier) : tierEqV (tierVs x) (tierVs y) = some (decide (x = y)) := by
  obtain ⟨s, a, b, c⟩ := x
  obtain ⟨s', a', b', c'⟩ := y
  show some (s.toList == s'.toList && (a == a' && (b == b' && c == c'))) = _
  congr 1
  rw [listB, Bool.eq_iff_iff]
  simp only [Tier.mk.injEq, Bool.and_eq_true, decide_eq_true_eq, beq_iff_eq]
theorem noteEq_eq (x y : Note) : noteEq (noteVs x) (noteVs y) = some (decide (x = y)) := by
  obtain ⟨a, b, c, ⟨d, e⟩, f, s⟩ := x
  obtain ⟨a', b', c', ⟨d', e'⟩, f', s'⟩ := y
  show some (a == a' && (b == b' && (c == c' && ((d == d' && e == e') && (f == f' && s.toList == s'.toList))))) = _
  congr 1
  rw [listB, Bool.eq_iff_iff]
  simp only [Note.mk.injEq, Span.mk.injEq, Bool.and_eq_true, decide_eq_true_eq, beq_iff_eq]
theorem docEq {a b : Doc} : a = b ↔ a.rec_.id = b.rec_.id ∧ a.rec_.name = b.rec_.name ∧ a.rec_.length = b.rec_.length ∧ a.rec_.day = b.rec_.day ∧ a.rec_.speakers = b.rec_.speakers ∧ a.tiers = b.tiers ∧ a.notes = b.notes := by
  obtain ⟨⟨a1, a2, a3, a4, a5⟩, a6, a7⟩ := a
  obtain ⟨⟨b1, b2, b3, b4, b5⟩, b6, b7⟩ := b
  simp only [Doc.mk.injEq, Recording.mk.injEq]
  constructor
  · rintro ⟨⟨h1, h2, h3, h4, h5⟩, h6, h7⟩; exact ⟨h1, h2, h3, h4, h5, h6, h7⟩
  · rintro ⟨h1, h2, h3, h4, h5, h6, h7⟩; exact ⟨⟨h1, h2, h3, h4, h5⟩, h6, h7⟩
theorem int_get0 {l : List Int} {k : Nat} {x : Int} (h : l[k]? = some x) : 0 ≤ (k : Int) ∧ (l.map intC)[(k : Int).toNat]? = some (intC x) := ⟨by omega, by simp [h]⟩
set_option maxRecDepth 4000 in
set_option maxHeartbeats 2000000 in
theorem slEqI_spec (a b : List Int) (ha : a.length ≤ 1000000) : PCalls Tryz.prog g 50 [encIs a, encIs b] (vb (decide (a = b))) := by
  refine pcalls' Tryz.func50 Tryz.ntmps50 rfl rfl rfl ?_
  by_cases hl : a.length = b.length
  · have c0 : (!decide ((a.length : Int) = b.length)) = false := by rw [hl]; simp
    repeat' (first
     | refine stn [] ?_
     | ((with_reducible refine is_gd ?_); refine awpL_split rfl rfl (fun h => ?_) (fun h => ?_))
     | ((with_reducible refine is_awp ?_); refine awp_cond rfl (fun h => ?_) (fun h => ?_))
     | fail)
    refine awp_for (α := Nat) 0 (fun k => [(0, encIs a), (1, encIs b), (12, vi a.length), (13, vi k)]) (fun _ => []) (fun k => k ≤ a.length ∧ a.take k = b.take k) (fun k => a.length - k) 0
      ⟨(.cons rfl rfl (.cons rfl rfl (.cons rfl rfl (.cons rfl rfl .nil)))), rfl, rfl, rfl⟩ ⟨Nat.zero_le _, by simp⟩ ?_
    rintro k ⟨hk, hf⟩
    cases ht : a[k]? with
    | none =>
      have hge : a.length ≤ k := by simpa using ht
      have c1 : decide ((k : Int) < a.length) = false := decide_eq_false (by omega)
      rw [List.take_of_length_le hge, List.take_of_length_le (by omega)] at hf
      rw [decide_eq_true hf]
      repeat' (first
       | refine stn [] ?_
       | ((with_reducible refine is_gd ?_); refine awpL_split rfl rfl (fun h => ?_) (fun h => ?_))
       | ((with_reducible refine is_awp ?_); refine awp_cond rfl (fun h => ?_) (fun h => ?_))
       | fail)
      exact retP rfl rfl
    | some n =>
      have hlt : k < a.length := (List.getElem?_eq_some_iff.1 ht).1
      have c1 : decide ((k : Int) < a.length) = true := decide_eq_true (by omega)
      obtain ⟨m, hm⟩ : ∃ m, b[k]? = some m := ⟨_, List.getElem?_eq_getElem (by omega)⟩
      have ik := int_get0 ht
      have im := int_get0 hm
      by_cases e : n = m
      · have c2 : (!decide (n = m)) = false := by rw [decide_eq_true e]; rfl
        repeat' (first
         | refine st [] ?_
         | ((with_reducible refine is_gd ?_); refine awpL_split rfl rfl (fun h => ?_) (fun h => ?_))
         | ((with_reducible refine isD_gd ?_); ((fail_if_success (refine isD_kn (c := true) rfl qa0 ?_)); (fail_if_success (refine isD_kn (c := false) rfl qa0 ?_)); refine awpD_split rfl (fun h => ?_) (fun h => ?_)))
         | ((with_reducible refine is_awp ?_); refine awp_cond rfl (fun h => ?_) (fun h => ?_))
         | fail)
        refine ⟨k + 1, ⟨(.cons rfl rfl (.cons rfl rfl (.cons rfl rfl (.cons rfl rfl .nil)))), rfl, rfl, rfl⟩, ⟨by omega, ?_⟩, by omega⟩
        rw [List.take_add_one, List.take_add_one, hf, ht, hm, e]
      · have c2 : (!decide (n = m)) = true := by rw [decide_eq_false e]; rfl
        have hne : a ≠ b := fun q => by rw [q, hm] at ht; exact e (Option.some.inj ht).symm
        rw [decide_eq_false hne]
        repeat' (first
         | refine st [] ?_
         | ((with_reducible refine is_gd ?_); refine awpL_split rfl rfl (fun h => ?_) (fun h => ?_))
         | ((with_reducible refine isD_gd ?_); ((fail_if_success (refine isD_kn (c := true) rfl qa0 ?_)); (fail_if_success (refine isD_kn (c := false) rfl qa0 ?_)); refine awpD_split rfl (fun h => ?_) (fun h => ?_)))
         | ((with_reducible refine is_awp ?_); refine awp_cond rfl (fun h => ?_) (fun h => ?_))
         | fail)
        exact retP rfl rfl
  · have c0 : (!decide ((a.length : Int) = b.length)) = true := by
      rw [decide_eq_false (by omega)]; rfl
    have hne : a ≠ b := fun q => hl (by rw [q])
    rw [decide_eq_false hne]
    repeat' (first
     | refine stn [] ?_
     | ((with_reducible refine is_gd ?_); refine awpL_split rfl rfl (fun h => ?_) (fun h => ?_))
     | ((with_reducible refine is_awp ?_); refine awp_cond rfl (fun h => ?_) (fun h => ?_))
     | fail)
    exact retP rfl rfl
set_option maxRecDepth 4000 in
set_option maxHeartbeats 2000000 in
theorem slEqT_spec (a b : List Tier) (ha : a.length ≤ 1000000) : PCalls Tryz.prog g 51 [encTiers a, encTiers b] (vb (decide (a = b))) := by
  refine pcalls' Tryz.func51 Tryz.ntmps51 rfl rfl rfl ?_
  by_cases hl : a.length = b.length
  · have c0 : (!decide ((a.length : Int) = b.length)) = false := by rw [hl]; simp
    repeat' (first
     | refine stn [] ?_
     | ((with_reducible refine is_gd ?_); refine awpL_split rfl rfl (fun h => ?_) (fun h => ?_))
     | ((with_reducible refine is_awp ?_); refine awp_cond rfl (fun h => ?_) (fun h => ?_))
     | fail)
    refine awp_for (α := Nat) 0 (fun k => [(0, encTiers a), (1, encTiers b), (12, vi a.length), (13, vi k)]) (fun _ => []) (fun k => k ≤ a.length ∧ a.take k = b.take k) (fun k => a.length - k) 0
      ⟨(.cons rfl rfl (.cons rfl rfl (.cons rfl rfl (.cons rfl rfl .nil)))), rfl, rfl, rfl⟩ ⟨Nat.zero_le _, by simp⟩ ?_
    rintro k ⟨hk, hf⟩
    cases ht : a[k]? with
    | none =>
      have hge : a.length ≤ k := by simpa using ht
      have c1 : decide ((k : Int) < a.length) = false := decide_eq_false (by omega)
      rw [List.take_of_length_le hge, List.take_of_length_le (by omega)] at hf
      rw [decide_eq_true hf]
      repeat' (first
       | refine stn [] ?_
       | ((with_reducible refine is_gd ?_); refine awpL_split rfl rfl (fun h => ?_) (fun h => ?_))
       | ((with_reducible refine is_awp ?_); refine awp_cond rfl (fun h => ?_) (fun h => ?_))
       | fail)
      exact retP rfl rfl
    | some n =>
      have hlt : k < a.length := (List.getElem?_eq_some_iff.1 ht).1
      have c1 : decide ((k : Int) < a.length) = true := decide_eq_true (by omega)
      obtain ⟨m, hm⟩ : ∃ m, b[k]? = some m := ⟨_, List.getElem?_eq_getElem (by omega)⟩
      have ik := tierC_get ht
      have im := tierC_get hm
      have hEq := tierEqV_eq n m
      by_cases e : n = m
      · rw [decide_eq_true e] at hEq
        have n1 : (!true) = false := rfl
        repeat' (first
         | ((with_reducible refine isD_un ?_); refine awpD_un (as_ev (fun _ => ev_neA (b := true) tierEqV_T (by kernel_rfl) rfl rfl rfl rfl (by rw [← hEq]; rfl)) rfl rfl) qb0 ?_)
         | ((with_reducible refine isD_gd ?_); refine awpD_gd rfl rfl qa0 (as_ev (fun _ => ev_neA (b := true) tierEqV_T (by kernel_rfl) rfl rfl rfl rfl (by rw [← hEq]; rfl)) rfl rfl) qb0 ?_)
         | refine st [] ?_
         | ((with_reducible refine is_gd ?_); refine awpL_split rfl rfl (fun h => ?_) (fun h => ?_))
         | ((with_reducible refine isD_gd ?_); ((fail_if_success (refine isD_kn (c := true) rfl qa0 ?_)); (fail_if_success (refine isD_kn (c := false) rfl qa0 ?_)); refine awpD_split rfl (fun h => ?_) (fun h => ?_)))
         | ((with_reducible refine is_awp ?_); refine awp_cond rfl (fun h => ?_) (fun h => ?_))
         | fail)
        refine ⟨k + 1, ⟨(.cons rfl rfl (.cons rfl rfl (.cons rfl rfl (.cons rfl rfl .nil)))), rfl, rfl, rfl⟩, ⟨by omega, ?_⟩, by omega⟩
        rw [List.take_add_one, List.take_add_one, hf, ht, hm, e]
      · rw [decide_eq_false e] at hEq
        have n2 : (!false) = true := rfl
        have hne : a ≠ b := fun q => by rw [q, hm] at ht; exact e (Option.some.inj ht).symm
        rw [decide_eq_false hne]
        repeat' (first
         | ((with_reducible refine isD_un ?_); refine awpD_un (as_ev (fun _ => ev_neA (b := false) tierEqV_T (by kernel_rfl) rfl rfl rfl rfl (by rw [← hEq]; rfl)) rfl rfl) qb0 ?_)
         | ((with_reducible refine isD_gd ?_); refine awpD_gd rfl rfl qa0 (as_ev (fun _ => ev_neA (b := false) tierEqV_T (by kernel_rfl) rfl rfl rfl rfl (by rw [← hEq]; rfl)) rfl rfl) qb0 ?_)
         | refine st [] ?_
         | ((with_reducible refine is_gd ?_); refine awpL_split rfl rfl (fun h => ?_) (fun h => ?_))
         | ((with_reducible refine isD_gd ?_); ((fail_if_success (refine isD_kn (c := true) rfl qa0 ?_)); (fail_if_success (refine isD_kn (c := false) rfl qa0 ?_)); refine awpD_split rfl (fun h => ?_) (fun h => ?_)))
         | ((with_reducible refine is_awp ?_); refine awp_cond rfl (fun h => ?_) (fun h => ?_))
         | fail)
        exact retP rfl rfl
  · have c0 : (!decide ((a.length : Int) = b.length)) = true := by
      rw [decide_eq_false (by omega)]; rfl
    have hne : a ≠ b := fun q => hl (by rw [q])
    rw [decide_eq_false hne]
    repeat' (first
     | refine stn [] ?_
     | ((with_reducible refine is_gd ?_); refine awpL_split rfl rfl (fun h => ?_) (fun h => ?_))
     | ((with_reducible refine is_awp ?_); refine awp_cond rfl (fun h => ?_) (fun h => ?_))
     | fail)
    exact retP rfl rfl
set_option maxRecDepth 4000 in
set_option maxHeartbeats 2000000 in
theorem slEqN_spec (a b : List Note) (ha : a.length ≤ 1000000) : PCalls Tryz.prog g 52 [encNotes a, encNotes b] (vb (decide (a = b))) := by
  refine pcalls' Tryz.func52 Tryz.ntmps52 rfl rfl rfl ?_
  by_cases hl : a.length = b.length
  · have c0 : (!decide ((a.length : Int) = b.length)) = false := by rw [hl]; simp
    repeat' (first
     | refine stn [] ?_
     | ((with_reducible refine is_gd ?_); refine awpL_split rfl rfl (fun h => ?_) (fun h => ?_))
     | ((with_reducible refine is_awp ?_); refine awp_cond rfl (fun h => ?_) (fun h => ?_))
     | fail)
    refine awp_for (α := Nat) 0 (fun k => [(0, encNotes a), (1, encNotes b), (12, vi a.length), (13, vi k)]) (fun _ => []) (fun k => k ≤ a.length ∧ a.take k = b.take k) (fun k => a.length - k) 0
      ⟨(.cons rfl rfl (.cons rfl rfl (.cons rfl rfl (.cons rfl rfl .nil)))), rfl, rfl, rfl⟩ ⟨Nat.zero_le _, by simp⟩ ?_
    rintro k ⟨hk, hf⟩
    cases ht : a[k]? with
    | none =>
      have hge : a.length ≤ k := by simpa using ht
      have c1 : decide ((k : Int) < a.length) = false := decide_eq_false (by omega)
      rw [List.take_of_length_le hge, List.take_of_length_le (by omega)] at hf
      rw [decide_eq_true hf]
      repeat' (first
       | refine stn [] ?_
       | ((with_reducible refine is_gd ?_); refine awpL_split rfl rfl (fun h => ?_) (fun h => ?_))
       | ((with_reducible refine is_awp ?_); refine awp_cond rfl (fun h => ?_) (fun h => ?_))
       | fail)
      exact retP rfl rfl
    | some n =>
      have hlt : k < a.length := (List.getElem?_eq_some_iff.1 ht).1
      have c1 : decide ((k : Int) < a.length) = true := decide_eq_true (by omega)
      obtain ⟨m, hm⟩ : ∃ m, b[k]? = some m := ⟨_, List.getElem?_eq_getElem (by omega)⟩
      have ik := note_get ht
      have im := note_get hm
      have hEq := noteEq_eq n m
      by_cases e : n = m
      · rw [decide_eq_true e] at hEq
        have n1 : (!true) = false := rfl
        repeat' (first
         | ((with_reducible refine isD_un ?_); refine awpD_un (as_ev (fun _ => ev_neA (b := true) noteEq_T (by kernel_rfl) rfl rfl rfl rfl (by rw [← hEq]; rfl)) rfl rfl) qb0 ?_)
         | ((with_reducible refine isD_gd ?_); refine awpD_gd rfl rfl qa0 (as_ev (fun _ => ev_neA (b := true) noteEq_T (by kernel_rfl) rfl rfl rfl rfl (by rw [← hEq]; rfl)) rfl rfl) qb0 ?_)
         | refine st [] ?_
         | ((with_reducible refine is_gd ?_); refine awpL_split rfl rfl (fun h => ?_) (fun h => ?_))
         | ((with_reducible refine isD_gd ?_); ((fail_if_success (refine isD_kn (c := true) rfl qa0 ?_)); (fail_if_success (refine isD_kn (c := false) rfl qa0 ?_)); refine awpD_split rfl (fun h => ?_) (fun h => ?_)))
         | ((with_reducible refine is_awp ?_); refine awp_cond rfl (fun h => ?_) (fun h => ?_))
         | fail)
        refine ⟨k + 1, ⟨(.cons rfl rfl (.cons rfl rfl (.cons rfl rfl (.cons rfl rfl .nil)))), rfl, rfl, rfl⟩, ⟨by omega, ?_⟩, by omega⟩
        rw [List.take_add_one, List.take_add_one, hf, ht, hm, e]
      · rw [decide_eq_false e] at hEq
        have n2 : (!false) = true := rfl
        have hne : a ≠ b := fun q => by rw [q, hm] at ht; exact e (Option.some.inj ht).symm
        rw [decide_eq_false hne]
        repeat' (first
         | ((with_reducible refine isD_un ?_); refine awpD_un (as_ev (fun _ => ev_neA (b := false) noteEq_T (by kernel_rfl) rfl rfl rfl rfl (by rw [← hEq]; rfl)) rfl rfl) qb0 ?_)
         | ((with_reducible refine isD_gd ?_); refine awpD_gd rfl rfl qa0 (as_ev (fun _ => ev_neA (b := false) noteEq_T (by kernel_rfl) rfl rfl rfl rfl (by rw [← hEq]; rfl)) rfl rfl) qb0 ?_)
         | refine st [] ?_
         | ((with_reducible refine is_gd ?_); refine awpL_split rfl rfl (fun h => ?_) (fun h => ?_))
         | ((with_reducible refine isD_gd ?_); ((fail_if_success (refine isD_kn (c := true) rfl qa0 ?_)); (fail_if_success (refine isD_kn (c := false) rfl qa0 ?_)); refine awpD_split rfl (fun h => ?_) (fun h => ?_)))
         | ((with_reducible refine is_awp ?_); refine awp_cond rfl (fun h => ?_) (fun h => ?_))
         | fail)
        exact retP rfl rfl
  · have c0 : (!decide ((a.length : Int) = b.length)) = true := by
      rw [decide_eq_false (by omega)]; rfl
    have hne : a ≠ b := fun q => hl (by rw [q])
    rw [decide_eq_false hne]
    repeat' (first
     | refine stn [] ?_
     | ((with_reducible refine is_gd ?_); refine awpL_split rfl rfl (fun h => ?_) (fun h => ?_))
     | ((with_reducible refine is_awp ?_); refine awp_cond rfl (fun h => ?_) (fun h => ?_))
     | fail)
    exact retP rfl rfl
set_option maxRecDepth 4000 in
set_option maxHeartbeats 4000000 in
theorem tSame_spec (a b : Doc) (h1 : a.rec_.speakers.length ≤ 1000000) (h2 : a.tiers.length ≤ 1000000) (h3 : a.notes.length ≤ 1000000) : PCalls Tryz.prog g 26 [.agg (docC a), .agg (docC b)] (vb (decide (a = b))) := by
  have hI := slEqI_spec (g := g) a.rec_.speakers b.rec_.speakers h1
  have hT := slEqT_spec (g := g) a.tiers b.tiers h2
  have hN := slEqN_spec (g := g) a.notes b.notes h3
  have n1 : (!true) = false := rfl
  have n2 : (!false) = true := rfl
  refine pcalls' Tryz.func26 Tryz.ntmps26 rfl rfl rfl ?_
  by_cases e1 : a.rec_.speakers = b.rec_.speakers
  case neg =>
    rw [decide_eq_false e1] at hI
    rw [decide_eq_false (fun q => e1 (by rw [q]))]
    repeat' (first
     | refine stn [] ?_
     | ((with_reducible refine is_gd ?_); refine awpL_split rfl rfl (fun h => ?_) (fun h => ?_))
     | ((with_reducible refine is_awp ?_); refine awp_cond rfl (fun h => ?_) (fun h => ?_))
     | fail)
    exact retP rfl rfl
  rw [decide_eq_true e1] at hI
  by_cases e2 : a.tiers = b.tiers
  case neg =>
    rw [decide_eq_false e2] at hT
    rw [decide_eq_false (fun q => e2 (by rw [q]))]
    repeat' (first
     | refine stn [] ?_
     | ((with_reducible refine is_gd ?_); refine awpL_split rfl rfl (fun h => ?_) (fun h => ?_))
     | ((with_reducible refine is_awp ?_); refine awp_cond rfl (fun h => ?_) (fun h => ?_))
     | fail)
    exact retP rfl rfl
  rw [decide_eq_true e2] at hT
  by_cases e3 : a.notes = b.notes
  case neg =>
    rw [decide_eq_false e3] at hN
    rw [decide_eq_false (fun q => e3 (by rw [q]))]
    repeat' (first
     | refine stn [] ?_
     | ((with_reducible refine is_gd ?_); refine awpL_split rfl rfl (fun h => ?_) (fun h => ?_))
     | ((with_reducible refine is_awp ?_); refine awp_cond rfl (fun h => ?_) (fun h => ?_))
     | fail)
    exact retP rfl rfl
  rw [decide_eq_true e3] at hN
  have hd : decide (a = b) = (decide (a.rec_.id = b.rec_.id) && (decide (a.rec_.name = b.rec_.name) && (decide (a.rec_.length = b.rec_.length) && decide (a.rec_.day = b.rec_.day)))) := by
    rw [Bool.eq_iff_iff]
    simp only [Bool.and_eq_true, decide_eq_true_eq]
    rw [docEq]
    simp only [e1, e2, e3, and_true]
  rw [hd]
  cases d1 : decide (a.rec_.id = b.rec_.id) with
  | false =>
    repeat' (first
     | refine st [] ?_
     | ((with_reducible refine is_gd ?_); refine awpL_split rfl rfl (fun h => ?_) (fun h => ?_))
     | ((with_reducible refine isD_gd ?_); ((fail_if_success (refine isD_kn (c := true) rfl qa0 ?_)); (fail_if_success (refine isD_kn (c := false) rfl qa0 ?_)); refine awpD_split rfl (fun h => ?_) (fun h => ?_)))
     | ((with_reducible refine is_awp ?_); refine awp_cond rfl (fun h => ?_) (fun h => ?_))
     | fail)
    exact retP rfl rfl
  | true =>
    cases d2 : decide (a.rec_.name = b.rec_.name) with
    | false =>
      repeat' (first
       | refine st [] ?_
       | ((with_reducible refine is_gd ?_); refine awpL_split rfl rfl (fun h => ?_) (fun h => ?_))
       | ((with_reducible refine isD_gd ?_); ((fail_if_success (refine isD_kn (c := true) rfl qa0 ?_)); (fail_if_success (refine isD_kn (c := false) rfl qa0 ?_)); refine awpD_split rfl (fun h => ?_) (fun h => ?_)))
       | ((with_reducible refine is_awp ?_); refine awp_cond rfl (fun h => ?_) (fun h => ?_))
       | fail)
      exact retP rfl rfl
    | true =>
      cases d3 : decide (a.rec_.length = b.rec_.length) with
      | false =>
        repeat' (first
         | refine st [] ?_
         | ((with_reducible refine is_gd ?_); refine awpL_split rfl rfl (fun h => ?_) (fun h => ?_))
         | ((with_reducible refine isD_gd ?_); ((fail_if_success (refine isD_kn (c := true) rfl qa0 ?_)); (fail_if_success (refine isD_kn (c := false) rfl qa0 ?_)); refine awpD_split rfl (fun h => ?_) (fun h => ?_)))
         | ((with_reducible refine is_awp ?_); refine awp_cond rfl (fun h => ?_) (fun h => ?_))
         | fail)
        exact retP rfl rfl
      | true =>
        repeat' (first
         | refine st [] ?_
         | ((with_reducible refine is_gd ?_); refine awpL_split rfl rfl (fun h => ?_) (fun h => ?_))
         | ((with_reducible refine isD_gd ?_); ((fail_if_success (refine isD_kn (c := true) rfl qa0 ?_)); (fail_if_success (refine isD_kn (c := false) rfl qa0 ?_)); refine awpD_split rfl (fun h => ?_) (fun h => ?_)))
         | ((with_reducible refine is_awp ?_); refine awp_cond rfl (fun h => ?_) (fun h => ?_))
         | fail)
        exact retP rfl rfl
end Go.Proofs.YtigcjinpkngapaaGreatDoor
end
