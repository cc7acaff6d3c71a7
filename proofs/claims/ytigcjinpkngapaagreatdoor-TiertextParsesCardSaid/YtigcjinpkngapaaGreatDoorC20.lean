/- A logic of trees over the model's steps, and the contracts of the functions that the laws reach: part 20 of 20. -/
import Derived.Test.YtigcjinpkngapaaGreatDoorC19
import Derived.Test.YtigcjinpkngapaaGreatDoorRows
import Derived.Lib.LaidU8T
import Derived.Lib.LaidTab
import Derived.LaidLaws
import Derived.LaidHandle
import Derived.Lay
import Derived.Shelf.Vars
import Derived.SizedLaws
import Derived.Handed
import Derived.ChangeArms
set_option linter.unusedVariables false
set_option linter.unusedSimpArgs false
set_option linter.unusedSectionVars false
section
namespace Go.Proofs.YtigcjinpkngapaaGreatDoor
theorem lst_toB (l : List UInt8) : lst (toB l) = l := toB_list l
theorem toB_lst (s : ByteArray) : toB (lst s) = s := ((eq_toB s (lst s)).2 rfl).symm
theorem map_back (l : List ByteArray) : (l.map lst).map toB = l := by
  rw [List.map_map]
  conv => rhs; rw [← List.map_id l]
  exact List.map_congr_left fun s _ => toB_lst s
theorem numsP_map : ∀ {l : List Int}, (∀ n ∈ l, inNum n) → numsP (l.map numT) = some l
  | [], _ => rfl
  | n :: r, h => by
    rw [List.map_cons, numsP, numP_numT (h n (by simp)), numsP_map (fun m hm => h m (by simp [hm]))]
    rfl
theorem recP_recW {r : Recording} (h : RecIn r) : recP (recW r) = some r := by
  have hn : numsP (numT r.id :: ([numT r.length, numT r.day] ++ r.speakers.map numT)) = some (r.id :: r.length :: r.day :: r.speakers) := by
    have := numsP_map (l := r.id :: r.length :: r.day :: r.speakers) (fun n hn => by
      simp only [List.mem_cons] at hn
      rcases hn with rfl | rfl | rfl | hn
      · exact h.i
      · exact h.l
      · exact h.d
      · exact h.s n hn)
    simpa using this
  unfold recW recP
  simp only [List.cons_append, List.nil_append, List.length_cons] at hn ⊢
  rw [if_pos ⟨trivial, by omega⟩, hn]
theorem tierP_tierW {t : Tier} (h : TierIn t) : tierP (tierW t) = some t := by
  have hn := numsP_map (l := [t.kind, t.role, t.parent]) (fun n hn => by
    simp only [List.mem_cons, List.not_mem_nil, or_false] at hn
    rcases hn with rfl | rfl | rfl
    · exact h.k
    · exact h.r
    · exact h.p)
  unfold tierW tierP
  simp only [List.map_cons, List.map_nil, List.cons_append, List.nil_append] at hn ⊢
  rw [if_pos trivial, hn]
theorem noteP_noteW {n : Note} (h : NoteIn n) : noteP (noteW n) = some n := by
  have hn := numsP_map (l := [n.id, n.tier, n.parent, n.span.fro, n.span.til, n.rank]) (fun m hm => by
    simp only [List.mem_cons, List.not_mem_nil, or_false] at hm
    rcases hm with rfl | rfl | rfl | rfl | rfl | rfl
    · exact h.i
    · exact h.t
    · exact h.p
    · exact h.f
    · exact h.e
    · exact h.r)
  unfold noteW noteP
  simp only [List.map_cons, List.map_nil, List.cons_append, List.nil_append] at hn ⊢
  rw [if_pos trivial, hn]
theorem tierP_noteW (n : Note) : tierP (noteW n) = none := rfl
theorem splitW_line (w : List ByteArray) : splitW (lst (toB (joinW (w.map lst)))) = some (w.map lst) := by rw [lst_toB, split_join]
theorem lineP_rec {r : Recording} (h : RecIn r) : lineP 0 zeroDoc (recL r) = some ⟨r, [], []⟩ := by
  unfold lineP recL
  rw [splitW_line]
  simp only [if_true, map_back, recP_recW h, Option.map_some]
  rfl
theorem lineP_tier {i : Nat} {d : Doc} {t : Tier} (h : TierIn t) (hn : d.notes = []) : lineP (i + 1) d (tierL t) = some { d with tiers := d.tiers ++ [t] } := by
  unfold lineP tierL
  rw [splitW_line]
  simp only [Nat.add_one_ne_zero, if_false, map_back]
  unfold furP
  rw [tierP_tierW h]
  simp [hn]
theorem lineP_note {i : Nat} {d : Doc} {n : Note} (h : NoteIn n) : lineP (i + 1) d (noteL n) = some { d with notes := d.notes ++ [n] } := by
  unfold lineP noteL
  rw [splitW_line]
  simp only [Nat.add_one_ne_zero, if_false, map_back]
  unfold furP
  rw [tierP_noteW, noteP_noteW h]
theorem readF_notes : ∀ (N : List Note) (i : Nat) (d : Doc) (r : List ByteArray), (∀ n ∈ N, NoteIn n) → readF (i + 1) d (N.map noteL ++ r) = readF (i + 1 + N.length) { d with notes := d.notes ++ N } r
  | [], i, d, r, _ => by simp
  | n :: N, i, d, r, h => by
    rw [List.map_cons, List.cons_append, readF, lineP_note (h n (by simp))]
    simp only
    rw [readF_notes N (i + 1) _ r (fun m hm => h m (by simp [hm]))]
    simp only [List.length_cons, List.append_assoc, List.singleton_append]
    congr 1; omega
theorem readF_tiers : ∀ (T : List Tier) (i : Nat) (d : Doc) (r : List ByteArray), (∀ t ∈ T, TierIn t) → d.notes = [] → readF (i + 1) d (T.map tierL ++ r) = readF (i + 1 + T.length) { d with tiers := d.tiers ++ T } r
  | [], i, d, r, _, _ => by simp
  | t :: T, i, d, r, h, hn => by
    rw [List.map_cons, List.cons_append, readF, lineP_tier (h t (by simp)) hn]
    simp only
    rw [readF_tiers T (i + 1) { d with tiers := d.tiers ++ [t] } r (fun m hm => h m (by simp [hm])) hn]
    simp only [List.length_cons, List.append_assoc, List.singleton_append]
    congr 1; omega
theorem readF_docL {d : Doc} (h : DocIn d) (r : List ByteArray) : readF 0 zeroDoc (docL d ++ r) = readF (docL d).length d r := by
  unfold docL
  rw [List.cons_append, readF, lineP_rec h.r]
  simp only
  rw [List.append_assoc, readF_tiers d.tiers 0 ⟨d.rec_, [], []⟩ _ h.t rfl]
  have := readF_notes d.notes (0 + d.tiers.length) ⟨d.rec_, d.tiers, []⟩ r h.n
  rw [show 0 + 1 + d.tiers.length = 0 + d.tiers.length + 1 by omega]
  simp only [List.nil_append] at this ⊢
  rw [this]
  congr 1
  simp; omega
theorem line_no (w : List ByteArray) : (10 : UInt8) ∉ lst (toB (joinW (w.map lst))) := by rw [lst_toB]; exact joinW_no _
theorem docL_no (d : Doc) : ∀ x ∈ (docL d).map lst, (10 : UInt8) ∉ x := by
  intro x hx
  obtain ⟨y, hy, rfl⟩ := List.mem_map.1 hx
  simp only [docL, List.mem_cons, List.mem_append, List.mem_map] at hy
  rcases hy with rfl | ⟨t, _, rfl⟩ | ⟨n, _, rfl⟩
  · exact line_no _
  · exact line_no _
  · exact line_no _
theorem lines_doc (d : Doc) : linesW (printD d) = some ((docL d).map lst) := lines_text (docL_no d)
theorem textW_ne {x : List UInt8} {r : List (List UInt8)} : textW (x :: r) ≠ [] := by simp [textW]
theorem printD_ne (d : Doc) : printD d ≠ [] := textW_ne
theorem parse_print {d : Doc} (h : DocIn d) (hp : printE d = 0) : parseD (printD d) = (d, 0, 0) := by
  unfold parseD
  rw [if_neg (printD_ne d), lines_doc]
  have : readF 0 zeroDoc (docL d) = (d, 0) := by
    have := readF_docL h []
    rw [List.append_nil] at this
    rw [this]; rfl
  simp only [map_back, this]
  simp [hp]
end Go.Proofs.YtigcjinpkngapaaGreatDoor
end
section
namespace Go.Proofs.YtigcjinpkngapaaGreatDoor
theorem spkOk_in : ∀ {l : List Int} {last : Int}, 0 ≤ last → spkOk last l = true → ∀ n ∈ l, inNum n
  | [], _, _, _, n, hn => by cases hn
  | m :: r, last, h0, h, n, hn => by
    simp only [spkOk, Bool.and_eq_true, decide_eq_true_eq] at h
    rcases List.mem_cons.1 hn with rfl | hn
    · unfold inNum; omega
    · exact spkOk_in (by omega) h.2.2 n hn
theorem recOk_in {r : Recording} (h : recOk r = true) : RecIn r := by
  simp only [recOk, Bool.and_eq_true, decide_eq_true_eq] at h
  obtain ⟨h1, h2, _, h4, h5, h6, h7, _, h9⟩ := h
  exact ⟨by unfold inNum; omega, by unfold inNum; omega, by unfold inNum; omega, spkOk_in (Int.le_refl _) h9⟩
theorem tierOne_role {b : List Tier} {t : Tier} (h : tierOne b t = 0) : 0 ≤ t.role ∧ t.role ≤ 5 := by
  unfold tierOne at h
  split at h
  · cases h
  split at h
  · cases h
  split at h
  · cases h
  split at h
  · cases h
  · omega
theorem tiers_in {l : List Tier} (h : tiersE l = 0) : ∀ t ∈ l, TierIn t := by
  intro t ht
  obtain ⟨k, hk⟩ := List.mem_iff_getElem?.1 ht
  have h1 := tiersE_one h hk
  have h2 := tierOne_parent h1
  have h3 := tierOne_role h1
  have h4 := tiersE_len h
  have h5 : (l.take k).length ≤ 12 := by rw [List.length_take]; omega
  exact ⟨by unfold inNum; omega, by unfold inNum; omega, by unfold inNum; omega⟩
theorem rank_lt {l : List Int} (h : rankedL l = true) {r : Int} (hr : r ∈ l) : 0 ≤ r ∧ r < l.length := by
  rcases Classical.em (0 ≤ r ∧ r < l.length) with g | g
  · exact g
  · exfalso
    have := pigeon l.length (l.erase r) 0 fun n hn => by
      simp only [rankedL, List.all_eq_true, List.mem_range, List.any_eq_true, decide_eq_true_eq] at h
      obtain ⟨q, hq, e⟩ := h n hn
      refine (List.mem_erase_of_ne (by omega)).2 (by rw [Int.zero_add, ← e]; exact hq)
    rw [List.length_erase_of_mem hr] at this
    have := List.length_pos_of_mem hr
    omega
theorem eachE_all {d : Doc} : ∀ (m i : Nat), eachE d m i = 0 → ∀ j, i ≤ j → j < i + m → tierE d (j : Int) = 0
  | 0, i, _, j, h1, h2 => by omega
  | m + 1, i, h, j, h1, h2 => by
    rw [eachE] at h
    split at h
    · rename_i h3; exact absurd h h3
    · rename_i h3
      rcases Nat.eq_or_lt_of_le h1 with rfl | h4
      · exact Decidable.of_not_not h3
      · exact eachE_all m (i + 1) h j h4 (by omega)
theorem placedE_more {d : Doc} {t : Tier} {n : Note} (h : placedE d t n = 0) : (t.kind = 0 → n.parent = 0) ∧ (t.kind ≠ 3 → n.rank = 0) := by
  unfold placedE at h
  split at h
  · cases h
  rename_i h1
  split at h
  · cases h
  split at h
  · cases h
  split at h
  · cases h
  split at h
  · cases h
  rename_i h5
  refine ⟨fun hk => ?_, fun hk => ?_⟩
  · rcases Decidable.em (n.parent = 0) with e | e
    · exact e
    · exact absurd (.inl ⟨hk, e⟩) h1
  · rcases Decidable.em (n.rank = 0) with e | e
    · exact e
    · exact absurd (.inr ⟨e, hk⟩) h5
theorem series_rank {d : Doc} {i : Nat} {t : Tier} (h : tierE d (i : Int) = 0) (ht : d.tiers[i]? = some t) (hk : t.kind = 3) {n : Note} (hn : n ∈ d.notes) (hi : n.tier = (i : Int)) : n.rank < d.notes.length := by
  have hte : tierE d (i : Int) = tierE1 d 3 (i : Int) 0 d.notes := by
    unfold tierE tierAt
    rw [if_pos (by omega), Int.toNat_natCast, ht]
    simp only [hk]
  rw [hte, tierE1_eq] at h
  rw [if_neg (fun q => by cases q.1)] at h
  split at h
  · cases h
  · rename_i h2
    have hb : badG 3 (sibs d (i : Int) n.parent) ((getN d.notes n.parent).getD noNote).span = false := by
      rw [Bool.eq_false_iff]
      intro q
      apply h2
      rw [List.any_eq_true]
      exact ⟨n, List.mem_filter.2 ⟨hn, by simpa using hi⟩, q⟩
    have hr : rankedL ((sibs d (i : Int) n.parent).map (·.rank)) = true := by simpa [badG] using hb
    have hmem : n ∈ sibs d (i : Int) n.parent := List.mem_filter.2 ⟨hn, by simp [hi]⟩
    have := (rank_lt hr (List.mem_map.2 ⟨n, hmem, rfl⟩)).2
    rw [List.length_map] at this
    have h3 : (sibs d (i : Int) n.parent).length ≤ d.notes.length := List.length_filter_le ..
    omega
theorem doc_in {d : Doc} (h : docE d = 0) : ∀ n ∈ d.notes, NoteIn n := by
  obtain ⟨hT, _, _, hl, hN, hE⟩ := docE_zero h
  have ids : ∀ n ∈ d.notes, 1 ≤ n.id ∧ n.id ≤ 1099511627776 := fun n hn => by
    obtain ⟨q, hq⟩ := notesE_all _ _ hN n hn
    obtain ⟨h1, h2, _⟩ := noteE_zero hq
    exact ⟨h1, h2⟩
  intro n hn
  obtain ⟨q, hq⟩ := notesE_all _ _ hN n hn
  obtain ⟨h1, h2, _, t, ht, hp⟩ := noteE_zero hq
  obtain ⟨t0, t1⟩ := tierAt_some ht
  have hlt := (List.getElem?_eq_some_iff.1 t1).1
  have h12 := tiersE_len hT
  have k := placedE_zero hp
  have k2 := placedE_more hp
  have hi : n.tier = ((n.tier.toNat : Nat) : Int) := by omega
  refine ⟨by unfold inNum; omega, by unfold inNum; omega, ?_, ?_, ?_, ?_⟩
  · by_cases hk : t.kind = 0
    · rw [k2.1 hk]; decide
    · obtain ⟨p, hg, _⟩ := k.p hk
      have := ids p (getN_id hg).2
      rw [(getN_id hg).1] at this
      unfold inNum; omega
  · cases htm : timed t.kind with
    | true => have := right_iff.1 (k.s htm); unfold inNum; omega
    | false => rw [k.z htm]; decide
  · cases htm : timed t.kind with
    | true => have := right_iff.1 (k.s htm); unfold inNum; omega
    | false => rw [k.z htm]; decide
  · have hr := k.r
    by_cases hk : t.kind = 3
    · have hz := eachE_all d.tiers.length 0 hE n.tier.toNat (Nat.zero_le _) (by omega)
      have := series_rank hz t1 hk hn hi
      unfold inNum; omega
    · rw [k2.2 hk]; decide
theorem print_in {d : Doc} (h : printE d = 0) : DocIn d := by
  obtain ⟨h1, h2⟩ := printE_zero h
  exact ⟨recOk_in h2, tiers_in (docE_zero h1).1, doc_in h1⟩
theorem parse_doc {d : Doc} (h : DocIn d) : parseD (printD d) = if printE d ≠ 0 then (zeroDoc, 0, printE d) else (d, 0, 0) := by
  unfold parseD
  rw [if_neg (printD_ne d), lines_doc]
  have : readF 0 zeroDoc (docL d) = (d, 0) := by
    have := readF_docL h []
    rw [List.append_nil] at this
    rw [this]; rfl
  simp only [map_back, this]
  rw [if_neg (by simp)]
end Go.Proofs.YtigcjinpkngapaaGreatDoor
end
section
namespace Go.Proofs.YtigcjinpkngapaaGreatDoor
open Go.Lib
theorem num_lit {n : Int} {l : List UInt8} (h : itoa n = l) : numT n = ⟨l.toArray⟩ := by unfold numT; rw [h]
theorem it0 : itoa 0 = [48] := by unfold itoa; rw [if_neg (by omega), decDigits, dif_pos (by decide)]; rfl
theorem it1 : itoa 1 = [49] := by unfold itoa; rw [if_neg (by omega), decDigits, dif_pos (by decide)]; rfl
theorem it3 : itoa 3 = [51] := by unfold itoa; rw [if_neg (by omega), decDigits, dif_pos (by decide)]; rfl
theorem it4 : itoa 4 = [52] := by unfold itoa; rw [if_neg (by omega), decDigits, dif_pos (by decide)]; rfl
theorem it5 : itoa 5 = [53] := by unfold itoa; rw [if_neg (by omega), decDigits, dif_pos (by decide)]; rfl
theorem it7 : itoa 7 = [55] := by unfold itoa; rw [if_neg (by omega), decDigits, dif_pos (by decide)]; rfl
theorem it9 : itoa 9 = [57] := by unfold itoa; rw [if_neg (by omega), decDigits, dif_pos (by decide)]; rfl
theorem itm1 : itoa (-1) = [45, 49] := by unfold itoa; rw [if_pos (by omega), decDigits, dif_pos (by decide)]; rfl
theorem it400 : itoa 400 = [52, 48, 48] := by unfold itoa; rw [if_neg (by omega), decDigits, dif_neg (by decide), decDigits, dif_neg (by decide), decDigits, dif_pos (by decide)]; rfl
theorem it900 : itoa 900 = [57, 48, 48] := by unfold itoa; rw [if_neg (by omega), decDigits, dif_neg (by decide), decDigits, dif_neg (by decide), decDigits, dif_pos (by decide)]; rfl
def tapeRec (l : List Int) : Recording := ⟨3, ⟨#[116, 97, 112, 101]⟩, 900, 5, l⟩
theorem sample_rec : recW sampleD.rec_ = [kRec, ⟨#[51]⟩, ⟨#[116, 97, 112, 101]⟩, ⟨#[57, 48, 48]⟩, ⟨#[53]⟩, ⟨#[49]⟩, ⟨#[52]⟩] := by
  simp only [recW, sampleD, List.map_cons, List.map_nil, num_lit it3, num_lit it900, num_lit it5, num_lit it1, num_lit it4]
  rfl
theorem sample_tier : tierW ⟨⟨#[116, 101, 120, 116]⟩, 0, 1, -1⟩ = [kTier, ⟨#[116, 101, 120, 116]⟩, ⟨#[48]⟩, ⟨#[49]⟩, ⟨#[45, 49]⟩] := by
  simp only [tierW, List.map_cons, List.map_nil, num_lit it0, num_lit it1, num_lit itm1]
  rfl
theorem sample_note1 : noteW ⟨7, 0, 0, ⟨0, 400⟩, 0, ⟨#[98, 97, 32, 109, 105]⟩⟩ = [kNote, ⟨#[55]⟩, ⟨#[48]⟩, ⟨#[48]⟩, ⟨#[48]⟩, ⟨#[52, 48, 48]⟩, ⟨#[48]⟩, ⟨#[98, 97, 32, 109, 105]⟩] := by
  simp only [noteW, List.map_cons, List.map_nil, num_lit it0, num_lit it7, num_lit it400]
  rfl
theorem sample_note2 : noteW ⟨9, 0, 0, ⟨400, 900⟩, 0, .empty⟩ = [kNote, ⟨#[57]⟩, ⟨#[48]⟩, ⟨#[48]⟩, ⟨#[52, 48, 48]⟩, ⟨#[57, 48, 48]⟩, ⟨#[48]⟩, .empty] := by
  simp only [noteW, List.map_cons, List.map_nil, num_lit it0, num_lit it9, num_lit it400, num_lit it900]
  rfl
def wantL : List UInt8 := [114, 101, 99, 111, 114, 100, 105, 110, 103, 32, 51, 32, 116, 97, 112, 101, 32, 57, 48, 48, 32, 53, 32, 49, 32, 52, 10,
  116, 105, 101, 114, 32, 116, 101, 120, 116, 32, 48, 32, 49, 32, 45, 49, 10,
  110, 111, 116, 101, 32, 55, 32, 48, 32, 48, 32, 48, 32, 52, 48, 48, 32, 48, 32, 98, 97, 37, 50, 48, 109, 105, 10,
  110, 111, 116, 101, 32, 57, 32, 48, 32, 48, 32, 52, 48, 48, 32, 57, 48, 48, 32, 48, 32, 37, 45, 10]
theorem sample_print : printD sampleD = wantL := by
  have e : docL sampleD = [toB (joinW ((recW sampleD.rec_).map lst)), toB (joinW ((tierW ⟨⟨#[116, 101, 120, 116]⟩, 0, 1, -1⟩).map lst)), toB (joinW ((noteW ⟨7, 0, 0, ⟨0, 400⟩, 0, ⟨#[98, 97, 32, 109, 105]⟩⟩).map lst)), toB (joinW ((noteW ⟨9, 0, 0, ⟨400, 900⟩, 0, .empty⟩).map lst))] := rfl
  unfold printD
  rw [e, sample_rec, sample_tier, sample_note1, sample_note2]
  decide
theorem sample_ok : printE sampleD = 0 := by decide
theorem parse_want : parseD wantL = (sampleD, 0, 0) := by
  rw [← sample_print]
  exact parse_print (print_in sample_ok) sample_ok
def lit2 : List UInt8 := [114, 101, 99, 111, 114, 100, 105, 110, 103, 32, 51, 32, 116, 97, 112, 101, 32, 57, 48, 48, 32, 53, 32, 49, 10, 116, 105, 101, 114, 32, 116, 101, 120, 116, 32, 48, 32, 49, 32, 120, 10]
def lit3 : List UInt8 := [114, 101, 99, 111, 114, 100, 105, 110, 103, 32, 51, 32, 116, 97, 112, 101, 32, 57, 48, 48, 32, 53, 10]
theorem tape_rec1 : recW (tapeRec [1]) = [kRec, ⟨#[51]⟩, ⟨#[116, 97, 112, 101]⟩, ⟨#[57, 48, 48]⟩, ⟨#[53]⟩, ⟨#[49]⟩] := by
  simp only [recW, tapeRec, List.map_cons, List.map_nil, num_lit it3, num_lit it900, num_lit it5, num_lit it1]
  rfl
theorem tape_rec0 : recW (tapeRec []) = [kRec, ⟨#[51]⟩, ⟨#[116, 97, 112, 101]⟩, ⟨#[57, 48, 48]⟩, ⟨#[53]⟩] := by
  simp only [recW, tapeRec, List.map_cons, List.map_nil, num_lit it3, num_lit it900, num_lit it5]
  rfl
theorem tape_in (l : List Int) (h : ∀ n ∈ l, inNum n) : RecIn (tapeRec l) := ⟨(show inNum 3 by decide), (show inNum 900 by decide), (show inNum 5 by decide), h⟩
theorem parse_lit3 : parseD lit3 = (zeroDoc, 0, 1) := by
  have e : printD ⟨tapeRec [], [], []⟩ = lit3 := by
    have e1 : docL ⟨tapeRec [], [], []⟩ = [toB (joinW ((recW (tapeRec [])).map lst))] := rfl
    unfold printD
    rw [e1, tape_rec0]
    decide
  rw [← e, parse_doc ⟨tape_in [] (fun n hn => (by cases hn)), fun t ht => (by cases ht), fun t ht => (by cases ht)⟩]
  have : printE ⟨tapeRec [], [], []⟩ = 1 := by decide
  rw [this]; rfl
theorem numP_x : numP ⟨#[120]⟩ = none := by
  unfold numP
  have : atoiAll [120] = atoiAll [120] := rfl
  rfl
theorem parse_lit2 : parseD lit2 = (zeroDoc, 2, 3) := by
  unfold parseD
  have h1 : linesW lit2 = some [[114, 101, 99, 111, 114, 100, 105, 110, 103, 32, 51, 32, 116, 97, 112, 101, 32, 57, 48, 48, 32, 53, 32, 49], [116, 105, 101, 114, 32, 116, 101, 120, 116, 32, 48, 32, 49, 32, 120]] := by decide
  have h2 : toB [114, 101, 99, 111, 114, 100, 105, 110, 103, 32, 51, 32, 116, 97, 112, 101, 32, 57, 48, 48, 32, 53, 32, 49] = recL (tapeRec [1]) := by
    unfold recL
    rw [tape_rec1]
    decide
  have h3 : splitW [116, 105, 101, 114, 32, 116, 101, 120, 116, 32, 48, 32, 49, 32, 120] = some [[116, 105, 101, 114], [116, 101, 120, 116], [48], [49], [120]] := by decide
  have h4 : tierP [toB [116, 105, 101, 114], toB [116, 101, 120, 116], toB [48], toB [49], toB [120]] = none := by
    have n0 : numP (toB [48]) = some 0 := numP_some.2 ⟨num_lit it0, by decide⟩
    have n1 : numP (toB [49]) = some 1 := numP_some.2 ⟨num_lit it1, by decide⟩
    have n2 : numP (toB [120]) = none := numP_x
    unfold tierP
    simp only [numsP, n0, n1, n2, Option.map_none]
    split <;> rfl
  rw [if_neg (by decide), h1]
  have h5 : readF 0 zeroDoc ([[114, 101, 99, 111, 114, 100, 105, 110, 103, 32, 51, 32, 116, 97, 112, 101, 32, 57, 48, 48, 32, 53, 32, 49], [116, 105, 101, 114, 32, 116, 101, 120, 116, 32, 48, 32, 49, 32, 120]].map toB) = (⟨tapeRec [1], [], []⟩, 2) := by
    rw [List.map_cons, readF, h2, lineP_rec (tape_in [1] (fun n hn => (by simp at hn; subst hn; decide)))]
    simp only
    rw [List.map_cons, List.map_nil, readF]
    have : lineP (0 + 1) ⟨tapeRec [1], [], []⟩ (toB [116, 105, 101, 114, 32, 116, 101, 120, 116, 32, 48, 32, 49, 32, 120]) = none := by
      unfold lineP
      rw [lst_toB, h3]
      simp only [Nat.add_one_ne_zero, if_false, List.map_cons, List.map_nil]
      unfold furP
      rw [h4, noteP_none (by simp)]
    rw [this]
  simp only [h5]
  rfl
end Go.Proofs.YtigcjinpkngapaaGreatDoor
end
section
namespace Go.Proofs.YtigcjinpkngapaaGreatDoor
open Go.Ac
attribute [local irreducible] awp awpL Ev Ev2 EvS thenQ blockQ retQ PCalls OCalls
variable {g : List (Nat × List AV)}
structure TG (g : List (Nat × List AV)) : Prop where
  n : NumG g
  m : MaxG g
  e : ErrG g
  u : Utf g
theorem wCheckF (hg : TG g) {d : Doc} (hd : FitP d) : PCalls Tryz.prog g 20 [.agg (docC d)] (vi (docE d)) :=
  wCheck_spec hg.u d (by have := hd.ln; omega) (by have := hd.lt; omega) (fun n hn => (hd.n n hn).2.2.2.2.2.2)
theorem sample_fit : FitP sampleD := by
  refine ⟨⟨by decide, by decide, by decide, by decide, by decide⟩, fun t ht => ?_, fun n hn => ?_, by decide, fun _ => (by unfold recL; rw [sample_rec]; decide), by decide, by decide, by decide, fun t ht => ?_⟩
  · simp only [sampleD, List.mem_singleton] at ht
    subst ht
    exact ⟨by decide, by decide, by decide⟩
  · simp only [sampleD, List.mem_cons, List.not_mem_nil, or_false] at hn
    rcases hn with rfl | rfl
    · exact ⟨by decide, by decide, by decide, by decide, by decide, by decide⟩
    · exact ⟨by decide, by decide, by decide, by decide, by decide, by decide⟩
  · simp only [sampleD, List.mem_singleton] at ht
    subst ht
    decide
theorem wParse_small (hg : TG g) (s : ByteArray) (hs : s.size ≤ 90000) : PCalls Tryz.prog g 17 [.v (.string s)] (parsedV (parseD (lst s))) := by
  refine wParse_spec hg.n hg.m hg.e hg.u s (by omega) fun ls hl => ?_
  obtain ⟨l1, l2⟩ := lines_fit hl
  have f1 := readF_len (ls.map toB) 0 zeroDoc
  have f3 := readF_spk l2
  have fz : zeroDoc.tiers.length = 0 ∧ zeroDoc.notes.length = 0 := ⟨rfl, rfl⟩
  omega
theorem want_lst : lst (⟨(List.append [114, 101, 99, 111, 114, 100, 105, 110, 103, 32, 51, 32, 116, 97, 112, 101, 32, 57, 48, 48, 32, 53, 32, 49, 32, 52, 10, 116, 105, 101, 114, 32, 116, 101, 120, 116, 32, 48, 32, 49, 32, 45, 49, 10, 110, 111, 116] [101, 32, 55, 32, 48, 32, 48, 32, 48, 32, 52, 48, 48, 32, 48, 32, 98, 97, 37, 50, 48, 109, 105, 10, 110, 111, 116, 101, 32, 57, 32, 48, 32, 48, 32, 52, 48, 48, 32, 57, 48, 48, 32, 48, 32, 37, 45, 10]).toArray⟩ : ByteArray) = wantL := rfl
set_option maxRecDepth 20000 in
set_option maxHeartbeats 8000000 in
theorem awakeT_spec (hg : TG g) : PCalls Tryz.prog g 13 [] (vb true) := by
  have hSm := sampleT_spec (g := g)
  have hPr : PCalls Tryz.prog g 14 [.agg (docC sampleD)] (.tup [.v (.string (⟨(List.append [114, 101, 99, 111, 114, 100, 105, 110, 103, 32, 51, 32, 116, 97, 112, 101, 32, 57, 48, 48, 32, 53, 32, 49, 32, 52, 10, 116, 105, 101, 114, 32, 116, 101, 120, 116, 32, 48, 32, 49, 32, 45, 49, 10, 110, 111, 116] [101, 32, 55, 32, 48, 32, 48, 32, 48, 32, 52, 48, 48, 32, 48, 32, 98, 97, 37, 50, 48, 109, 105, 10, 110, 111, 116, 101, 32, 57, 32, 48, 32, 48, 32, 52, 48, 48, 32, 57, 48, 48, 32, 48, 32, 37, 45, 10]).toArray⟩ : ByteArray)), vi 0]) := by
    have := wPrint_spec hg.n sampleD sample_fit (wCheckF hg sample_fit)
    unfold printV at this
    rw [sample_ok, if_pos rfl, sample_print] at this
    exact this
  have hP1 : PCalls Tryz.prog g 17 [.v (.string (⟨(List.append [114, 101, 99, 111, 114, 100, 105, 110, 103, 32, 51, 32, 116, 97, 112, 101, 32, 57, 48, 48, 32, 53, 32, 49, 32, 52, 10, 116, 105, 101, 114, 32, 116, 101, 120, 116, 32, 48, 32, 49, 32, 45, 49, 10, 110, 111, 116] [101, 32, 55, 32, 48, 32, 48, 32, 48, 32, 52, 48, 48, 32, 48, 32, 98, 97, 37, 50, 48, 109, 105, 10, 110, 111, 116, 101, 32, 57, 32, 48, 32, 48, 32, 52, 48, 48, 32, 57, 48, 48, 32, 48, 32, 37, 45, 10]).toArray⟩ : ByteArray))] (.tup [.agg (docC sampleD), vi 0, vi 0]) := by
    have := wParse_small hg (⟨(List.append [114, 101, 99, 111, 114, 100, 105, 110, 103, 32, 51, 32, 116, 97, 112, 101, 32, 57, 48, 48, 32, 53, 32, 49, 32, 52, 10, 116, 105, 101, 114, 32, 116, 101, 120, 116, 32, 48, 32, 49, 32, 45, 49, 10, 110, 111, 116] [101, 32, 55, 32, 48, 32, 48, 32, 48, 32, 52, 48, 48, 32, 48, 32, 98, 97, 37, 50, 48, 109, 105, 10, 110, 111, 116, 101, 32, 57, 32, 48, 32, 48, 32, 52, 48, 48, 32, 57, 48, 48, 32, 48, 32, 37, 45, 10]).toArray⟩ : ByteArray) (by decide)
    rw [want_lst, parse_want] at this
    exact this
  have hP2 : PCalls Tryz.prog g 17 [.v (.string (⟨#[114, 101, 99, 111, 114, 100, 105, 110, 103, 32, 51, 32, 116, 97, 112, 101, 32, 57, 48, 48, 32, 53, 32, 49, 10, 116, 105, 101, 114, 32, 116, 101, 120, 116, 32, 48, 32, 49, 32, 120, 10]⟩ : ByteArray))] (.tup [.agg (docC zeroDoc), vi 2, vi 3]) := by
    have := wParse_small hg (⟨#[114, 101, 99, 111, 114, 100, 105, 110, 103, 32, 51, 32, 116, 97, 112, 101, 32, 57, 48, 48, 32, 53, 32, 49, 10, 116, 105, 101, 114, 32, 116, 101, 120, 116, 32, 48, 32, 49, 32, 120, 10]⟩ : ByteArray) (by decide)
    rw [show lst (⟨#[114, 101, 99, 111, 114, 100, 105, 110, 103, 32, 51, 32, 116, 97, 112, 101, 32, 57, 48, 48, 32, 53, 32, 49, 10, 116, 105, 101, 114, 32, 116, 101, 120, 116, 32, 48, 32, 49, 32, 120, 10]⟩ : ByteArray) = lit2 from rfl, parse_lit2] at this
    exact this
  have hP3 : PCalls Tryz.prog g 17 [.v (.string (⟨#[114, 101, 99, 111, 114, 100, 105, 110, 103, 32, 51, 32, 116, 97, 112, 101, 32, 57, 48, 48, 32, 53, 10]⟩ : ByteArray))] (.tup [.agg (docC zeroDoc), vi 0, vi 1]) := by
    have := wParse_small hg (⟨#[114, 101, 99, 111, 114, 100, 105, 110, 103, 32, 51, 32, 116, 97, 112, 101, 32, 57, 48, 48, 32, 53, 10]⟩ : ByteArray) (by decide)
    rw [show lst (⟨#[114, 101, 99, 111, 114, 100, 105, 110, 103, 32, 51, 32, 116, 97, 112, 101, 32, 57, 48, 48, 32, 53, 10]⟩ : ByteArray) = lit3 from rfl, parse_lit3] at this
    exact this
  have hP4 : PCalls Tryz.prog g 17 [.v (.string ⟨#[]⟩)] (.tup [.agg (docC zeroDoc), vi 0, vi 4]) := wParse_small hg ⟨#[]⟩ (by decide)
  have hSa : PCalls Tryz.prog g 19 [.agg (docC sampleD), .agg (docC sampleD)] (vb true) := by
    have := r12Same_spec (g := g) sampleD sampleD (by decide) (by decide) (by decide) (by decide)
    rw [decide_eq_true rfl] at this
    exact this
  have zT : decide True = true := rfl
  have z0 : decide ((0 : Int) = 0) = true := rfl
  have z1 : decide ((1 : Int) = 1) = true := rfl
  have z2 : decide ((2 : Int) = 2) = true := rfl
  have z3 : decide ((3 : Int) = 3) = true := rfl
  have z4 : decide ((4 : Int) = 4) = true := rfl
  have zW : decide ((⟨(List.append [114, 101, 99, 111, 114, 100, 105, 110, 103, 32, 51, 32, 116, 97, 112, 101, 32, 57, 48, 48, 32, 53, 32, 49, 32, 52, 10, 116, 105, 101, 114, 32, 116, 101, 120, 116, 32, 48, 32, 49, 32, 45, 49, 10, 110, 111, 116] [101, 32, 55, 32, 48, 32, 48, 32, 48, 32, 52, 48, 48, 32, 48, 32, 98, 97, 37, 50, 48, 109, 105, 10, 110, 111, 116, 101, 32, 57, 32, 48, 32, 48, 32, 52, 48, 48, 32, 57, 48, 48, 32, 48, 32, 37, 45, 10]).toArray⟩ : ByteArray) = (⟨(List.append [114, 101, 99, 111, 114, 100, 105, 110, 103, 32, 51, 32, 116, 97, 112, 101, 32, 57, 48, 48, 32, 53, 32, 49, 32, 52, 10, 116, 105, 101, 114, 32, 116, 101, 120, 116, 32, 48, 32, 49, 32, 45, 49, 10, 110, 111, 116] [101, 32, 55, 32, 48, 32, 48, 32, 48, 32, 52, 48, 48, 32, 48, 32, 98, 97, 37, 50, 48, 109, 105, 10, 110, 111, 116, 101, 32, 57, 32, 48, 32, 48, 32, 52, 48, 48, 32, 57, 48, 48, 32, 48, 32, 37, 45, 10]).toArray⟩ : ByteArray)) = true := by simp
  refine pcalls' Tryz.func13 Tryz.ntmps13 rfl rfl rfl ?_
  repeat' (first
   | refine stn [] ?_
   | ((with_reducible refine is_gd ?_); refine awpL_split rfl rfl (fun h => ?_) (fun h => ?_))
   | ((with_reducible refine is_awp ?_); refine awp_cond rfl (fun h => ?_) (fun h => ?_))
   | fail)
  simp only [List.append_eq, List.cons_append, List.nil_append]
  repeat' (first
   | refine st [] ?_
   | ((with_reducible refine is_gd ?_); refine awpL_split rfl rfl (fun h => ?_) (fun h => ?_))
   | ((with_reducible refine isD_gd ?_); ((fail_if_success (refine isD_kn (c := true) rfl qa0 ?_)); (fail_if_success (refine isD_kn (c := false) rfl qa0 ?_)); refine awpD_split rfl (fun h => ?_) (fun h => ?_)))
   | ((with_reducible refine is_awp ?_); refine awp_cond rfl (fun h => ?_) (fun h => ?_))
   | fail)
  exact retP rfl rfl
end Go.Proofs.YtigcjinpkngapaaGreatDoor
end
section
namespace Go.Proofs.YtigcjinpkngapaaGreatDoor
theorem parseD_size (s : ByteArray) : (parseD (lst s)).1.tiers.length ≤ s.size + 1 ∧ (parseD (lst s)).1.notes.length ≤ s.size + 1 ∧ (parseD (lst s)).1.rec_.speakers.length ≤ s.size + 1 := by
  have hz : zeroDoc.tiers.length = 0 ∧ zeroDoc.notes.length = 0 ∧ zeroDoc.rec_.speakers.length = 0 := ⟨rfl, rfl, rfl⟩
  unfold parseD
  by_cases h0 : lst s = []
  · rw [if_pos h0]; simp only; omega
  rw [if_neg h0]
  cases hl : linesW (lst s) with
  | none => simp only; omega
  | some ls =>
    obtain ⟨l1, l2⟩ := lines_fit hl
    have f1 := readF_len (ls.map toB) 0 zeroDoc
    have f3 := readF_spk l2
    simp only
    split
    · simp only; omega
    split
    · simp only; omega
    · simp only; omega
end Go.Proofs.YtigcjinpkngapaaGreatDoor
end
section
namespace Go.Proofs.YtigcjinpkngapaaGreatDoor
open Go.Ac
attribute [local irreducible] awp awpL Ev Ev2 EvS thenQ blockQ retQ PCalls OCalls
variable {g : List (Nat × List AV)}
set_option maxRecDepth 4000 in
set_option maxHeartbeats 4000000 in
theorem lawParsesF (hg : TG g) (s : ByteArray) : PCalls Tryz.prog g 4 [.v (.string s)] (vb true) := by
  have hAw := awakeT_spec hg
  have n1 : (!true) = false := rfl
  have n2 : (!false) = true := rfl
  have zT : decide True = true := rfl
  have zF : decide False = false := rfl
  have zNT : (!decide True) = false := rfl
  have zNF : (!decide False) = true := rfl
  have z1 : (true == true) = true := rfl
  have z2 : (false == false) = true := rfl
  have z3 : decide (true = true) = true := rfl
  have z4 : decide (false = false) = true := rfl
  have z5 : (decide True == true) = true := rfl
  have z6 : (decide False == false) = true := rfl
  have z00 : decide ((0 : Int) = 0) = true := rfl
  have y00 : (!decide ((0 : Int) = 0)) = false := rfl
  refine pcalls' Tryz.func4 Tryz.ntmps4 rfl rfl rfl ?_
  by_cases hs : (3000 : Int) < s.size
  · have c0 : decide ((3000 : Int) < s.size) = true := decide_eq_true hs
    repeat' (first
     | refine stn [] ?_
     | ((with_reducible refine is_gd ?_); refine awpL_split rfl rfl (fun h => ?_) (fun h => ?_))
     | ((with_reducible refine is_awp ?_); refine awp_cond rfl (fun h => ?_) (fun h => ?_))
     | fail)
    exact retP rfl rfl
  have c0 : decide ((3000 : Int) < s.size) = false := decide_eq_false hs
  have hP := wParse_small hg s (by omega)
  have hR := r15Parse_spec (g := g) s (by omega)
  obtain ⟨q1, q2, q3⟩ := parseD_size s
  have hSa := r12Same_spec (g := g) (parseD (lst s)).1 (parseD (lst s)).1 (by omega) (by omega) (by omega) (by omega)
  rw [decide_eq_true rfl] at hSa
  generalize parseD (lst s) = p at *
  obtain ⟨d, n, e⟩ := p
  simp only at hP hR hSa
  have c1 : decide (n = n) = true := by simp
  have c2 : decide (e = e) = true := by simp
  repeat' (first
   | refine stn [] ?_
   | ((with_reducible refine is_gd ?_); refine awpL_split rfl rfl (fun h => ?_) (fun h => ?_))
   | ((with_reducible refine is_awp ?_); refine awp_cond rfl (fun h => ?_) (fun h => ?_))
   | fail)
  exact retP rfl rfl
end Go.Proofs.YtigcjinpkngapaaGreatDoor
end
section
namespace Go.Ac
def OTCalls (P : Program) (g : List (Nat × List AV)) (f : FuncId) (args : List AV) (E sz : Nat) (es : List (List AV)) (z : Value) : Prop :=
  Callable P f ∧ ∀ (F : Nat → Prop) (w : World) (vs : Array Value), St (Glo.of g) (Cx.bare F w) [] → TF F w args vs.toList →
    CallsIn Fence.wide 0 P f vs w fun e w' => ∃ y c', e = .returned (.tuple #[y, z]) ∧ R c' (.os 0 0) y ∧ St (Glo.of g) c' [.own 0 E sz es] ∧ Ext (Cx.bare F w) c' ∧ c'.w = w' ∧ (∀ k, k ≠ 0 → c'.φ k = none)
section
variable {P : Program} {td : TDs} [T : TOK P td] {G : Glo} {N : Nat}
variable {Q : AQ} {S : SL} {L : List LB} {ops : Array Oper} {rest : List Oper} {ty : TypeId} {pos : String} {af : Array Edge} {d : Nat}
end
end Go.Ac
end
section
namespace Go.Proofs.YtigcjinpkngapaaGreatDoor
open Go.Ac
attribute [local irreducible] awp awpL Ev Ev2 EvS thenQ blockQ retQ PCalls OCalls OTCalls
variable {g : List (Nat × List AV)}
end Go.Proofs.YtigcjinpkngapaaGreatDoor
end
section
namespace Go.Proofs.YtigcjinpkngapaaGreatDoor
open Go.Ac
end Go.Proofs.YtigcjinpkngapaaGreatDoor
end
section
namespace Go.Proofs.YtigcjinpkngapaaGreatDoor
open Go.Ac Go.Lib Go.RowKit Go.ChangeShapes Go.WideShapes
theorem var_block {P : Program} {W : World} {n : String} {b : Nat} {cs : Array Value} (hg : P.globalNamed n = some b) (h : W.var? P n = some cs) : below W b ∧ ∀ k, cs.size = k → Exact W k b := by
  simp only [World.var?, hg, Option.bind_some] at h
  split at h
  · rename_i c T z hb
    cases h
    refine ⟨?_, fun k hk => ⟨_, _, _, hb, hk⟩⟩
    rcases Nat.lt_or_ge b W.heap.size with q | q
    · exact q
    · exfalso
      have : W.heap[b]? = none := Array.getElem?_eq_none q
      rw [this] at hb
      cases hb
  · cases h
theorem tab_glob {P : Program} {W : World} {name : String} {b t e n : Nat} {k : IntKind} {zs : List Int} (hn : P.globalNamed name = some b) (hy : (P.globals[b]?).map (·.type) = some t) (ht : P.underlying t = some (.array n e)) (he : P.underlying e = some (.int k)) (hce : P.cellsOf e = 1) (hct : P.cellsOf t = n)
    (h : VarReads P W name (tabData k zs)) : below W b ∧ MF (below W) W (zs.map fun z => AV.v (.int k z)) b 0 ∧ Exact W (zs.map fun z => AV.v (.int k z)).length b := by
  obtain ⟨g, t', cs, fuel, p, hg, hty, hvar, hd⟩ := h
  obtain rfl : g = b := Option.some.inj (hg.symm.trans hn)
  obtain rfl : t' = t := Option.some.inj (hty.symm.trans hy)
  have hcs := cells_of_tab (zs := zs) ht he hce hct hd
  obtain ⟨h1, h2⟩ := var_block hg hvar
  have hsz : cs.size = zs.length := by rw [← Array.length_toList, hcs, List.length_map]
  refine ⟨h1, MF.mk fun i x hx => ?_, h2 _ (by rw [List.length_map]; exact hsz)⟩
  rw [List.getElem?_map, Option.map_eq_some_iff] at hx
  obtain ⟨z, hz, rfl⟩ := hx
  refine ⟨.int k z, ?_, by simp [RF], rfl⟩
  rw [Nat.zero_add, World.var?_cell hg hvar i, ← Array.getElem?_toList, hcs, List.getElem?_map, hz]
  rfl
theorem err_type (u : TypeId) (hu : Tryz.prog.typeName? 3 u = some "*errors.errorString") : u = 232 :=
  typeName_ptr_named (nm := "errors.errorString") (by kernel_rfl) (by kernel_rfl) (by decide) u hu
theorem err_glob {W : World} {name : String} {b t : Nat} {ms : Array (String × TypeId)} (hn : Tryz.prog.globalNamed name = some b) (hy : (Tryz.prog.globals[b]?).map (·.type) = some t) (hi : Tryz.prog.underlying t = some (.interface ms)) {d : DataW Unit}
    (h : VarReads Tryz.prog W name (.iface "*errors.errorString" d)) : below W b ∧ MF (below W) W errCs b 0 ∧ Exact W errCs.length b := by
  obtain ⟨g, t', cs, fuel, p, hg, hty, hvar, hd⟩ := h
  obtain rfl : g = b := Option.some.inj (hg.symm.trans hn)
  obtain rfl : t' = t := Option.some.inj (hty.symm.trans hy)
  obtain ⟨_, u, v, hcs, hu, _⟩ := iface_of_trod hi hd
  obtain rfl := err_type u hu
  obtain ⟨h1, h2⟩ := var_block hg hvar
  have hsz : cs.size = 1 := by rw [← Array.length_toList, hcs]; rfl
  refine ⟨h1, MF.mk fun i x hx => ?_, h2 _ hsz⟩
  have hi0 : i = 0 := by have := (List.getElem?_eq_some_iff.1 hx).1; simpa using this
  subst hi0
  cases hx
  refine ⟨.iface 232 v, ?_, by simp [RF], rfl⟩
  rw [Nat.zero_add, World.var?_cell hg hvar 0, ← Array.getElem?_toList, hcs]
  rfl
abbrev laidP : List (String × DataW Unit) := [("math/bits.deBruijn32tab", Rows.laid_math_bits_deBruijn32tab), ("math/bits.deBruijn64tab", Rows.laid_math_bits_deBruijn64tab), ("internal/strconv.uint64pow10", Rows.laid_internal_strconv_uint64pow10), ("unicode/utf8.acceptRanges", Rows.laid_unicode_utf8_acceptRanges), ("strconv.ErrRange", Rows.laid_strconv_ErrRange), ("strconv.ErrSyntax", Rows.laid_strconv_ErrSyntax), ("langdoc/num.limits", Rows.laid_langdoc_num_limits), ("unicode/utf8.first", Rows.laid_unicode_utf8_first)]
abbrev laidT : List (String × DataW Unit) := [("math/bits.deBruijn32tab", Rows.laid_math_bits_deBruijn32tab), ("math/bits.deBruijn64tab", Rows.laid_math_bits_deBruijn64tab), ("internal/strconv.uint64pow10", Rows.laid_internal_strconv_uint64pow10), ("unicode/utf8.acceptRanges", Rows.laid_unicode_utf8_acceptRanges), ("errors.errorType", Rows.laid_errors_errorType), ("strconv.ErrRange", Rows.laid_strconv_ErrRange), ("strconv.ErrSyntax", Rows.laid_strconv_ErrSyntax), ("langdoc/num.limits", Rows.laid_langdoc_num_limits), ("unicode/utf8.first", Rows.laid_unicode_utf8_first)]
theorem pow_same : (Rows.laid_internal_strconv_uint64pow10 : DataW Unit) = tabData .u64 pow10Tab := by kernel_rfl
theorem lim_same : (Rows.laid_langdoc_num_limits : DataW Unit) = tabData .i64 [-1099511627776, 1099511627776] := by kernel_rfl
theorem num_reads {W : World} (h1 : VarReads Tryz.prog W "internal/strconv.uint64pow10" Rows.laid_internal_strconv_uint64pow10) (h2 : VarReads Tryz.prog W "langdoc/num.limits" Rows.laid_langdoc_num_limits)
    (h3 : VarReads Tryz.prog W "strconv.ErrSyntax" Rows.laid_strconv_ErrSyntax) (h4 : VarReads Tryz.prog W "strconv.ErrRange" Rows.laid_strconv_ErrRange) : ∀ q ∈ GN, below W q.1 ∧ MF (below W) W q.2 q.1 0 ∧ Exact W q.2.length q.1 := by
  rw [pow_same] at h1
  rw [lim_same] at h2
  intro q hq
  simp only [GN, List.mem_cons, List.not_mem_nil, or_false] at hq
  rcases hq with rfl | rfl | rfl | rfl
  · exact tab_glob (b := 1) (by kernel_rfl) (by kernel_rfl) Tryz.underlying169 Tryz.underlying3 (by kernel_rfl) (by kernel_rfl) h2
  · exact tab_glob (b := 4) (by kernel_rfl) (by kernel_rfl) Tryz.underlying207 Tryz.underlying153 (by kernel_rfl) (by kernel_rfl) h1
  · exact err_glob (b := 6) (by kernel_rfl) (by kernel_rfl) Tryz.underlying60 h3
  · exact err_glob (b := 7) (by kernel_rfl) (by kernel_rfl) Tryz.underlying60 h4
theorem u8x : U8Extra Tryz.prog laysValid_ren := { n3 := by kernel_rfl, n4 := by kernel_rfl, y3 := by kernel_rfl, y4 := by kernel_rfl, c5 := by kernel_rfl, c119 := by kernel_rfl, c138 := by kernel_rfl }
theorem first_same : Rows.laid_unicode_utf8_first = Go.Lib.firstData := by kernel_rfl
theorem accept_same : (Rows.laid_unicode_utf8_acceptRanges : DataW Unit) = Go.Lib.acceptData := by kernel_rfl
theorem below_of_cell {W : World} {b o : Nat} {u : Value} (h : W.cell? ⟨b, o, none⟩ = some u) : b < W.heap.size := by
  rcases Nat.lt_or_ge b W.heap.size with g | g
  · exact g
  · exfalso
    have : W.heap[b]? = none := Array.getElem?_eq_none g
    simp [World.cell?, this] at h
theorem trod_len {P : Program} {W : World} {fuel t n e : Nat} {cs : List Value} {x : DataW Unit × List MemPlace} (ht : P.underlying t = some (.array n e)) (h : DataW.trod (fun _ => ()) P W 0 (fun _ => true) false fuel t cs = some x) : cs.length = P.cellsOf t := by
  cases fuel with
  | zero => simp [DataW.trod] at h
  | succ fuel =>
    simp only [DataW.trod, ht] at h
    split at h
    · rename_i hl; exact hl
    · cases h
theorem exact_of {P : Program} {W : World} {name : String} {b t e n k : Nat} {d : DataW Unit} (hn : P.globalNamed name = some b) (hy : (P.globals[b]?).map (·.type) = some t) (ht : P.underlying t = some (.array n e)) (hct : P.cellsOf t = k)
    (h : VarReads P W name d) : Exact W k b := by
  obtain ⟨g, t', cs, fuel, p, hg, hty, hvar, hd⟩ := h
  obtain rfl : g = b := Option.some.inj (hg.symm.trans hn)
  obtain rfl : t' = t := Option.some.inj (hty.symm.trans hy)
  exact (var_block hg hvar).2 k (by rw [← Array.length_toList, trod_len ht hd, hct])
def GT (m : Int) : List (Nat × List AV) := (2, firstCs) :: (3, acceptCs) :: (0, [AV.ifc 129 (.agg [.v (hT 60)])]) :: (5, [AV.v (.int .i64 m)]) :: GN
theorem GT_tg (m : Int) : TG (GT m) := ⟨⟨by simp [GT, GN], by simp [GT, GN], by simp [GT, GN], by simp [GT, GN]⟩, ⟨m, by simp [GT]⟩, by simp [GT, ErrG], ⟨by simp [GT], by simp [GT]⟩⟩
theorem rt_row : (Tryz.prog.cutTypes.find? (·.1 == "internal/reflectlite.rtype")).map (·.2) = some 129 := by kernel_rfl
theorem ty_size : Tryz.prog.types.size = 262 := by kernel_rfl
theorem one_row : ((List.range 262).filter fun t => Tryz.prog.rowNamed t [101, 114, 114, 111, 114]) = [60] := by kernel_rfl
theorem handle_err {W : World} (h : laidMetH Tryz.prog laidT W) : laidMet Tryz.prog laidP W ∧ W.var? Tryz.prog "errors.errorType" = some #[rT 60] := by
  have h' : laidMet Tryz.prog laidP W ∧ handlesMet Tryz.prog [("errors.errorType", Rows.laid_errors_errorType)] W := h
  refine ⟨h'.1, ?_⟩
  obtain ⟨name, u, ty, e1, e2, e3, e4, e5⟩ := h'.2 _ (List.mem_singleton.2 rfl)
  have en : name = [101, 114, 114, 111, 114] := (Option.some.inj e1).symm
  subst en
  obtain rfl := Option.some.inj (rt_row.symm.trans e2)
  have hm : ty ∈ (List.range 262).filter fun t => Tryz.prog.rowNamed t [101, 114, 114, 111, 114] := List.mem_filter.2 ⟨List.mem_range.2 (by rw [← ty_size]; exact e3), e4⟩
  rw [one_row] at hm
  obtain rfl := List.mem_singleton.1 hm
  have hh : typeHandle Tryz.prog 60 = hT 60 := by kernel_rfl
  rw [hh] at e5
  exact e5
theorem max_cell {W : World} (h : W.ShapedOpen Tryz.prog) : ∃ m : Int, below W 5 ∧ MF (below W) W [AV.v (.int .i64 m)] 5 0 ∧ Exact W 1 5 := by
  have h0 : ((begin Tryz.prog (fun _ _ => 0) default).world.heap[5]?).bind Obj.row? = some (#[.int .i64 0], 3) := by kernel_rfl
  have hlt : 5 < Tryz.prog.globals.size := of_decide_eq_true (by kernel_rfl)
  obtain ⟨m, hm⟩ := cell_of_shapedOpen_int h hlt h0 rfl (by kernel_rfl) (by kernel_rfl) Tryz.underlying3
  obtain ⟨cs, hh, hs, _⟩ := h.1 _ _ _ hlt h0
  refine ⟨m, ?_, MF.mk fun i x hx => ?_, ⟨cs, _, _, hh, hs⟩⟩
  · rcases Nat.lt_or_ge 5 W.heap.size with q | q
    · exact q
    · rw [Array.getElem?_eq_none q] at hh; cases hh
  · have hi0 : i = 0 := by have := (List.getElem?_eq_some_iff.1 hx).1; simpa using this
    subst hi0
    cases hx
    exact ⟨.int .i64 m, by rw [Nat.zero_add]; exact hm, by simp [RF], rfl⟩
theorem laid_globT {W : World} (h : laidMetH Tryz.prog laidT W) (hS : W.ShapedOpen Tryz.prog) : ∃ m, ∀ q ∈ GT m, below W q.1 ∧ MF (below W) W q.2 q.1 0 ∧ Exact W q.2.length q.1 := by
  obtain ⟨h, hv⟩ := handle_err h
  obtain ⟨m, hm⟩ := max_cell hS
  refine ⟨m, ?_⟩
  have r3 : VarReads Tryz.prog W "unicode/utf8.first" firstData := by
    rw [← first_same]; exact laidMet.reads h (by simp [laidP])
  have r4 : VarReads Tryz.prog W "unicode/utf8.acceptRanges" acceptData := by
    rw [← accept_same]; exact laidMet.reads h (by simp [laidP])
  have ht := utf8Tabs_of_readsT (U8Types.of196 laysValid) u8x r3 r4
  have hnum := num_reads (laidMet.reads h (by simp [laidP])) (laidMet.reads h (by simp [laidP])) (laidMet.reads h (by simp [laidP])) (laidMet.reads h (by simp [laidP]))
  have l3 : firstCs.length = 256 := by simp [firstCs]
  have l4 : acceptCs.length = 32 := by simp [acceptCs]
  have e3 : Exact W firstCs.length 2 := by
    rw [l3]
    exact exact_of (by kernel_rfl) (by kernel_rfl) Tryz.underlying195 (by kernel_rfl) r3
  have e4 : Exact W acceptCs.length 3 := by
    rw [l4]
    exact exact_of (by kernel_rfl) (by kernel_rfl) Tryz.underlying198 (by kernel_rfl) r4
  intro q hq
  simp only [GT, List.mem_cons] at hq
  rcases hq with rfl | rfl | rfl | rfl | hq
  · refine ⟨below_of_cell (ht.1 0 (by omega)), MF.mk fun i x hx => ?_, e3⟩
    have hi : i < 256 := by have := (List.getElem?_eq_some_iff.1 hx).1; simpa [firstCs] using this
    refine ⟨_, by rw [Nat.zero_add]; exact ht.1 i hi, ?_, rfl⟩
    simp only [firstCs, List.getElem?_map, List.getElem?_range hi, Option.map_some, Option.some.injEq] at hx
    subst hx; simp [RF]
  · refine ⟨below_of_cell (ht.2 0 (by omega)).1, MF.mk fun i x hx => ?_, e4⟩
    have hi : i < 32 := by have := (List.getElem?_eq_some_iff.1 hx).1; simpa [acceptCs] using this
    simp only [acceptCs, List.getElem?_map, List.getElem?_range hi, Option.map_some, Option.some.injEq] at hx
    subst hx
    have h2 := ht.2 (i / 2) (by omega)
    by_cases he : i % 2 = 0
    · refine ⟨_, by rw [Nat.zero_add, show i = 2 * (i / 2) by omega]; exact h2.1, ?_, rfl⟩
      simp [RF, he]
    · refine ⟨_, by rw [Nat.zero_add, show i = 2 * (i / 2) + 1 by omega]; exact h2.2, ?_, rfl⟩
      simp [RF, he]
  · have hg : Tryz.prog.globalNamed "errors.errorType" = some 0 := by kernel_rfl
    obtain ⟨h1, h2⟩ := var_block hg hv
    refine ⟨h1, MF.mk fun i x hx => ?_, h2 1 rfl⟩
    have hi0 : i = 0 := by have := (List.getElem?_eq_some_iff.1 hx).1; simpa using this
    subst hi0
    cases hx
    refine ⟨rT 60, ?_, ?_, rfl⟩
    · rw [Nat.zero_add, World.var?_cell hg hv 0]; rfl
    · simp only [RF]
      exact ⟨_, rfl, _, rfl, by simp only [LF, RF]; exact ⟨_, _, rfl, rfl, rfl, rfl⟩⟩
  · exact hm
  · exact hnum q hq
noncomputable def worldT0 (os : Os) : World :=
  let w0 := World.holding Tryz.prog os ⟨#[], #[], []⟩
  { w0 with heap := w0.heap.modify 0 fun
      | .cells _ t frozen => .cells #[rT 60] t frozen
      | o => o }
noncomputable def worldT (os : Os) : World := (worldT0 os).layVars Tryz.prog laidP
theorem worldT_os (os : Os) : (worldT os).os = os := World.layVars_os _ _ _
theorem worldT_met (os : Os) (args : Array Value) : laidMetH Tryz.prog laidT ((worldT os).forCall (fun _ _ => 0) ⟨#[], args, []⟩).memory := by
  refine laidMetH_of_parts ?_ (by kernel_rfl)
  show laidMet Tryz.prog laidP _
  have e1 : (laidP.filter fun x => (laidP.map (·.1)).contains x.1) = laidP := List.filter_eq_self.2 fun x hx => List.contains_iff_mem.2 (List.mem_map.2 ⟨x, hx, rfl⟩)
  have e2 : (laidP.filter fun x => !(laidP.map (·.1)).contains x.1) = [] := List.filter_eq_nil_iff.2 fun x hx => by rw [List.contains_iff_mem.2 (List.mem_map.2 ⟨x, hx, rfl⟩)]; simp
  have h : laidMet Tryz.prog laidP (worldT os) := laidMet_layVars (w0 := worldT0 os) (laidP.map (·.1)) [] (by rw [e1]; rfl) (by rw [e1]; kernel_rfl) (by rw [e1]; kernel_rfl) (by rw [e2]; exact LaidIn.none)
  exact h.of_heap (by simp [World.memory, World.forCall, Input.heap])
section
variable {H : Type} {enc : TypeId × Value → H}
theorem handed_shaped {a : Assume} {C : Checked} {os : Os} {f : FuncId} {fn : Func} {s : ChangeSpec} {conds : List PathCond} {apart fresh handsOn again : Bool} {X : World → Array Value → Prop}
    (hX : ∀ (w w' : World) (args : Array Value), w.heap = w'.heap → X w args → X w' args)
    (own : ownKnob C.prog.godebug = none) (started : os.Started) (noInit : C.prog.inits.idxOf? f = none) (hfn : C.prog.funcs[f]? = some fn)
    (witness : ∃ (w : World) (tape : Tape) (i : Input), w.os = os ∧ (w.forCall tape i).Shaped C.prog ∧ i.vars = [] ∧ Input.okWide C.prog (w.forCall tape i) .any w.heap.size f i ∧
      ((s.pre enc C.prog fn conds apart (w.forCall tape i).memory i.args ∧ X (w.forCall tape i).memory i.args) ∧ sizedMet enc C.prog fn (OpenSpec.ofChange s) apart (w.forCall tape i).memory i.args) ∧ a.holds C.prog (lone (Frame.enter C.prog f i.args .normal) [] (w.forCall tape i)))
    (contract : ∀ (W : World) (base : Nat) (args : Array Value) (ds gs : List (DataW H)) (before : List MemPlace),
      (∀ (j : Nat) t v, fn.params[j]? = some t → args[j]? = some v → Value.okWide C.prog W .any base t v) →
      DataW.Whole enc C.prog fn.params.toList s.vars apart W args.toList ds gs before →
      conds.all (PathCond.test C.prog ⟨fn.params.toList, ds, s.plain.varTypes C.prog, gs⟩) = true →
      (DataW.weightsEach C.prog (fn.params.toList ++ s.plain.varTypes C.prog) (ds ++ gs)).all (· ≤ reachBytes) = true → X W args →
      W.ShapedOpen C.prog →
      a.holds C.prog (lone (Frame.enter C.prog f args .normal) [] W) →
      Calls C.prog f args W fun e W' => ∃ v, e = .returned v ∧ s.post enc C.prog fn apart fresh handsOn again W args v W') :
    ReturnsInHanded a C os f .any (fun w args => (s.pre enc C.prog fn conds apart w args ∧ X w args) ∧ sizedMet enc C.prog fn (OpenSpec.ofChange s) apart w args) (s.post enc C.prog fn apart fresh handsOn again) := by
  refine returnsInHanded_of_calls own started noInit witness ?_
  intro w tape i _ hsh _ hok hpre hholds
  obtain ⟨_, _, _, fn', hfn', _, _, _, _, hval⟩ := hok
  have e : fn' = fn := Option.some.inj (hfn'.symm.trans hfn)
  subst e
  obtain ⟨⟨⟨ds, gs, before, hw, hc⟩, hx⟩, hz⟩ := hpre
  have hw' := DataW.Whole.of_heap (w' := w.forCall tape i) (by rfl) hw
  refine (contract (w.forCall tape i) w.heap.size i.args ds gs before hval hw' hc (hz.weights hw) (hX _ _ _ (by rfl) hx) hsh hholds).mono fun e W' ⟨v, he, hp⟩ => ?_
  subst he
  exact ChangeSpec.post_blind hp
end
end Go.Proofs.YtigcjinpkngapaaGreatDoor
end
section
namespace Go.Ac
section
variable {P : Program} {td : TDs} [T : TOK P td] {H : Type} {enc : TypeId × Value → H} {W : World} {sp : Nat → Bool} {B : Nat}
end
end Go.Ac
end
section
namespace Go.Proofs.YtigcjinpkngapaaGreatDoor
open Go.Ac
variable {B : Nat}
end Go.Proofs.YtigcjinpkngapaaGreatDoor
end
section
namespace Go.Proofs.YtigcjinpkngapaaGreatDoor
open Go.Ac
variable {B : Nat}
end Go.Proofs.YtigcjinpkngapaaGreatDoor
end
