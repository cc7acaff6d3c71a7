/- A logic of trees over the model's steps, and the contracts of the functions that the laws reach: part 18 of 18. -/
import Derived.Test.YtigcjinpkngapaaGreatDoorE17
import Derived.Test.YtigcjinpkngapaaGreatDoorRows
import Derived.Lib.LaidU8T
import Derived.Lib.LaidTab
import Derived.LaidLaws
import Derived.LaidHandle
import Derived.Lay
import Derived.Shelf.Vars
import Derived.SizedLaws
import Derived.Handed
import Derived.ChangeArms
set_option linter.unusedVariables false
set_option linter.unusedSimpArgs false
set_option linter.unusedSectionVars false
section
namespace Go.Proofs.YtigcjinpkngapaaGreatDoor
open Go.Ac
attribute [local irreducible] awp awpL Ev Ev2 EvS thenQ blockQ retQ PCalls OCalls ICalls
variable {g : List (Nat × List AV)}
abbrev parsedV (x : Doc × Int × Int) : AV := .tup [.agg (docC x.1), vi x.2.1, vi x.2.2]
def ErrG (g : List (Nat × List AV)) : Prop := (0, [AV.ifc 129 (.agg [.v (hT 60)])]) ∈ g
theorem errX (F : Nat → Prop) (w : World) (u : Value) (h : RF F w (.ifc 129 (.agg [.v (hT 60)])) u) : u = rT 60 := by
  simp only [RF, LF] at h
  obtain ⟨u, rfl, xs, rfl, y, s, h1, rfl, _, rfl⟩ := h
  rw [← Array.toArray_toList (xs := xs), h1]
theorem asNil_spec (x : AV) : PCalls Tryz.prog g 40 [.v .nilIface, x] (vb false) := by
  have : PCalls Tryz.prog g 40 [.v .nilIface, .any] (vb false) := PCalls.ofBelow (callable Tryz.func40 rfl rfl) fun F w vs st ha => by
    simp only [TF, RF] at ha
    obtain ⟨y, s, h1, rfl, z, s2, rfl, _, rfl⟩ := ha
    have hv : vs = #[.nilIface, z] := by rw [← Array.toArray_toList (xs := vs), h1]
    rw [hv]
    refine (zAsNil z w).mono ?_
    rintro e w' ⟨rfl, rfl⟩
    exact ⟨rfl, Go.RowKit.Below.refl _ _⟩
  exact this.args (.cons (Le.rfl' _) (.cons (Le.any x) .nil))
theorem ahead0 (w : World) : Go.Sort.ahead w 0 = w := by simp [Go.Sort.ahead]
theorem four_grow (w : World) (a b c d : Obj) : (((w.alloc a).alloc b).alloc c).alloc d = Go.Sort.grow w (#[a] ++ #[b] ++ #[c] ++ #[d]) := by
  rw [Go.Sort.alloc_eq_grow, Go.Sort.alloc_eq_grow, Go.Sort.alloc_eq_grow, Go.Sort.alloc_eq_grow, Go.Sort.grow_grow, Go.Sort.grow_grow, Go.Sort.grow_grow]
  rfl
theorem asHit_at (n : Int) (b : Nat) (w : World) (hg : w.cell? ⟨0, 0, none⟩ = some (rT 60)) (h0 : w.cell? ⟨b, 0, none⟩ = some (.int .i64 0)) (hf : w.frozen? ⟨b, 0, none⟩ = false) :
    Go.Calls Tryz.prog 40 #[.iface 64 (.agg #[.int .i64 n]), .iface 66 (.pointer (some ⟨b, 0, none⟩))] w fun e w' => e = .returned (.bool true) ∧ ∃ c os, w' = (Go.Sort.grow (Go.Sort.ahead w c) os).setCell ⟨b, 0, none⟩ (.int .i64 n) := by
  refine (zAsHit n ⟨b, 0, none⟩ (.int .i64 0) w hg h0 hf).mono ?_
  rintro e w' ⟨rfl, rfl⟩
  exact ⟨rfl, 0, _, by rw [ahead0, four_grow]⟩
theorem le_zeroP (n m : Int) : Le (.tup [.agg zeroB, vi n, vi m]) (parsedV (zeroDoc, n, m)) := Le.tup (.cons (Le.agg le_zeroDoc) (.cons (Le.rfl' _) (.cons (Le.rfl' _) .nil)))
set_option maxRecDepth 8000 in
set_option maxHeartbeats 8000000 in
theorem wParse_spec (hN : NumG g) (hM : MaxG g) (hE : ErrG g) (hu : Utf g) (s : ByteArray) (hs : s.size ≤ 79000000)
    (hfit : ∀ ls, linesW (lst s) = some ls → (readF 0 zeroDoc (ls.map toB)).1.notes.length ≤ 100000 ∧ (readF 0 zeroDoc (ls.map toB)).1.tiers.length ≤ 1000000 ∧ (readF 0 zeroDoc (ls.map toB)).1.rec_.speakers.length ≤ 1000000) :
    PCalls Tryz.prog g 17 [.v (.string s)] (parsedV (parseD (lst s))) := by
  have n1 : (!true) = false := rfl
  have n2 : (!false) = true := rfl
  have hL := wLines_spec hM s (by omega)
  have hem : s = ⟨#[]⟩ ↔ lst s = [] := eq_toB s []
  refine pcalls' Tryz.func17 Tryz.ntmps17 rfl rfl rfl ?_
  unfold parseD
  by_cases h0 : s = ⟨#[]⟩
  · have c0 : decide (s = ⟨#[]⟩) = true := decide_eq_true h0
    rw [if_pos (hem.1 h0)]
    repeat' (first
     | refine stn [2, 9] ?_
     | ((with_reducible refine is_gd ?_); refine awpL_split rfl rfl (fun h => ?_) (fun h => ?_))
     | ((with_reducible refine is_awp ?_); refine awp_cond rfl (fun h => ?_) (fun h => ?_))
     | fail)
    exact retLe rfl (le_zeroP 0 4)
  have c0 : decide (s = ⟨#[]⟩) = false := decide_eq_false h0
  rw [if_neg (fun q => h0 (hem.2 q))]
  cases hl : linesW (lst s) with
  | none =>
    rw [hl] at hL
    replace hL : PCalls _ _ _ _ (.tup [encSs [], vb false]) := hL
    repeat' (first
     | refine stn [2, 9] ?_
     | ((with_reducible refine is_gd ?_); refine awpL_split rfl rfl (fun h => ?_) (fun h => ?_))
     | ((with_reducible refine is_awp ?_); refine awp_cond rfl (fun h => ?_) (fun h => ?_))
     | fail)
    exact retLe rfl (le_zeroP 0 3)
  | some ls =>
    rw [hl] at hL
    replace hL : PCalls _ _ _ _ (.tup [encSs (ls.map toB), vb true]) := hL
    obtain ⟨l1, l2⟩ := lines_fit hl
    have hR := wread_spec hN hM (ls.map toB) (by omega) (fun x hx => by have := l2 x hx; omega)
    obtain ⟨f1, f2, f3⟩ := hfit ls hl
    have hin := readF_in (ls.map toB) 0 zeroDoc zero_in
    simp only
    generalize readF 0 zeroDoc (ls.map toB) = p at *
    obtain ⟨d, ln⟩ := p
    simp only at f1 f2 f3 hin ⊢
    unfold readV at hR
    simp only at hR
    by_cases hz : ln = 0
    · rw [if_pos hz] at hR
      rw [if_neg (by simpa using hz)]
      have hC := wCheck_spec hu d f1 f2 (fun n hn => by have := (hin.n n hn).r; unfold inNum at this; omega)
      have hP := wprintable_spec (g := g) d f3
      by_cases he : docE d = 0
      case neg =>
        have c1 : (!decide (docE d = 0)) = true := by rw [decide_eq_false he]; rfl
        have hp : printE d = docE d := by unfold printE; rw [if_pos he]
        rw [hp, if_pos he]
        repeat' (first
         | ((with_reducible refine is_un ?_); (first | refine awpL_ev (ev_mkifc rfl Tryz.underlying66 rfl) rfl ?_ | refine awpL_callS rfl rfl (asNil_spec _) rfl rfl ?_))
         | refine stn [2, 9] ?_
         | ((with_reducible refine is_gd ?_); refine awpL_split rfl rfl (fun h => ?_) (fun h => ?_))
         | ((with_reducible refine is_awp ?_); refine awp_cond rfl (fun h => ?_) (fun h => ?_))
         | fail)
        exact retLe rfl (le_zeroP 0 (docE d))
      have c1 : (!decide (docE d = 0)) = false := by rw [decide_eq_true he]; rfl
      cases hr : recOk d.rec_ with
      | false =>
        rw [hr] at hP
        have hp : printE d = 1 := by unfold printE; rw [if_neg (by simpa using he), hr]; rfl
        rw [hp, if_pos (by decide)]
        repeat' (first
         | ((with_reducible refine is_un ?_); (first | refine awpL_ev (ev_mkifc rfl Tryz.underlying66 rfl) rfl ?_ | refine awpL_callS rfl rfl (asNil_spec _) rfl rfl ?_))
         | refine stn [2, 9] ?_
         | ((with_reducible refine is_gd ?_); refine awpL_split rfl rfl (fun h => ?_) (fun h => ?_))
         | ((with_reducible refine is_awp ?_); refine awp_cond rfl (fun h => ?_) (fun h => ?_))
         | fail)
        exact retLe rfl (le_zeroP 0 1)
      | true =>
        rw [hr] at hP
        have hp : printE d = 0 := by unfold printE; rw [if_neg (by simpa using he), hr]; rfl
        rw [hp, if_neg (by decide)]
        repeat' (first
         | ((with_reducible refine is_un ?_); (first | refine awpL_ev (ev_mkifc rfl Tryz.underlying66 rfl) rfl ?_ | refine awpL_callS rfl rfl (asNil_spec _) rfl rfl ?_))
         | refine stn [2, 9] ?_
         | ((with_reducible refine is_gd ?_); refine awpL_split rfl rfl (fun h => ?_) (fun h => ?_))
         | ((with_reducible refine is_awp ?_); refine awp_cond rfl (fun h => ?_) (fun h => ?_))
         | fail)
        exact retP rfl rfl
    · rw [if_neg hz] at hR
      rw [if_pos hz]
      have hA := asHit_at ln
      repeat' (first
       | refine awp_frz 9 (c := .region 9 _ _) rfl rfl rfl rfl ?_
       | ((with_reducible refine is_un ?_); (first | refine awpL_ev (ev_mkifc rfl Tryz.underlying66 rfl) rfl ?_ | refine awpL_tgt rfl rfl rfl (callable Tryz.func40 rfl rfl) hE errX hA rfl rfl ?_))
       | refine st [2, 9] ?_
       | ((with_reducible refine is_gd ?_); refine awpL_split rfl rfl (fun h => ?_) (fun h => ?_))
       | ((with_reducible refine isD_gd ?_); ((fail_if_success (refine isD_kn (c := true) rfl qa0 ?_)); (fail_if_success (refine isD_kn (c := false) rfl qa0 ?_)); refine awpD_split rfl (fun h => ?_) (fun h => ?_)))
       | ((with_reducible refine is_awp ?_); refine awp_cond rfl (fun h => ?_) (fun h => ?_))
       | fail)
      exact retLe rfl (le_zeroP ln 3)
end Go.Proofs.YtigcjinpkngapaaGreatDoor
end
section
namespace Go.Proofs.YtigcjinpkngapaaGreatDoor
open Go.Ac
attribute [local irreducible] awp awpL Ev Ev2 EvS thenQ blockQ retQ PCalls OCalls ICalls
variable {g : List (Nat × List AV)}
end Go.Proofs.YtigcjinpkngapaaGreatDoor
end
section
namespace Go.Proofs.YtigcjinpkngapaaGreatDoor
theorem lst_toB (l : List UInt8) : lst (toB l) = l := toB_list l
theorem toB_lst (s : ByteArray) : toB (lst s) = s := ((eq_toB s (lst s)).2 rfl).symm
theorem map_back (l : List ByteArray) : (l.map lst).map toB = l := by
  rw [List.map_map]
  conv => rhs; rw [← List.map_id l]
  exact List.map_congr_left fun s _ => toB_lst s
theorem numsP_map : ∀ {l : List Int}, (∀ n ∈ l, inNum n) → numsP (l.map numT) = some l
  | [], _ => rfl
  | n :: r, h => by
    rw [List.map_cons, numsP, numP_numT (h n (by simp)), numsP_map (fun m hm => h m (by simp [hm]))]
    rfl
theorem recP_recW {r : Recording} (h : RecIn r) : recP (recW r) = some r := by
  have hn : numsP (numT r.id :: ([numT r.length, numT r.day] ++ r.speakers.map numT)) = some (r.id :: r.length :: r.day :: r.speakers) := by
    have := numsP_map (l := r.id :: r.length :: r.day :: r.speakers) (fun n hn => by
      simp only [List.mem_cons] at hn
      rcases hn with rfl | rfl | rfl | hn
      · exact h.i
      · exact h.l
      · exact h.d
      · exact h.s n hn)
    simpa using this
  unfold recW recP
  simp only [List.cons_append, List.nil_append, List.length_cons] at hn ⊢
  rw [if_pos ⟨trivial, by omega⟩, hn]
theorem tierP_tierW {t : Tier} (h : TierIn t) : tierP (tierW t) = some t := by
  have hn := numsP_map (l := [t.kind, t.role, t.parent]) (fun n hn => by
    simp only [List.mem_cons, List.not_mem_nil, or_false] at hn
    rcases hn with rfl | rfl | rfl
    · exact h.k
    · exact h.r
    · exact h.p)
  unfold tierW tierP
  simp only [List.map_cons, List.map_nil, List.cons_append, List.nil_append] at hn ⊢
  rw [if_pos trivial, hn]
theorem noteP_noteW {n : Note} (h : NoteIn n) : noteP (noteW n) = some n := by
  have hn := numsP_map (l := [n.id, n.tier, n.parent, n.span.fro, n.span.til, n.rank]) (fun m hm => by
    simp only [List.mem_cons, List.not_mem_nil, or_false] at hm
    rcases hm with rfl | rfl | rfl | rfl | rfl | rfl
    · exact h.i
    · exact h.t
    · exact h.p
    · exact h.f
    · exact h.e
    · exact h.r)
  unfold noteW noteP
  simp only [List.map_cons, List.map_nil, List.cons_append, List.nil_append] at hn ⊢
  rw [if_pos trivial, hn]
theorem tierP_noteW (n : Note) : tierP (noteW n) = none := rfl
theorem splitW_line (w : List ByteArray) : splitW (lst (toB (joinW (w.map lst)))) = some (w.map lst) := by rw [lst_toB, split_join]
theorem lineP_rec {r : Recording} (h : RecIn r) : lineP 0 zeroDoc (recL r) = some ⟨r, [], []⟩ := by
  unfold lineP recL
  rw [splitW_line]
  simp only [if_true, map_back, recP_recW h, Option.map_some]
  rfl
theorem lineP_tier {i : Nat} {d : Doc} {t : Tier} (h : TierIn t) (hn : d.notes = []) : lineP (i + 1) d (tierL t) = some { d with tiers := d.tiers ++ [t] } := by
  unfold lineP tierL
  rw [splitW_line]
  simp only [Nat.add_one_ne_zero, if_false, map_back]
  unfold furP
  rw [tierP_tierW h]
  simp [hn]
theorem lineP_note {i : Nat} {d : Doc} {n : Note} (h : NoteIn n) : lineP (i + 1) d (noteL n) = some { d with notes := d.notes ++ [n] } := by
  unfold lineP noteL
  rw [splitW_line]
  simp only [Nat.add_one_ne_zero, if_false, map_back]
  unfold furP
  rw [tierP_noteW, noteP_noteW h]
theorem readF_notes : ∀ (N : List Note) (i : Nat) (d : Doc) (r : List ByteArray), (∀ n ∈ N, NoteIn n) → readF (i + 1) d (N.map noteL ++ r) = readF (i + 1 + N.length) { d with notes := d.notes ++ N } r
  | [], i, d, r, _ => by simp
  | n :: N, i, d, r, h => by
    rw [List.map_cons, List.cons_append, readF, lineP_note (h n (by simp))]
    simp only
    rw [readF_notes N (i + 1) _ r (fun m hm => h m (by simp [hm]))]
    simp only [List.length_cons, List.append_assoc, List.singleton_append]
    congr 1; omega
theorem readF_tiers : ∀ (T : List Tier) (i : Nat) (d : Doc) (r : List ByteArray), (∀ t ∈ T, TierIn t) → d.notes = [] → readF (i + 1) d (T.map tierL ++ r) = readF (i + 1 + T.length) { d with tiers := d.tiers ++ T } r
  | [], i, d, r, _, _ => by simp
  | t :: T, i, d, r, h, hn => by
    rw [List.map_cons, List.cons_append, readF, lineP_tier (h t (by simp)) hn]
    simp only
    rw [readF_tiers T (i + 1) { d with tiers := d.tiers ++ [t] } r (fun m hm => h m (by simp [hm])) hn]
    simp only [List.length_cons, List.append_assoc, List.singleton_append]
    congr 1; omega
theorem readF_docL {d : Doc} (h : DocIn d) (r : List ByteArray) : readF 0 zeroDoc (docL d ++ r) = readF (docL d).length d r := by
  unfold docL
  rw [List.cons_append, readF, lineP_rec h.r]
  simp only
  rw [List.append_assoc, readF_tiers d.tiers 0 ⟨d.rec_, [], []⟩ _ h.t rfl]
  have := readF_notes d.notes (0 + d.tiers.length) ⟨d.rec_, d.tiers, []⟩ r h.n
  rw [show 0 + 1 + d.tiers.length = 0 + d.tiers.length + 1 by omega]
  simp only [List.nil_append] at this ⊢
  rw [this]
  congr 1
  simp; omega
theorem line_no (w : List ByteArray) : (10 : UInt8) ∉ lst (toB (joinW (w.map lst))) := by rw [lst_toB]; exact joinW_no _
theorem docL_no (d : Doc) : ∀ x ∈ (docL d).map lst, (10 : UInt8) ∉ x := by
  intro x hx
  obtain ⟨y, hy, rfl⟩ := List.mem_map.1 hx
  simp only [docL, List.mem_cons, List.mem_append, List.mem_map] at hy
  rcases hy with rfl | ⟨t, _, rfl⟩ | ⟨n, _, rfl⟩
  · exact line_no _
  · exact line_no _
  · exact line_no _
theorem lines_doc (d : Doc) : linesW (printD d) = some ((docL d).map lst) := lines_text (docL_no d)
theorem textW_ne {x : List UInt8} {r : List (List UInt8)} : textW (x :: r) ≠ [] := by simp [textW]
theorem printD_ne (d : Doc) : printD d ≠ [] := textW_ne
theorem parse_print {d : Doc} (h : DocIn d) (hp : printE d = 0) : parseD (printD d) = (d, 0, 0) := by
  unfold parseD
  rw [if_neg (printD_ne d), lines_doc]
  have : readF 0 zeroDoc (docL d) = (d, 0) := by
    have := readF_docL h []
    rw [List.append_nil] at this
    rw [this]; rfl
  simp only [map_back, this]
  simp [hp]
end Go.Proofs.YtigcjinpkngapaaGreatDoor
end
section
namespace Go.Proofs.YtigcjinpkngapaaGreatDoor
theorem spkOk_in : ∀ {l : List Int} {last : Int}, 0 ≤ last → spkOk last l = true → ∀ n ∈ l, inNum n
  | [], _, _, _, n, hn => by cases hn
  | m :: r, last, h0, h, n, hn => by
    simp only [spkOk, Bool.and_eq_true, decide_eq_true_eq] at h
    rcases List.mem_cons.1 hn with rfl | hn
    · unfold inNum; omega
    · exact spkOk_in (by omega) h.2.2 n hn
theorem recOk_in {r : Recording} (h : recOk r = true) : RecIn r := by
  simp only [recOk, Bool.and_eq_true, decide_eq_true_eq] at h
  obtain ⟨h1, h2, _, h4, h5, h6, h7, _, h9⟩ := h
  exact ⟨by unfold inNum; omega, by unfold inNum; omega, by unfold inNum; omega, spkOk_in (Int.le_refl _) h9⟩
theorem tierOne_role {b : List Tier} {t : Tier} (h : tierOne b t = 0) : 0 ≤ t.role ∧ t.role ≤ 5 := by
  unfold tierOne at h
  split at h
  · cases h
  split at h
  · cases h
  split at h
  · cases h
  split at h
  · cases h
  · omega
theorem tiers_in {l : List Tier} (h : tiersE l = 0) : ∀ t ∈ l, TierIn t := by
  intro t ht
  obtain ⟨k, hk⟩ := List.mem_iff_getElem?.1 ht
  have h1 := tiersE_one h hk
  have h2 := tierOne_parent h1
  have h3 := tierOne_role h1
  have h4 := tiersE_len h
  have h5 : (l.take k).length ≤ 12 := by rw [List.length_take]; omega
  exact ⟨by unfold inNum; omega, by unfold inNum; omega, by unfold inNum; omega⟩
theorem rank_lt {l : List Int} (h : rankedL l = true) {r : Int} (hr : r ∈ l) : 0 ≤ r ∧ r < l.length := by
  rcases Classical.em (0 ≤ r ∧ r < l.length) with g | g
  · exact g
  · exfalso
    have := pigeon l.length (l.erase r) 0 fun n hn => by
      simp only [rankedL, List.all_eq_true, List.mem_range, List.any_eq_true, decide_eq_true_eq] at h
      obtain ⟨q, hq, e⟩ := h n hn
      refine (List.mem_erase_of_ne (by omega)).2 (by rw [Int.zero_add, ← e]; exact hq)
    rw [List.length_erase_of_mem hr] at this
    have := List.length_pos_of_mem hr
    omega
theorem eachE_all {d : Doc} : ∀ (m i : Nat), eachE d m i = 0 → ∀ j, i ≤ j → j < i + m → tierE d (j : Int) = 0
  | 0, i, _, j, h1, h2 => by omega
  | m + 1, i, h, j, h1, h2 => by
    rw [eachE] at h
    split at h
    · rename_i h3; exact absurd h h3
    · rename_i h3
      rcases Nat.eq_or_lt_of_le h1 with rfl | h4
      · exact Decidable.of_not_not h3
      · exact eachE_all m (i + 1) h j h4 (by omega)
theorem placedE_more {d : Doc} {t : Tier} {n : Note} (h : placedE d t n = 0) : (t.kind = 0 → n.parent = 0) ∧ (t.kind ≠ 3 → n.rank = 0) := by
  unfold placedE at h
  split at h
  · cases h
  rename_i h1
  split at h
  · cases h
  split at h
  · cases h
  split at h
  · cases h
  split at h
  · cases h
  rename_i h5
  refine ⟨fun hk => ?_, fun hk => ?_⟩
  · rcases Decidable.em (n.parent = 0) with e | e
    · exact e
    · exact absurd (.inl ⟨hk, e⟩) h1
  · rcases Decidable.em (n.rank = 0) with e | e
    · exact e
    · exact absurd (.inr ⟨e, hk⟩) h5
theorem series_rank {d : Doc} {i : Nat} {t : Tier} (h : tierE d (i : Int) = 0) (ht : d.tiers[i]? = some t) (hk : t.kind = 3) {n : Note} (hn : n ∈ d.notes) (hi : n.tier = (i : Int)) : n.rank < d.notes.length := by
  have hte : tierE d (i : Int) = tierE1 d 3 (i : Int) 0 d.notes := by
    unfold tierE tierAt
    rw [if_pos (by omega), Int.toNat_natCast, ht]
    simp only [hk]
  rw [hte, tierE1_eq] at h
  rw [if_neg (fun q => by cases q.1)] at h
  split at h
  · cases h
  · rename_i h2
    have hb : badG 3 (sibs d (i : Int) n.parent) ((getN d.notes n.parent).getD noNote).span = false := by
      rw [Bool.eq_false_iff]
      intro q
      apply h2
      rw [List.any_eq_true]
      exact ⟨n, List.mem_filter.2 ⟨hn, by simpa using hi⟩, q⟩
    have hr : rankedL ((sibs d (i : Int) n.parent).map (·.rank)) = true := by simpa [badG] using hb
    have hmem : n ∈ sibs d (i : Int) n.parent := List.mem_filter.2 ⟨hn, by simp [hi]⟩
    have := (rank_lt hr (List.mem_map.2 ⟨n, hmem, rfl⟩)).2
    rw [List.length_map] at this
    have h3 : (sibs d (i : Int) n.parent).length ≤ d.notes.length := List.length_filter_le ..
    omega
theorem doc_in {d : Doc} (h : docE d = 0) : ∀ n ∈ d.notes, NoteIn n := by
  obtain ⟨hT, _, _, hl, hN, hE⟩ := docE_zero h
  have ids : ∀ n ∈ d.notes, 1 ≤ n.id ∧ n.id ≤ 1099511627776 := fun n hn => by
    obtain ⟨q, hq⟩ := notesE_all _ _ hN n hn
    obtain ⟨h1, h2, _⟩ := noteE_zero hq
    exact ⟨h1, h2⟩
  intro n hn
  obtain ⟨q, hq⟩ := notesE_all _ _ hN n hn
  obtain ⟨h1, h2, _, t, ht, hp⟩ := noteE_zero hq
  obtain ⟨t0, t1⟩ := tierAt_some ht
  have hlt := (List.getElem?_eq_some_iff.1 t1).1
  have h12 := tiersE_len hT
  have k := placedE_zero hp
  have k2 := placedE_more hp
  have hi : n.tier = ((n.tier.toNat : Nat) : Int) := by omega
  refine ⟨by unfold inNum; omega, by unfold inNum; omega, ?_, ?_, ?_, ?_⟩
  · by_cases hk : t.kind = 0
    · rw [k2.1 hk]; decide
    · obtain ⟨p, hg, _⟩ := k.p hk
      have := ids p (getN_id hg).2
      rw [(getN_id hg).1] at this
      unfold inNum; omega
  · cases htm : timed t.kind with
    | true => have := right_iff.1 (k.s htm); unfold inNum; omega
    | false => rw [k.z htm]; decide
  · cases htm : timed t.kind with
    | true => have := right_iff.1 (k.s htm); unfold inNum; omega
    | false => rw [k.z htm]; decide
  · have hr := k.r
    by_cases hk : t.kind = 3
    · have hz := eachE_all d.tiers.length 0 hE n.tier.toNat (Nat.zero_le _) (by omega)
      have := series_rank hz t1 hk hn hi
      unfold inNum; omega
    · rw [k2.2 hk]; decide
theorem print_in {d : Doc} (h : printE d = 0) : DocIn d := by
  obtain ⟨h1, h2⟩ := printE_zero h
  exact ⟨recOk_in h2, tiers_in (docE_zero h1).1, doc_in h1⟩
theorem parse_doc {d : Doc} (h : DocIn d) : parseD (printD d) = if printE d ≠ 0 then (zeroDoc, 0, printE d) else (d, 0, 0) := by
  unfold parseD
  rw [if_neg (printD_ne d), lines_doc]
  have : readF 0 zeroDoc (docL d) = (d, 0) := by
    have := readF_docL h []
    rw [List.append_nil] at this
    rw [this]; rfl
  simp only [map_back, this]
  rw [if_neg (by simp)]
end Go.Proofs.YtigcjinpkngapaaGreatDoor
end
section
namespace Go.Proofs.YtigcjinpkngapaaGreatDoor
open Go.Lib
theorem num_lit {n : Int} {l : List UInt8} (h : itoa n = l) : numT n = ⟨l.toArray⟩ := by unfold numT; rw [h]
theorem it0 : itoa 0 = [48] := by unfold itoa; rw [if_neg (by omega), decDigits, dif_pos (by decide)]; rfl
theorem it1 : itoa 1 = [49] := by unfold itoa; rw [if_neg (by omega), decDigits, dif_pos (by decide)]; rfl
theorem it3 : itoa 3 = [51] := by unfold itoa; rw [if_neg (by omega), decDigits, dif_pos (by decide)]; rfl
theorem it4 : itoa 4 = [52] := by unfold itoa; rw [if_neg (by omega), decDigits, dif_pos (by decide)]; rfl
theorem it5 : itoa 5 = [53] := by unfold itoa; rw [if_neg (by omega), decDigits, dif_pos (by decide)]; rfl
theorem it7 : itoa 7 = [55] := by unfold itoa; rw [if_neg (by omega), decDigits, dif_pos (by decide)]; rfl
theorem it9 : itoa 9 = [57] := by unfold itoa; rw [if_neg (by omega), decDigits, dif_pos (by decide)]; rfl
theorem itm1 : itoa (-1) = [45, 49] := by unfold itoa; rw [if_pos (by omega), decDigits, dif_pos (by decide)]; rfl
theorem it400 : itoa 400 = [52, 48, 48] := by unfold itoa; rw [if_neg (by omega), decDigits, dif_neg (by decide), decDigits, dif_neg (by decide), decDigits, dif_pos (by decide)]; rfl
theorem it900 : itoa 900 = [57, 48, 48] := by unfold itoa; rw [if_neg (by omega), decDigits, dif_neg (by decide), decDigits, dif_neg (by decide), decDigits, dif_pos (by decide)]; rfl
def tapeRec (l : List Int) : Recording := ⟨3, ⟨#[116, 97, 112, 101]⟩, 900, 5, l⟩
theorem sample_rec : recW sampleD.rec_ = [kRec, ⟨#[51]⟩, ⟨#[116, 97, 112, 101]⟩, ⟨#[57, 48, 48]⟩, ⟨#[53]⟩, ⟨#[49]⟩, ⟨#[52]⟩] := by
  simp only [recW, sampleD, List.map_cons, List.map_nil, num_lit it3, num_lit it900, num_lit it5, num_lit it1, num_lit it4]
  rfl
theorem sample_tier : tierW ⟨⟨#[116, 101, 120, 116]⟩, 0, 1, -1⟩ = [kTier, ⟨#[116, 101, 120, 116]⟩, ⟨#[48]⟩, ⟨#[49]⟩, ⟨#[45, 49]⟩] := by
  simp only [tierW, List.map_cons, List.map_nil, num_lit it0, num_lit it1, num_lit itm1]
  rfl
theorem sample_note1 : noteW ⟨7, 0, 0, ⟨0, 400⟩, 0, ⟨#[98, 97, 32, 109, 105]⟩⟩ = [kNote, ⟨#[55]⟩, ⟨#[48]⟩, ⟨#[48]⟩, ⟨#[48]⟩, ⟨#[52, 48, 48]⟩, ⟨#[48]⟩, ⟨#[98, 97, 32, 109, 105]⟩] := by
  simp only [noteW, List.map_cons, List.map_nil, num_lit it0, num_lit it7, num_lit it400]
  rfl
theorem sample_note2 : noteW ⟨9, 0, 0, ⟨400, 900⟩, 0, .empty⟩ = [kNote, ⟨#[57]⟩, ⟨#[48]⟩, ⟨#[48]⟩, ⟨#[52, 48, 48]⟩, ⟨#[57, 48, 48]⟩, ⟨#[48]⟩, .empty] := by
  simp only [noteW, List.map_cons, List.map_nil, num_lit it0, num_lit it9, num_lit it400, num_lit it900]
  rfl
def wantL : List UInt8 := [114, 101, 99, 111, 114, 100, 105, 110, 103, 32, 51, 32, 116, 97, 112, 101, 32, 57, 48, 48, 32, 53, 32, 49, 32, 52, 10,
  116, 105, 101, 114, 32, 116, 101, 120, 116, 32, 48, 32, 49, 32, 45, 49, 10,
  110, 111, 116, 101, 32, 55, 32, 48, 32, 48, 32, 48, 32, 52, 48, 48, 32, 48, 32, 98, 97, 37, 50, 48, 109, 105, 10,
  110, 111, 116, 101, 32, 57, 32, 48, 32, 48, 32, 52, 48, 48, 32, 57, 48, 48, 32, 48, 32, 37, 45, 10]
theorem sample_print : printD sampleD = wantL := by
  have e : docL sampleD = [toB (joinW ((recW sampleD.rec_).map lst)), toB (joinW ((tierW ⟨⟨#[116, 101, 120, 116]⟩, 0, 1, -1⟩).map lst)), toB (joinW ((noteW ⟨7, 0, 0, ⟨0, 400⟩, 0, ⟨#[98, 97, 32, 109, 105]⟩⟩).map lst)), toB (joinW ((noteW ⟨9, 0, 0, ⟨400, 900⟩, 0, .empty⟩).map lst))] := rfl
  unfold printD
  rw [e, sample_rec, sample_tier, sample_note1, sample_note2]
  decide
theorem sample_ok : printE sampleD = 0 := by decide
theorem parse_want : parseD wantL = (sampleD, 0, 0) := by
  rw [← sample_print]
  exact parse_print (print_in sample_ok) sample_ok
def lit2 : List UInt8 := [114, 101, 99, 111, 114, 100, 105, 110, 103, 32, 51, 32, 116, 97, 112, 101, 32, 57, 48, 48, 32, 53, 32, 49, 10, 116, 105, 101, 114, 32, 116, 101, 120, 116, 32, 48, 32, 49, 32, 120, 10]
def lit3 : List UInt8 := [114, 101, 99, 111, 114, 100, 105, 110, 103, 32, 51, 32, 116, 97, 112, 101, 32, 57, 48, 48, 32, 53, 10]
theorem tape_rec1 : recW (tapeRec [1]) = [kRec, ⟨#[51]⟩, ⟨#[116, 97, 112, 101]⟩, ⟨#[57, 48, 48]⟩, ⟨#[53]⟩, ⟨#[49]⟩] := by
  simp only [recW, tapeRec, List.map_cons, List.map_nil, num_lit it3, num_lit it900, num_lit it5, num_lit it1]
  rfl
theorem tape_rec0 : recW (tapeRec []) = [kRec, ⟨#[51]⟩, ⟨#[116, 97, 112, 101]⟩, ⟨#[57, 48, 48]⟩, ⟨#[53]⟩] := by
  simp only [recW, tapeRec, List.map_cons, List.map_nil, num_lit it3, num_lit it900, num_lit it5]
  rfl
theorem tape_in (l : List Int) (h : ∀ n ∈ l, inNum n) : RecIn (tapeRec l) := ⟨(show inNum 3 by decide), (show inNum 900 by decide), (show inNum 5 by decide), h⟩
theorem parse_lit3 : parseD lit3 = (zeroDoc, 0, 1) := by
  have e : printD ⟨tapeRec [], [], []⟩ = lit3 := by
    have e1 : docL ⟨tapeRec [], [], []⟩ = [toB (joinW ((recW (tapeRec [])).map lst))] := rfl
    unfold printD
    rw [e1, tape_rec0]
    decide
  rw [← e, parse_doc ⟨tape_in [] (fun n hn => (by cases hn)), fun t ht => (by cases ht), fun t ht => (by cases ht)⟩]
  have : printE ⟨tapeRec [], [], []⟩ = 1 := by decide
  rw [this]; rfl
theorem numP_x : numP ⟨#[120]⟩ = none := by
  unfold numP
  have : atoiAll [120] = atoiAll [120] := rfl
  rfl
theorem parse_lit2 : parseD lit2 = (zeroDoc, 2, 3) := by
  unfold parseD
  have h1 : linesW lit2 = some [[114, 101, 99, 111, 114, 100, 105, 110, 103, 32, 51, 32, 116, 97, 112, 101, 32, 57, 48, 48, 32, 53, 32, 49], [116, 105, 101, 114, 32, 116, 101, 120, 116, 32, 48, 32, 49, 32, 120]] := by decide
  have h2 : toB [114, 101, 99, 111, 114, 100, 105, 110, 103, 32, 51, 32, 116, 97, 112, 101, 32, 57, 48, 48, 32, 53, 32, 49] = recL (tapeRec [1]) := by
    unfold recL
    rw [tape_rec1]
    decide
  have h3 : splitW [116, 105, 101, 114, 32, 116, 101, 120, 116, 32, 48, 32, 49, 32, 120] = some [[116, 105, 101, 114], [116, 101, 120, 116], [48], [49], [120]] := by decide
  have h4 : tierP [toB [116, 105, 101, 114], toB [116, 101, 120, 116], toB [48], toB [49], toB [120]] = none := by
    have n0 : numP (toB [48]) = some 0 := numP_some.2 ⟨num_lit it0, by decide⟩
    have n1 : numP (toB [49]) = some 1 := numP_some.2 ⟨num_lit it1, by decide⟩
    have n2 : numP (toB [120]) = none := numP_x
    unfold tierP
    simp only [numsP, n0, n1, n2, Option.map_none]
    split <;> rfl
  rw [if_neg (by decide), h1]
  have h5 : readF 0 zeroDoc ([[114, 101, 99, 111, 114, 100, 105, 110, 103, 32, 51, 32, 116, 97, 112, 101, 32, 57, 48, 48, 32, 53, 32, 49], [116, 105, 101, 114, 32, 116, 101, 120, 116, 32, 48, 32, 49, 32, 120]].map toB) = (⟨tapeRec [1], [], []⟩, 2) := by
    rw [List.map_cons, readF, h2, lineP_rec (tape_in [1] (fun n hn => (by simp at hn; subst hn; decide)))]
    simp only
    rw [List.map_cons, List.map_nil, readF]
    have : lineP (0 + 1) ⟨tapeRec [1], [], []⟩ (toB [116, 105, 101, 114, 32, 116, 101, 120, 116, 32, 48, 32, 49, 32, 120]) = none := by
      unfold lineP
      rw [lst_toB, h3]
      simp only [Nat.add_one_ne_zero, if_false, List.map_cons, List.map_nil]
      unfold furP
      rw [h4, noteP_none (by simp)]
    rw [this]
  simp only [h5]
  rfl
end Go.Proofs.YtigcjinpkngapaaGreatDoor
end
section
namespace Go.Proofs.YtigcjinpkngapaaGreatDoor
open Go.Ac
attribute [local irreducible] awp awpL Ev Ev2 EvS thenQ blockQ retQ PCalls OCalls
variable {g : List (Nat × List AV)}
structure TG (g : List (Nat × List AV)) : Prop where
  n : NumG g
  m : MaxG g
  e : ErrG g
  u : Utf g
theorem wCheckF (hg : TG g) {d : Doc} (hd : FitP d) : PCalls Tryz.prog g 20 [.agg (docC d)] (vi (docE d)) :=
  wCheck_spec hg.u d (by have := hd.ln; omega) (by have := hd.lt; omega) (fun n hn => (hd.n n hn).2.2.2.2.2.2)
theorem sample_fit : FitP sampleD := by
  refine ⟨⟨by decide, by decide, by decide, by decide, by decide⟩, fun t ht => ?_, fun n hn => ?_, by decide, fun _ => (by unfold recL; rw [sample_rec]; decide), by decide, by decide, by decide, fun t ht => ?_⟩
  · simp only [sampleD, List.mem_singleton] at ht
    subst ht
    exact ⟨by decide, by decide, by decide⟩
  · simp only [sampleD, List.mem_cons, List.not_mem_nil, or_false] at hn
    rcases hn with rfl | rfl
    · exact ⟨by decide, by decide, by decide, by decide, by decide, by decide⟩
    · exact ⟨by decide, by decide, by decide, by decide, by decide, by decide⟩
  · simp only [sampleD, List.mem_singleton] at ht
    subst ht
    decide
theorem wParse_small (hg : TG g) (s : ByteArray) (hs : s.size ≤ 90000) : PCalls Tryz.prog g 17 [.v (.string s)] (parsedV (parseD (lst s))) := by
  refine wParse_spec hg.n hg.m hg.e hg.u s (by omega) fun ls hl => ?_
  obtain ⟨l1, l2⟩ := lines_fit hl
  have f1 := readF_len (ls.map toB) 0 zeroDoc
  have f3 := readF_spk l2
  have fz : zeroDoc.tiers.length = 0 ∧ zeroDoc.notes.length = 0 := ⟨rfl, rfl⟩
  omega
theorem want_lst : lst (⟨(List.append [114, 101, 99, 111, 114, 100, 105, 110, 103, 32, 51, 32, 116, 97, 112, 101, 32, 57, 48, 48, 32, 53, 32, 49, 32, 52, 10, 116, 105, 101, 114, 32, 116, 101, 120, 116, 32, 48, 32, 49, 32, 45, 49, 10, 110, 111, 116] [101, 32, 55, 32, 48, 32, 48, 32, 48, 32, 52, 48, 48, 32, 48, 32, 98, 97, 37, 50, 48, 109, 105, 10, 110, 111, 116, 101, 32, 57, 32, 48, 32, 48, 32, 52, 48, 48, 32, 57, 48, 48, 32, 48, 32, 37, 45, 10]).toArray⟩ : ByteArray) = wantL := rfl
set_option maxRecDepth 20000 in
set_option maxHeartbeats 8000000 in
theorem awakeT_spec (hg : TG g) : PCalls Tryz.prog g 13 [] (vb true) := by
  have hSm := sampleT_spec (g := g)
  have hPr : PCalls Tryz.prog g 14 [.agg (docC sampleD)] (.tup [.v (.string (⟨(List.append [114, 101, 99, 111, 114, 100, 105, 110, 103, 32, 51, 32, 116, 97, 112, 101, 32, 57, 48, 48, 32, 53, 32, 49, 32, 52, 10, 116, 105, 101, 114, 32, 116, 101, 120, 116, 32, 48, 32, 49, 32, 45, 49, 10, 110, 111, 116] [101, 32, 55, 32, 48, 32, 48, 32, 48, 32, 52, 48, 48, 32, 48, 32, 98, 97, 37, 50, 48, 109, 105, 10, 110, 111, 116, 101, 32, 57, 32, 48, 32, 48, 32, 52, 48, 48, 32, 57, 48, 48, 32, 48, 32, 37, 45, 10]).toArray⟩ : ByteArray)), vi 0]) := by
    have := wPrint_spec hg.n sampleD sample_fit (wCheckF hg sample_fit)
    unfold printV at this
    rw [sample_ok, if_pos rfl, sample_print] at this
    exact this
  have hP1 : PCalls Tryz.prog g 17 [.v (.string (⟨(List.append [114, 101, 99, 111, 114, 100, 105, 110, 103, 32, 51, 32, 116, 97, 112, 101, 32, 57, 48, 48, 32, 53, 32, 49, 32, 52, 10, 116, 105, 101, 114, 32, 116, 101, 120, 116, 32, 48, 32, 49, 32, 45, 49, 10, 110, 111, 116] [101, 32, 55, 32, 48, 32, 48, 32, 48, 32, 52, 48, 48, 32, 48, 32, 98, 97, 37, 50, 48, 109, 105, 10, 110, 111, 116, 101, 32, 57, 32, 48, 32, 48, 32, 52, 48, 48, 32, 57, 48, 48, 32, 48, 32, 37, 45, 10]).toArray⟩ : ByteArray))] (.tup [.agg (docC sampleD), vi 0, vi 0]) := by
    have := wParse_small hg (⟨(List.append [114, 101, 99, 111, 114, 100, 105, 110, 103, 32, 51, 32, 116, 97, 112, 101, 32, 57, 48, 48, 32, 53, 32, 49, 32, 52, 10, 116, 105, 101, 114, 32, 116, 101, 120, 116, 32, 48, 32, 49, 32, 45, 49, 10, 110, 111, 116] [101, 32, 55, 32, 48, 32, 48, 32, 48, 32, 52, 48, 48, 32, 48, 32, 98, 97, 37, 50, 48, 109, 105, 10, 110, 111, 116, 101, 32, 57, 32, 48, 32, 48, 32, 52, 48, 48, 32, 57, 48, 48, 32, 48, 32, 37, 45, 10]).toArray⟩ : ByteArray) (by decide)
    rw [want_lst, parse_want] at this
    exact this
  have hP2 : PCalls Tryz.prog g 17 [.v (.string (⟨#[114, 101, 99, 111, 114, 100, 105, 110, 103, 32, 51, 32, 116, 97, 112, 101, 32, 57, 48, 48, 32, 53, 32, 49, 10, 116, 105, 101, 114, 32, 116, 101, 120, 116, 32, 48, 32, 49, 32, 120, 10]⟩ : ByteArray))] (.tup [.agg (docC zeroDoc), vi 2, vi 3]) := by
    have := wParse_small hg (⟨#[114, 101, 99, 111, 114, 100, 105, 110, 103, 32, 51, 32, 116, 97, 112, 101, 32, 57, 48, 48, 32, 53, 32, 49, 10, 116, 105, 101, 114, 32, 116, 101, 120, 116, 32, 48, 32, 49, 32, 120, 10]⟩ : ByteArray) (by decide)
    rw [show lst (⟨#[114, 101, 99, 111, 114, 100, 105, 110, 103, 32, 51, 32, 116, 97, 112, 101, 32, 57, 48, 48, 32, 53, 32, 49, 10, 116, 105, 101, 114, 32, 116, 101, 120, 116, 32, 48, 32, 49, 32, 120, 10]⟩ : ByteArray) = lit2 from rfl, parse_lit2] at this
    exact this
  have hP3 : PCalls Tryz.prog g 17 [.v (.string (⟨#[114, 101, 99, 111, 114, 100, 105, 110, 103, 32, 51, 32, 116, 97, 112, 101, 32, 57, 48, 48, 32, 53, 10]⟩ : ByteArray))] (.tup [.agg (docC zeroDoc), vi 0, vi 1]) := by
    have := wParse_small hg (⟨#[114, 101, 99, 111, 114, 100, 105, 110, 103, 32, 51, 32, 116, 97, 112, 101, 32, 57, 48, 48, 32, 53, 10]⟩ : ByteArray) (by decide)
    rw [show lst (⟨#[114, 101, 99, 111, 114, 100, 105, 110, 103, 32, 51, 32, 116, 97, 112, 101, 32, 57, 48, 48, 32, 53, 10]⟩ : ByteArray) = lit3 from rfl, parse_lit3] at this
    exact this
  have hP4 : PCalls Tryz.prog g 17 [.v (.string ⟨#[]⟩)] (.tup [.agg (docC zeroDoc), vi 0, vi 4]) := wParse_small hg ⟨#[]⟩ (by decide)
  have hSa : PCalls Tryz.prog g 19 [.agg (docC sampleD), .agg (docC sampleD)] (vb true) := by
    have := r12Same_spec (g := g) sampleD sampleD (by decide) (by decide) (by decide) (by decide)
    rw [decide_eq_true rfl] at this
    exact this
  have zT : decide True = true := rfl
  have z0 : decide ((0 : Int) = 0) = true := rfl
  have z1 : decide ((1 : Int) = 1) = true := rfl
  have z2 : decide ((2 : Int) = 2) = true := rfl
  have z3 : decide ((3 : Int) = 3) = true := rfl
  have z4 : decide ((4 : Int) = 4) = true := rfl
  have zW : decide ((⟨(List.append [114, 101, 99, 111, 114, 100, 105, 110, 103, 32, 51, 32, 116, 97, 112, 101, 32, 57, 48, 48, 32, 53, 32, 49, 32, 52, 10, 116, 105, 101, 114, 32, 116, 101, 120, 116, 32, 48, 32, 49, 32, 45, 49, 10, 110, 111, 116] [101, 32, 55, 32, 48, 32, 48, 32, 48, 32, 52, 48, 48, 32, 48, 32, 98, 97, 37, 50, 48, 109, 105, 10, 110, 111, 116, 101, 32, 57, 32, 48, 32, 48, 32, 52, 48, 48, 32, 57, 48, 48, 32, 48, 32, 37, 45, 10]).toArray⟩ : ByteArray) = (⟨(List.append [114, 101, 99, 111, 114, 100, 105, 110, 103, 32, 51, 32, 116, 97, 112, 101, 32, 57, 48, 48, 32, 53, 32, 49, 32, 52, 10, 116, 105, 101, 114, 32, 116, 101, 120, 116, 32, 48, 32, 49, 32, 45, 49, 10, 110, 111, 116] [101, 32, 55, 32, 48, 32, 48, 32, 48, 32, 52, 48, 48, 32, 48, 32, 98, 97, 37, 50, 48, 109, 105, 10, 110, 111, 116, 101, 32, 57, 32, 48, 32, 48, 32, 52, 48, 48, 32, 57, 48, 48, 32, 48, 32, 37, 45, 10]).toArray⟩ : ByteArray)) = true := by simp
  refine pcalls' Tryz.func13 Tryz.ntmps13 rfl rfl rfl ?_
  repeat' (first
   | refine stn [] ?_
   | ((with_reducible refine is_gd ?_); refine awpL_split rfl rfl (fun h => ?_) (fun h => ?_))
   | ((with_reducible refine is_awp ?_); refine awp_cond rfl (fun h => ?_) (fun h => ?_))
   | fail)
  simp only [List.append_eq, List.cons_append, List.nil_append]
  repeat' (first
   | refine st [] ?_
   | ((with_reducible refine is_gd ?_); refine awpL_split rfl rfl (fun h => ?_) (fun h => ?_))
   | ((with_reducible refine isD_gd ?_); ((fail_if_success (refine isD_kn (c := true) rfl qa0 ?_)); (fail_if_success (refine isD_kn (c := false) rfl qa0 ?_)); refine awpD_split rfl (fun h => ?_) (fun h => ?_)))
   | ((with_reducible refine is_awp ?_); refine awp_cond rfl (fun h => ?_) (fun h => ?_))
   | fail)
  exact retP rfl rfl
end Go.Proofs.YtigcjinpkngapaaGreatDoor
end
section
namespace Go.Proofs.YtigcjinpkngapaaGreatDoor
end Go.Proofs.YtigcjinpkngapaaGreatDoor
end
section
namespace Go.Proofs.YtigcjinpkngapaaGreatDoor
open Go.Ac
attribute [local irreducible] awp awpL Ev Ev2 EvS thenQ blockQ retQ PCalls OCalls
variable {g : List (Nat × List AV)}
theorem lawPrintsF (hg : TG g) (d : Doc) (hd : FitI d) : PCalls Tryz.prog g 3 [.agg (docC d)] (vb true) := lawPrintsT hg.n d hd (fun hs => wCheckF hg (hd.fit hs)) (awakeT_spec hg)
theorem lawSumsF (hg : TG g) (d : Doc) (hd : FitI d) : PCalls Tryz.prog g 9 [.agg (docC d)] (vb true) := lawSumsT hg.n d hd (fun hs => wCheckF hg (hd.fit hs)) (awakeT_spec hg)
end Go.Proofs.YtigcjinpkngapaaGreatDoor
end
section
namespace Go.Ac
def OTCalls (P : Program) (g : List (Nat × List AV)) (f : FuncId) (args : List AV) (E sz : Nat) (es : List (List AV)) (z : Value) : Prop :=
  Callable P f ∧ ∀ (F : Nat → Prop) (w : World) (vs : Array Value), St (Glo.of g) (Cx.bare F w) [] → TF F w args vs.toList →
    CallsIn Fence.wide 0 P f vs w fun e w' => ∃ y c', e = .returned (.tuple #[y, z]) ∧ R c' (.os 0 0) y ∧ St (Glo.of g) c' [.own 0 E sz es] ∧ Ext (Cx.bare F w) c' ∧ c'.w = w' ∧ (∀ k, k ≠ 0 → c'.φ k = none)
section
variable {P : Program} {td : TDs} [T : TOK P td] {G : Glo} {N : Nat}
variable {Q : AQ} {S : SL} {L : List LB} {ops : Array Oper} {rest : List Oper} {ty : TypeId} {pos : String} {af : Array Edge} {d : Nat}
end
end Go.Ac
end
section
namespace Go.Proofs.YtigcjinpkngapaaGreatDoor
open Go.Ac
attribute [local irreducible] awp awpL Ev Ev2 EvS thenQ blockQ retQ PCalls OCalls OTCalls
variable {g : List (Nat × List AV)}
end Go.Proofs.YtigcjinpkngapaaGreatDoor
end
section
namespace Go.Proofs.YtigcjinpkngapaaGreatDoor
open Go.Ac
theorem wf64 {n : Int} (h : (Lit.int .i64 n).wf = true) : I64 n := by
  simp only [Lit.wf, Bool.and_eq_true, decide_eq_true_eq] at h
  have h1 : IntKind.i64.min = -9223372036854775808 := by decide
  have h2 : IntKind.i64.max = 9223372036854775807 := by decide
  rw [h1, h2] at h
  exact h
end Go.Proofs.YtigcjinpkngapaaGreatDoor
end
section
namespace Go.Proofs.YtigcjinpkngapaaGreatDoor
open Go.Ac Go.Lib Go.RowKit Go.ChangeShapes Go.WideShapes
theorem var_block {P : Program} {W : World} {n : String} {b : Nat} {cs : Array Value} (hg : P.globalNamed n = some b) (h : W.var? P n = some cs) : below W b ∧ ∀ k, cs.size = k → Exact W k b := by
  simp only [World.var?, hg, Option.bind_some] at h
  split at h
  · rename_i c T z hb
    cases h
    refine ⟨?_, fun k hk => ⟨_, _, _, hb, hk⟩⟩
    rcases Nat.lt_or_ge b W.heap.size with q | q
    · exact q
    · exfalso
      have : W.heap[b]? = none := Array.getElem?_eq_none q
      rw [this] at hb
      cases hb
  · cases h
theorem tab_glob {P : Program} {W : World} {name : String} {b t e n : Nat} {k : IntKind} {zs : List Int} (hn : P.globalNamed name = some b) (hy : (P.globals[b]?).map (·.type) = some t) (ht : P.underlying t = some (.array n e)) (he : P.underlying e = some (.int k)) (hce : P.cellsOf e = 1) (hct : P.cellsOf t = n)
    (h : VarReads P W name (tabData k zs)) : below W b ∧ MF (below W) W (zs.map fun z => AV.v (.int k z)) b 0 ∧ Exact W (zs.map fun z => AV.v (.int k z)).length b := by
  obtain ⟨g, t', cs, fuel, p, hg, hty, hvar, hd⟩ := h
  obtain rfl : g = b := Option.some.inj (hg.symm.trans hn)
  obtain rfl : t' = t := Option.some.inj (hty.symm.trans hy)
  have hcs := cells_of_tab (zs := zs) ht he hce hct hd
  obtain ⟨h1, h2⟩ := var_block hg hvar
  have hsz : cs.size = zs.length := by rw [← Array.length_toList, hcs, List.length_map]
  refine ⟨h1, MF.mk fun i x hx => ?_, h2 _ (by rw [List.length_map]; exact hsz)⟩
  rw [List.getElem?_map, Option.map_eq_some_iff] at hx
  obtain ⟨z, hz, rfl⟩ := hx
  refine ⟨.int k z, ?_, by simp [RF], rfl⟩
  rw [Nat.zero_add, World.var?_cell hg hvar i, ← Array.getElem?_toList, hcs, List.getElem?_map, hz]
  rfl
theorem err_type (u : TypeId) (hu : Tryz.prog.typeName? 3 u = some "*errors.errorString") : u = 232 :=
  typeName_ptr_named (nm := "errors.errorString") (by kernel_rfl) (by kernel_rfl) (by decide) u hu
theorem err_glob {W : World} {name : String} {b t : Nat} {ms : Array (String × TypeId)} (hn : Tryz.prog.globalNamed name = some b) (hy : (Tryz.prog.globals[b]?).map (·.type) = some t) (hi : Tryz.prog.underlying t = some (.interface ms)) {d : DataW Unit}
    (h : VarReads Tryz.prog W name (.iface "*errors.errorString" d)) : below W b ∧ MF (below W) W errCs b 0 ∧ Exact W errCs.length b := by
  obtain ⟨g, t', cs, fuel, p, hg, hty, hvar, hd⟩ := h
  obtain rfl : g = b := Option.some.inj (hg.symm.trans hn)
  obtain rfl : t' = t := Option.some.inj (hty.symm.trans hy)
  obtain ⟨_, u, v, hcs, hu, _⟩ := iface_of_trod hi hd
  obtain rfl := err_type u hu
  obtain ⟨h1, h2⟩ := var_block hg hvar
  have hsz : cs.size = 1 := by rw [← Array.length_toList, hcs]; rfl
  refine ⟨h1, MF.mk fun i x hx => ?_, h2 _ hsz⟩
  have hi0 : i = 0 := by have := (List.getElem?_eq_some_iff.1 hx).1; simpa using this
  subst hi0
  cases hx
  refine ⟨.iface 232 v, ?_, by simp [RF], rfl⟩
  rw [Nat.zero_add, World.var?_cell hg hvar 0, ← Array.getElem?_toList, hcs]
  rfl
abbrev laidP : List (String × DataW Unit) := [("math/bits.deBruijn32tab", Rows.laid_math_bits_deBruijn32tab), ("math/bits.deBruijn64tab", Rows.laid_math_bits_deBruijn64tab), ("internal/strconv.uint64pow10", Rows.laid_internal_strconv_uint64pow10), ("unicode/utf8.acceptRanges", Rows.laid_unicode_utf8_acceptRanges), ("strconv.ErrRange", Rows.laid_strconv_ErrRange), ("strconv.ErrSyntax", Rows.laid_strconv_ErrSyntax), ("langdoc/num.limits", Rows.laid_langdoc_num_limits), ("unicode/utf8.first", Rows.laid_unicode_utf8_first)]
abbrev laidT : List (String × DataW Unit) := [("math/bits.deBruijn32tab", Rows.laid_math_bits_deBruijn32tab), ("math/bits.deBruijn64tab", Rows.laid_math_bits_deBruijn64tab), ("internal/strconv.uint64pow10", Rows.laid_internal_strconv_uint64pow10), ("unicode/utf8.acceptRanges", Rows.laid_unicode_utf8_acceptRanges), ("errors.errorType", Rows.laid_errors_errorType), ("strconv.ErrRange", Rows.laid_strconv_ErrRange), ("strconv.ErrSyntax", Rows.laid_strconv_ErrSyntax), ("langdoc/num.limits", Rows.laid_langdoc_num_limits), ("unicode/utf8.first", Rows.laid_unicode_utf8_first)]
theorem pow_same : (Rows.laid_internal_strconv_uint64pow10 : DataW Unit) = tabData .u64 pow10Tab := by kernel_rfl
theorem lim_same : (Rows.laid_langdoc_num_limits : DataW Unit) = tabData .i64 [-1099511627776, 1099511627776] := by kernel_rfl
theorem num_reads {W : World} (h1 : VarReads Tryz.prog W "internal/strconv.uint64pow10" Rows.laid_internal_strconv_uint64pow10) (h2 : VarReads Tryz.prog W "langdoc/num.limits" Rows.laid_langdoc_num_limits)
    (h3 : VarReads Tryz.prog W "strconv.ErrSyntax" Rows.laid_strconv_ErrSyntax) (h4 : VarReads Tryz.prog W "strconv.ErrRange" Rows.laid_strconv_ErrRange) : ∀ q ∈ GN, below W q.1 ∧ MF (below W) W q.2 q.1 0 ∧ Exact W q.2.length q.1 := by
  rw [pow_same] at h1
  rw [lim_same] at h2
  intro q hq
  simp only [GN, List.mem_cons, List.not_mem_nil, or_false] at hq
  rcases hq with rfl | rfl | rfl | rfl
  · exact tab_glob (b := 1) (by kernel_rfl) (by kernel_rfl) Tryz.underlying169 Tryz.underlying3 (by kernel_rfl) (by kernel_rfl) h2
  · exact tab_glob (b := 4) (by kernel_rfl) (by kernel_rfl) Tryz.underlying207 Tryz.underlying153 (by kernel_rfl) (by kernel_rfl) h1
  · exact err_glob (b := 6) (by kernel_rfl) (by kernel_rfl) Tryz.underlying60 h3
  · exact err_glob (b := 7) (by kernel_rfl) (by kernel_rfl) Tryz.underlying60 h4
theorem u8x : U8Extra Tryz.prog laysValid_ren := { n3 := by kernel_rfl, n4 := by kernel_rfl, y3 := by kernel_rfl, y4 := by kernel_rfl, c5 := by kernel_rfl, c119 := by kernel_rfl, c138 := by kernel_rfl }
theorem first_same : Rows.laid_unicode_utf8_first = Go.Lib.firstData := by kernel_rfl
theorem accept_same : (Rows.laid_unicode_utf8_acceptRanges : DataW Unit) = Go.Lib.acceptData := by kernel_rfl
theorem below_of_cell {W : World} {b o : Nat} {u : Value} (h : W.cell? ⟨b, o, none⟩ = some u) : b < W.heap.size := by
  rcases Nat.lt_or_ge b W.heap.size with g | g
  · exact g
  · exfalso
    have : W.heap[b]? = none := Array.getElem?_eq_none g
    simp [World.cell?, this] at h
theorem trod_len {P : Program} {W : World} {fuel t n e : Nat} {cs : List Value} {x : DataW Unit × List MemPlace} (ht : P.underlying t = some (.array n e)) (h : DataW.trod (fun _ => ()) P W 0 (fun _ => true) false fuel t cs = some x) : cs.length = P.cellsOf t := by
  cases fuel with
  | zero => simp [DataW.trod] at h
  | succ fuel =>
    simp only [DataW.trod, ht] at h
    split at h
    · rename_i hl; exact hl
    · cases h
theorem exact_of {P : Program} {W : World} {name : String} {b t e n k : Nat} {d : DataW Unit} (hn : P.globalNamed name = some b) (hy : (P.globals[b]?).map (·.type) = some t) (ht : P.underlying t = some (.array n e)) (hct : P.cellsOf t = k)
    (h : VarReads P W name d) : Exact W k b := by
  obtain ⟨g, t', cs, fuel, p, hg, hty, hvar, hd⟩ := h
  obtain rfl : g = b := Option.some.inj (hg.symm.trans hn)
  obtain rfl : t' = t := Option.some.inj (hty.symm.trans hy)
  exact (var_block hg hvar).2 k (by rw [← Array.length_toList, trod_len ht hd, hct])
def GT (m : Int) : List (Nat × List AV) := (2, firstCs) :: (3, acceptCs) :: (0, [AV.ifc 129 (.agg [.v (hT 60)])]) :: (5, [AV.v (.int .i64 m)]) :: GN
theorem GT_tg (m : Int) : TG (GT m) := ⟨⟨by simp [GT, GN], by simp [GT, GN], by simp [GT, GN], by simp [GT, GN]⟩, ⟨m, by simp [GT]⟩, by simp [GT, ErrG], ⟨by simp [GT], by simp [GT]⟩⟩
theorem rt_row : (Tryz.prog.cutTypes.find? (·.1 == "internal/reflectlite.rtype")).map (·.2) = some 129 := by kernel_rfl
theorem ty_size : Tryz.prog.types.size = 262 := by kernel_rfl
theorem one_row : ((List.range 262).filter fun t => Tryz.prog.rowNamed t [101, 114, 114, 111, 114]) = [60] := by kernel_rfl
theorem handle_err {W : World} (h : laidMetH Tryz.prog laidT W) : laidMet Tryz.prog laidP W ∧ W.var? Tryz.prog "errors.errorType" = some #[rT 60] := by
  have h' : laidMet Tryz.prog laidP W ∧ handlesMet Tryz.prog [("errors.errorType", Rows.laid_errors_errorType)] W := h
  refine ⟨h'.1, ?_⟩
  obtain ⟨name, u, ty, e1, e2, e3, e4, e5⟩ := h'.2 _ (List.mem_singleton.2 rfl)
  have en : name = [101, 114, 114, 111, 114] := (Option.some.inj e1).symm
  subst en
  obtain rfl := Option.some.inj (rt_row.symm.trans e2)
  have hm : ty ∈ (List.range 262).filter fun t => Tryz.prog.rowNamed t [101, 114, 114, 111, 114] := List.mem_filter.2 ⟨List.mem_range.2 (by rw [← ty_size]; exact e3), e4⟩
  rw [one_row] at hm
  obtain rfl := List.mem_singleton.1 hm
  have hh : typeHandle Tryz.prog 60 = hT 60 := by kernel_rfl
  rw [hh] at e5
  exact e5
theorem max_cell {W : World} (h : W.ShapedOpen Tryz.prog) : ∃ m : Int, below W 5 ∧ MF (below W) W [AV.v (.int .i64 m)] 5 0 ∧ Exact W 1 5 := by
  have h0 : ((begin Tryz.prog (fun _ _ => 0) default).world.heap[5]?).bind Obj.row? = some (#[.int .i64 0], 3) := by kernel_rfl
  have hlt : 5 < Tryz.prog.globals.size := of_decide_eq_true (by kernel_rfl)
  obtain ⟨m, hm⟩ := cell_of_shapedOpen_int h hlt h0 rfl (by kernel_rfl) (by kernel_rfl) Tryz.underlying3
  obtain ⟨cs, hh, hs, _⟩ := h.1 _ _ _ hlt h0
  refine ⟨m, ?_, MF.mk fun i x hx => ?_, ⟨cs, _, _, hh, hs⟩⟩
  · rcases Nat.lt_or_ge 5 W.heap.size with q | q
    · exact q
    · rw [Array.getElem?_eq_none q] at hh; cases hh
  · have hi0 : i = 0 := by have := (List.getElem?_eq_some_iff.1 hx).1; simpa using this
    subst hi0
    cases hx
    exact ⟨.int .i64 m, by rw [Nat.zero_add]; exact hm, by simp [RF], rfl⟩
theorem laid_globT {W : World} (h : laidMetH Tryz.prog laidT W) (hS : W.ShapedOpen Tryz.prog) : ∃ m, ∀ q ∈ GT m, below W q.1 ∧ MF (below W) W q.2 q.1 0 ∧ Exact W q.2.length q.1 := by
  obtain ⟨h, hv⟩ := handle_err h
  obtain ⟨m, hm⟩ := max_cell hS
  refine ⟨m, ?_⟩
  have r3 : VarReads Tryz.prog W "unicode/utf8.first" firstData := by
    rw [← first_same]; exact laidMet.reads h (by simp [laidP])
  have r4 : VarReads Tryz.prog W "unicode/utf8.acceptRanges" acceptData := by
    rw [← accept_same]; exact laidMet.reads h (by simp [laidP])
  have ht := utf8Tabs_of_readsT (U8Types.of196 laysValid) u8x r3 r4
  have hnum := num_reads (laidMet.reads h (by simp [laidP])) (laidMet.reads h (by simp [laidP])) (laidMet.reads h (by simp [laidP])) (laidMet.reads h (by simp [laidP]))
  have l3 : firstCs.length = 256 := by simp [firstCs]
  have l4 : acceptCs.length = 32 := by simp [acceptCs]
  have e3 : Exact W firstCs.length 2 := by
    rw [l3]
    exact exact_of (by kernel_rfl) (by kernel_rfl) Tryz.underlying195 (by kernel_rfl) r3
  have e4 : Exact W acceptCs.length 3 := by
    rw [l4]
    exact exact_of (by kernel_rfl) (by kernel_rfl) Tryz.underlying198 (by kernel_rfl) r4
  intro q hq
  simp only [GT, List.mem_cons] at hq
  rcases hq with rfl | rfl | rfl | rfl | hq
  · refine ⟨below_of_cell (ht.1 0 (by omega)), MF.mk fun i x hx => ?_, e3⟩
    have hi : i < 256 := by have := (List.getElem?_eq_some_iff.1 hx).1; simpa [firstCs] using this
    refine ⟨_, by rw [Nat.zero_add]; exact ht.1 i hi, ?_, rfl⟩
    simp only [firstCs, List.getElem?_map, List.getElem?_range hi, Option.map_some, Option.some.injEq] at hx
    subst hx; simp [RF]
  · refine ⟨below_of_cell (ht.2 0 (by omega)).1, MF.mk fun i x hx => ?_, e4⟩
    have hi : i < 32 := by have := (List.getElem?_eq_some_iff.1 hx).1; simpa [acceptCs] using this
    simp only [acceptCs, List.getElem?_map, List.getElem?_range hi, Option.map_some, Option.some.injEq] at hx
    subst hx
    have h2 := ht.2 (i / 2) (by omega)
    by_cases he : i % 2 = 0
    · refine ⟨_, by rw [Nat.zero_add, show i = 2 * (i / 2) by omega]; exact h2.1, ?_, rfl⟩
      simp [RF, he]
    · refine ⟨_, by rw [Nat.zero_add, show i = 2 * (i / 2) + 1 by omega]; exact h2.2, ?_, rfl⟩
      simp [RF, he]
  · have hg : Tryz.prog.globalNamed "errors.errorType" = some 0 := by kernel_rfl
    obtain ⟨h1, h2⟩ := var_block hg hv
    refine ⟨h1, MF.mk fun i x hx => ?_, h2 1 rfl⟩
    have hi0 : i = 0 := by have := (List.getElem?_eq_some_iff.1 hx).1; simpa using this
    subst hi0
    cases hx
    refine ⟨rT 60, ?_, ?_, rfl⟩
    · rw [Nat.zero_add, World.var?_cell hg hv 0]; rfl
    · simp only [RF]
      exact ⟨_, rfl, _, rfl, by simp only [LF, RF]; exact ⟨_, _, rfl, rfl, rfl, rfl⟩⟩
  · exact hm
  · exact hnum q hq
noncomputable def worldT0 (os : Os) : World :=
  let w0 := World.holding Tryz.prog os ⟨#[], #[], []⟩
  { w0 with heap := w0.heap.modify 0 fun
      | .cells _ t frozen => .cells #[rT 60] t frozen
      | o => o }
noncomputable def worldT (os : Os) : World := (worldT0 os).layVars Tryz.prog laidP
theorem worldT_os (os : Os) : (worldT os).os = os := World.layVars_os _ _ _
theorem worldT_met (os : Os) (args : Array Value) : laidMetH Tryz.prog laidT ((worldT os).forCall (fun _ _ => 0) ⟨#[], args, []⟩).memory := by
  refine laidMetH_of_parts ?_ (by kernel_rfl)
  show laidMet Tryz.prog laidP _
  have e1 : (laidP.filter fun x => (laidP.map (·.1)).contains x.1) = laidP := List.filter_eq_self.2 fun x hx => List.contains_iff_mem.2 (List.mem_map.2 ⟨x, hx, rfl⟩)
  have e2 : (laidP.filter fun x => !(laidP.map (·.1)).contains x.1) = [] := List.filter_eq_nil_iff.2 fun x hx => by rw [List.contains_iff_mem.2 (List.mem_map.2 ⟨x, hx, rfl⟩)]; simp
  have h : laidMet Tryz.prog laidP (worldT os) := laidMet_layVars (w0 := worldT0 os) (laidP.map (·.1)) [] (by rw [e1]; rfl) (by rw [e1]; kernel_rfl) (by rw [e1]; kernel_rfl) (by rw [e2]; exact LaidIn.none)
  exact h.of_heap (by simp [World.memory, World.forCall, Input.heap])
section
variable {H : Type} {enc : TypeId × Value → H}
theorem handed_shaped {a : Assume} {C : Checked} {os : Os} {f : FuncId} {fn : Func} {s : ChangeSpec} {conds : List PathCond} {apart fresh handsOn again : Bool} {X : World → Array Value → Prop}
    (hX : ∀ (w w' : World) (args : Array Value), w.heap = w'.heap → X w args → X w' args)
    (own : ownKnob C.prog.godebug = none) (started : os.Started) (noInit : C.prog.inits.idxOf? f = none) (hfn : C.prog.funcs[f]? = some fn)
    (witness : ∃ (w : World) (tape : Tape) (i : Input), w.os = os ∧ (w.forCall tape i).Shaped C.prog ∧ i.vars = [] ∧ Input.okWide C.prog (w.forCall tape i) .any w.heap.size f i ∧
      ((s.pre enc C.prog fn conds apart (w.forCall tape i).memory i.args ∧ X (w.forCall tape i).memory i.args) ∧ sizedMet enc C.prog fn (OpenSpec.ofChange s) apart (w.forCall tape i).memory i.args) ∧ a.holds C.prog (lone (Frame.enter C.prog f i.args .normal) [] (w.forCall tape i)))
    (contract : ∀ (W : World) (base : Nat) (args : Array Value) (ds gs : List (DataW H)) (before : List MemPlace),
      (∀ (j : Nat) t v, fn.params[j]? = some t → args[j]? = some v → Value.okWide C.prog W .any base t v) →
      DataW.Whole enc C.prog fn.params.toList s.vars apart W args.toList ds gs before →
      conds.all (PathCond.test C.prog ⟨fn.params.toList, ds, s.plain.varTypes C.prog, gs⟩) = true →
      (DataW.weightsEach C.prog (fn.params.toList ++ s.plain.varTypes C.prog) (ds ++ gs)).all (· ≤ reachBytes) = true → X W args →
      W.ShapedOpen C.prog →
      a.holds C.prog (lone (Frame.enter C.prog f args .normal) [] W) →
      Calls C.prog f args W fun e W' => ∃ v, e = .returned v ∧ s.post enc C.prog fn apart fresh handsOn again W args v W') :
    ReturnsInHanded a C os f .any (fun w args => (s.pre enc C.prog fn conds apart w args ∧ X w args) ∧ sizedMet enc C.prog fn (OpenSpec.ofChange s) apart w args) (s.post enc C.prog fn apart fresh handsOn again) := by
  refine returnsInHanded_of_calls own started noInit witness ?_
  intro w tape i _ hsh _ hok hpre hholds
  obtain ⟨_, _, _, fn', hfn', _, _, _, _, hval⟩ := hok
  have e : fn' = fn := Option.some.inj (hfn'.symm.trans hfn)
  subst e
  obtain ⟨⟨⟨ds, gs, before, hw, hc⟩, hx⟩, hz⟩ := hpre
  have hw' := DataW.Whole.of_heap (w' := w.forCall tape i) (by rfl) hw
  refine (contract (w.forCall tape i) w.heap.size i.args ds gs before hval hw' hc (hz.weights hw) (hX _ _ _ (by rfl) hx) hsh hholds).mono fun e W' ⟨v, he, hp⟩ => ?_
  subst he
  exact ChangeSpec.post_blind hp
end
end Go.Proofs.YtigcjinpkngapaaGreatDoor
end
section
namespace Go.Ac
def ShpB (td : TDs) (B : Nat) : Nat → TypeId → List AV → Prop
  | 0, _, _ => False
  | f + 1, t, cas => match (lk td t).map (fun d : TD => d.k) with
    | some .bool => ∃ b, cas = [.v (.bool b)]
    | some (.int k) => ∃ n, cas = [.v (.int k n)] ∧ (Lit.int k n).wf = true
    | some .str => ∃ s, cas = [.v (.string s)] ∧ s.size ≤ B
    | some (.slice e) => ∃ sz es, (lk td e).map (fun d : TD => d.size) = some sz ∧ cas = [.fs sz es.length es] ∧ es.length ≤ B ∧ ∀ x ∈ es, ShpB td B f e x
    | some (.struct fs) => ∃ parts : List (List AV), cas = parts.flatten ∧ parts.length = fs.length ∧ ∀ (i : Nat) (x : List AV) (q : TypeId × Nat), parts[i]? = some x → fs[i]? = some q → ShpB td B f q.1 x
    | some (.arr n e) => ∃ parts : List (List AV), cas = parts.flatten ∧ parts.length = n ∧ ∀ x ∈ parts, ShpB td B f e x
    | _ => False
theorem weightsAll_mem {H : Type} {P : Program} {e : TypeId} {B : Nat} : ∀ {l : List (DataW H)}, (DataW.weightsAll P e l).all (· ≤ B) = true → ∀ d ∈ l, (d.weights P e).all (· ≤ B) = true
  | [], _, d, hd => by cases hd
  | x :: r, h, d, hd => by
    simp only [DataW.weightsAll, List.all_append, Bool.and_eq_true] at h
    rcases List.mem_cons.1 hd with rfl | hd
    · exact h.1
    · exact weightsAll_mem h.2 d hd
theorem weightsEach_get {H : Type} {P : Program} {B : Nat} : ∀ {ts : List TypeId} {l : List (DataW H)}, (DataW.weightsEach P ts l).all (· ≤ B) = true → ∀ (i : Nat) t d, ts[i]? = some t → l[i]? = some d → (d.weights P t).all (· ≤ B) = true
  | [], l, _, i, t, d, ht, hd => by simp at ht
  | t :: ts, [], _, i, u, d, ht, hd => by simp at hd
  | t :: ts, x :: r, h, i, u, d, ht, hd => by
    simp only [DataW.weightsEach, List.all_append, Bool.and_eq_true] at h
    cases i with
    | zero => simp at ht hd; subst ht hd; exact h.1
    | succ i => exact weightsEach_get h.2 i u d (by simpa using ht) (by simpa using hd)
def byteT (td : TDs) (C : List Nat) : Bool := C.all fun t => match lk td t with
  | some d => (match d.k with | .slice e => (match lk td e with | some ed => Nat.blt 0 ed.bytes | none => false) | _ => true)
  | none => true
section
variable {P : Program} {td : TDs} [T : TOK P td] {H : Type} {enc : TypeId × Value → H} {W : World} {sp : Nat → Bool} {B : Nat}
theorem consec_partsB {f : Nat} {F : Nat → Prop} {w : World} {cs : List Value} {n : Nat} (hl : cs.length = n) : ∀ {fs : List (TypeId × Nat)} {o : Nat}, consec td o fs n = true → o ≤ n →
    (∀ q ∈ fs, ∃ cas, ShpB td B f q.1 cas ∧ LF F w cas ((cs.drop q.2).take (P.cellsOf q.1))) → ∃ parts : List (List AV), parts.length = fs.length ∧ LF F w parts.flatten (cs.drop o) ∧
      ∀ (i : Nat) (x : List AV) (q : TypeId × Nat), parts[i]? = some x → fs[i]? = some q → LF F w x ((cs.drop q.2).take (P.cellsOf q.1)) ∧ ShpB td B f q.1 x
  | [], o, h, ho, _ => by
    simp only [consec] at h
    have := Nat.eq_of_beq_eq_true h; subst this
    refine ⟨[], rfl, ?_, fun i x q hi => by simp at hi⟩
    rw [List.drop_of_length_le (by omega)]; simp only [List.flatten_nil, LF]
  | (t, off) :: r, o, h, ho, hp => by
    simp only [consec, Bool.and_eq_true] at h
    have := Nat.eq_of_beq_eq_true h.1; subst this
    obtain ⟨cas, hs, hLF⟩ := hp (t, off) (List.mem_cons_self ..)
    cases hlk : lk td t with
    | none => rw [hlk] at h; cases h.2
    | some d =>
      rw [hlk] at h
      have hcs := cellsOf_td (P := P) hlk
      have hle : off + d.size ≤ n := by
        have key : ∀ {fs : List (TypeId × Nat)} {o : Nat}, consec td o fs n = true → o ≤ n := by
          intro fs
          induction fs with
          | nil => intro o h; simp only [consec] at h; exact Nat.le_of_eq (Nat.eq_of_beq_eq_true h)
          | cons q r ih =>
            intro o h
            obtain ⟨t, off⟩ := q
            simp only [consec, Bool.and_eq_true] at h
            cases hq : lk td t with
            | none => rw [hq] at h; cases h.2
            | some d => rw [hq] at h; have := ih h.2; omega
        exact key h.2
      obtain ⟨parts, q1, q2, q3⟩ := consec_partsB hl h.2 hle (fun q hq => hp q (List.mem_cons_of_mem _ hq))
      refine ⟨cas :: parts, by simp [q1], ?_, fun i x q hi hq => ?_⟩
      · rw [List.flatten_cons]
        simp only [hcs] at hLF
        have := LF_append hLF q2
        have e : (cs.drop off).take d.size ++ cs.drop (off + d.size) = cs.drop off := by
          rw [← List.drop_drop]; exact List.take_append_drop ..
        rwa [e] at this
      · cases i with
        | zero => simp at hi hq; subst hi hq; exact ⟨hLF, hs⟩
        | succ i => exact q3 i x q (by simpa using hi) (by simpa using hq)
theorem trod_LFB {C : List Nat} (hC : closedT td C = true) (hB : byteT td C = true) : ∀ (f : Nat) (t : Nat) (cs : List Value) (r : DataW H × List MemPlace), t ∈ C → DataW.trod enc P W 0 sp true f t cs = some r → (r.1.weights P t).all (· ≤ B) = true →
    ∃ cas, ShpB td B f t cas ∧ LF (below W) W cas cs := by
  intro f
  induction f with
  | zero => intro t cs r _ h _; simp [DataW.trod] at h
  | succ f ih =>
    intro t cs r ht h hw
    have hc := List.all_eq_true.1 hC t ht
    cases hl : lk td t with
    | none => simp [hl] at hc
    | some d =>
      simp only [hl] at hc
      obtain ⟨i, u, z, h1, h2, h3, h4, h5, h6, h7⟩ := tok_parts (P := P) hl
      cases hk : d.k with
      | bool =>
        rw [hk] at h4
        cases u <;> simp only [tk, reduceCtorEq] at h4
        obtain ⟨b, rfl, _⟩ := DataW.trod_bool h2 h
        exact ⟨[.v (.bool b)], by simp only [ShpB, hl, Option.map_some, hk]; exact ⟨b, rfl⟩, by simp only [LF, RF]; exact ⟨_, [], rfl, rfl, rfl, rfl⟩⟩
      | int k =>
        rw [hk] at h4
        cases u <;> simp only [tk, reduceCtorEq, TK.int.injEq] at h4
        subst h4
        obtain ⟨n, rfl, _, hwf⟩ := DataW.trod_int h2 h
        exact ⟨[.v (.int _ n)], by simp only [ShpB, hl, Option.map_some, hk]; exact ⟨n, rfl, hwf⟩, by simp only [LF, RF]; exact ⟨_, [], rfl, rfl, rfl, rfl⟩⟩
      | str =>
        rw [hk] at h4
        cases u <;> simp only [tk, reduceCtorEq] at h4
        obtain ⟨s, rfl, hx, _⟩ := DataW.trod_string h2 h
        have hs : s.size ≤ B := by
          subst hx
          simp only [DataW.weights, List.all_cons, List.all_nil, Bool.and_true, decide_eq_true_eq, Array.length_toList] at hw
          exact hw
        exact ⟨[.v (.string s)], by simp only [ShpB, hl, Option.map_some, hk]; exact ⟨s, rfl, hs⟩, by simp only [LF, RF]; exact ⟨_, [], rfl, rfl, rfl, rfl⟩⟩
      | slice e =>
        rw [hk] at h4
        cases u <;> simp only [tk, reduceCtorEq, TK.slice.injEq] at h4
        subst h4
        rename_i e
        simp only [hk, Bool.and_eq_true] at hc
        obtain ⟨⟨_, he⟩, hsz⟩ := hc
        have he' : e ∈ C := List.contains_iff_mem.1 he
        cases hle : lk td e with
        | none => rw [hle] at hsz; cases hsz
        | some ed =>
          rw [hle] at hsz
          have hpos : 0 < ed.size := Nat.le_of_ble_eq_true hsz
          have hce := cellsOf_td (P := P) hle
          rcases DataW.trod_slice h2 h with ⟨rfl, _⟩ | ⟨a, len, cap, elems, rest, n, hf, rfl, hx, _, hlc, hcm, hel, hget, _⟩
          · refine ⟨[.fs ed.size 0 []], ?_, ?_⟩
            · simp only [ShpB, hl, Option.map_some, hk]
              exact ⟨ed.size, [], by simp [hle], rfl, Nat.zero_le _, fun x hx => by cases hx⟩
            · simp only [LF, RF]
              exact ⟨_, [], rfl, ⟨rfl, none, 0, rfl, Nat.le_refl _, fun h => absurd rfl h⟩, rfl, rfl⟩
          · injection hf with hf; subst hf
            have hbt := List.all_eq_true.1 hB t ht
            simp only [hl, hk, hle] at hbt
            have hby : 0 < P.bytesOf e := by
              obtain ⟨i', u', z', k1, _, _, _, _, k6, _⟩ := tok_parts (P := P) hle
              simp only [Program.bytesOf, k1, Option.map_some, Option.getD_some]
              rw [k6]; exact Nat.le_of_ble_eq_true hbt
            subst hx
            simp only [DataW.weights, h2, List.all_cons, List.all_append, Bool.and_eq_true, decide_eq_true_eq, List.length_map] at hw
            obtain ⟨hw1, hw2, _⟩ := hw
            have hlenB : len ≤ B := by
              have := Nat.le_mul_of_pos_right (elems.length + rest.length) hby
              omega
            have hwe : ∀ i (y : DataW H × List MemPlace), elems[i]? = some y → (y.1.weights P e).all (· ≤ B) = true := fun i y hy =>
              weightsAll_mem hw2 y.1 (List.mem_map_of_mem (List.mem_of_getElem? hy))
            have key : ∀ i, i < len → ∃ x, ShpB td B f e x ∧ ∃ ys, LF (below W) W x ys ∧ ys.length = ed.size ∧ W.cells? 0 (a.add (i * ed.size)) ed.size = some ys := by
              intro i hi
              have hg := hget i hi
              rw [List.getElem?_eq_getElem (by omega), hce] at hg
              cases hcl : W.cells? 0 (a.add (i * ed.size)) ed.size with
              | none => rw [hcl] at hg; cases hg
              | some ys =>
                rw [hcl] at hg
                simp only [Option.bind_some] at hg
                obtain ⟨x, g1, g2⟩ := ih e ys _ he' hg (hwe i _ (List.getElem?_eq_getElem (by omega)))
                exact ⟨x, g1, ys, g2, (cells?_spec hpos hcl).2.2.1, rfl⟩
            have hes : ∃ es : List (List AV), es.length = len ∧ ∀ i, i < len → ∃ x, es[i]? = some x ∧ ShpB td B f e x ∧ ∃ ys, LF (below W) W x ys ∧ ys.length = ed.size ∧ W.cells? 0 (a.add (i * ed.size)) ed.size = some ys := by
              have : ∀ m, m ≤ len → ∃ es : List (List AV), es.length = m ∧ ∀ i, i < m → ∃ x, es[i]? = some x ∧ ShpB td B f e x ∧ ∃ ys, LF (below W) W x ys ∧ ys.length = ed.size ∧ W.cells? 0 (a.add (i * ed.size)) ed.size = some ys := by
                intro m
                induction m with
                | zero => intro _; exact ⟨[], rfl, fun i h => by omega⟩
                | succ m ihm =>
                  intro hm
                  obtain ⟨es, q1, q2⟩ := ihm (by omega)
                  obtain ⟨x, k1, k2⟩ := key m (by omega)
                  refine ⟨es ++ [x], by simp [q1], fun i hi => ?_⟩
                  by_cases e' : i = m
                  · subst e'; exact ⟨x, by rw [← q1]; simp, k1, k2⟩
                  · obtain ⟨x', r1, r2⟩ := q2 i (by omega)
                    exact ⟨x', by rw [List.getElem?_append_left (by omega)]; exact r1, r2⟩
              exact this len (Nat.le_refl _)
            obtain ⟨es, q1, q2⟩ := hes
            refine ⟨[.fs ed.size len es], ?_, ?_⟩
            · simp only [ShpB, hl, Option.map_some, hk]
              refine ⟨ed.size, es, by simp [hle], by rw [q1], by omega, fun x hx => ?_⟩
              obtain ⟨i, hi⟩ := List.getElem?_of_mem hx
              have hil : i < len := by rcases Nat.lt_or_ge i es.length with h' | h'; omega; rw [List.getElem?_eq_none h'] at hi; cases hi
              obtain ⟨x', r1, r2, _⟩ := q2 i hil
              rw [hi] at r1; injection r1 with r1; subst r1; exact r2
            · simp only [LF, RF]
              refine ⟨_, [], rfl, ⟨q1, some a, cap, rfl, hlc, fun hne => ?_⟩, rfl, rfl⟩
              obtain ⟨x0, _, _, ys0, _, _, hc0⟩ := q2 0 (by omega)
              have hadd0 : a.add (0 * ed.size) = a := by simp [Addr.add]
              rw [hadd0] at hc0
              obtain ⟨hsp, hbl, _, _⟩ := cells?_spec hpos hc0
              obtain ⟨b, off, spot⟩ := a
              simp only at hsp hbl; subst hsp
              refine ⟨b, off, rfl, hbl, ?_⟩
              have : ∀ (es' : List (List AV)) (k : Nat), k + es'.length = len → (∀ i x, es'[i]? = some x → es[k + i]? = some x) → EF (below W) W ed.size es' b (off + k * ed.size) := by
                intro es'
                induction es' with
                | nil => intro k _ _; simp only [EF]
                | cons x r ihr =>
                  intro k hk' hx
                  simp only [EF]
                  obtain ⟨x', r1, _, ys, r2, r3, r4⟩ := q2 k (by simp at hk'; omega)
                  have := hx 0 x rfl
                  rw [Nat.add_zero, r1] at this; injection this with this; subst this
                  rw [Addr.add_mid] at r4
                  obtain ⟨_, _, _, hra⟩ := cells?_spec hpos r4
                  refine ⟨by rw [← r2.length, r3], MF.of r2 hra, ?_⟩
                  have := ihr (k + 1) (by simp at hk'; omega) (fun i z hz => by have := hx (i + 1) z (by simpa using hz); rwa [show k + (i + 1) = k + 1 + i by omega] at this)
                  rwa [show off + (k + 1) * ed.size = off + k * ed.size + ed.size by rw [Nat.add_mul]; omega] at this
              have := this es 0 (by omega) (fun i x h => by simpa using h)
              simpa using this
      | struct fs =>
        rw [hk] at h4
        cases u <;> simp only [tk, reduceCtorEq, TK.struct.injEq] at h4
        subst h4
        rename_i fields
        simp only [hk, Bool.and_eq_true] at hc
        obtain ⟨xs, n, hf, hx, hlen, hxl, hget⟩ := DataW.trod_struct h2 h
        injection hf with hf; subst hf
        subst hx
        simp only [DataW.weights, h2] at hw
        have hcd := cellsOf_td (P := P) hl
        have hin := List.all_eq_true.1 hc.1
        obtain ⟨parts, p1, p2, p3⟩ := consec_partsB (P := P) (f := f) (F := below W) (w := W) (cs := cs) (n := d.size) (by rw [hlen, hcd]) hc.2 (Nat.zero_le _) (fun q hq => by
          obtain ⟨j, hj⟩ := List.getElem?_of_mem hq
          simp only [List.getElem?_map, Array.getElem?_toList] at hj
          cases hfj : fields[j]? with
          | none => simp [hfj] at hj
          | some fl =>
            simp only [hfj, Option.map_some, Option.some.injEq] at hj
            subst hj
            have hg := hget j fl hfj
            have hjl : j < xs.length := by rw [hxl]; exact (Array.getElem?_eq_some_iff.1 hfj).1
            rw [List.getElem?_eq_getElem hjl] at hg
            exact ih _ _ _ (List.contains_iff_mem.1 (hin _ hq)) hg (weightsEach_get hw j _ _ (by simp [hfj]) (by rw [List.getElem?_map, List.getElem?_eq_getElem hjl]; rfl)))
        refine ⟨parts.flatten, ?_, by simpa using p2⟩
        simp only [ShpB, hl, Option.map_some, hk]
        exact ⟨parts, rfl, p1, fun i x q hi hq => (p3 i x q hi hq).2⟩
      | arr n e => simp [hk] at hc
      | ptr e => simp [hk] at hc
      | map k e => simp [hk] at hc
      | iface => simp [hk] at hc
      | other => simp [hk] at hc
end
end Go.Ac
end
section
namespace Go.Proofs.YtigcjinpkngapaaGreatDoor
open Go.Ac
variable {B : Nat}
theorem shpB_str {td : TDs} {f t : Nat} {cs : List AV} (hk : (lk td t).map (fun d : TD => d.k) = some .str) (h : ShpB td B f t cs) : ∃ s, cs = [.v (.string s)] ∧ s.size ≤ B := by
  cases f with
  | zero => exact absurd h (by simp [ShpB])
  | succ f => simp only [ShpB, hk] at h; exact h
theorem shpB_int {td : TDs} {f t : Nat} {k : IntKind} {cs : List AV} (hk : (lk td t).map (fun d : TD => d.k) = some (.int k)) (h : ShpB td B f t cs) : ∃ n, cs = [.v (.int k n)] ∧ (Lit.int k n).wf = true := by
  cases f with
  | zero => exact absurd h (by simp [ShpB])
  | succ f => simp only [ShpB, hk] at h; exact h
theorem shpB_slice {α : Type} {e f t sz0 : Nat} {cs : List AV} {enc : α → List AV} {ok : α → Prop} (hk : (lk td t).map (fun d : TD => d.k) = some (.slice e)) (hz : (lk td e).map (fun d : TD => d.size) = some sz0)
    (he : ∀ {f : Nat} {x : List AV}, ShpB td B f e x → ∃ a, x = enc a ∧ ok a) (h : ShpB td B f t cs) : ∃ l : List α, cs = [.fs sz0 l.length (l.map enc)] ∧ l.length ≤ B ∧ ∀ a ∈ l, ok a := by
  cases f with
  | zero => exact absurd h (by simp [ShpB])
  | succ f =>
    simp only [ShpB, hk] at h
    obtain ⟨sz, es, h1, rfl, hlen, hx⟩ := h
    rw [hz] at h1
    injection h1 with h1
    subst h1
    have : ∃ l : List α, es = l.map enc ∧ ∀ a ∈ l, ok a := by
      clear hlen
      induction es with
      | nil => exact ⟨[], rfl, by simp⟩
      | cons x r ih =>
        obtain ⟨t, rfl, ht⟩ := he (hx x (by simp))
        obtain ⟨l, rfl, hl⟩ := ih (fun y hy => hx y (by simp [hy]))
        refine ⟨t :: l, rfl, fun u hu => ?_⟩
        rcases List.mem_cons.1 hu with rfl | hu
        · exact ht
        · exact hl u hu
    obtain ⟨l, rfl, hl⟩ := this
    exact ⟨l, by simp, by simpa using hlen, hl⟩
end Go.Proofs.YtigcjinpkngapaaGreatDoor
end
section
namespace Go.Proofs.YtigcjinpkngapaaGreatDoor
open Go.Ac
variable {B : Nat}
theorem fitB_span {f : Nat} {cs : List AV} (h : ShpB td B f 53 cs) : ∃ t : Span, cs = spanC t ∧ (InI t.fro ∧ InI t.til) := by
  cases f with
  | zero => exact absurd h (by simp [ShpB])
  | succ f =>
    have hk : (lk td 53).map (fun d : TD => d.k) = some (.struct [(3, 0), (3, 1)]) := rfl
    simp only [ShpB, hk] at h
    obtain ⟨parts, rfl, hl, hp⟩ := h
    match parts, hl with
    | [a, b], _ =>
      obtain ⟨n1, rfl, w1⟩ := shpB_int (k := .i64) rfl (hp 0 a _ rfl rfl)
      obtain ⟨n2, rfl, w2⟩ := shpB_int (k := .i64) rfl (hp 1 b _ rfl rfl)
      exact ⟨⟨n1, n2⟩, rfl, wf64 w1, wf64 w2⟩
theorem fitB_note {f : Nat} {cs : List AV} (h : ShpB td B f 55 cs) : ∃ t : Note, cs = noteC t ∧ InNote t := by
  cases f with
  | zero => exact absurd h (by simp [ShpB])
  | succ f =>
    have hk : (lk td 55).map (fun d : TD => d.k) = some (.struct [(3, 0), (3, 1), (3, 2), (53, 3), (3, 5), (9, 6)]) := rfl
    simp only [ShpB, hk] at h
    obtain ⟨parts, rfl, hl, hp⟩ := h
    match parts, hl with
    | [a, b, c, d, e, g], _ =>
      obtain ⟨n1, rfl, w1⟩ := shpB_int (k := .i64) rfl (hp 0 a _ rfl rfl)
      obtain ⟨n2, rfl, w2⟩ := shpB_int (k := .i64) rfl (hp 1 b _ rfl rfl)
      obtain ⟨n3, rfl, w3⟩ := shpB_int (k := .i64) rfl (hp 2 c _ rfl rfl)
      obtain ⟨s, rfl, w4, w5⟩ := fitB_span (hp 3 d _ rfl rfl)
      obtain ⟨n4, rfl, w6⟩ := shpB_int (k := .i64) rfl (hp 4 e _ rfl rfl)
      obtain ⟨t, rfl, _⟩ := shpB_str rfl (hp 5 g _ rfl rfl)
      exact ⟨⟨n1, n2, n3, s, n4, t⟩, rfl, wf64 w1, wf64 w2, wf64 w3, w4, w5, wf64 w6⟩
theorem fitB_tier {f : Nat} {cs : List AV} (h : ShpB td B f 51 cs) : ∃ t : Tier, cs = tierC t ∧ (InTier t ∧ t.name.size ≤ B) := by
  cases f with
  | zero => exact absurd h (by simp [ShpB])
  | succ f =>
    have hk : (lk td 51).map (fun d : TD => d.k) = some (.struct [(9, 0), (3, 1), (3, 2), (3, 3)]) := rfl
    simp only [ShpB, hk] at h
    obtain ⟨parts, rfl, hl, hp⟩ := h
    match parts, hl with
    | [a, b, c, d], _ =>
      obtain ⟨s, rfl, hs⟩ := shpB_str rfl (hp 0 a _ rfl rfl)
      obtain ⟨n1, rfl, w1⟩ := shpB_int (k := .i64) rfl (hp 1 b _ rfl rfl)
      obtain ⟨n2, rfl, w2⟩ := shpB_int (k := .i64) rfl (hp 2 c _ rfl rfl)
      obtain ⟨n3, rfl, w3⟩ := shpB_int (k := .i64) rfl (hp 3 d _ rfl rfl)
      exact ⟨⟨s, n1, n2, n3⟩, rfl, ⟨wf64 w1, wf64 w2, wf64 w3⟩, hs⟩
theorem fitB_int {f : Nat} {cs : List AV} (h : ShpB td B f 3 cs) : ∃ n : Int, cs = intC n ∧ InI n := by
  obtain ⟨n, rfl, w⟩ := shpB_int (k := .i64) rfl h
  exact ⟨n, rfl, wf64 w⟩
theorem fitB_rec {f : Nat} {cs : List AV} (h : ShpB td B f 24 cs) : ∃ r : Recording, cs = [.v (.int .i64 r.id), .v (.string r.name), .v (.int .i64 r.length), .v (.int .i64 r.day), encIs r.speakers] ∧ ((InI r.id ∧ InI r.length ∧ InI r.day ∧ ∀ n ∈ r.speakers, InI n) ∧ r.name.size ≤ B) := by
  cases f with
  | zero => exact absurd h (by simp [ShpB])
  | succ f =>
    have hk : (lk td 24).map (fun d : TD => d.k) = some (.struct [(3, 0), (9, 1), (3, 2), (3, 3), (22, 4)]) := rfl
    simp only [ShpB, hk] at h
    obtain ⟨parts, rfl, hl, hp⟩ := h
    match parts, hl with
    | [a, b, c, d, e], _ =>
      obtain ⟨n1, rfl, w1⟩ := shpB_int (k := .i64) rfl (hp 0 a _ rfl rfl)
      obtain ⟨s, rfl, hs⟩ := shpB_str rfl (hp 1 b _ rfl rfl)
      obtain ⟨n2, rfl, w2⟩ := shpB_int (k := .i64) rfl (hp 2 c _ rfl rfl)
      obtain ⟨n3, rfl, w3⟩ := shpB_int (k := .i64) rfl (hp 3 d _ rfl rfl)
      obtain ⟨l, rfl, _, hl⟩ := shpB_slice (enc := intC) (ok := InI) rfl rfl (fun h => fitB_int h) (hp 4 e _ rfl rfl)
      exact ⟨⟨n1, s, n2, n3, l⟩, rfl, ⟨wf64 w1, wf64 w2, wf64 w3, hl⟩, hs⟩
theorem fitB_doc (hB : B ≤ 9223372036854775807) {f : Nat} {cs : List AV} (h : ShpB td B f 28 cs) : ∃ d : Doc, cs = docC d ∧ FitI d := by
  cases f with
  | zero => exact absurd h (by simp [ShpB])
  | succ f =>
    have hk : (lk td 28).map (fun d : TD => d.k) = some (.struct [(24, 0), (25, 5), (26, 6)]) := rfl
    simp only [ShpB, hk] at h
    obtain ⟨parts, rfl, hl, hp⟩ := h
    match parts, hl with
    | [a, b, c], _ =>
      obtain ⟨r, rfl, ⟨r1, r2, r3, r4⟩, r5⟩ := fitB_rec (hp 0 a _ rfl rfl)
      obtain ⟨l, rfl, _, hT⟩ := shpB_slice (enc := tierC) (ok := fun t => InTier t ∧ t.name.size ≤ B) rfl rfl (fun h => fitB_tier h) (hp 1 b _ rfl rfl)
      obtain ⟨m, rfl, _, hN⟩ := shpB_slice (enc := noteC) (ok := InNote) rfl rfl (fun h => fitB_note h) (hp 2 c _ rfl rfl)
      exact ⟨⟨r, l, m⟩, rfl, ⟨r1, r2, r3, r4, fun t ht => (hT t ht).1, hN, Nat.le_trans r5 hB, fun t ht => Nat.le_trans (hT t ht).2 hB⟩⟩
end Go.Proofs.YtigcjinpkngapaaGreatDoor
end
