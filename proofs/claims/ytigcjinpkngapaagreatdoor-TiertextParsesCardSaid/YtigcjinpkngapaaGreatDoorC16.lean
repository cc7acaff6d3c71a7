/- A logic of trees over the model's steps, and the contracts of the functions that the laws reach: part 16 of 20. -/
import Derived.Test.YtigcjinpkngapaaGreatDoorC15
set_option linter.unusedVariables false
set_option linter.unusedSimpArgs false
set_option linter.unusedSectionVars false
section
namespace Go.Proofs.YtigcjinpkngapaaGreatDoor
open Go.Ac Go.MapKept
attribute [local irreducible] awp awpL Ev Ev2 EvS thenQ blockQ retQ PCalls OCalls YieldOk IterC ICalls
variable {g : List (Nat × List AV)}
def onTier (d : Doc) (i : Int) (k : Nat) : List Note := (d.notes.take k).filter fun n => decide (n.tier = i)
theorem onTier_succ {d : Doc} {i : Int} {k : Nat} {x : Note} (h : d.notes[k]? = some x) : onTier d i (k + 1) = if x.tier = i then onTier d i k ++ [x] else onTier d i k := by
  unfold onTier
  rw [List.take_add_one, h, List.filter_append]
  by_cases e : x.tier = i
  · rw [if_pos e]; simp [e]
  · rw [if_neg e]; simp [e]
theorem onTier_len (d : Doc) (i : Int) (k : Nat) : (onTier d i k).length ≤ d.notes.length := Nat.le_trans (List.length_filter_le ..) (by rw [List.length_take]; omega)
theorem tierPF_drop {kind : Int} {P : Int → Span} {why : Int} {prev : Option Note} {D : List Note} {j : Nat} {x : Note} (h : D[j]? = some x) :
    tierPF kind P why prev (D.drop j) = if timed kind = true ∧ overN prev x = true then 15 else tierPF kind P (if badN kind P prev x (D.drop (j + 1)) = true then badCode kind else why) (some x) (D.drop (j + 1)) := by
  obtain ⟨h1, rfl⟩ := List.getElem?_eq_some_iff.1 h
  rw [List.drop_eq_getElem_cons h1]
  rfl
def prevP (D : List Note) (j : Nat) : Option Note := if j = 0 then none else D[j - 1]?
theorem prevP_succ {D : List Note} {j : Nat} {x : Note} (h : D[j]? = some x) : prevP D (j + 1) = some x := by
  unfold prevP
  rw [if_neg (by omega)]
  exact h
theorem kinds (k : Int) : (k = 0 ∧ timed k = true) ∨ (k = 2 ∧ timed k = true) ∨ (k = 1 ∧ timed k = true) ∨ (k = 3 ∧ timed k = false) ∨ (k = 4 ∧ timed k = false) ∨ (k ≠ 0 ∧ k ≠ 2 ∧ k ≠ 1 ∧ k ≠ 3 ∧ k ≠ 4 ∧ timed k = false) := by
  by_cases h0 : k = 0
  · subst h0; exact .inl ⟨rfl, rfl⟩
  by_cases h1 : k = 1
  · subst h1; exact .inr (.inr (.inl ⟨rfl, rfl⟩))
  by_cases h2 : k = 2
  · subst h2; exact .inr (.inl ⟨rfl, rfl⟩)
  by_cases h3 : k = 3
  · subst h3; exact .inr (.inr (.inr (.inl ⟨rfl, rfl⟩)))
  by_cases h4 : k = 4
  · subst h4; exact .inr (.inr (.inr (.inr (.inl ⟨rfl, rfl⟩))))
  refine .inr (.inr (.inr (.inr (.inr ⟨h0, h2, h1, h3, h4, ?_⟩))))
  simp [timed, h0, h1, h2]
set_option maxRecDepth 8000 in
set_option maxHeartbeats 8000000 in
theorem wTier_spec (d : Doc) (hT : tiersE d.tiers = 0) (hN : notesE d none d.notes = 0) (m : List (Int × Note)) (hm : ANd m) (hg : ∀ id, aget m id = getN d.notes id) (i : Nat) (t : Tier) (ht : d.tiers[i]? = some t) (hl : d.notes.length ≤ 100000)
    (hr : ∀ n ∈ d.notes, 0 ≤ n.rank ∧ n.rank ≤ 9223372036854775807) : PCalls Tryz.prog g 46 [.agg (docC d), .fm (nks m) (nxs m), vi i] (vi (tierE d i)) := by
  have n1 : (!true) = false := rfl
  have n2 : (!false) = true := rfl
  have zT : decide True = true := rfl
  have zF : decide False = false := rfl
  have hand := nks_nd hm
  refine pcalls' Tryz.func46 Tryz.ntmps46 rfl rfl rfl ?_
  repeat' (first
   | refine stn [] ?_
   | ((with_reducible refine is_gd ?_); refine awpL_split rfl rfl (fun h => ?_) (fun h => ?_))
   | ((with_reducible refine is_awp ?_); refine awp_cond rfl (fun h => ?_) (fun h => ?_))
   | fail)
  refine awp_adopt (t := 7) (E := 55) (sz := 7) rfl rfl rfl ?_
  refine awp_for (α := Nat) 1 (fun k => [(1, .fm (nks m) (nxs m)), (2, vi i), (3, .fp (docC d)), (7, .os 0 0), (18, encNotes d.notes), (19, vi d.notes.length), (20, vi k)]) (fun k => [.own 0 55 7 ((onTier d i k).map noteC)]) (fun k => k ≤ d.notes.length) (fun k => d.notes.length - k) 0
    ⟨(.cons rfl rfl (.cons rfl rfl (.cons rfl rfl (.cons rfl rfl (.cons rfl rfl (.cons rfl rfl (.cons rfl rfl .nil))))))), rfl, rfl, rfl⟩ (Nat.zero_le _) ?_
  intro k hk
  have hol := onTier_len d i k
  cases hx : d.notes[k]? with
  | some x =>
    have hlt : k < d.notes.length := (List.getElem?_eq_some_iff.1 hx).1
    have c1 : decide ((k : Int) < d.notes.length) = true := decide_eq_true (by omega)
    have g1 := note_get hx
    have hS := onTier_succ (i := (i : Int)) hx
    by_cases e : x.tier = i
    · have c2 : decide (x.tier = i) = true := decide_eq_true e
      rw [if_pos e] at hS
      have hj : (onTier d i k).map noteC ++ [noteC x] = (onTier d i (k + 1)).map noteC := by rw [hS]; simp
      have hmb : ((onTier d i k).map noteC).length ≤ 100000 := by rw [List.length_map]; omega
      generalize (onTier d i k).map noteC = M at *
      generalize hM' : (onTier d i (k + 1)).map noteC = M' at *
      repeat' (first
       | ((with_reducible refine is_un ?_); refine awpL_ev2 (ev_appB (es' := M') rfl rfl rfl rfl rfl rfl rfl rfl rfl rfl rfl rfl rfl qe0 hj rfl) rfl ?_)
       | refine stn [] ?_
       | ((with_reducible refine is_gd ?_); refine awpL_split rfl rfl (fun h => ?_) (fun h => ?_))
       | ((with_reducible refine is_awp ?_); refine awp_cond rfl (fun h => ?_) (fun h => ?_))
       | fail)
      exact ⟨k + 1, by rw [hM']; exact ⟨(.cons rfl rfl (.cons rfl rfl (.cons rfl rfl (.cons rfl rfl (.cons rfl rfl (.cons rfl rfl (.cons rfl rfl .nil))))))), rfl, rfl, rfl⟩, by omega, by omega⟩
    · have c2 : decide (x.tier = i) = false := decide_eq_false e
      rw [if_neg e] at hS
      repeat' (first
       | refine stn [] ?_
       | ((with_reducible refine is_gd ?_); refine awpL_split rfl rfl (fun h => ?_) (fun h => ?_))
       | ((with_reducible refine is_awp ?_); refine awp_cond rfl (fun h => ?_) (fun h => ?_))
       | fail)
      exact ⟨k + 1, by rw [hS]; exact ⟨(.cons rfl rfl (.cons rfl rfl (.cons rfl rfl (.cons rfl rfl (.cons rfl rfl (.cons rfl rfl (.cons rfl rfl .nil))))))), rfl, rfl, rfl⟩, by omega, by omega⟩
  | none =>
    have hge : d.notes.length ≤ k := by simpa using hx
    have c1 : decide ((k : Int) < d.notes.length) = false := decide_eq_false (by omega)
    have hoe : onTier d i k = d.notes.filter fun n => decide (n.tier = (i : Int)) := by unfold onTier; rw [List.take_of_length_le hge]
    rw [hoe] at hol ⊢
    generalize hF : (d.notes.filter fun n => decide (n.tier = (i : Int))) = F at *
    repeat' (first
     | refine stn [] ?_
     | ((with_reducible refine is_gd ?_); refine awpL_split rfl rfl (fun h => ?_) (fun h => ?_))
     | ((with_reducible refine is_awp ?_); refine awp_cond rfl (fun h => ?_) (fun h => ?_))
     | fail)
    refine awpL_sort (enc := encNt) (d := F) (lt := Go.Proofs.ltOf cmpNt) rfl rfl (fun _ => rfl) (fun x v hv => by simp [encNt] at hv; rcases hv with rfl | rfl | rfl | rfl | rfl | rfl | rfl <;> rfl) (callable Tryz.func80 rfl rfl) (fun blk cap w hH hb => sortNotes_calls _ blk cap w (by omega) hH hb) (fun _ w => sortNotes_none w) rfl fun D hp hs => ?_
    have hso : SortN D := hs.imp fun h => by rw [ltNt] at h; exact h
    have hdl : D.length ≤ 100000 := by rw [hp.length_eq]; omega
    have hRk : ∀ n ∈ D, 0 ≤ n.rank ∧ n.rank ≤ 9223372036854775807 := fun n hn => hr n (by have := hp.mem_iff.1 hn; rw [← hF] at this; exact (List.mem_filter.1 this).1)
    rw [← tier_program hT hN ht (by rw [hF]; exact hp) hso]
    clear hp hs hso hF hol hoe hx
    have hP : ∀ p, ((getN d.notes p).getD noNote).span = (fun p => ((getN d.notes p).getD noNote).span) p := fun p => rfl
    generalize (fun p => ((getN d.notes p).getD noNote).span) = P at hP ⊢
    have ti : 0 ≤ (i : Int) ∧ (d.tiers.map tierC)[(i : Int).toNat]? = some (tierC t) := tierC_get ht
    refine awpL_frz 7 (x := .os 0 0) (x' := encNotes D) rfl (by simp [frzV, encNotes]; intros; rfl) rfl rfl ?_
    repeat' (first
     | refine stn [] ?_
     | ((with_reducible refine is_gd ?_); refine awpL_split rfl rfl (fun h => ?_) (fun h => ?_))
     | ((with_reducible refine is_awp ?_); refine awp_cond rfl (fun h => ?_) (fun h => ?_))
     | fail)
    generalize hkd : t.kind = kd at *
    refine awp_for (α := Nat × Int) 0 (fun p => [(1, .fm (nks m) (nxs m)), (3, .fp (docC d)), (7, encNotes D), (10, vi kd), (11, vi p.2), (41, encNotes D), (42, vi D.length), (43, vi p.1)]) (fun _ => []) (fun p => p.1 ≤ D.length ∧ tierPF kd P 0 none D = tierPF kd P p.2 (prevP D p.1) (D.drop p.1)) (fun p => D.length - p.1) (0, 0)
      ⟨(.cons rfl rfl (.cons rfl rfl (.cons rfl rfl (.cons rfl rfl (.cons rfl rfl (.cons rfl rfl (.cons rfl rfl (.cons rfl rfl .nil)))))))), rfl, rfl, rfl⟩ ⟨Nat.zero_le _, rfl⟩ ?_
    rintro ⟨j, why⟩ ⟨hj, hf⟩
    simp only at hj hf
    cases hx : D[j]? with
    | none =>
      have hge : D.length ≤ j := by simpa using hx
      have c1 : decide ((j : Int) < D.length) = false := decide_eq_false (by omega)
      rw [hf, List.drop_of_length_le hge]
      repeat' (first
       | refine stn [] ?_
       | ((with_reducible refine is_gd ?_); refine awpL_split rfl rfl (fun h => ?_) (fun h => ?_))
       | ((with_reducible refine is_awp ?_); refine awp_cond rfl (fun h => ?_) (fun h => ?_))
       | fail)
      exact retP rfl rfl
    | some x =>
      have hlt : j < D.length := (List.getElem?_eq_some_iff.1 hx).1
      have c1 : decide ((j : Int) < D.length) = true := decide_eq_true (by omega)
      have g1 := note_get hx
      rw [tierPF_drop hx] at hf
      have hps := prevP_succ hx
      have hlook := n_look m x.parent
      rw [hg] at hlook
      have hPx := hP x.parent
      generalize (getN d.notes x.parent).getD noNote = q at hlook hPx
      generalize (getN d.notes x.parent).isSome = qb at hlook
      repeat' (first
       | refine stn [] ?_
       | ((with_reducible refine is_gd ?_); refine awpL_split rfl rfl (fun h => ?_) (fun h => ?_))
       | ((with_reducible refine is_awp ?_); refine awp_cond rfl (fun h => ?_) (fun h => ?_))
       | fail)
      refine awp_cut 0 [(1, .fm (nks m) (nxs m)), (3, .fp (docC d)), (7, encNotes D), (10, vi kd), (11, vi why), (12, vi j), (13, .fp (noteC x)), (41, encNotes D), (42, vi D.length), (43, vi j), (14, vb (firstN (prevP D j) x))] [] ?_ ?_
      · by_cases j0 : j = 0
        · subst j0
          have c2 : decide (((0 : Nat) : Int) = 0) = true := rfl
          have hfi : firstN (prevP D 0) x = true := rfl
          rw [hfi]
          repeat' (first
           | refine st [] ?_
           | ((with_reducible refine is_gd ?_); refine awpL_split rfl rfl (fun h => ?_) (fun h => ?_))
           | ((with_reducible refine isD_gd ?_); ((fail_if_success (refine isD_kn (c := true) rfl qa0 ?_)); (fail_if_success (refine isD_kn (c := false) rfl qa0 ?_)); refine awpD_split rfl (fun h => ?_) (fun h => ?_)))
           | ((with_reducible refine is_awp ?_); refine awp_cond rfl (fun h => ?_) (fun h => ?_))
           | fail)
          exact ⟨(.cons rfl rfl (.cons rfl rfl (.cons rfl rfl (.cons rfl rfl (.cons rfl rfl (.cons rfl rfl (.cons rfl rfl (.cons rfl rfl (.cons rfl rfl (.cons rfl rfl (.cons rfl rfl .nil))))))))))), rfl, rfl, rfl⟩
        · obtain ⟨p, hp⟩ : ∃ p, D[j - 1]? = some p := ⟨_, List.getElem?_eq_getElem (by omega)⟩
          have c2 : decide ((j : Int) = 0) = false := decide_eq_false (by omega)
          have hpv : prevP D j = some p := by unfold prevP; rw [if_neg j0, hp]
          have ip : 0 ≤ (j : Int) - 1 ∧ (D.map noteC)[((j : Int) - 1).toNat]? = some (noteC p) := ⟨by omega, by rw [show ((j : Int) - 1).toNat = j - 1 by omega]; simp [hp]⟩
          have hfi : firstN (prevP D j) x = !decide (p.parent = x.parent) := by rw [hpv]; rfl
          rw [hfi]
          repeat' (first
           | refine st [] ?_
           | ((with_reducible refine is_gd ?_); refine awpL_split rfl rfl (fun h => ?_) (fun h => ?_))
           | ((with_reducible refine isD_gd ?_); ((fail_if_success (refine isD_kn (c := true) rfl qa0 ?_)); (fail_if_success (refine isD_kn (c := false) rfl qa0 ?_)); refine awpD_split rfl (fun h => ?_) (fun h => ?_)))
           | ((with_reducible refine is_awp ?_); refine awp_cond rfl (fun h => ?_) (fun h => ?_))
           | fail)
          exact ⟨(.cons rfl rfl (.cons rfl rfl (.cons rfl rfl (.cons rfl rfl (.cons rfl rfl (.cons rfl rfl (.cons rfl rfl (.cons rfl rfl (.cons rfl rfl (.cons rfl rfl (.cons rfl rfl .nil))))))))))), rfl, rfl, rfl⟩
      repeat' (first
       | refine stn [] ?_
       | ((with_reducible refine is_gd ?_); refine awpL_split rfl rfl (fun h => ?_) (fun h => ?_))
       | ((with_reducible refine is_awp ?_); refine awp_cond rfl (fun h => ?_) (fun h => ?_))
       | fail)
      refine awp_cut 0 [(1, .fm (nks m) (nxs m)), (3, .fp (docC d)), (7, encNotes D), (10, vi kd), (11, vi why), (12, vi j), (13, .fp (noteC x)), (41, encNotes D), (42, vi D.length), (43, vi j), (14, vb (firstN (prevP D j) x)), (15, vb (lastN x (D.drop (j + 1))))] [] ?_ ?_
      · cases hy : D[j + 1]? with
        | none =>
          have hge : D.length ≤ j + 1 := by simpa using hy
          have c2 : decide ((j : Int) + 1 = D.length) = true := decide_eq_true (by omega)
          have hla : lastN x (D.drop (j + 1)) = true := by rw [List.drop_of_length_le hge]; rfl
          rw [hla]
          repeat' (first
           | refine st [] ?_
           | ((with_reducible refine is_gd ?_); refine awpL_split rfl rfl (fun h => ?_) (fun h => ?_))
           | ((with_reducible refine isD_gd ?_); ((fail_if_success (refine isD_kn (c := true) rfl qa0 ?_)); (fail_if_success (refine isD_kn (c := false) rfl qa0 ?_)); refine awpD_split rfl (fun h => ?_) (fun h => ?_)))
           | ((with_reducible refine is_awp ?_); refine awp_cond rfl (fun h => ?_) (fun h => ?_))
           | fail)
          exact ⟨(.cons rfl rfl (.cons rfl rfl (.cons rfl rfl (.cons rfl rfl (.cons rfl rfl (.cons rfl rfl (.cons rfl rfl (.cons rfl rfl (.cons rfl rfl (.cons rfl rfl (.cons rfl rfl (.cons rfl rfl .nil)))))))))))), rfl, rfl, rfl⟩
        | some y =>
          have hlt2 : j + 1 < D.length := (List.getElem?_eq_some_iff.1 hy).1
          have c2 : decide ((j : Int) + 1 = D.length) = false := decide_eq_false (by omega)
          have iy : 0 ≤ (j : Int) + 1 ∧ (D.map noteC)[((j : Int) + 1).toNat]? = some (noteC y) := ⟨by omega, by rw [show ((j : Int) + 1).toNat = j + 1 by omega]; simp [hy]⟩
          have hla : lastN x (D.drop (j + 1)) = !decide (y.parent = x.parent) := by
            obtain ⟨h1, h2⟩ := List.getElem?_eq_some_iff.1 hy
            rw [List.drop_eq_getElem_cons h1, h2]; rfl
          rw [hla]
          repeat' (first
           | refine st [] ?_
           | ((with_reducible refine is_gd ?_); refine awpL_split rfl rfl (fun h => ?_) (fun h => ?_))
           | ((with_reducible refine isD_gd ?_); ((fail_if_success (refine isD_kn (c := true) rfl qa0 ?_)); (fail_if_success (refine isD_kn (c := false) rfl qa0 ?_)); refine awpD_split rfl (fun h => ?_) (fun h => ?_)))
           | ((with_reducible refine is_awp ?_); refine awp_cond rfl (fun h => ?_) (fun h => ?_))
           | fail)
          exact ⟨(.cons rfl rfl (.cons rfl rfl (.cons rfl rfl (.cons rfl rfl (.cons rfl rfl (.cons rfl rfl (.cons rfl rfl (.cons rfl rfl (.cons rfl rfl (.cons rfl rfl (.cons rfl rfl (.cons rfl rfl .nil)))))))))))), rfl, rfl, rfl⟩
      have hRx := hRk x (List.mem_of_getElem? hx)
      have hbad : badN kd P (prevP D j) x (D.drop (j + 1)) = if kd = 1 then (firstN (prevP D j) x && !decide (x.span.fro = q.span.fro)) || (!firstN (prevP D j) x && !decide (((prevP D j).getD noNote).span.til = x.span.fro)) || (lastN x (D.drop (j + 1)) && !decide (x.span.til = q.span.til))
          else if kd = 3 then (firstN (prevP D j) x && !decide (x.rank = 0)) || (!firstN (prevP D j) x && !decide (x.rank = ((prevP D j).getD noNote).rank + 1))
          else if kd = 4 then !firstN (prevP D j) x else false := by unfold badN; rw [hPx]
      generalize lastN x (D.drop (j + 1)) = La at hbad ⊢
      generalize badN kd P (prevP D j) x (D.drop (j + 1)) = bad at hf hbad
      have hov : overN (prevP D j) x = match prevP D j with | some q => decide (q.parent = x.parent) && decide (x.span.fro < q.span.til) | none => false := rfl
      generalize overN (prevP D j) x = ov at hf hov
      -- what the note before is, where there is one
      have hfp : firstN (prevP D j) x = true ∧ ov = false ∨ firstN (prevP D j) x = false ∧ ∃ p, prevP D j = some p ∧ p ∈ D ∧ (0 ≤ (j : Int) - 1 ∧ (D.map noteC)[((j : Int) - 1).toNat]? = some (noteC p)) ∧ ov = decide (x.span.fro < p.span.til) := by
        by_cases j0 : j = 0
        · left
          rw [hov]
          have : prevP D j = none := by unfold prevP; rw [if_pos j0]
          rw [this]; exact ⟨rfl, rfl⟩
        · obtain ⟨p, hp⟩ : ∃ p, D[j - 1]? = some p := ⟨_, List.getElem?_eq_getElem (by omega)⟩
          have hpv : prevP D j = some p := by unfold prevP; rw [if_neg j0, hp]
          have ip : 0 ≤ (j : Int) - 1 ∧ (D.map noteC)[((j : Int) - 1).toNat]? = some (noteC p) := ⟨by omega, by rw [show ((j : Int) - 1).toNat = j - 1 by omega]; simp [hp]⟩
          rw [hov, hpv]
          by_cases e : p.parent = x.parent
          · right
            exact ⟨by simp [firstN, e], p, rfl, List.mem_of_getElem? hp, ip, by simp [e]⟩
          · left
            exact ⟨by simp [firstN, e], by simp [e]⟩
      clear hov
      generalize firstN (prevP D j) x = Fi at hbad hfp ⊢
      rcases kinds kd with ⟨e, htm⟩ | ⟨e, htm⟩ | ⟨e, htm⟩ | ⟨e, htm⟩ | ⟨e, htm⟩ | ⟨e0, e2, e1, e3, e4, htm⟩
      · subst e
        have k0 : decide ((0 : Int) = 0) = true := rfl
        have k2 : decide ((0 : Int) = 2) = false := rfl
        have k1 : decide ((0 : Int) = 1) = false := rfl
        rw [if_neg (by decide), if_neg (by decide), if_neg (by decide)] at hbad
        rcases hfp with ⟨hFi, hov⟩ | ⟨hFi, p, hpv, hpD, ip, hov⟩
        · subst hFi
          rw [hov, hbad, if_neg (by simp), if_neg (by simp)] at hf
          repeat' (first
           | ((with_reducible refine is_un ?_); (first | refine awpL_ev (ev_lookF intKey rfl rfl (intV_R _) rfl rfl zNt rfl (nks_ok _) (intV_ok _) hlook hand rfl) rfl ?_ | refine awpL_ev (ev_fld_agg (ds := spanC q.span) rfl rfl rfl rfl rfl rfl rfl) rfl ?_))
           | refine st [] ?_
           | ((with_reducible refine is_gd ?_); refine awpL_split rfl rfl (fun h => ?_) (fun h => ?_))
           | ((with_reducible refine isD_gd ?_); ((fail_if_success (refine isD_kn (c := true) rfl qa0 ?_)); (fail_if_success (refine isD_kn (c := false) rfl qa0 ?_)); refine awpD_split rfl (fun h => ?_) (fun h => ?_)))
           | ((with_reducible refine is_awp ?_); refine awp_cond rfl (fun h => ?_) (fun h => ?_))
           | fail)
          exact ⟨(j + 1, why), ⟨(.cons rfl rfl (.cons rfl rfl (.cons rfl rfl (.cons rfl rfl (.cons rfl rfl (.cons rfl rfl (.cons rfl rfl (.cons rfl rfl .nil)))))))), rfl, rfl, rfl⟩, ⟨by simp only; omega, by simp only; rw [hf, hps]⟩, by simp only; omega⟩
        · subst hFi
          cases hc : decide (x.span.fro < p.span.til) with
          | true =>
            rw [hov, hc, if_pos ⟨rfl, rfl⟩] at hf
            rw [hf]
            repeat' (first
             | ((with_reducible refine is_un ?_); (first | refine awpL_ev (ev_lookF intKey rfl rfl (intV_R _) rfl rfl zNt rfl (nks_ok _) (intV_ok _) hlook hand rfl) rfl ?_ | refine awpL_ev (ev_fld_agg (ds := spanC q.span) rfl rfl rfl rfl rfl rfl rfl) rfl ?_))
             | refine st [] ?_
             | ((with_reducible refine is_gd ?_); refine awpL_split rfl rfl (fun h => ?_) (fun h => ?_))
             | ((with_reducible refine isD_gd ?_); ((fail_if_success (refine isD_kn (c := true) rfl qa0 ?_)); (fail_if_success (refine isD_kn (c := false) rfl qa0 ?_)); refine awpD_split rfl (fun h => ?_) (fun h => ?_)))
             | ((with_reducible refine is_awp ?_); refine awp_cond rfl (fun h => ?_) (fun h => ?_))
             | fail)
            exact retP rfl rfl
          | false =>
            rw [hov, hc, hbad, if_neg (by simp), if_neg (by simp)] at hf
            repeat' (first
             | ((with_reducible refine is_un ?_); (first | refine awpL_ev (ev_lookF intKey rfl rfl (intV_R _) rfl rfl zNt rfl (nks_ok _) (intV_ok _) hlook hand rfl) rfl ?_ | refine awpL_ev (ev_fld_agg (ds := spanC q.span) rfl rfl rfl rfl rfl rfl rfl) rfl ?_))
             | refine st [] ?_
             | ((with_reducible refine is_gd ?_); refine awpL_split rfl rfl (fun h => ?_) (fun h => ?_))
             | ((with_reducible refine isD_gd ?_); ((fail_if_success (refine isD_kn (c := true) rfl qa0 ?_)); (fail_if_success (refine isD_kn (c := false) rfl qa0 ?_)); refine awpD_split rfl (fun h => ?_) (fun h => ?_)))
             | ((with_reducible refine is_awp ?_); refine awp_cond rfl (fun h => ?_) (fun h => ?_))
             | fail)
            exact ⟨(j + 1, why), ⟨(.cons rfl rfl (.cons rfl rfl (.cons rfl rfl (.cons rfl rfl (.cons rfl rfl (.cons rfl rfl (.cons rfl rfl (.cons rfl rfl .nil)))))))), rfl, rfl, rfl⟩, ⟨by simp only; omega, by simp only; rw [hf, hps]⟩, by simp only; omega⟩
      · subst e
        have k0 : decide ((2 : Int) = 0) = false := rfl
        have k2 : decide ((2 : Int) = 2) = true := rfl
        have k1 : decide ((2 : Int) = 1) = false := rfl
        rw [if_neg (by decide), if_neg (by decide), if_neg (by decide)] at hbad
        rcases hfp with ⟨hFi, hov⟩ | ⟨hFi, p, hpv, hpD, ip, hov⟩
        · subst hFi
          rw [hov, hbad, if_neg (by simp), if_neg (by simp)] at hf
          repeat' (first
           | ((with_reducible refine is_un ?_); (first | refine awpL_ev (ev_lookF intKey rfl rfl (intV_R _) rfl rfl zNt rfl (nks_ok _) (intV_ok _) hlook hand rfl) rfl ?_ | refine awpL_ev (ev_fld_agg (ds := spanC q.span) rfl rfl rfl rfl rfl rfl rfl) rfl ?_))
           | refine st [] ?_
           | ((with_reducible refine is_gd ?_); refine awpL_split rfl rfl (fun h => ?_) (fun h => ?_))
           | ((with_reducible refine isD_gd ?_); ((fail_if_success (refine isD_kn (c := true) rfl qa0 ?_)); (fail_if_success (refine isD_kn (c := false) rfl qa0 ?_)); refine awpD_split rfl (fun h => ?_) (fun h => ?_)))
           | ((with_reducible refine is_awp ?_); refine awp_cond rfl (fun h => ?_) (fun h => ?_))
           | fail)
          exact ⟨(j + 1, why), ⟨(.cons rfl rfl (.cons rfl rfl (.cons rfl rfl (.cons rfl rfl (.cons rfl rfl (.cons rfl rfl (.cons rfl rfl (.cons rfl rfl .nil)))))))), rfl, rfl, rfl⟩, ⟨by simp only; omega, by simp only; rw [hf, hps]⟩, by simp only; omega⟩
        · subst hFi
          cases hc : decide (x.span.fro < p.span.til) with
          | true =>
            rw [hov, hc, if_pos ⟨rfl, rfl⟩] at hf
            rw [hf]
            repeat' (first
             | ((with_reducible refine is_un ?_); (first | refine awpL_ev (ev_lookF intKey rfl rfl (intV_R _) rfl rfl zNt rfl (nks_ok _) (intV_ok _) hlook hand rfl) rfl ?_ | refine awpL_ev (ev_fld_agg (ds := spanC q.span) rfl rfl rfl rfl rfl rfl rfl) rfl ?_))
             | refine st [] ?_
             | ((with_reducible refine is_gd ?_); refine awpL_split rfl rfl (fun h => ?_) (fun h => ?_))
             | ((with_reducible refine isD_gd ?_); ((fail_if_success (refine isD_kn (c := true) rfl qa0 ?_)); (fail_if_success (refine isD_kn (c := false) rfl qa0 ?_)); refine awpD_split rfl (fun h => ?_) (fun h => ?_)))
             | ((with_reducible refine is_awp ?_); refine awp_cond rfl (fun h => ?_) (fun h => ?_))
             | fail)
            exact retP rfl rfl
          | false =>
            rw [hov, hc, hbad, if_neg (by simp), if_neg (by simp)] at hf
            repeat' (first
             | ((with_reducible refine is_un ?_); (first | refine awpL_ev (ev_lookF intKey rfl rfl (intV_R _) rfl rfl zNt rfl (nks_ok _) (intV_ok _) hlook hand rfl) rfl ?_ | refine awpL_ev (ev_fld_agg (ds := spanC q.span) rfl rfl rfl rfl rfl rfl rfl) rfl ?_))
             | refine st [] ?_
             | ((with_reducible refine is_gd ?_); refine awpL_split rfl rfl (fun h => ?_) (fun h => ?_))
             | ((with_reducible refine isD_gd ?_); ((fail_if_success (refine isD_kn (c := true) rfl qa0 ?_)); (fail_if_success (refine isD_kn (c := false) rfl qa0 ?_)); refine awpD_split rfl (fun h => ?_) (fun h => ?_)))
             | ((with_reducible refine is_awp ?_); refine awp_cond rfl (fun h => ?_) (fun h => ?_))
             | fail)
            exact ⟨(j + 1, why), ⟨(.cons rfl rfl (.cons rfl rfl (.cons rfl rfl (.cons rfl rfl (.cons rfl rfl (.cons rfl rfl (.cons rfl rfl (.cons rfl rfl .nil)))))))), rfl, rfl, rfl⟩, ⟨by simp only; omega, by simp only; rw [hf, hps]⟩, by simp only; omega⟩
      · subst e
        have k0 : decide ((1 : Int) = 0) = false := rfl
        have k2 : decide ((1 : Int) = 2) = false := rfl
        have k1 : decide ((1 : Int) = 1) = true := rfl
        rw [if_pos rfl] at hbad
        rcases hfp with ⟨hFi, hov⟩ | ⟨hFi, p, hpv, hpD, ip, hov⟩
        · subst hFi
          rw [hov, if_neg (by simp)] at hf
          cases ha : decide (x.span.fro = q.span.fro) with
          | false =>
            rw [ha] at hbad
            have ha' : (!decide (x.span.fro = q.span.fro)) = true := by rw [ha]; rfl
            rw [if_pos (by rw [hbad]; rfl)] at hf
            repeat' (first
             | ((with_reducible refine is_un ?_); (first | refine awpL_ev (ev_lookF intKey rfl rfl (intV_R _) rfl rfl zNt rfl (nks_ok _) (intV_ok _) hlook hand rfl) rfl ?_ | refine awpL_ev (ev_fld_agg (ds := spanC q.span) rfl rfl rfl rfl rfl rfl rfl) rfl ?_))
             | refine st [] ?_
             | ((with_reducible refine is_gd ?_); refine awpL_split rfl rfl (fun h => ?_) (fun h => ?_))
             | ((with_reducible refine isD_gd ?_); ((fail_if_success (refine isD_kn (c := true) rfl qa0 ?_)); (fail_if_success (refine isD_kn (c := false) rfl qa0 ?_)); refine awpD_split rfl (fun h => ?_) (fun h => ?_)))
             | ((with_reducible refine is_awp ?_); refine awp_cond rfl (fun h => ?_) (fun h => ?_))
             | fail)
            exact ⟨(j + 1, 16), ⟨(.cons rfl rfl (.cons rfl rfl (.cons rfl rfl (.cons rfl rfl (.cons rfl rfl (.cons rfl rfl (.cons rfl rfl (.cons rfl rfl .nil)))))))), rfl, rfl, rfl⟩, ⟨by simp only; omega, by simp only; rw [hf, hps]; rfl⟩, by simp only; omega⟩
          | true =>
            rw [ha] at hbad
            have ha' : (!decide (x.span.fro = q.span.fro)) = false := by rw [ha]; rfl
            cases La with
            | false =>
              rw [if_neg (by rw [hbad]; simp)] at hf
              repeat' (first
               | ((with_reducible refine is_un ?_); (first | refine awpL_ev (ev_lookF intKey rfl rfl (intV_R _) rfl rfl zNt rfl (nks_ok _) (intV_ok _) hlook hand rfl) rfl ?_ | refine awpL_ev (ev_fld_agg (ds := spanC q.span) rfl rfl rfl rfl rfl rfl rfl) rfl ?_))
               | refine st [] ?_
               | ((with_reducible refine is_gd ?_); refine awpL_split rfl rfl (fun h => ?_) (fun h => ?_))
               | ((with_reducible refine isD_gd ?_); ((fail_if_success (refine isD_kn (c := true) rfl qa0 ?_)); (fail_if_success (refine isD_kn (c := false) rfl qa0 ?_)); refine awpD_split rfl (fun h => ?_) (fun h => ?_)))
               | ((with_reducible refine is_awp ?_); refine awp_cond rfl (fun h => ?_) (fun h => ?_))
               | fail)
              exact ⟨(j + 1, why), ⟨(.cons rfl rfl (.cons rfl rfl (.cons rfl rfl (.cons rfl rfl (.cons rfl rfl (.cons rfl rfl (.cons rfl rfl (.cons rfl rfl .nil)))))))), rfl, rfl, rfl⟩, ⟨by simp only; omega, by simp only; rw [hf, hps]⟩, by simp only; omega⟩
            | true =>
              cases hb : decide (x.span.til = q.span.til) with
              | false =>
                rw [hb] at hbad
                have hb' : (!decide (x.span.til = q.span.til)) = true := by rw [hb]; rfl
                rw [if_pos (by rw [hbad]; rfl)] at hf
                repeat' (first
                 | ((with_reducible refine is_un ?_); (first | refine awpL_ev (ev_lookF intKey rfl rfl (intV_R _) rfl rfl zNt rfl (nks_ok _) (intV_ok _) hlook hand rfl) rfl ?_ | refine awpL_ev (ev_fld_agg (ds := spanC q.span) rfl rfl rfl rfl rfl rfl rfl) rfl ?_))
                 | refine st [] ?_
                 | ((with_reducible refine is_gd ?_); refine awpL_split rfl rfl (fun h => ?_) (fun h => ?_))
                 | ((with_reducible refine isD_gd ?_); ((fail_if_success (refine isD_kn (c := true) rfl qa0 ?_)); (fail_if_success (refine isD_kn (c := false) rfl qa0 ?_)); refine awpD_split rfl (fun h => ?_) (fun h => ?_)))
                 | ((with_reducible refine is_awp ?_); refine awp_cond rfl (fun h => ?_) (fun h => ?_))
                 | fail)
                exact ⟨(j + 1, 16), ⟨(.cons rfl rfl (.cons rfl rfl (.cons rfl rfl (.cons rfl rfl (.cons rfl rfl (.cons rfl rfl (.cons rfl rfl (.cons rfl rfl .nil)))))))), rfl, rfl, rfl⟩, ⟨by simp only; omega, by simp only; rw [hf, hps]; rfl⟩, by simp only; omega⟩
              | true =>
                rw [hb] at hbad
                have hb' : (!decide (x.span.til = q.span.til)) = false := by rw [hb]; rfl
                rw [if_neg (by rw [hbad]; simp)] at hf
                repeat' (first
                 | ((with_reducible refine is_un ?_); (first | refine awpL_ev (ev_lookF intKey rfl rfl (intV_R _) rfl rfl zNt rfl (nks_ok _) (intV_ok _) hlook hand rfl) rfl ?_ | refine awpL_ev (ev_fld_agg (ds := spanC q.span) rfl rfl rfl rfl rfl rfl rfl) rfl ?_))
                 | refine st [] ?_
                 | ((with_reducible refine is_gd ?_); refine awpL_split rfl rfl (fun h => ?_) (fun h => ?_))
                 | ((with_reducible refine isD_gd ?_); ((fail_if_success (refine isD_kn (c := true) rfl qa0 ?_)); (fail_if_success (refine isD_kn (c := false) rfl qa0 ?_)); refine awpD_split rfl (fun h => ?_) (fun h => ?_)))
                 | ((with_reducible refine is_awp ?_); refine awp_cond rfl (fun h => ?_) (fun h => ?_))
                 | fail)
                exact ⟨(j + 1, why), ⟨(.cons rfl rfl (.cons rfl rfl (.cons rfl rfl (.cons rfl rfl (.cons rfl rfl (.cons rfl rfl (.cons rfl rfl (.cons rfl rfl .nil)))))))), rfl, rfl, rfl⟩, ⟨by simp only; omega, by simp only; rw [hf, hps]⟩, by simp only; omega⟩
        · subst hFi
          rw [hpv] at hbad
          simp only [Option.getD_some] at hbad
          cases hc : decide (x.span.fro < p.span.til) with
          | true =>
            rw [hov, hc, if_pos ⟨rfl, rfl⟩] at hf
            rw [hf]
            repeat' (first
             | ((with_reducible refine is_un ?_); (first | refine awpL_ev (ev_lookF intKey rfl rfl (intV_R _) rfl rfl zNt rfl (nks_ok _) (intV_ok _) hlook hand rfl) rfl ?_ | refine awpL_ev (ev_fld_agg (ds := spanC q.span) rfl rfl rfl rfl rfl rfl rfl) rfl ?_))
             | refine st [] ?_
             | ((with_reducible refine is_gd ?_); refine awpL_split rfl rfl (fun h => ?_) (fun h => ?_))
             | ((with_reducible refine isD_gd ?_); ((fail_if_success (refine isD_kn (c := true) rfl qa0 ?_)); (fail_if_success (refine isD_kn (c := false) rfl qa0 ?_)); refine awpD_split rfl (fun h => ?_) (fun h => ?_)))
             | ((with_reducible refine is_awp ?_); refine awp_cond rfl (fun h => ?_) (fun h => ?_))
             | fail)
            exact retP rfl rfl
          | false =>
            rw [hov, hc, if_neg (by simp)] at hf
            cases ha : decide (p.span.til = x.span.fro) with
            | false =>
              rw [ha] at hbad
              have ha' : (!decide (p.span.til = x.span.fro)) = true := by rw [ha]; rfl
              rw [if_pos (by rw [hbad]; rfl)] at hf
              repeat' (first
               | ((with_reducible refine is_un ?_); (first | refine awpL_ev (ev_lookF intKey rfl rfl (intV_R _) rfl rfl zNt rfl (nks_ok _) (intV_ok _) hlook hand rfl) rfl ?_ | refine awpL_ev (ev_fld_agg (ds := spanC q.span) rfl rfl rfl rfl rfl rfl rfl) rfl ?_))
               | refine st [] ?_
               | ((with_reducible refine is_gd ?_); refine awpL_split rfl rfl (fun h => ?_) (fun h => ?_))
               | ((with_reducible refine isD_gd ?_); ((fail_if_success (refine isD_kn (c := true) rfl qa0 ?_)); (fail_if_success (refine isD_kn (c := false) rfl qa0 ?_)); refine awpD_split rfl (fun h => ?_) (fun h => ?_)))
               | ((with_reducible refine is_awp ?_); refine awp_cond rfl (fun h => ?_) (fun h => ?_))
               | fail)
              exact ⟨(j + 1, 16), ⟨(.cons rfl rfl (.cons rfl rfl (.cons rfl rfl (.cons rfl rfl (.cons rfl rfl (.cons rfl rfl (.cons rfl rfl (.cons rfl rfl .nil)))))))), rfl, rfl, rfl⟩, ⟨by simp only; omega, by simp only; rw [hf, hps]; rfl⟩, by simp only; omega⟩
            | true =>
              rw [ha] at hbad
              have ha' : (!decide (p.span.til = x.span.fro)) = false := by rw [ha]; rfl
              cases La with
              | false =>
                rw [if_neg (by rw [hbad]; simp)] at hf
                repeat' (first
                 | ((with_reducible refine is_un ?_); (first | refine awpL_ev (ev_lookF intKey rfl rfl (intV_R _) rfl rfl zNt rfl (nks_ok _) (intV_ok _) hlook hand rfl) rfl ?_ | refine awpL_ev (ev_fld_agg (ds := spanC q.span) rfl rfl rfl rfl rfl rfl rfl) rfl ?_))
                 | refine st [] ?_
                 | ((with_reducible refine is_gd ?_); refine awpL_split rfl rfl (fun h => ?_) (fun h => ?_))
                 | ((with_reducible refine isD_gd ?_); ((fail_if_success (refine isD_kn (c := true) rfl qa0 ?_)); (fail_if_success (refine isD_kn (c := false) rfl qa0 ?_)); refine awpD_split rfl (fun h => ?_) (fun h => ?_)))
                 | ((with_reducible refine is_awp ?_); refine awp_cond rfl (fun h => ?_) (fun h => ?_))
                 | fail)
                exact ⟨(j + 1, why), ⟨(.cons rfl rfl (.cons rfl rfl (.cons rfl rfl (.cons rfl rfl (.cons rfl rfl (.cons rfl rfl (.cons rfl rfl (.cons rfl rfl .nil)))))))), rfl, rfl, rfl⟩, ⟨by simp only; omega, by simp only; rw [hf, hps]⟩, by simp only; omega⟩
              | true =>
                cases hb : decide (x.span.til = q.span.til) with
                | false =>
                  rw [hb] at hbad
                  have hb' : (!decide (x.span.til = q.span.til)) = true := by rw [hb]; rfl
                  rw [if_pos (by rw [hbad]; rfl)] at hf
                  repeat' (first
                   | ((with_reducible refine is_un ?_); (first | refine awpL_ev (ev_lookF intKey rfl rfl (intV_R _) rfl rfl zNt rfl (nks_ok _) (intV_ok _) hlook hand rfl) rfl ?_ | refine awpL_ev (ev_fld_agg (ds := spanC q.span) rfl rfl rfl rfl rfl rfl rfl) rfl ?_))
                   | refine st [] ?_
                   | ((with_reducible refine is_gd ?_); refine awpL_split rfl rfl (fun h => ?_) (fun h => ?_))
                   | ((with_reducible refine isD_gd ?_); ((fail_if_success (refine isD_kn (c := true) rfl qa0 ?_)); (fail_if_success (refine isD_kn (c := false) rfl qa0 ?_)); refine awpD_split rfl (fun h => ?_) (fun h => ?_)))
                   | ((with_reducible refine is_awp ?_); refine awp_cond rfl (fun h => ?_) (fun h => ?_))
                   | fail)
                  exact ⟨(j + 1, 16), ⟨(.cons rfl rfl (.cons rfl rfl (.cons rfl rfl (.cons rfl rfl (.cons rfl rfl (.cons rfl rfl (.cons rfl rfl (.cons rfl rfl .nil)))))))), rfl, rfl, rfl⟩, ⟨by simp only; omega, by simp only; rw [hf, hps]; rfl⟩, by simp only; omega⟩
                | true =>
                  rw [hb] at hbad
                  have hb' : (!decide (x.span.til = q.span.til)) = false := by rw [hb]; rfl
                  rw [if_neg (by rw [hbad]; simp)] at hf
                  repeat' (first
                   | ((with_reducible refine is_un ?_); (first | refine awpL_ev (ev_lookF intKey rfl rfl (intV_R _) rfl rfl zNt rfl (nks_ok _) (intV_ok _) hlook hand rfl) rfl ?_ | refine awpL_ev (ev_fld_agg (ds := spanC q.span) rfl rfl rfl rfl rfl rfl rfl) rfl ?_))
                   | refine st [] ?_
                   | ((with_reducible refine is_gd ?_); refine awpL_split rfl rfl (fun h => ?_) (fun h => ?_))
                   | ((with_reducible refine isD_gd ?_); ((fail_if_success (refine isD_kn (c := true) rfl qa0 ?_)); (fail_if_success (refine isD_kn (c := false) rfl qa0 ?_)); refine awpD_split rfl (fun h => ?_) (fun h => ?_)))
                   | ((with_reducible refine is_awp ?_); refine awp_cond rfl (fun h => ?_) (fun h => ?_))
                   | fail)
                  exact ⟨(j + 1, why), ⟨(.cons rfl rfl (.cons rfl rfl (.cons rfl rfl (.cons rfl rfl (.cons rfl rfl (.cons rfl rfl (.cons rfl rfl (.cons rfl rfl .nil)))))))), rfl, rfl, rfl⟩, ⟨by simp only; omega, by simp only; rw [hf, hps]⟩, by simp only; omega⟩
      · subst e
        have k0 : decide ((3 : Int) = 0) = false := rfl
        have k2 : decide ((3 : Int) = 2) = false := rfl
        have k1 : decide ((3 : Int) = 1) = false := rfl
        have k3 : decide ((3 : Int) = 3) = true := rfl
        rw [if_neg (by decide), if_pos rfl] at hbad
        rw [if_neg (by rw [htm]; simp)] at hf
        rcases hfp with ⟨hFi, hov⟩ | ⟨hFi, p, hpv, hpD, ip, hov⟩
        · subst hFi
          cases ha : decide (x.rank = 0) with
          | false =>
            rw [ha] at hbad
            have ha' : (!decide (x.rank = 0)) = true := by rw [ha]; rfl
            rw [if_pos (by rw [hbad]; rfl)] at hf
            repeat' (first
             | refine st [] ?_
             | ((with_reducible refine is_gd ?_); refine awpL_split rfl rfl (fun h => ?_) (fun h => ?_))
             | ((with_reducible refine isD_gd ?_); ((fail_if_success (refine isD_kn (c := true) rfl qa0 ?_)); (fail_if_success (refine isD_kn (c := false) rfl qa0 ?_)); refine awpD_split rfl (fun h => ?_) (fun h => ?_)))
             | ((with_reducible refine is_awp ?_); refine awp_cond rfl (fun h => ?_) (fun h => ?_))
             | fail)
            exact ⟨(j + 1, 10), ⟨(.cons rfl rfl (.cons rfl rfl (.cons rfl rfl (.cons rfl rfl (.cons rfl rfl (.cons rfl rfl (.cons rfl rfl (.cons rfl rfl .nil)))))))), rfl, rfl, rfl⟩, ⟨by simp only; omega, by simp only; rw [hf, hps]; rfl⟩, by simp only; omega⟩
          | true =>
            rw [ha] at hbad
            have ha' : (!decide (x.rank = 0)) = false := by rw [ha]; rfl
            rw [if_neg (by rw [hbad]; simp)] at hf
            repeat' (first
             | refine st [] ?_
             | ((with_reducible refine is_gd ?_); refine awpL_split rfl rfl (fun h => ?_) (fun h => ?_))
             | ((with_reducible refine isD_gd ?_); ((fail_if_success (refine isD_kn (c := true) rfl qa0 ?_)); (fail_if_success (refine isD_kn (c := false) rfl qa0 ?_)); refine awpD_split rfl (fun h => ?_) (fun h => ?_)))
             | ((with_reducible refine is_awp ?_); refine awp_cond rfl (fun h => ?_) (fun h => ?_))
             | fail)
            exact ⟨(j + 1, why), ⟨(.cons rfl rfl (.cons rfl rfl (.cons rfl rfl (.cons rfl rfl (.cons rfl rfl (.cons rfl rfl (.cons rfl rfl (.cons rfl rfl .nil)))))))), rfl, rfl, rfl⟩, ⟨by simp only; omega, by simp only; rw [hf, hps]⟩, by simp only; omega⟩
        · subst hFi
          rw [hpv] at hbad
          simp only [Option.getD_some] at hbad
          have hRp := hRk p hpD
          by_cases hmx : p.rank = 9223372036854775807
          · have ha : decide (x.rank = p.rank + 1) = false := decide_eq_false (by omega)
            have hw : IntKind.i64.wrap (p.rank + 1) = -9223372036854775808 := by rw [hmx]; rfl
            have ha2 : (!decide (x.rank = IntKind.i64.wrap (p.rank + 1))) = true := by rw [decide_eq_false (by rw [hw]; omega)]; rfl
            rw [ha] at hbad
            rw [if_pos (by rw [hbad]; rfl)] at hf
            repeat' (first
             | refine st [] ?_
             | ((with_reducible refine is_gd ?_); refine awpL_split rfl rfl (fun h => ?_) (fun h => ?_))
             | ((with_reducible refine isD_gd ?_); ((fail_if_success (refine isD_kn (c := true) rfl qa0 ?_)); (fail_if_success (refine isD_kn (c := false) rfl qa0 ?_)); refine awpD_split rfl (fun h => ?_) (fun h => ?_)))
             | ((with_reducible refine is_awp ?_); refine awp_cond rfl (fun h => ?_) (fun h => ?_))
             | fail)
            exact ⟨(j + 1, 10), ⟨(.cons rfl rfl (.cons rfl rfl (.cons rfl rfl (.cons rfl rfl (.cons rfl rfl (.cons rfl rfl (.cons rfl rfl (.cons rfl rfl .nil)))))))), rfl, rfl, rfl⟩, ⟨by simp only; omega, by simp only; rw [hf, hps]; rfl⟩, by simp only; omega⟩
          have hmx : p.rank ≤ 9223372036854775806 := by omega
          cases ha : decide (x.rank = p.rank + 1) with
          | false =>
            rw [ha] at hbad
            have ha' : (!decide (x.rank = p.rank + 1)) = true := by rw [ha]; rfl
            rw [if_pos (by rw [hbad]; rfl)] at hf
            repeat' (first
             | refine st [] ?_
             | ((with_reducible refine is_gd ?_); refine awpL_split rfl rfl (fun h => ?_) (fun h => ?_))
             | ((with_reducible refine isD_gd ?_); ((fail_if_success (refine isD_kn (c := true) rfl qa0 ?_)); (fail_if_success (refine isD_kn (c := false) rfl qa0 ?_)); refine awpD_split rfl (fun h => ?_) (fun h => ?_)))
             | ((with_reducible refine is_awp ?_); refine awp_cond rfl (fun h => ?_) (fun h => ?_))
             | fail)
            exact ⟨(j + 1, 10), ⟨(.cons rfl rfl (.cons rfl rfl (.cons rfl rfl (.cons rfl rfl (.cons rfl rfl (.cons rfl rfl (.cons rfl rfl (.cons rfl rfl .nil)))))))), rfl, rfl, rfl⟩, ⟨by simp only; omega, by simp only; rw [hf, hps]; rfl⟩, by simp only; omega⟩
          | true =>
            rw [ha] at hbad
            have ha' : (!decide (x.rank = p.rank + 1)) = false := by rw [ha]; rfl
            rw [if_neg (by rw [hbad]; simp)] at hf
            repeat' (first
             | refine st [] ?_
             | ((with_reducible refine is_gd ?_); refine awpL_split rfl rfl (fun h => ?_) (fun h => ?_))
             | ((with_reducible refine isD_gd ?_); ((fail_if_success (refine isD_kn (c := true) rfl qa0 ?_)); (fail_if_success (refine isD_kn (c := false) rfl qa0 ?_)); refine awpD_split rfl (fun h => ?_) (fun h => ?_)))
             | ((with_reducible refine is_awp ?_); refine awp_cond rfl (fun h => ?_) (fun h => ?_))
             | fail)
            exact ⟨(j + 1, why), ⟨(.cons rfl rfl (.cons rfl rfl (.cons rfl rfl (.cons rfl rfl (.cons rfl rfl (.cons rfl rfl (.cons rfl rfl (.cons rfl rfl .nil)))))))), rfl, rfl, rfl⟩, ⟨by simp only; omega, by simp only; rw [hf, hps]⟩, by simp only; omega⟩
      · subst e
        have k0 : decide ((4 : Int) = 0) = false := rfl
        have k2 : decide ((4 : Int) = 2) = false := rfl
        have k1 : decide ((4 : Int) = 1) = false := rfl
        have k3 : decide ((4 : Int) = 3) = false := rfl
        have k4 : decide ((4 : Int) = 4) = true := rfl
        rw [if_neg (by decide), if_neg (by decide), if_pos rfl] at hbad
        rw [if_neg (by rw [htm]; simp)] at hf
        cases Fi with
        | true =>
          rw [if_neg (by rw [hbad]; simp)] at hf
          repeat' (first
           | refine st [] ?_
           | ((with_reducible refine is_gd ?_); refine awpL_split rfl rfl (fun h => ?_) (fun h => ?_))
           | ((with_reducible refine isD_gd ?_); ((fail_if_success (refine isD_kn (c := true) rfl qa0 ?_)); (fail_if_success (refine isD_kn (c := false) rfl qa0 ?_)); refine awpD_split rfl (fun h => ?_) (fun h => ?_)))
           | ((with_reducible refine is_awp ?_); refine awp_cond rfl (fun h => ?_) (fun h => ?_))
           | fail)
          exact ⟨(j + 1, why), ⟨(.cons rfl rfl (.cons rfl rfl (.cons rfl rfl (.cons rfl rfl (.cons rfl rfl (.cons rfl rfl (.cons rfl rfl (.cons rfl rfl .nil)))))))), rfl, rfl, rfl⟩, ⟨by simp only; omega, by simp only; rw [hf, hps]⟩, by simp only; omega⟩
        | false =>
          rw [if_pos (by rw [hbad]; rfl)] at hf
          repeat' (first
           | refine st [] ?_
           | ((with_reducible refine is_gd ?_); refine awpL_split rfl rfl (fun h => ?_) (fun h => ?_))
           | ((with_reducible refine isD_gd ?_); ((fail_if_success (refine isD_kn (c := true) rfl qa0 ?_)); (fail_if_success (refine isD_kn (c := false) rfl qa0 ?_)); refine awpD_split rfl (fun h => ?_) (fun h => ?_)))
           | ((with_reducible refine is_awp ?_); refine awp_cond rfl (fun h => ?_) (fun h => ?_))
           | fail)
          exact ⟨(j + 1, 8), ⟨(.cons rfl rfl (.cons rfl rfl (.cons rfl rfl (.cons rfl rfl (.cons rfl rfl (.cons rfl rfl (.cons rfl rfl (.cons rfl rfl .nil)))))))), rfl, rfl, rfl⟩, ⟨by simp only; omega, by simp only; rw [hf, hps]; rfl⟩, by simp only; omega⟩
      · have k0 : decide (kd = 0) = false := decide_eq_false e0
        have k2 : decide (kd = 2) = false := decide_eq_false e2
        have k1 : decide (kd = 1) = false := decide_eq_false e1
        have k3 : decide (kd = 3) = false := decide_eq_false e3
        have k4 : decide (kd = 4) = false := decide_eq_false e4
        rw [if_neg e1, if_neg e3, if_neg e4] at hbad
        rw [if_neg (by rw [htm]; simp), if_neg (by rw [hbad]; simp)] at hf
        repeat' (first
         | refine st [] ?_
         | ((with_reducible refine is_gd ?_); refine awpL_split rfl rfl (fun h => ?_) (fun h => ?_))
         | ((with_reducible refine isD_gd ?_); ((fail_if_success (refine isD_kn (c := true) rfl qa0 ?_)); (fail_if_success (refine isD_kn (c := false) rfl qa0 ?_)); refine awpD_split rfl (fun h => ?_) (fun h => ?_)))
         | ((with_reducible refine is_awp ?_); refine awp_cond rfl (fun h => ?_) (fun h => ?_))
         | fail)
        exact ⟨(j + 1, why), ⟨(.cons rfl rfl (.cons rfl rfl (.cons rfl rfl (.cons rfl rfl (.cons rfl rfl (.cons rfl rfl (.cons rfl rfl (.cons rfl rfl .nil)))))))), rfl, rfl, rfl⟩, ⟨by simp only; omega, by simp only; rw [hf, hps]⟩, by simp only; omega⟩
end Go.Proofs.YtigcjinpkngapaaGreatDoor
end
