/- A logic of trees over the model's steps, and the contracts of the functions that the laws reach: part 11 of 20. -/
import Derived.Test.YtigcjinpkngapaaGreatDoorC10
set_option linter.unusedVariables false
set_option linter.unusedSimpArgs false
set_option linter.unusedSectionVars false
section
namespace Go.Proofs.YtigcjinpkngapaaGreatDoor
open Go.Ac
attribute [local irreducible] awp awpL Ev Ev2 EvS thenQ blockQ retQ PCalls OCalls YieldOk IterC ICalls
variable {g : List (Nat × List AV)}
theorem le_fz (sz : Nat) : Le .fz (.fs sz 0 []) := fun F w y h => by
  simp only [RF] at h ⊢
  obtain ⟨a, rfl⟩ := h
  exact ⟨rfl, a, 0, rfl, Nat.le_refl _, fun h => absurd rfl h⟩
set_option maxHeartbeats 2000000 in
theorem rinsert_spec (s : Span) : PCalls Tryz.prog g 196 [encSpans [], .agg (spanC s)] (encSpans [s]) := by
  have hj : ([] : List (List AV)) ++ [spanC s] = [spanC s] := rfl
  have hj2 : ([spanC s] : List (List AV)) ++ [] = [spanC s] := rfl
  have c1 : decide ((0 : Int) < (([] : List Span).length : Int)) = false := rfl
  refine pcalls' Tryz.func196 Tryz.ntmps196 rfl rfl rfl ?_
  repeat' (first
   | ((with_reducible refine is_un ?_); refine awpL_ev2 (ev_bslice_o (t := 163) (n := 0) (es := []) rfl rfl rfl rfl rfl rfl rfl rfl rfl rfl rfl qf0 qc0) rfl ?_)
   | refine stn [3] ?_
   | ((with_reducible refine is_gd ?_); refine awpL_split rfl rfl (fun h => ?_) (fun h => ?_))
   | ((with_reducible refine is_awp ?_); refine awp_cond rfl (fun h => ?_) (fun h => ?_))
   | fail)
  refine awp_for (α := Nat) 3 (fun k => [(0, encSpans []), (3, .lp 0 0), (5, .os 1 0), (6, .os 2 0), (7, vi k)]) (fun k => [.box (spanC s), .own 0 53 2 [], .own 0 53 2 []]) (fun k => k = 0) (fun k => k) 0
    ⟨(.cons rfl rfl (.cons rfl rfl (.cons rfl rfl (.cons rfl rfl (.cons rfl rfl .nil))))), rfl, rfl, rfl⟩ rfl ?_
  intro k hk
  subst hk
  show awp _ _ _ _ _ [(0, encSpans []), (3, .lp 0 0), (5, .os 1 0), (6, .os 2 0), (7, vi 0)] [.box (spanC s), .own 0 53 2 [], .own 0 53 2 []]
  repeat' (first
   | ((with_reducible refine is_un ?_); (first | refine awpL_ev2 (ev_app (es' := [spanC s]) rfl rfl rfl rfl rfl rfl rfl rfl rfl rfl rfl rfl rfl qe0 hj rfl) rfl ?_ | refine awpL_ev2 (ev_app (es' := [spanC s]) rfl rfl rfl rfl rfl rfl rfl rfl rfl rfl rfl rfl rfl qe0 hj2 rfl) rfl ?_))
   | refine stn [3] ?_
   | ((with_reducible refine is_gd ?_); refine awpL_split rfl rfl (fun h => ?_) (fun h => ?_))
   | ((with_reducible refine is_awp ?_); refine awp_cond rfl (fun h => ?_) (fun h => ?_))
   | fail)
  refine retP rfl ?_
  simp [ex]
set_option maxHeartbeats 2000000 in
theorem rUnion_spec (s : Span) (hs : spanRight s = true) : PCalls Tryz.prog g 179 [encSpans [s]] (encSpans [s]) := by
  have hR := rspanR_spec (g := g) s
  rw [hs] at hR
  have hI := (rinsert_spec (g := g) s).args (.cons (le_fz 2) (.cons (Le.of_eq rfl) .nil))
  refine pcalls' Tryz.func179 Tryz.ntmps179 rfl rfl rfl ?_
  repeat' (first
   | refine stn [] ?_
   | ((with_reducible refine is_gd ?_); refine awpL_split rfl rfl (fun h => ?_) (fun h => ?_))
   | ((with_reducible refine is_awp ?_); refine awp_cond rfl (fun h => ?_) (fun h => ?_))
   | fail)
  refine awp_for (α := Nat) 0 (fun k => [(0, encSpans [s]), (3, match k with | 0 => .fz | _ => encSpans [s]), (4, vi k)]) (fun k => []) (fun k => k ≤ 1) (fun k => 1 - k) 0
    ⟨(.cons rfl rfl (.cons rfl rfl (.cons rfl rfl .nil))), rfl, rfl, rfl⟩ (by omega) ?_
  intro k hk
  cases k with
  | zero =>
    have c1 : decide ((0 : Int) < ([s].length : Int)) = true := rfl
    have h1 : 0 ≤ (0 : Int) ∧ ([s].map spanC)[(0 : Int).toNat]? = some (spanC s) := ⟨by omega, rfl⟩
    show awp _ _ _ _ _ [(0, encSpans [s]), (3, .fz), (4, vi 0)] []
    repeat' (first
     | refine stn [] ?_
     | ((with_reducible refine is_gd ?_); refine awpL_split rfl rfl (fun h => ?_) (fun h => ?_))
     | ((with_reducible refine is_awp ?_); refine awp_cond rfl (fun h => ?_) (fun h => ?_))
     | fail)
    exact ⟨1, ⟨(.cons rfl rfl (.cons rfl rfl (.cons rfl rfl .nil))), rfl, rfl, rfl⟩, by omega, by omega⟩
  | succ k =>
    obtain rfl : k = 0 := by omega
    have c1 : decide ((1 : Int) < ([s].length : Int)) = false := rfl
    show awp _ _ _ _ _ [(0, encSpans [s]), (3, encSpans [s]), (4, vi 1)] []
    repeat' (first
     | refine stn [] ?_
     | ((with_reducible refine is_gd ?_); refine awpL_split rfl rfl (fun h => ?_) (fun h => ?_))
     | ((with_reducible refine is_awp ?_); refine awp_cond rfl (fun h => ?_) (fun h => ?_))
     | fail)
    exact retP rfl rfl
abbrev woK (l : List Span) (b : Span) (k : Nat) : List Span := withoutL (l.take k) b
theorem woK_succ {l : List Span} {b x : Span} {k : Nat} (h : l[k]? = some x) : woK l b (k + 1) = woK l b k ++ cutS b x := by
  unfold woK withoutL
  rw [List.take_add_one, h, List.flatMap_append]
  simp
theorem cutS_len (b x : Span) : (cutS b x).length ≤ 2 := by
  unfold cutS
  rw [List.length_append]
  have h1 : ∀ (c : Prop) [Decidable c] (y : Span), (if c then [y] else []).length ≤ 1 := fun c _ y => by split <;> simp
  have := h1 (spanRight (leftS x b) = true) (leftS x b)
  have := h1 (spanRight (rightS x b) = true) (rightS x b)
  omega
theorem without_len (b : Span) : ∀ l : List Span, (withoutL l b).length ≤ 2 * l.length
  | [] => by simp [withoutL]
  | x :: r => by
    have h1 := without_len b r
    have h2 := cutS_len b x
    unfold withoutL at h1 ⊢
    rw [List.flatMap_cons, List.length_append, List.length_cons]
    omega
set_option maxRecDepth 4000 in
set_option maxHeartbeats 4000000 in
theorem rwithout_spec (l : List Span) (b : Span) (hl : l.length ≤ 4000000) : PCalls Tryz.prog g 180 [encSpans l, .agg (spanC b)] (encSpans (withoutL l b)) := by
  refine pcalls' Tryz.func180 Tryz.ntmps180 rfl rfl rfl ?_
  repeat' (first
   | ((with_reducible refine is_un ?_); refine awpL_ev2 (ev_bslice_o (t := 163) (n := 0) (es := []) rfl rfl rfl rfl rfl rfl rfl rfl rfl rfl rfl qf0 qc0) rfl ?_)
   | refine stn [] ?_
   | ((with_reducible refine is_gd ?_); refine awpL_split rfl rfl (fun h => ?_) (fun h => ?_))
   | ((with_reducible refine is_awp ?_); refine awp_cond rfl (fun h => ?_) (fun h => ?_))
   | fail)
  refine awp_for (α := Nat) 1 (fun k => [(0, encSpans l), (3, .fp (spanC b)), (5, .os 0 0), (6, vi k)]) (fun k => [.own 0 53 2 ((woK l b k).map spanC)]) (fun k => k ≤ l.length) (fun k => l.length - k) 0
    ⟨(.cons rfl rfl (.cons rfl rfl (.cons rfl rfl (.cons rfl rfl .nil)))), rfl, rfl, rfl⟩ (Nat.zero_le _) ?_
  intro k hk
  have hcl := without_len b (l.take k)
  rw [List.length_take] at hcl
  cases ht : l[k]? with
  | none =>
    have hge : l.length ≤ k := by simpa using ht
    have c1 : decide ((k : Int) < l.length) = false := decide_eq_false (by omega)
    rw [show woK l b k = withoutL l b by unfold woK; rw [List.take_of_length_le hge]]
    repeat' (first
     | refine stn [] ?_
     | ((with_reducible refine is_gd ?_); refine awpL_split rfl rfl (fun h => ?_) (fun h => ?_))
     | ((with_reducible refine is_awp ?_); refine awp_cond rfl (fun h => ?_) (fun h => ?_))
     | fail)
    refine retP rfl ?_
    simp [ex]
  | some x =>
    have hlt : k < l.length := (List.getElem?_eq_some_iff.1 ht).1
    have c1 : decide ((k : Int) < l.length) = true := decide_eq_true (by omega)
    have h1 := span_get ht
    have hS := woK_succ (b := b) ht
    have hm1 : min x.til b.fro = min x.til b.fro := rfl
    have hRl := rspanR_spec (g := g) (leftS x b)
    have hRr := rspanR_spec (g := g) (rightS x b)
    change (woK l b k).length ≤ _ at hcl
    generalize hM : woK l b k = M at hS hcl ⊢
    generalize hM' : woK l b (k + 1) = M' at hS
    unfold cutS at hS
    cases hl1 : spanRight (leftS x b) with
    | true =>
      rw [hl1] at hRl hS
      cases hr1 : spanRight (rightS x b) with
      | true =>
        rw [hr1] at hRr hS
        have hj1 : M.map spanC ++ [spanC (leftS x b)] = (M ++ [leftS x b]).map spanC := by simp
        have hj2 : (M ++ [leftS x b]).map spanC ++ [spanC (rightS x b)] = M'.map spanC := by rw [hS]; simp
        repeat' (first
         | ((with_reducible refine is_un ?_); (first | refine awpL_ev2 (ev_appB (es' := (M ++ [leftS x b]).map spanC) rfl rfl rfl rfl rfl rfl rfl rfl rfl rfl rfl rfl rfl qe0 hj1 rfl) rfl ?_ | refine awpL_ev2 (ev_appB (es' := M'.map spanC) rfl rfl rfl rfl rfl rfl rfl rfl rfl rfl rfl rfl rfl qe0 hj2 rfl) rfl ?_))
         | refine st [] ?_
         | ((with_reducible refine is_gd ?_); refine awpL_split rfl rfl (fun h => ?_) (fun h => ?_))
         | ((with_reducible refine isD_gd ?_); ((fail_if_success (refine isD_kn (c := true) rfl qa0 ?_)); (fail_if_success (refine isD_kn (c := false) rfl qa0 ?_)); refine awpD_split rfl (fun h => ?_) (fun h => ?_)))
         | ((with_reducible refine is_awp ?_); refine awp_cond rfl (fun h => ?_) (fun h => ?_))
         | fail)
        exact ⟨k + 1, by rw [hM']; exact ⟨(.cons rfl rfl (.cons rfl rfl (.cons rfl rfl (.cons rfl rfl .nil)))), rfl, rfl, rfl⟩, by omega, by omega⟩
      | false =>
        rw [hr1] at hRr hS
        have hj1 : M.map spanC ++ [spanC (leftS x b)] = M'.map spanC := by rw [hS]; simp
        repeat' (first
         | ((with_reducible refine is_un ?_); refine awpL_ev2 (ev_appB (es' := M'.map spanC) rfl rfl rfl rfl rfl rfl rfl rfl rfl rfl rfl rfl rfl qe0 hj1 rfl) rfl ?_)
         | refine st [] ?_
         | ((with_reducible refine is_gd ?_); refine awpL_split rfl rfl (fun h => ?_) (fun h => ?_))
         | ((with_reducible refine isD_gd ?_); ((fail_if_success (refine isD_kn (c := true) rfl qa0 ?_)); (fail_if_success (refine isD_kn (c := false) rfl qa0 ?_)); refine awpD_split rfl (fun h => ?_) (fun h => ?_)))
         | ((with_reducible refine is_awp ?_); refine awp_cond rfl (fun h => ?_) (fun h => ?_))
         | fail)
        exact ⟨k + 1, by rw [hM']; exact ⟨(.cons rfl rfl (.cons rfl rfl (.cons rfl rfl (.cons rfl rfl .nil)))), rfl, rfl, rfl⟩, by omega, by omega⟩
    | false =>
      rw [hl1] at hRl hS
      cases hr1 : spanRight (rightS x b) with
      | true =>
        rw [hr1] at hRr hS
        have hj1 : M.map spanC ++ [spanC (rightS x b)] = M'.map spanC := by rw [hS]; simp
        repeat' (first
         | ((with_reducible refine is_un ?_); refine awpL_ev2 (ev_appB (es' := M'.map spanC) rfl rfl rfl rfl rfl rfl rfl rfl rfl rfl rfl rfl rfl qe0 hj1 rfl) rfl ?_)
         | refine st [] ?_
         | ((with_reducible refine is_gd ?_); refine awpL_split rfl rfl (fun h => ?_) (fun h => ?_))
         | ((with_reducible refine isD_gd ?_); ((fail_if_success (refine isD_kn (c := true) rfl qa0 ?_)); (fail_if_success (refine isD_kn (c := false) rfl qa0 ?_)); refine awpD_split rfl (fun h => ?_) (fun h => ?_)))
         | ((with_reducible refine is_awp ?_); refine awp_cond rfl (fun h => ?_) (fun h => ?_))
         | fail)
        exact ⟨k + 1, by rw [hM']; exact ⟨(.cons rfl rfl (.cons rfl rfl (.cons rfl rfl (.cons rfl rfl .nil)))), rfl, rfl, rfl⟩, by omega, by omega⟩
      | false =>
        rw [hr1] at hRr hS
        have hS : M' = M := by rw [hS]; simp
        subst hS
        repeat' (first
         | refine st [] ?_
         | ((with_reducible refine is_gd ?_); refine awpL_split rfl rfl (fun h => ?_) (fun h => ?_))
         | ((with_reducible refine isD_gd ?_); ((fail_if_success (refine isD_kn (c := true) rfl qa0 ?_)); (fail_if_success (refine isD_kn (c := false) rfl qa0 ?_)); refine awpD_split rfl (fun h => ?_) (fun h => ?_)))
         | ((with_reducible refine is_awp ?_); refine awp_cond rfl (fun h => ?_) (fun h => ?_))
         | fail)
        exact ⟨k + 1, by rw [hM']; exact ⟨(.cons rfl rfl (.cons rfl rfl (.cons rfl rfl (.cons rfl rfl .nil)))), rfl, rfl, rfl⟩, by omega, by omega⟩
abbrev minK (s : Span) (l : List Span) (k : Nat) : List Span := minusL s (l.take k)
theorem minK_succ {s b : Span} {l : List Span} {k : Nat} (h : l[k]? = some b) : minK s l (k + 1) = minusStep (minK s l k) b := by
  unfold minK minusL
  rw [List.take_add_one, h]
  simp
end Go.Proofs.YtigcjinpkngapaaGreatDoor
end
section
namespace Go.Proofs.YtigcjinpkngapaaGreatDoor
open Go.Ac
attribute [local irreducible] awp awpL Ev Ev2 EvS thenQ blockQ retQ PCalls OCalls
variable {g : List (Nat × List AV)}
set_option maxHeartbeats 1000000 in
theorem r12al_spec (k : Int) : PCalls Tryz.prog g 121 [vi k] (vb (timed k)) := by
  refine pcalls' Tryz.func121 Tryz.ntmps121 rfl rfl rfl ?_
  unfold timed
  by_cases h0 : k = 0
  · have d0 : decide (k = 0) = true := decide_eq_true h0
    rw [d0]
    repeat' (first
     | refine stn [] ?_
     | ((with_reducible refine is_gd ?_); refine awpL_split rfl rfl (fun h => ?_) (fun h => ?_))
     | ((with_reducible refine is_awp ?_); refine awp_cond rfl (fun h => ?_) (fun h => ?_))
     | fail)
    exact retP rfl rfl
  have d0 : decide (k = 0) = false := decide_eq_false h0
  by_cases h1 : k = 1
  · have d1 : decide (k = 1) = true := decide_eq_true h1
    rw [d0, d1]
    repeat' (first
     | refine stn [] ?_
     | ((with_reducible refine is_gd ?_); refine awpL_split rfl rfl (fun h => ?_) (fun h => ?_))
     | ((with_reducible refine is_awp ?_); refine awp_cond rfl (fun h => ?_) (fun h => ?_))
     | fail)
    exact retP rfl rfl
  have d1 : decide (k = 1) = false := decide_eq_false h1
  by_cases h2 : k = 2
  · have d2 : decide (k = 2) = true := decide_eq_true h2
    rw [d0, d1, d2]
    repeat' (first
     | refine stn [] ?_
     | ((with_reducible refine is_gd ?_); refine awpL_split rfl rfl (fun h => ?_) (fun h => ?_))
     | ((with_reducible refine is_awp ?_); refine awp_cond rfl (fun h => ?_) (fun h => ?_))
     | fail)
    refine retP rfl ?_
    simp [ex, d2]
  have d2 : decide (k = 2) = false := decide_eq_false h2
  rw [d0, d1, d2]
  repeat' (first
   | refine stn [] ?_
   | ((with_reducible refine is_gd ?_); refine awpL_split rfl rfl (fun h => ?_) (fun h => ?_))
   | ((with_reducible refine is_awp ?_); refine awp_cond rfl (fun h => ?_) (fun h => ?_))
   | fail)
  refine retP rfl ?_
  simp [ex, d2]
def rankE (t : Tier) (n : Note) : Int := if n.rank < 0 ∨ (n.rank ≠ 0 ∧ t.kind ≠ 3) then 1 else 0
theorem rank_cases (t : Tier) (n : Note) :
    (decide (n.rank < 0) = true ∧ rankE t n = 1) ∨ (decide (n.rank < 0) = false ∧ (!decide (n.rank = 0)) = false ∧ rankE t n = 0) ∨
    (decide (n.rank < 0) = false ∧ (!decide (n.rank = 0)) = true ∧ (!decide (t.kind = 3)) = true ∧ rankE t n = 1) ∨
    (decide (n.rank < 0) = false ∧ (!decide (n.rank = 0)) = true ∧ (!decide (t.kind = 3)) = false ∧ rankE t n = 0) := by
  unfold rankE
  by_cases h1 : n.rank < 0
  · exact .inl ⟨decide_eq_true h1, if_pos (.inl h1)⟩
  · by_cases h2 : n.rank = 0
    · exact .inr (.inl ⟨decide_eq_false h1, by simp [h2], if_neg (by omega)⟩)
    · by_cases h3 : t.kind = 3
      · exact .inr (.inr (.inr ⟨decide_eq_false h1, by simp [h2], by simp [h3], if_neg (by omega)⟩))
      · exact .inr (.inr (.inl ⟨decide_eq_false h1, by simp [h2], by simp [h3], if_pos (.inr ⟨h2, h3⟩)⟩))
set_option maxRecDepth 8000 in
set_option maxHeartbeats 8000000 in
theorem rplaced_spec (d : Doc) (t : Tier) (n : Note) (ht : tierAt d.tiers n.tier = some t) (hl : d.notes.length ≤ 1000000) : PCalls Tryz.prog g 119 [.agg (docC d), .agg (noteC n)] (vi (placedE d t n)) := by
  have hA := r12al_spec (g := g) t.kind
  have hG := rGet_spec (g := g) d n.parent hl
  have hR := rspanR_spec (g := g) n.span
  have hsz := spanz_eq n.span
  obtain ⟨_, _, g1⟩ := tier_get ht
  have n1 : (!true) = false := rfl
  have n2 : (!false) = true := rfl
  rw [getV] at hG
  unfold placedE
  change PCalls _ _ _ _ (.tup [.agg (noteC ((getN d.notes n.parent).getD noNote)), _]) at hG
  generalize (getN d.notes n.parent).getD noNote = p at *
  generalize (getN d.notes n.parent).isSome = b at *
  generalize hz : decide (n.span = ⟨0, 0⟩) = z at hsz
  have hz' : (n.span ≠ ⟨0, 0⟩) ↔ z = false := by rw [← hz]; simp
  rw [show (if n.rank < 0 ∨ n.rank ≠ 0 ∧ t.kind ≠ 3 then (1 : Int) else 0) = rankE t n from rfl]
  have hrk := rank_cases t n
  generalize hrE : rankE t n = rE at *
  clear hrE
  refine pcalls' Tryz.func119 Tryz.ntmps119 rfl rfl rfl ?_
  by_cases k0 : t.kind = 0
  · have c1 : decide (t.kind = 0) = true := decide_eq_true k0
    have c2 : (!decide (t.kind = 0)) = false := by simp [k0]
    have ht0 : timed t.kind = true := by rw [k0]; rfl
    rw [ht0] at hA
    by_cases p0 : n.parent = 0
    · have c3 : (!decide (n.parent = 0)) = false := by simp [p0]
      cases hr : spanRight n.span with
      | false =>
        rw [hr] at hR
        rw [if_neg (by simp [k0, p0]), if_pos (.inr ⟨ht0, rfl⟩)]
        repeat' (first
         | refine stn [] ?_
         | ((with_reducible refine is_gd ?_); refine awpL_split rfl rfl (fun h => ?_) (fun h => ?_))
         | ((with_reducible refine is_awp ?_); refine awp_cond rfl (fun h => ?_) (fun h => ?_))
         | fail)
        exact retP rfl rfl
      | true =>
        rw [hr] at hR
        by_cases l0 : d.rec_.length < n.span.til
        · have c4 : decide (d.rec_.length < n.span.til) = true := decide_eq_true l0
          rw [if_neg (by simp [k0, p0]), if_neg (by simp [ht0]), if_pos ⟨k0, l0⟩]
          repeat' (first
           | refine stn [] ?_
           | ((with_reducible refine is_gd ?_); refine awpL_split rfl rfl (fun h => ?_) (fun h => ?_))
           | ((with_reducible refine is_awp ?_); refine awp_cond rfl (fun h => ?_) (fun h => ?_))
           | fail)
          exact retP rfl rfl
        · have c4 : decide (d.rec_.length < n.span.til) = false := decide_eq_false l0
          rw [if_neg (by simp [k0, p0]), if_neg (by simp [ht0]), if_neg (fun h => l0 h.2), if_neg (fun h => h.1.2 k0)]
          rcases hrk with ⟨r1, e⟩ | ⟨r1, r2, e⟩ | ⟨r1, r2, r3, e⟩ | ⟨r1, r2, r3, e⟩ <;> subst e
          all_goals
            repeat' (first
             | refine stn [] ?_
             | ((with_reducible refine is_gd ?_); refine awpL_split rfl rfl (fun h => ?_) (fun h => ?_))
             | ((with_reducible refine is_awp ?_); refine awp_cond rfl (fun h => ?_) (fun h => ?_))
             | fail)
            exact retP rfl rfl
    · have c3 : (!decide (n.parent = 0)) = true := by simp [p0]
      rw [if_pos (.inl ⟨k0, p0⟩)]
      repeat' (first
       | refine stn [] ?_
       | ((with_reducible refine is_gd ?_); refine awpL_split rfl rfl (fun h => ?_) (fun h => ?_))
       | ((with_reducible refine is_awp ?_); refine awp_cond rfl (fun h => ?_) (fun h => ?_))
       | fail)
      exact retP rfl rfl
  · have c1 : decide (t.kind = 0) = false := decide_eq_false k0
    have c2 : (!decide (t.kind = 0)) = true := by simp [k0]
    cases b with
    | false =>
      rw [if_pos (.inr ⟨k0, .inl rfl⟩)]
      repeat' (first
       | refine stn [] ?_
       | ((with_reducible refine is_gd ?_); refine awpL_split rfl rfl (fun h => ?_) (fun h => ?_))
       | ((with_reducible refine is_awp ?_); refine awp_cond rfl (fun h => ?_) (fun h => ?_))
       | fail)
      exact retP rfl rfl
    | true =>
      by_cases q0 : p.tier = t.parent
      · have c3 : (!decide (p.tier = t.parent)) = false := by simp [q0]
        rw [if_neg (by simp [k0, q0])]
        cases ht0 : timed t.kind with
        | true =>
          rw [ht0] at hA
          cases hr : spanRight n.span with
          | false =>
            rw [hr] at hR
            rw [if_pos (.inr ⟨rfl, rfl⟩)]
            repeat' (first
             | refine stn [] ?_
             | ((with_reducible refine is_gd ?_); refine awpL_split rfl rfl (fun h => ?_) (fun h => ?_))
             | ((with_reducible refine is_awp ?_); refine awp_cond rfl (fun h => ?_) (fun h => ?_))
             | fail)
            exact retP rfl rfl
          | true =>
            rw [hr] at hR
            rw [if_neg (by simp), if_neg (fun h => k0 h.1)]
            by_cases f0 : n.span.fro < p.span.fro
            · have c4 : decide (n.span.fro < p.span.fro) = true := decide_eq_true f0
              rw [if_pos ⟨⟨rfl, k0⟩, .inl f0⟩]
              repeat' (first
               | refine stn [] ?_
               | ((with_reducible refine is_gd ?_); refine awpL_split rfl rfl (fun h => ?_) (fun h => ?_))
               | ((with_reducible refine is_awp ?_); refine awp_cond rfl (fun h => ?_) (fun h => ?_))
               | fail)
              exact retP rfl rfl
            · have c4 : decide (n.span.fro < p.span.fro) = false := decide_eq_false f0
              by_cases t0 : p.span.til < n.span.til
              · have c5 : decide (p.span.til < n.span.til) = true := decide_eq_true t0
                rw [if_pos ⟨⟨rfl, k0⟩, .inr t0⟩]
                repeat' (first
                 | refine stn [] ?_
                 | ((with_reducible refine is_gd ?_); refine awpL_split rfl rfl (fun h => ?_) (fun h => ?_))
                 | ((with_reducible refine is_awp ?_); refine awp_cond rfl (fun h => ?_) (fun h => ?_))
                 | fail)
                exact retP rfl rfl
              · have c5 : decide (p.span.til < n.span.til) = false := decide_eq_false t0
                rw [if_neg (fun h => h.2.elim f0 t0)]
                rcases hrk with ⟨r1, e⟩ | ⟨r1, r2, e⟩ | ⟨r1, r2, r3, e⟩ | ⟨r1, r2, r3, e⟩ <;> subst e
                all_goals
                  repeat' (first
                   | refine stn [] ?_
                   | ((with_reducible refine is_gd ?_); refine awpL_split rfl rfl (fun h => ?_) (fun h => ?_))
                   | ((with_reducible refine is_awp ?_); refine awp_cond rfl (fun h => ?_) (fun h => ?_))
                   | fail)
                  exact retP rfl rfl
        | false =>
          rw [ht0] at hA
          cases z with
          | false =>
            rw [if_pos (.inl ⟨rfl, hz'.2 rfl⟩)]
            repeat' (first
             | ((with_reducible refine is_un ?_); refine awpL_ev (ev_neA (b := false) spanEq_T (by kernel_rfl) rfl rfl rfl rfl (by rw [← hsz]; rfl)) rfl ?_)
             | refine stn [] ?_
             | ((with_reducible refine is_gd ?_); refine awpL_split rfl rfl (fun h => ?_) (fun h => ?_))
             | ((with_reducible refine is_awp ?_); refine awp_cond rfl (fun h => ?_) (fun h => ?_))
             | fail)
            exact retP rfl rfl
          | true =>
            have hz2 : ¬ (n.span ≠ ⟨0, 0⟩) := fun h => by have := hz'.1 h; cases this
            rw [if_neg (by simp only [true_and, Bool.false_eq_true, false_and, or_false]; exact hz2), if_neg (fun h => k0 h.1), if_neg (by simp)]
            rcases hrk with ⟨r1, e⟩ | ⟨r1, r2, e⟩ | ⟨r1, r2, r3, e⟩ | ⟨r1, r2, r3, e⟩ <;> subst e
            all_goals
              repeat' (first
               | ((with_reducible refine is_un ?_); refine awpL_ev (ev_neA (b := true) spanEq_T (by kernel_rfl) rfl rfl rfl rfl (by rw [← hsz]; rfl)) rfl ?_)
               | refine stn [] ?_
               | ((with_reducible refine is_gd ?_); refine awpL_split rfl rfl (fun h => ?_) (fun h => ?_))
               | ((with_reducible refine is_awp ?_); refine awp_cond rfl (fun h => ?_) (fun h => ?_))
               | fail)
              exact retP rfl rfl
      · have c3 : (!decide (p.tier = t.parent)) = true := by simp [q0]
        rw [if_pos (.inr ⟨k0, .inr q0⟩)]
        repeat' (first
         | refine stn [] ?_
         | ((with_reducible refine is_gd ?_); refine awpL_split rfl rfl (fun h => ?_) (fun h => ?_))
         | ((with_reducible refine is_awp ?_); refine awp_cond rfl (fun h => ?_) (fun h => ?_))
         | fail)
        exact retP rfl rfl
def prevN (d : Doc) (i : Nat) : Option Note := if i = 0 then none else d.notes[i - 1]?
set_option maxHeartbeats 4000000 in
theorem rnoteE_spec (d : Doc) (i : Nat) (n : Note) (hn : d.notes[i]? = some n) (hl : d.notes.length ≤ 1000000) : PCalls Tryz.prog g 89 [.agg (docC d), vi i] (vi (noteE d (prevN d i) n)) := by
  have hT := rText_spec (g := g) n.text
  have g1 := note_get hn
  have hi : i < d.notes.length := (List.getElem?_eq_some_iff.1 hn).1
  refine pcalls' Tryz.func89 Tryz.ntmps89 rfl rfl rfl ?_
  unfold noteE
  by_cases i1 : n.id < 1
  · have c1 : decide (n.id < 1) = true := decide_eq_true i1
    rw [if_pos (.inl i1)]
    repeat' (first
     | refine stn [] ?_
     | ((with_reducible refine is_gd ?_); refine awpL_split rfl rfl (fun h => ?_) (fun h => ?_))
     | ((with_reducible refine is_awp ?_); refine awp_cond rfl (fun h => ?_) (fun h => ?_))
     | fail)
    exact retP rfl rfl
  have c1 : decide (n.id < 1) = false := decide_eq_false i1
  by_cases i2 : 1099511627776 < n.id
  · have c2 : decide (1099511627776 < n.id) = true := decide_eq_true i2
    rw [if_pos (.inr i2)]
    repeat' (first
     | refine stn [] ?_
     | ((with_reducible refine is_gd ?_); refine awpL_split rfl rfl (fun h => ?_) (fun h => ?_))
     | ((with_reducible refine is_awp ?_); refine awp_cond rfl (fun h => ?_) (fun h => ?_))
     | fail)
    exact retP rfl rfl
  have c2 : decide (1099511627776 < n.id) = false := decide_eq_false i2
  rw [if_neg (by omega)]
  have hlate : (lateB (prevN d i) n = true ∧ ∃ q, decide ((0 : Int) < i) = true ∧ (0 ≤ (i : Int) - 1 ∧ (d.notes.map noteC)[((i : Int) - 1).toNat]? = some (noteC q)) ∧ decide (n.id ≤ q.id) = true) ∨
      (lateB (prevN d i) n = false ∧ (decide ((0 : Int) < i) = false ∨ ∃ q, decide ((0 : Int) < i) = true ∧ (0 ≤ (i : Int) - 1 ∧ (d.notes.map noteC)[((i : Int) - 1).toNat]? = some (noteC q)) ∧ decide (n.id ≤ q.id) = false)) := by
    by_cases e : i = 0
    · subst e
      exact .inr ⟨rfl, .inl rfl⟩
    · obtain ⟨q, hq⟩ : ∃ q, d.notes[i - 1]? = some q := ⟨_, List.getElem?_eq_getElem (by omega)⟩
      have hp : prevN d i = some q := by unfold prevN; rw [if_neg e, hq]
      have h1 : decide ((0 : Int) < i) = true := decide_eq_true (by omega)
      have h2 : 0 ≤ (i : Int) - 1 ∧ (d.notes.map noteC)[((i : Int) - 1).toNat]? = some (noteC q) := by
        refine ⟨by omega, ?_⟩
        rw [show ((i : Int) - 1).toNat = i - 1 by omega, List.getElem?_map, hq]
        rfl
      rw [hp]
      unfold lateB
      cases hc : decide (n.id ≤ q.id) with
      | true => exact .inl ⟨hc, q, h1, h2, hc⟩
      | false => exact .inr ⟨hc, .inr ⟨q, h1, h2, hc⟩⟩
  rcases hlate with ⟨hlt, q, a1, a2, a3⟩ | ⟨hlt, hlt2⟩
  · rw [if_pos hlt]
    repeat' (first
     | refine st [] ?_
     | ((with_reducible refine is_gd ?_); refine awpL_split rfl rfl (fun h => ?_) (fun h => ?_))
     | ((with_reducible refine isD_gd ?_); ((fail_if_success (refine isD_kn (c := true) rfl qa0 ?_)); (fail_if_success (refine isD_kn (c := false) rfl qa0 ?_)); refine awpD_split rfl (fun h => ?_) (fun h => ?_)))
     | ((with_reducible refine is_awp ?_); refine awp_cond rfl (fun h => ?_) (fun h => ?_))
     | fail)
    exact retP rfl rfl
  rw [if_neg (by rw [hlt]; decide)]
  cases ht : tierAt d.tiers n.tier with
  | none =>
    rcases tier_none ht with h0 | ⟨h0, h1⟩
    · have c3 : decide (n.tier < 0) = true := decide_eq_true h0
      rcases hlt2 with a1 | ⟨q, a1, a2, a3⟩
      · repeat' (first
         | refine st [] ?_
         | ((with_reducible refine is_gd ?_); refine awpL_split rfl rfl (fun h => ?_) (fun h => ?_))
         | ((with_reducible refine isD_gd ?_); ((fail_if_success (refine isD_kn (c := true) rfl qa0 ?_)); (fail_if_success (refine isD_kn (c := false) rfl qa0 ?_)); refine awpD_split rfl (fun h => ?_) (fun h => ?_)))
         | ((with_reducible refine is_awp ?_); refine awp_cond rfl (fun h => ?_) (fun h => ?_))
         | fail)
        exact retP rfl rfl
      · repeat' (first
         | refine st [] ?_
         | ((with_reducible refine is_gd ?_); refine awpL_split rfl rfl (fun h => ?_) (fun h => ?_))
         | ((with_reducible refine isD_gd ?_); ((fail_if_success (refine isD_kn (c := true) rfl qa0 ?_)); (fail_if_success (refine isD_kn (c := false) rfl qa0 ?_)); refine awpD_split rfl (fun h => ?_) (fun h => ?_)))
         | ((with_reducible refine is_awp ?_); refine awp_cond rfl (fun h => ?_) (fun h => ?_))
         | fail)
        exact retP rfl rfl
    · have c3 : decide (n.tier < 0) = false := decide_eq_false (by omega)
      have c4 : decide ((d.tiers.length : Int) ≤ n.tier) = true := decide_eq_true h1
      rcases hlt2 with a1 | ⟨q, a1, a2, a3⟩
      · repeat' (first
         | refine st [] ?_
         | ((with_reducible refine is_gd ?_); refine awpL_split rfl rfl (fun h => ?_) (fun h => ?_))
         | ((with_reducible refine isD_gd ?_); ((fail_if_success (refine isD_kn (c := true) rfl qa0 ?_)); (fail_if_success (refine isD_kn (c := false) rfl qa0 ?_)); refine awpD_split rfl (fun h => ?_) (fun h => ?_)))
         | ((with_reducible refine is_awp ?_); refine awp_cond rfl (fun h => ?_) (fun h => ?_))
         | fail)
        exact retP rfl rfl
      · repeat' (first
         | refine st [] ?_
         | ((with_reducible refine is_gd ?_); refine awpL_split rfl rfl (fun h => ?_) (fun h => ?_))
         | ((with_reducible refine isD_gd ?_); ((fail_if_success (refine isD_kn (c := true) rfl qa0 ?_)); (fail_if_success (refine isD_kn (c := false) rfl qa0 ?_)); refine awpD_split rfl (fun h => ?_) (fun h => ?_)))
         | ((with_reducible refine is_awp ?_); refine awp_cond rfl (fun h => ?_) (fun h => ?_))
         | fail)
        exact retP rfl rfl
  | some t =>
    obtain ⟨h0, h1, _⟩ := tier_get ht
    have c3 : decide (n.tier < 0) = false := decide_eq_false (by omega)
    have c4 : decide ((d.tiers.length : Int) ≤ n.tier) = false := decide_eq_false (by omega)
    have hP := rplaced_spec (g := g) d t n ht hl
    simp only
    generalize placedE d t n = pe at *
    generalize textE n.text = te at *
    by_cases e0 : te = 0
    · have c5 : (!decide (te = 0)) = false := by simp [e0]
      rw [if_neg (by simpa using e0)]
      rcases hlt2 with a1 | ⟨q, a1, a2, a3⟩
      · repeat' (first
         | refine st [] ?_
         | ((with_reducible refine is_gd ?_); refine awpL_split rfl rfl (fun h => ?_) (fun h => ?_))
         | ((with_reducible refine isD_gd ?_); ((fail_if_success (refine isD_kn (c := true) rfl qa0 ?_)); (fail_if_success (refine isD_kn (c := false) rfl qa0 ?_)); refine awpD_split rfl (fun h => ?_) (fun h => ?_)))
         | ((with_reducible refine is_awp ?_); refine awp_cond rfl (fun h => ?_) (fun h => ?_))
         | fail)
        exact retP rfl rfl
      · repeat' (first
         | refine st [] ?_
         | ((with_reducible refine is_gd ?_); refine awpL_split rfl rfl (fun h => ?_) (fun h => ?_))
         | ((with_reducible refine isD_gd ?_); ((fail_if_success (refine isD_kn (c := true) rfl qa0 ?_)); (fail_if_success (refine isD_kn (c := false) rfl qa0 ?_)); refine awpD_split rfl (fun h => ?_) (fun h => ?_)))
         | ((with_reducible refine is_awp ?_); refine awp_cond rfl (fun h => ?_) (fun h => ?_))
         | fail)
        exact retP rfl rfl
    · have c5 : (!decide (te = 0)) = true := by simp [e0]
      rw [if_pos e0]
      rcases hlt2 with a1 | ⟨q, a1, a2, a3⟩
      · repeat' (first
         | refine st [] ?_
         | ((with_reducible refine is_gd ?_); refine awpL_split rfl rfl (fun h => ?_) (fun h => ?_))
         | ((with_reducible refine isD_gd ?_); ((fail_if_success (refine isD_kn (c := true) rfl qa0 ?_)); (fail_if_success (refine isD_kn (c := false) rfl qa0 ?_)); refine awpD_split rfl (fun h => ?_) (fun h => ?_)))
         | ((with_reducible refine is_awp ?_); refine awp_cond rfl (fun h => ?_) (fun h => ?_))
         | fail)
        exact retP rfl rfl
      · repeat' (first
         | refine st [] ?_
         | ((with_reducible refine is_gd ?_); refine awpL_split rfl rfl (fun h => ?_) (fun h => ?_))
         | ((with_reducible refine isD_gd ?_); ((fail_if_success (refine isD_kn (c := true) rfl qa0 ?_)); (fail_if_success (refine isD_kn (c := false) rfl qa0 ?_)); refine awpD_split rfl (fun h => ?_) (fun h => ?_)))
         | ((with_reducible refine is_awp ?_); refine awp_cond rfl (fun h => ?_) (fun h => ?_))
         | fail)
        exact retP rfl rfl
theorem tierE1_drop {d : Doc} {kind tier out : Int} {l : List Note} {k : Nat} {n : Note} (h : l[k]? = some n) : tierE1 d kind tier out (l.drop k) = if n.tier ≠ tier then tierE1 d kind tier out (l.drop (k + 1)) else if timed kind = true ∧ overlapL ((sibs d n.tier n.parent).map (·.span)) = true then 15 else tierE1 d kind tier (tierStep d kind out n) (l.drop (k + 1)) := by
  obtain ⟨h1, rfl⟩ := List.getElem?_eq_some_iff.1 h
  rw [List.drop_eq_getElem_cons h1]
  rfl
abbrev CovH (g : List (Nat × List AV)) (d : Doc) : Prop := ∀ (t p : Int) (s : Span), overlapL ((sibs d t p).map (·.span)) = false → PCalls Tryz.prog g 124 [encSpans ((sibs d t p).map (·.span)), .agg (spanC s)] (vb (covB ((sibs d t p).map (·.span)) s))
theorem kind_cases (k : Int) : (decide (k = 1) = true ∧ decide (k = 3) = false ∧ decide (k = 4) = false ∧ k = 1) ∨ (decide (k = 1) = false ∧ decide (k = 3) = true ∧ decide (k = 4) = false ∧ k = 3) ∨
    (decide (k = 1) = false ∧ decide (k = 3) = false ∧ decide (k = 4) = true ∧ k = 4) ∨ (decide (k = 1) = false ∧ decide (k = 3) = false ∧ decide (k = 4) = false ∧ k ≠ 1 ∧ k ≠ 3 ∧ k ≠ 4) := by
  simp only [decide_eq_true_eq, decide_eq_false_iff_not]
  omega
set_option maxRecDepth 8000 in
set_option maxHeartbeats 8000000 in
theorem rtierE_spec (d : Doc) (i : Nat) (t : Tier) (ht : d.tiers[i]? = some t) (hl : d.notes.length ≤ 1000000) (hC : CovH g d) : PCalls Tryz.prog g 90 [.agg (docC d), vi i] (vi (tierE d i)) := by
  have g1 := tierC_get ht
  have n1 : (!true) = false := rfl
  have n2 : (!false) = true := rfl
  have hAl := r12al_spec (g := g) t.kind
  have hta : tierAt d.tiers (i : Int) = some t := by unfold tierAt; rw [if_pos (by omega)]; simpa using ht
  refine pcalls' Tryz.func90 Tryz.ntmps90 rfl rfl rfl ?_
  have hv : tierE d i = tierE1 d t.kind i 0 d.notes := by unfold tierE; rw [hta]
  rw [hv]
  repeat' (first
   | refine stn [] ?_
   | ((with_reducible refine is_gd ?_); refine awpL_split rfl rfl (fun h => ?_) (fun h => ?_))
   | ((with_reducible refine is_awp ?_); refine awp_cond rfl (fun h => ?_) (fun h => ?_))
   | fail)
  generalize hkd : t.kind = kd at *
  refine awp_for (α := Nat × Int) 0 (fun p => [(1, vi i), (2, .fp (docC d)), (5, vi kd), (6, vi p.2), (7, vi p.1)]) (fun _ => []) (fun p => p.1 ≤ d.notes.length ∧ tierE1 d kd i 0 d.notes = tierE1 d kd i p.2 (d.notes.drop p.1)) (fun p => d.notes.length - p.1) (0, 0)
    ⟨(.cons rfl rfl (.cons rfl rfl (.cons rfl rfl (.cons rfl rfl (.cons rfl rfl .nil))))), rfl, rfl, rfl⟩ ⟨Nat.zero_le _, rfl⟩ ?_
  rintro ⟨j, out⟩ ⟨hj, hf⟩
  simp only at hj hf
  cases hx : d.notes[j]? with
  | none =>
    have hge : d.notes.length ≤ j := by simpa using hx
    have c1 : decide ((j : Int) < d.notes.length) = false := decide_eq_false (by omega)
    rw [hf, List.drop_of_length_le hge]
    repeat' (first
     | refine stn [] ?_
     | ((with_reducible refine is_gd ?_); refine awpL_split rfl rfl (fun h => ?_) (fun h => ?_))
     | ((with_reducible refine is_awp ?_); refine awp_cond rfl (fun h => ?_) (fun h => ?_))
     | fail)
    exact retP rfl rfl
  | some x =>
    have hlt : j < d.notes.length := (List.getElem?_eq_some_iff.1 hx).1
    have c1 : decide ((j : Int) < d.notes.length) = true := decide_eq_true (by omega)
    have g2 := note_get hx
    have hd := tierE1_drop (d := d) (kind := kd) (tier := (i : Int)) (out := out) hx
    by_cases e0 : x.tier = i
    · have c2 : (!decide (x.tier = i)) = false := by simp [e0]
      rw [if_neg (by simpa using e0)] at hd
      have hS := rsiblings_spec (g := g) d i x.parent hl
      have hsl := sibs_len d i x.parent
      have hO := roverlap_spec (g := g) (sibs d i x.parent) (by omega)
      have hG := rGet_spec (g := g) d x.parent hl
      have hSp := rspans_spec (g := g) (sibs d i x.parent) (by omega)
      have hRk := rranked_spec (g := g) (sibs d i x.parent) (by omega)
      have hCv := hC i x.parent
      have hst : tierStep d kd out x = (if kd = 4 ∧ 1 < (sibs d i x.parent).length then 8 else if kd = 3 ∧ rankedL ((sibs d i x.parent).map (·.rank)) = false then 10 else if kd = 1 ∧ covB ((sibs d i x.parent).map (·.span)) ((getN d.notes x.parent).getD noNote).span = false then 16 else out) := by
        unfold tierStep
        rw [e0]
      rw [hst, e0] at hd
      rw [getV] at hG
      change PCalls _ _ _ _ (.tup [.agg (noteC ((getN d.notes x.parent).getD noNote)), _]) at hG
      generalize (getN d.notes x.parent).getD noNote = p at *
      generalize (getN d.notes x.parent).isSome = pb at *
      generalize sibs d i x.parent = L at *
      cases htm : timed kd with
      | true =>
        rw [htm] at hAl
        cases hov : overlapL (L.map (·.span)) with
        | true =>
          rw [hov] at hO
          rw [if_pos ⟨htm, hov⟩] at hd
          rw [hf, hd]
          repeat' (first
           | refine stn [] ?_
           | ((with_reducible refine is_gd ?_); refine awpL_split rfl rfl (fun h => ?_) (fun h => ?_))
           | ((with_reducible refine is_awp ?_); refine awp_cond rfl (fun h => ?_) (fun h => ?_))
           | fail)
          exact retP rfl rfl
        | false =>
          rw [hov] at hO
          rw [if_neg (by rw [hov]; simp)] at hd
          have hCv := hCv p.span hov
          rcases kind_cases kd with ⟨k1, k3, k4, kk⟩ | ⟨k1, k3, k4, kk⟩ | ⟨k1, k3, k4, kk⟩ | ⟨k1, k3, k4, kk⟩
          · cases hcv : covB (L.map (·.span)) p.span with
            | true =>
              rw [hcv] at hCv
              rw [if_neg (by omega), if_neg (by omega), if_neg (by rw [hcv]; simp)] at hd
              repeat' (first
               | refine st [] ?_
               | ((with_reducible refine is_gd ?_); refine awpL_split rfl rfl (fun h => ?_) (fun h => ?_))
               | ((with_reducible refine isD_gd ?_); ((fail_if_success (refine isD_kn (c := true) rfl qa0 ?_)); (fail_if_success (refine isD_kn (c := false) rfl qa0 ?_)); refine awpD_split rfl (fun h => ?_) (fun h => ?_)))
               | ((with_reducible refine is_awp ?_); refine awp_cond rfl (fun h => ?_) (fun h => ?_))
               | fail)
              exact ⟨(j + 1, out), ⟨(.cons rfl rfl (.cons rfl rfl (.cons rfl rfl (.cons rfl rfl (.cons rfl rfl .nil))))), rfl, rfl, rfl⟩, ⟨by simp only; omega, by simp only; rw [hf, hd]⟩, by simp only; omega⟩
            | false =>
              rw [hcv] at hCv
              rw [if_neg (by omega), if_neg (by omega), if_pos ⟨kk, hcv⟩] at hd
              repeat' (first
               | refine st [] ?_
               | ((with_reducible refine is_gd ?_); refine awpL_split rfl rfl (fun h => ?_) (fun h => ?_))
               | ((with_reducible refine isD_gd ?_); ((fail_if_success (refine isD_kn (c := true) rfl qa0 ?_)); (fail_if_success (refine isD_kn (c := false) rfl qa0 ?_)); refine awpD_split rfl (fun h => ?_) (fun h => ?_)))
               | ((with_reducible refine is_awp ?_); refine awp_cond rfl (fun h => ?_) (fun h => ?_))
               | fail)
              exact ⟨(j + 1, 16), ⟨(.cons rfl rfl (.cons rfl rfl (.cons rfl rfl (.cons rfl rfl (.cons rfl rfl .nil))))), rfl, rfl, rfl⟩, ⟨by simp only; omega, by simp only; rw [hf, hd]⟩, by simp only; omega⟩
          · subst kk; cases htm
          · subst kk; cases htm
          · rw [if_neg (by omega), if_neg (by omega), if_neg (by omega)] at hd
            repeat' (first
             | refine st [] ?_
             | ((with_reducible refine is_gd ?_); refine awpL_split rfl rfl (fun h => ?_) (fun h => ?_))
             | ((with_reducible refine isD_gd ?_); ((fail_if_success (refine isD_kn (c := true) rfl qa0 ?_)); (fail_if_success (refine isD_kn (c := false) rfl qa0 ?_)); refine awpD_split rfl (fun h => ?_) (fun h => ?_)))
             | ((with_reducible refine is_awp ?_); refine awp_cond rfl (fun h => ?_) (fun h => ?_))
             | fail)
            exact ⟨(j + 1, out), ⟨(.cons rfl rfl (.cons rfl rfl (.cons rfl rfl (.cons rfl rfl (.cons rfl rfl .nil))))), rfl, rfl, rfl⟩, ⟨by simp only; omega, by simp only; rw [hf, hd]⟩, by simp only; omega⟩
      | false =>
        rw [htm] at hAl
        rw [if_neg (by rw [htm]; simp)] at hd
        rcases kind_cases kd with ⟨k1, k3, k4, kk⟩ | ⟨k1, k3, k4, kk⟩ | ⟨k1, k3, k4, kk⟩ | ⟨k1, k3, k4, kk⟩
        · subst kk; cases htm
        · cases hrk : rankedL (L.map (·.rank)) with
          | true =>
            rw [hrk] at hRk
            rw [if_neg (by omega), if_neg (by rw [hrk]; simp), if_neg (by omega)] at hd
            repeat' (first
             | refine st [] ?_
             | ((with_reducible refine is_gd ?_); refine awpL_split rfl rfl (fun h => ?_) (fun h => ?_))
             | ((with_reducible refine isD_gd ?_); ((fail_if_success (refine isD_kn (c := true) rfl qa0 ?_)); (fail_if_success (refine isD_kn (c := false) rfl qa0 ?_)); refine awpD_split rfl (fun h => ?_) (fun h => ?_)))
             | ((with_reducible refine is_awp ?_); refine awp_cond rfl (fun h => ?_) (fun h => ?_))
             | fail)
            exact ⟨(j + 1, out), ⟨(.cons rfl rfl (.cons rfl rfl (.cons rfl rfl (.cons rfl rfl (.cons rfl rfl .nil))))), rfl, rfl, rfl⟩, ⟨by simp only; omega, by simp only; rw [hf, hd]⟩, by simp only; omega⟩
          | false =>
            rw [hrk] at hRk
            rw [if_neg (by omega), if_pos ⟨kk, hrk⟩] at hd
            repeat' (first
             | refine st [] ?_
             | ((with_reducible refine is_gd ?_); refine awpL_split rfl rfl (fun h => ?_) (fun h => ?_))
             | ((with_reducible refine isD_gd ?_); ((fail_if_success (refine isD_kn (c := true) rfl qa0 ?_)); (fail_if_success (refine isD_kn (c := false) rfl qa0 ?_)); refine awpD_split rfl (fun h => ?_) (fun h => ?_)))
             | ((with_reducible refine is_awp ?_); refine awp_cond rfl (fun h => ?_) (fun h => ?_))
             | fail)
            exact ⟨(j + 1, 10), ⟨(.cons rfl rfl (.cons rfl rfl (.cons rfl rfl (.cons rfl rfl (.cons rfl rfl .nil))))), rfl, rfl, rfl⟩, ⟨by simp only; omega, by simp only; rw [hf, hd]⟩, by simp only; omega⟩
        · by_cases h1 : 1 < L.length
          · have c4 : decide ((1 : Int) < L.length) = true := decide_eq_true (by omega)
            rw [if_pos ⟨kk, h1⟩] at hd
            repeat' (first
             | refine st [] ?_
             | ((with_reducible refine is_gd ?_); refine awpL_split rfl rfl (fun h => ?_) (fun h => ?_))
             | ((with_reducible refine isD_gd ?_); ((fail_if_success (refine isD_kn (c := true) rfl qa0 ?_)); (fail_if_success (refine isD_kn (c := false) rfl qa0 ?_)); refine awpD_split rfl (fun h => ?_) (fun h => ?_)))
             | ((with_reducible refine is_awp ?_); refine awp_cond rfl (fun h => ?_) (fun h => ?_))
             | fail)
            exact ⟨(j + 1, 8), ⟨(.cons rfl rfl (.cons rfl rfl (.cons rfl rfl (.cons rfl rfl (.cons rfl rfl .nil))))), rfl, rfl, rfl⟩, ⟨by simp only; omega, by simp only; rw [hf, hd]⟩, by simp only; omega⟩
          · have c4 : decide ((1 : Int) < L.length) = false := decide_eq_false (by omega)
            rw [if_neg (fun h => h1 h.2), if_neg (by omega), if_neg (by omega)] at hd
            repeat' (first
             | refine st [] ?_
             | ((with_reducible refine is_gd ?_); refine awpL_split rfl rfl (fun h => ?_) (fun h => ?_))
             | ((with_reducible refine isD_gd ?_); ((fail_if_success (refine isD_kn (c := true) rfl qa0 ?_)); (fail_if_success (refine isD_kn (c := false) rfl qa0 ?_)); refine awpD_split rfl (fun h => ?_) (fun h => ?_)))
             | ((with_reducible refine is_awp ?_); refine awp_cond rfl (fun h => ?_) (fun h => ?_))
             | fail)
            exact ⟨(j + 1, out), ⟨(.cons rfl rfl (.cons rfl rfl (.cons rfl rfl (.cons rfl rfl (.cons rfl rfl .nil))))), rfl, rfl, rfl⟩, ⟨by simp only; omega, by simp only; rw [hf, hd]⟩, by simp only; omega⟩
        · rw [if_neg (by omega), if_neg (by omega), if_neg (by omega)] at hd
          repeat' (first
           | refine st [] ?_
           | ((with_reducible refine is_gd ?_); refine awpL_split rfl rfl (fun h => ?_) (fun h => ?_))
           | ((with_reducible refine isD_gd ?_); ((fail_if_success (refine isD_kn (c := true) rfl qa0 ?_)); (fail_if_success (refine isD_kn (c := false) rfl qa0 ?_)); refine awpD_split rfl (fun h => ?_) (fun h => ?_)))
           | ((with_reducible refine is_awp ?_); refine awp_cond rfl (fun h => ?_) (fun h => ?_))
           | fail)
          exact ⟨(j + 1, out), ⟨(.cons rfl rfl (.cons rfl rfl (.cons rfl rfl (.cons rfl rfl (.cons rfl rfl .nil))))), rfl, rfl, rfl⟩, ⟨by simp only; omega, by simp only; rw [hf, hd]⟩, by simp only; omega⟩
    · have c2 : (!decide (x.tier = i)) = true := by simp [e0]
      rw [if_pos e0] at hd
      repeat' (first
       | refine stn [] ?_
       | ((with_reducible refine is_gd ?_); refine awpL_split rfl rfl (fun h => ?_) (fun h => ?_))
       | ((with_reducible refine is_awp ?_); refine awp_cond rfl (fun h => ?_) (fun h => ?_))
       | fail)
      exact ⟨(j + 1, out), ⟨(.cons rfl rfl (.cons rfl rfl (.cons rfl rfl (.cons rfl rfl (.cons rfl rfl .nil))))), rfl, rfl, rfl⟩, ⟨by simp only; omega, by simp only; rw [hf, hd]⟩, by simp only; omega⟩
end Go.Proofs.YtigcjinpkngapaaGreatDoor
end
section
namespace Go.Proofs.YtigcjinpkngapaaGreatDoor
open Go.Ac
attribute [local irreducible] awp awpL Ev Ev2 EvS thenQ blockQ retQ PCalls OCalls
variable {g : List (Nat × List AV)}
end Go.Proofs.YtigcjinpkngapaaGreatDoor
end
section
namespace Go.Proofs.YtigcjinpkngapaaGreatDoor
open Go.Ac
attribute [local irreducible] awp awpL Ev Ev2 EvS thenQ blockQ retQ PCalls OCalls
variable {g : List (Nat × List AV)}
end Go.Proofs.YtigcjinpkngapaaGreatDoor
end
section
namespace Go.Proofs.YtigcjinpkngapaaGreatDoor
open Go.Ac
attribute [local irreducible] awp awpL Ev Ev2 EvS thenQ blockQ retQ PCalls OCalls
variable {g : List (Nat × List AV)}
end Go.Proofs.YtigcjinpkngapaaGreatDoor
end
section
namespace Go.Proofs.YtigcjinpkngapaaGreatDoor
open Go.Ac Go.MapKept
attribute [local irreducible] awp awpL Ev Ev2 EvS thenQ blockQ retQ PCalls OCalls YieldOk IterC ICalls
end Go.Proofs.YtigcjinpkngapaaGreatDoor
end
section
namespace Go.Proofs.YtigcjinpkngapaaGreatDoor
open Go.Ac Go.MapKept
attribute [local irreducible] awp awpL Ev Ev2 EvS thenQ blockQ retQ PCalls OCalls YieldOk IterC
variable {g : List (Nat × List AV)}
end Go.Proofs.YtigcjinpkngapaaGreatDoor
end
