/- The law Lists. -/
import Derived.Test.YtekkpfbjnjjcbaaGreatDoorB14
namespace Go.Proofs.YtekkpfbjnjjcbaaGreatDoor
open Go.Ac Go.MapKept
attribute [local irreducible] awp awpL Ev Ev2 EvS thenQ blockQ retQ PCalls OCalls YieldOk IterC ICalls
set_option linter.unusedSimpArgs false
set_option linter.unusedVariables false

theorem ids_in {l : List Op} (hg : Good l) {rc n : Int} : n ∈ (cells l rc).map (·.note.id) ↔ ∃ c, cell l n = some c ∧ c.rec_ = rc := by
  rw [List.mem_map]
  constructor
  · rintro ⟨c, hc, rfl⟩
    obtain ⟨h1, h2⟩ := (cells_mem hg).1 hc
    exact ⟨c, h1, h2⟩
  · rintro ⟨c, h1, h2⟩
    obtain ⟨_, _, _, h3, _⟩ := cell_inv h1
    exact ⟨c, (cells_mem hg).2 ⟨by rw [h3]; exact h1, h2⟩, h3⟩
set_option maxHeartbeats 1000000 in
theorem HasInt_spec {g : List (Nat × List AV)} (l : List Int) (n : Int) (hl : l.length ≤ 1000000) : PCalls Tryz.prog g 34 [encIs l, vi n] (vb (decide (n ∈ l))) := by
  refine pcalls' Tryz.func34 Tryz.ntmps34 rfl rfl rfl ?_
  repeat' (first
   | refine stn [] ?_
   | ((with_reducible refine is_gd ?_); refine awpL_split rfl rfl (fun h => ?_) (fun h => ?_))
   | ((with_reducible refine is_awp ?_); refine awp_cond rfl (fun h => ?_) (fun h => ?_))
   | fail)
  refine awp_for (α := Nat) 0 (fun k => [(0, encIs l), (1, vi n), (7, vi l.length), (8, vi k)]) (fun _ => []) (fun k => k ≤ l.length ∧ ∀ j, j < k → l[j]? ≠ some n) (fun k => l.length - k) 0
    ⟨(.cons rfl rfl (.cons rfl rfl (.cons rfl rfl (.cons rfl rfl .nil)))), rfl, rfl, rfl⟩ ⟨Nat.zero_le _, fun j hj => absurd hj (Nat.not_lt_zero _)⟩ ?_
  rintro k ⟨hk, hf⟩
  cases ht : l[k]? with
  | none =>
    have hge : l.length ≤ k := by simpa using ht
    have c1 : decide ((k : Int) < l.length) = false := decide_eq_false (by omega)
    have hni : n ∉ l := fun h => by
      obtain ⟨j, hj⟩ := List.getElem?_of_mem h
      exact hf j (by have := (List.getElem?_eq_some_iff.1 hj).1; omega) hj
    repeat' (first
     | refine stn [] ?_
     | ((with_reducible refine is_gd ?_); refine awpL_split rfl rfl (fun h => ?_) (fun h => ?_))
     | ((with_reducible refine is_awp ?_); refine awp_cond rfl (fun h => ?_) (fun h => ?_))
     | fail)
    refine retP rfl ?_
    simp [ex, hni]
  | some x =>
    have hlt : k < l.length := (List.getElem?_eq_some_iff.1 ht).1
    have c1 : decide ((k : Int) < l.length) = true := decide_eq_true (by omega)
    have h1 := int_get ht
    by_cases hx : x = n
    · have c2 : decide (x = n) = true := decide_eq_true hx
      have hi : n ∈ l := hx ▸ List.mem_of_getElem? ht
      repeat' (first
       | refine stn [] ?_
       | ((with_reducible refine is_gd ?_); refine awpL_split rfl rfl (fun h => ?_) (fun h => ?_))
       | ((with_reducible refine is_awp ?_); refine awp_cond rfl (fun h => ?_) (fun h => ?_))
       | fail)
      refine retP rfl ?_
      simp [ex, hi]
    · have c2 : decide (x = n) = false := decide_eq_false hx
      repeat' (first
       | refine stn [] ?_
       | ((with_reducible refine is_gd ?_); refine awpL_split rfl rfl (fun h => ?_) (fun h => ?_))
       | ((with_reducible refine is_awp ?_); refine awp_cond rfl (fun h => ?_) (fun h => ?_))
       | fail)
      refine ⟨k + 1, ⟨(.cons rfl rfl (.cons rfl rfl (.cons rfl rfl (.cons rfl rfl .nil)))), rfl, rfl, rfl⟩, ⟨by omega, fun j hj => ?_⟩, by omega⟩
      rcases Nat.lt_or_ge j k with h | h
      · exact hf j h
      · have : j = k := by omega
        subst this
        rw [ht]; simpa using hx

set_option maxRecDepth 8000 in
set_option maxHeartbeats 8000000 in
theorem law_RLists (r : Replica) (rc other : Int) (hid : Ids r.ops) : PCalls Tryz.prog GL 10 [.agg (repC r), vi rc, vi other] (vb true) := by
  have hA := awake_R
  have hL := Light_spec (g := GL) r hid
  have n1 : (!true) = false := rfl
  have n2 : (!false) = true := rfl
  refine pcalls' Tryz.func10 Tryz.ntmps10 rfl rfl rfl ?_
  cases hl : light r with
  | false =>
    rw [hl] at hL
    repeat' (first
     | refine stn [] ?_
     | ((with_reducible refine is_gd ?_); refine awpL_split rfl rfl (fun h => ?_) (fun h => ?_))
     | ((with_reducible refine is_awp ?_); refine awp_cond rfl (fun h => ?_) (fun h => ?_))
     | fail)
    exact retP rfl rfl
  | true =>
  rw [hl] at hL
  have hG := light_G hl hid
  have hrl := hG.l
  have hC := fun note => Cell_spec (g := GL) r note hG.l hG.o.2 hG.g
  have hCs := Cells_spec (g := GL) r rc hG.l hG.o.2 hG.g
  have hDs := Cells_spec (g := GL) r other hG.l hG.o.2 hG.g
  have hfit := cells_fit r.ops rc hG.l
  have hfit2 := cells_fit r.ops other hG.l
  have hmem := fun c => cells_mem (c := c) (rc := rc) hG.g
  have hmem2 := fun c => cells_mem (c := c) (rc := other) hG.g
  have hinc := cells_inc hG.g rc
  have hids := fun n => ids_in (n := n) (rc := rc) hG.g
  generalize cells r.ops rc = cs at *
  generalize cells r.ops other = ds at *
  have hcl := hfit.1
  have hdl := hfit2.1
  repeat' (first
   | refine stn [] ?_
   | ((with_reducible refine is_gd ?_); refine awpL_split rfl rfl (fun h => ?_) (fun h => ?_))
   | ((with_reducible refine is_awp ?_); refine awp_cond rfl (fun h => ?_) (fun h => ?_))
   | fail)
  refine awp_adopt (t := 8) (E := 3) (sz := 1) rfl rfl rfl ?_
  refine awp_for (α := Nat) 1 (fun k => [(1, vi rc), (2, vi other), (3, .fp (repC r)), (7, encCells cs), (8, .os 0 0), (9, vi k)]) (fun k => [.own 0 3 1 (((cs.take k).map (·.note.id)).map intC)]) (fun k => k ≤ cs.length) (fun k => cs.length - k) 0
    ⟨(.cons rfl rfl (.cons rfl rfl (.cons rfl rfl (.cons rfl rfl (.cons rfl rfl (.cons rfl rfl .nil)))))), rfl, rfl, rfl⟩ (Nat.zero_le _) ?_
  intro k hk
  cases ht : cs[k]? with
  | some c =>
    have hlt : k < cs.length := (List.getElem?_eq_some_iff.1 ht).1
    have c1 : decide ((k : Int) < cs.length) = true := decide_eq_true (by omega)
    have g1 := cell_get ht
    obtain ⟨e1, e2⟩ := (hmem c).1 (List.mem_of_getElem? ht)
    have hCk := hC c.note.id
    rw [e1, cellV] at hCk
    simp only [Option.getD_some, Option.isSome_some] at hCk
    have hE := Equal_spec (g := GL) c (hfit.2 c (List.mem_of_getElem? ht))
    have d1 : (!decide (c.rec_ = rc)) = false := by rw [e2]; simp
    have hj : ((cs.take k).map (·.note.id)).map intC ++ [intC c.note.id] = ((cs.take (k + 1)).map (·.note.id)).map intC := by rw [List.take_add_one, ht]; simp
    have hmb : (((cs.take k).map (·.note.id)).map intC).length ≤ 100000 := by rw [List.length_map, List.length_map, List.length_take]; omega
    by_cases hk0 : k = 0
    · have e0 : decide ((0 : Int) < k) = false := decide_eq_false (by omega)
      repeat' (first
       | ((with_reducible refine is_un ?_); refine awpL_ev2 (ev_app (es' := ((cs.take (k + 1)).map (fun x : Cell => x.note.id)).map intC) rfl rfl rfl rfl rfl rfl rfl rfl rfl rfl rfl rfl rfl (by simp only [List.length_map, List.length_cons, List.length_nil, List.length_append, List.length_take]; omega) hj rfl) rfl ?_)
       | refine st [] ?_
       | ((with_reducible refine is_gd ?_); refine awpL_split rfl rfl (fun h => ?_) (fun h => ?_))
       | ((with_reducible refine isD_gd ?_); ((fail_if_success (refine isD_kn (c := true) rfl (by first | with_reducible rfl | with_reducible assumption) ?_)); (fail_if_success (refine isD_kn (c := false) rfl (by first | with_reducible rfl | with_reducible assumption) ?_)); refine awpD_split rfl (fun h => ?_) (fun h => ?_)))
       | ((with_reducible refine is_awp ?_); refine awp_cond rfl (fun h => ?_) (fun h => ?_))
       | fail)
      exact ⟨k + 1, ⟨(.cons rfl rfl (.cons rfl rfl (.cons rfl rfl (.cons rfl rfl (.cons rfl rfl (.cons rfl rfl .nil)))))), rfl, rfl, rfl⟩, by omega, by omega⟩
    · have e0 : decide ((0 : Int) < k) = true := decide_eq_true (by omega)
      obtain ⟨p, hp⟩ : ∃ p, cs[k - 1]? = some p := ⟨_, List.getElem?_eq_getElem (by omega)⟩
      have g2 : 0 ≤ (k : Int) - 1 ∧ (cs.map cellC)[((k : Int) - 1).toNat]? = some (cellC p) := ⟨by omega, by rw [show ((k : Int) - 1).toNat = k - 1 by omega]; simp [hp]⟩
      have d2 : decide (c.note.id ≤ p.note.id) = false := by
        have := List.pairwise_iff_getElem.1 hinc (k - 1) k (by omega) (by omega) (by omega)
        rw [List.getElem?_eq_getElem (by omega)] at hp ht
        rw [Option.some.inj hp, Option.some.inj ht] at this
        exact decide_eq_false (by omega)
      repeat' (first
       | ((with_reducible refine is_un ?_); refine awpL_ev2 (ev_app (es' := ((cs.take (k + 1)).map (fun x : Cell => x.note.id)).map intC) rfl rfl rfl rfl rfl rfl rfl rfl rfl rfl rfl rfl rfl (by simp only [List.length_map, List.length_cons, List.length_nil, List.length_append, List.length_take]; omega) hj rfl) rfl ?_)
       | refine st [] ?_
       | ((with_reducible refine is_gd ?_); refine awpL_split rfl rfl (fun h => ?_) (fun h => ?_))
       | ((with_reducible refine isD_gd ?_); ((fail_if_success (refine isD_kn (c := true) rfl (by first | with_reducible rfl | with_reducible assumption) ?_)); (fail_if_success (refine isD_kn (c := false) rfl (by first | with_reducible rfl | with_reducible assumption) ?_)); refine awpD_split rfl (fun h => ?_) (fun h => ?_)))
       | ((with_reducible refine is_awp ?_); refine awp_cond rfl (fun h => ?_) (fun h => ?_))
       | fail)
      exact ⟨k + 1, ⟨(.cons rfl rfl (.cons rfl rfl (.cons rfl rfl (.cons rfl rfl (.cons rfl rfl (.cons rfl rfl .nil)))))), rfl, rfl, rfl⟩, by omega, by omega⟩
  | none =>
  have hge : cs.length ≤ k := by simpa using ht
  have c1 : decide ((k : Int) < cs.length) = false := decide_eq_false (by omega)
  rw [List.take_of_length_le hge]
  have hil : (cs.map (·.note.id)).length ≤ 1000000 := by rw [List.length_map]; omega
  have hH := fun n => HasInt_spec (g := GL) (cs.map (·.note.id)) n hil
  clear hCs hfit hmem hinc ht
  generalize cs.map (·.note.id) = ids at *
  repeat' (first
   | refine awp_frz (x := .os 0 0) (x' := encIs ids) 8 (c := .region 12 _ _) rfl (by simp [frzV]) rfl rfl ?_
   | refine stn [] ?_
   | ((with_reducible refine is_gd ?_); refine awpL_split rfl rfl (fun h => ?_) (fun h => ?_))
   | ((with_reducible refine is_awp ?_); refine awp_cond rfl (fun h => ?_) (fun h => ?_))
   | fail)
  refine awp_for (α := Nat) 0 (fun k => [(1, vi rc), (2, vi other), (3, .fp (repC r)), (8, encIs ids), (12, vi k)]) (fun _ => []) (fun k => k ≤ r.ops.length) (fun k => r.ops.length - k) 0
    ⟨(.cons rfl rfl (.cons rfl rfl (.cons rfl rfl (.cons rfl rfl (.cons rfl rfl .nil))))), rfl, rfl, rfl⟩ (Nat.zero_le _) ?_
  intro k2 hk2
  cases ht2 : r.ops[k2]? with
  | some o =>
    have hlt : k2 < r.ops.length := (List.getElem?_eq_some_iff.1 ht2).1
    have c1 : decide ((k2 : Int) < r.ops.length) = true := decide_eq_true (by omega)
    have g1 := op_get ht2
    have hCk := hC o.note.id
    have hHk := hH o.note.id
    have hik := hids o.note.id
    rw [cellV] at hCk
    cases hc : cell r.ops o.note.id with
    | none =>
      rw [hc] at hCk hik
      simp only [Option.getD_none, Option.isSome_none] at hCk
      have : decide (o.note.id ∈ ids) = false := decide_eq_false (fun h => by obtain ⟨c, h, _⟩ := hik.1 h; cases h)
      rw [this] at hHk
      have z0 : (!(false == false)) = false := rfl
      repeat' (first
       | ((with_reducible refine isD_un ?_); refine awpD_un (as_ev (fun _ => ev_ne_bool rfl rfl rfl rfl) rfl rfl) (by (try simp only [List.nil_append, List.cons_append]); (try rfl)) ?_)
       | ((with_reducible refine isD_gd ?_); refine awpD_gd rfl rfl (by first | with_reducible rfl | with_reducible assumption) (as_ev (fun _ => ev_ne_bool rfl rfl rfl rfl) rfl rfl) (by (try simp only [List.nil_append, List.cons_append]); (try rfl)) ?_)
       | refine st [] ?_
       | ((with_reducible refine is_gd ?_); refine awpL_split rfl rfl (fun h => ?_) (fun h => ?_))
       | ((with_reducible refine isD_gd ?_); ((fail_if_success (refine isD_kn (c := true) rfl (by first | with_reducible rfl | with_reducible assumption) ?_)); (fail_if_success (refine isD_kn (c := false) rfl (by first | with_reducible rfl | with_reducible assumption) ?_)); refine awpD_split rfl (fun h => ?_) (fun h => ?_)))
       | ((with_reducible refine is_awp ?_); refine awp_cond rfl (fun h => ?_) (fun h => ?_))
       | fail)
      exact ⟨k2 + 1, ⟨(.cons rfl rfl (.cons rfl rfl (.cons rfl rfl (.cons rfl rfl (.cons rfl rfl .nil))))), rfl, rfl, rfl⟩, by omega, by omega⟩
    | some c =>
      rw [hc] at hCk hik
      simp only [Option.getD_some, Option.isSome_some] at hCk
      have : decide (o.note.id ∈ ids) = decide (c.rec_ = rc) := by
        by_cases h : c.rec_ = rc
        · rw [decide_eq_true h]; exact decide_eq_true (hik.2 ⟨c, rfl, h⟩)
        · rw [decide_eq_false h]; exact decide_eq_false (fun g => by obtain ⟨d, g1, g2⟩ := hik.1 g; cases g1; exact h g2)
      rw [this] at hHk
      obtain ⟨q, hq⟩ : ∃ q, q = decide (c.rec_ = rc) := ⟨_, rfl⟩
      rw [← hq] at hHk
      have z0 : (!(decide (c.rec_ = rc) == q)) = false := by rw [hq]; simp
      repeat' (first
       | ((with_reducible refine isD_un ?_); refine awpD_un (as_ev (fun _ => ev_ne_bool rfl rfl rfl rfl) rfl rfl) (by (try simp only [List.nil_append, List.cons_append]); (try rfl)) ?_)
       | ((with_reducible refine isD_gd ?_); refine awpD_gd rfl rfl (by first | with_reducible rfl | with_reducible assumption) (as_ev (fun _ => ev_ne_bool rfl rfl rfl rfl) rfl rfl) (by (try simp only [List.nil_append, List.cons_append]); (try rfl)) ?_)
       | refine st [] ?_
       | ((with_reducible refine is_gd ?_); refine awpL_split rfl rfl (fun h => ?_) (fun h => ?_))
       | ((with_reducible refine isD_gd ?_); ((fail_if_success (refine isD_kn (c := true) rfl (by first | with_reducible rfl | with_reducible assumption) ?_)); (fail_if_success (refine isD_kn (c := false) rfl (by first | with_reducible rfl | with_reducible assumption) ?_)); refine awpD_split rfl (fun h => ?_) (fun h => ?_)))
       | ((with_reducible refine is_awp ?_); refine awp_cond rfl (fun h => ?_) (fun h => ?_))
       | fail)
      exact ⟨k2 + 1, ⟨(.cons rfl rfl (.cons rfl rfl (.cons rfl rfl (.cons rfl rfl (.cons rfl rfl .nil))))), rfl, rfl, rfl⟩, by omega, by omega⟩
  | none =>
  have hge2 : r.ops.length ≤ k2 := by simpa using ht2
  have c2 : decide ((k2 : Int) < r.ops.length) = false := decide_eq_false (by omega)
  repeat' (first
   | refine stn [] ?_
   | ((with_reducible refine is_gd ?_); refine awpL_split rfl rfl (fun h => ?_) (fun h => ?_))
   | ((with_reducible refine is_awp ?_); refine awp_cond rfl (fun h => ?_) (fun h => ?_))
   | fail)
  refine awp_for (α := Nat) 0 (fun k => [(1, vi rc), (2, vi other), (8, encIs ids), (16, encCells ds), (17, vi k)]) (fun _ => []) (fun k => k ≤ ds.length) (fun k => ds.length - k) 0
    ⟨(.cons rfl rfl (.cons rfl rfl (.cons rfl rfl (.cons rfl rfl (.cons rfl rfl .nil))))), rfl, rfl, rfl⟩ (Nat.zero_le _) ?_
  intro k3 hk3
  cases ht3 : ds[k3]? with
  | some d =>
    have hlt : k3 < ds.length := (List.getElem?_eq_some_iff.1 ht3).1
    have c1 : decide ((k3 : Int) < ds.length) = true := decide_eq_true (by omega)
    have g1 := cell_get ht3
    by_cases ho : other = rc
    · have z1 : (!decide (other = rc)) = false := by simp [ho]
      repeat' (first
       | refine st [] ?_
       | ((with_reducible refine is_gd ?_); refine awpL_split rfl rfl (fun h => ?_) (fun h => ?_))
       | ((with_reducible refine isD_gd ?_); ((fail_if_success (refine isD_kn (c := true) rfl (by first | with_reducible rfl | with_reducible assumption) ?_)); (fail_if_success (refine isD_kn (c := false) rfl (by first | with_reducible rfl | with_reducible assumption) ?_)); refine awpD_split rfl (fun h => ?_) (fun h => ?_)))
       | ((with_reducible refine is_awp ?_); refine awp_cond rfl (fun h => ?_) (fun h => ?_))
       | fail)
      exact ⟨k3 + 1, ⟨(.cons rfl rfl (.cons rfl rfl (.cons rfl rfl (.cons rfl rfl (.cons rfl rfl .nil))))), rfl, rfl, rfl⟩, by omega, by omega⟩
    · have z1 : (!decide (other = rc)) = true := by simp [ho]
      obtain ⟨e1, e2⟩ := (hmem2 d).1 (List.mem_of_getElem? ht3)
      have hHk := hH d.note.id
      have : decide (d.note.id ∈ ids) = false := decide_eq_false (fun h => by
        obtain ⟨c, h1, h2⟩ := (hids d.note.id).1 h
        rw [e1] at h1; cases h1
        exact ho (e2.symm.trans h2))
      rw [this] at hHk
      repeat' (first
       | refine st [] ?_
       | ((with_reducible refine is_gd ?_); refine awpL_split rfl rfl (fun h => ?_) (fun h => ?_))
       | ((with_reducible refine isD_gd ?_); ((fail_if_success (refine isD_kn (c := true) rfl (by first | with_reducible rfl | with_reducible assumption) ?_)); (fail_if_success (refine isD_kn (c := false) rfl (by first | with_reducible rfl | with_reducible assumption) ?_)); refine awpD_split rfl (fun h => ?_) (fun h => ?_)))
       | ((with_reducible refine is_awp ?_); refine awp_cond rfl (fun h => ?_) (fun h => ?_))
       | fail)
      exact ⟨k3 + 1, ⟨(.cons rfl rfl (.cons rfl rfl (.cons rfl rfl (.cons rfl rfl (.cons rfl rfl .nil))))), rfl, rfl, rfl⟩, by omega, by omega⟩
  | none =>
  have hge3 : ds.length ≤ k3 := by simpa using ht3
  have c3 : decide ((k3 : Int) < ds.length) = false := decide_eq_false (by omega)
  repeat' (first
   | refine stn [] ?_
   | ((with_reducible refine is_gd ?_); refine awpL_split rfl rfl (fun h => ?_) (fun h => ?_))
   | ((with_reducible refine is_awp ?_); refine awp_cond rfl (fun h => ?_) (fun h => ?_))
   | fail)
  exact retP rfl rfl
end Go.Proofs.YtekkpfbjnjjcbaaGreatDoor
