/- A logic of trees over the model's steps, and the contracts of the functions that the laws reach: part 18 of 20. -/
import Derived.Test.YtigcjinpkngapaaGreatDoorC17
set_option linter.unusedVariables false
set_option linter.unusedSimpArgs false
set_option linter.unusedSectionVars false
section
namespace Go.Proofs.YtigcjinpkngapaaGreatDoor
open Go.Ac
attribute [local irreducible] awp awpL Ev Ev2 EvS thenQ blockQ retQ PCalls OCalls
variable {g : List (Nat × List AV)}
def zeroRec : Recording := ⟨0, .empty, 0, 0, []⟩
def zeroTier : Tier := ⟨.empty, 0, 0, 0⟩
def recP (w : List ByteArray) : Option Recording := match w with
  | k :: a :: nm :: r => if k = kRec ∧ 2 ≤ r.length then (match numsP (a :: r) with
    | some (id :: x :: y :: sp) => some ⟨id, nm, x, y, sp⟩
    | _ => none) else none
  | _ => none
def tierP (w : List ByteArray) : Option Tier := match w with
  | [k, nm, a, b, c] => if k = kTier then (match numsP [a, b, c] with
    | some [x, y, z] => some ⟨nm, x, y, z⟩
    | _ => none) else none
  | _ => none
def noteP (w : List ByteArray) : Option Note := match w with
  | [k, a, b, c, d, e, f, t] => if k = kNote then (match numsP [a, b, c, d, e, f] with
    | some [x1, x2, x3, x4, x5, x6] => some ⟨x1, x2, x3, ⟨x4, x5⟩, x6, t⟩
    | _ => none) else none
  | _ => none
theorem three {α : Type} {l : List α} (h : l.length = 3) : ∃ x y z, l = [x, y, z] := by
  match l, h with
  | [x, y, z], _ => exact ⟨x, y, z, rfl⟩
theorem five {α : Type} {l : List α} (h : l.length = 5) : ∃ x y z u v, l = [x, y, z, u, v] := by
  match l, h with
  | [x, y, z, u, v], _ => exact ⟨x, y, z, u, v, rfl⟩
theorem six {α : Type} {l : List α} (h : l.length = 6) : ∃ x y z u v w, l = [x, y, z, u, v, w] := by
  match l, h with
  | [x, y, z, u, v, w], _ => exact ⟨x, y, z, u, v, w, rfl⟩
theorem eight {α : Type} {l : List α} (h : l.length = 8) : ∃ x y z u v w p q, l = [x, y, z, u, v, w, p, q] := by
  match l, h with
  | [x, y, z, u, v, w, p, q], _ => exact ⟨x, y, z, u, v, w, p, q, rfl⟩
theorem tierP_none {w : List ByteArray} (h : w.length ≠ 5) : tierP w = none := by
  unfold tierP
  split
  · exact absurd rfl h
  · rfl
theorem noteP_none {w : List ByteArray} (h : w.length ≠ 8) : noteP w = none := by
  unfold noteP
  split
  · exact absurd rfl h
  · rfl
theorem recP_none {w : List ByteArray} (h : w.length < 5) : recP w = none := by
  unfold recP
  split
  · rw [if_neg (fun q => by simp at h; omega)]
  · rfl
def optTier (o : Option Tier) : AV := .tup [.agg (tierC (o.getD zeroTier)), vb o.isSome]
def optNote (o : Option Note) : AV := .tup [.agg (noteC (o.getD noNote)), vb o.isSome]
def optRec (o : Option Recording) : AV := .tup [.agg (recC (o.getD zeroRec)), vb o.isSome]
set_option maxRecDepth 4000 in
set_option maxHeartbeats 4000000 in
theorem r15tierOf_spec (w : List ByteArray) (hl : w.length ≤ 1000000) (hx : ∀ s ∈ w, s.size ≤ 1000000) : PCalls Tryz.prog g 75 [encSs w] (optTier (tierP w)) := by
  have n1 : (!true) = false := rfl
  have n2 : (!false) = true := rfl
  refine pcalls' Tryz.func75 Tryz.ntmps75 rfl rfl rfl ?_
  by_cases h5 : w.length = 5
  case neg =>
    have c1 : (!decide ((w.length : Int) = 5)) = true := by rw [decide_eq_false (by omega)]; rfl
    rw [tierP_none h5]
    repeat' (first
     | refine stn [2] ?_
     | ((with_reducible refine is_gd ?_); refine awpL_split rfl rfl (fun h => ?_) (fun h => ?_))
     | ((with_reducible refine is_awp ?_); refine awp_cond rfl (fun h => ?_) (fun h => ?_))
     | fail)
    exact retP rfl rfl
  obtain ⟨k, nm, a, b, c, hw⟩ := five h5
  have c1 : (!decide ((w.length : Int) = 5)) = false := by rw [h5]; rfl
  have g0 : 0 ≤ (0 : Int) ∧ (w.map strC)[(0 : Int).toNat]? = some (strC k) := ⟨by omega, by rw [hw]; rfl⟩
  have he : tierP w = if k = kTier then (match numsP [a, b, c] with
    | some [x, y, z] => some ⟨nm, x, y, z⟩
    | _ => none) else none := by rw [hw]; rfl
  rw [he]
  by_cases hk : k = kTier
  case neg =>
    have c2 : (!decide (k = kTier)) = true := by rw [decide_eq_false hk]; rfl
    unfold kTier at c2
    rw [if_neg hk]
    repeat' (first
     | refine stn [2] ?_
     | ((with_reducible refine is_gd ?_); refine awpL_split rfl rfl (fun h => ?_) (fun h => ?_))
     | ((with_reducible refine is_awp ?_); refine awp_cond rfl (fun h => ?_) (fun h => ?_))
     | fail)
    exact retP rfl rfl
  have c2 : (!decide (k = kTier)) = false := by rw [decide_eq_true hk]; rfl
  unfold kTier at c2
  rw [if_pos hk]
  have b0 : (0 : Int) ≤ 2 ∧ (2 : Int) ≤ (w.length : Int) ∧ (w.length : Int) ≤ (w.length : Nat) := by omega
  have m0 : ((w.length : Int) - 2).toNat = 3 := by omega
  have f0 : ((w.map strC).drop (2 : Int).toNat).take 3 = [a, b, c].map strC := by rw [hw]; rfl
  have hR := r15read_spec (g := g) [a, b, c] (by simp) (fun s hs => hx s (by rw [hw]; exact List.mem_of_mem_drop (i := 2) (l := [k, nm, a, b, c]) hs))
  have hlen := @numsP_len [a, b, c]
  have j1 : 0 ≤ (1 : Int) ∧ (w.map strC)[(1 : Int).toNat]? = some (strC nm) := ⟨by omega, by rw [hw]; rfl⟩
  clear he hw
  cases hn : numsP [a, b, c] with
  | none =>
    rw [hn] at hR
    replace hR : PCalls _ _ _ _ (.tup [encIs [], vb false]) := hR
    repeat' (first
     | ((with_reducible refine is_un ?_); refine awpL_ev (ev_slice_fs rfl rfl rfl rfl rfl rfl rfl b0 m0 f0) rfl ?_)
     | refine stn [2] ?_
     | ((with_reducible refine is_gd ?_); refine awpL_split rfl rfl (fun h => ?_) (fun h => ?_))
     | ((with_reducible refine is_awp ?_); refine awp_cond rfl (fun h => ?_) (fun h => ?_))
     | fail)
    exact retP rfl rfl
  | some l =>
    obtain ⟨x, y, z, rfl⟩ := three (hlen hn)
    rw [hn] at hR
    replace hR : PCalls _ _ _ _ (.tup [encIs [x, y, z], vb true]) := hR
    simp only
    have i0 : 0 ≤ (0 : Int) ∧ ([x, y, z].map intC)[(0 : Int).toNat]? = some (intC x) := ⟨by omega, rfl⟩
    have i1 : 0 ≤ (1 : Int) ∧ ([x, y, z].map intC)[(1 : Int).toNat]? = some (intC y) := ⟨by omega, rfl⟩
    have i2 : 0 ≤ (2 : Int) ∧ ([x, y, z].map intC)[(2 : Int).toNat]? = some (intC z) := ⟨by omega, rfl⟩
    repeat' (first
     | ((with_reducible refine is_un ?_); refine awpL_ev (ev_slice_fs rfl rfl rfl rfl rfl rfl rfl b0 m0 f0) rfl ?_)
     | refine st [2] ?_
     | ((with_reducible refine is_gd ?_); refine awpL_split rfl rfl (fun h => ?_) (fun h => ?_))
     | ((with_reducible refine isD_gd ?_); ((fail_if_success (refine isD_kn (c := true) rfl qa0 ?_)); (fail_if_success (refine isD_kn (c := false) rfl qa0 ?_)); refine awpD_split rfl (fun h => ?_) (fun h => ?_)))
     | ((with_reducible refine is_awp ?_); refine awp_cond rfl (fun h => ?_) (fun h => ?_))
     | fail)
    exact retP rfl rfl
set_option maxRecDepth 4000 in
set_option maxHeartbeats 4000000 in
theorem r15noteOf_spec (w : List ByteArray) (hl : w.length ≤ 1000000) (hx : ∀ s ∈ w, s.size ≤ 1000000) : PCalls Tryz.prog g 76 [encSs w] (optNote (noteP w)) := by
  have n1 : (!true) = false := rfl
  have n2 : (!false) = true := rfl
  refine pcalls' Tryz.func76 Tryz.ntmps76 rfl rfl rfl ?_
  by_cases h5 : w.length = 8
  case neg =>
    have c1 : (!decide ((w.length : Int) = 8)) = true := by rw [decide_eq_false (by omega)]; rfl
    rw [noteP_none h5]
    repeat' (first
     | refine stn [2] ?_
     | ((with_reducible refine is_gd ?_); refine awpL_split rfl rfl (fun h => ?_) (fun h => ?_))
     | ((with_reducible refine is_awp ?_); refine awp_cond rfl (fun h => ?_) (fun h => ?_))
     | fail)
    exact retP rfl rfl
  obtain ⟨k, a, b, c, d, e, f, t, hw⟩ := eight h5
  have c1 : (!decide ((w.length : Int) = 8)) = false := by rw [h5]; rfl
  have g0 : 0 ≤ (0 : Int) ∧ (w.map strC)[(0 : Int).toNat]? = some (strC k) := ⟨by omega, by rw [hw]; rfl⟩
  have he : noteP w = if k = kNote then (match numsP [a, b, c, d, e, f] with
    | some [x1, x2, x3, x4, x5, x6] => some ⟨x1, x2, x3, ⟨x4, x5⟩, x6, t⟩
    | _ => none) else none := by rw [hw]; rfl
  rw [he]
  by_cases hk : k = kNote
  case neg =>
    have c2 : (!decide (k = kNote)) = true := by rw [decide_eq_false hk]; rfl
    unfold kNote at c2
    rw [if_neg hk]
    repeat' (first
     | refine stn [2] ?_
     | ((with_reducible refine is_gd ?_); refine awpL_split rfl rfl (fun h => ?_) (fun h => ?_))
     | ((with_reducible refine is_awp ?_); refine awp_cond rfl (fun h => ?_) (fun h => ?_))
     | fail)
    exact retP rfl rfl
  have c2 : (!decide (k = kNote)) = false := by rw [decide_eq_true hk]; rfl
  unfold kNote at c2
  rw [if_pos hk]
  have b0 : (0 : Int) ≤ 1 ∧ (1 : Int) ≤ 7 ∧ (7 : Int) ≤ (w.length : Nat) := by omega
  have m0 : ((7 : Int) - 1).toNat = 6 := rfl
  have f0 : ((w.map strC).drop (1 : Int).toNat).take 6 = [a, b, c, d, e, f].map strC := by rw [hw]; rfl
  have hR := r15read_spec (g := g) [a, b, c, d, e, f] (by simp) (fun s hs => hx s (by rw [hw]; exact List.mem_of_mem_take (i := 7) (l := [k, a, b, c, d, e, f, t]) (List.mem_of_mem_drop (i := 1) (l := [k, a, b, c, d, e, f]) hs)))
  have hlen := @numsP_len [a, b, c, d, e, f]
  have j1 : 0 ≤ (7 : Int) ∧ (w.map strC)[(7 : Int).toNat]? = some (strC t) := ⟨by omega, by rw [hw]; rfl⟩
  clear he hw
  cases hn : numsP [a, b, c, d, e, f] with
  | none =>
    rw [hn] at hR
    replace hR : PCalls _ _ _ _ (.tup [encIs [], vb false]) := hR
    repeat' (first
     | ((with_reducible refine is_un ?_); refine awpL_ev (ev_slice_fs rfl rfl rfl rfl rfl rfl rfl b0 m0 f0) rfl ?_)
     | refine stn [2] ?_
     | ((with_reducible refine is_gd ?_); refine awpL_split rfl rfl (fun h => ?_) (fun h => ?_))
     | ((with_reducible refine is_awp ?_); refine awp_cond rfl (fun h => ?_) (fun h => ?_))
     | fail)
    exact retP rfl rfl
  | some l =>
    obtain ⟨x1, x2, x3, x4, x5, x6, rfl⟩ := six (hlen hn)
    rw [hn] at hR
    replace hR : PCalls _ _ _ _ (.tup [encIs [x1, x2, x3, x4, x5, x6], vb true]) := hR
    simp only
    have i0 : 0 ≤ (0 : Int) ∧ ([x1, x2, x3, x4, x5, x6].map intC)[(0 : Int).toNat]? = some (intC x1) := ⟨by omega, rfl⟩
    have i1 : 0 ≤ (1 : Int) ∧ ([x1, x2, x3, x4, x5, x6].map intC)[(1 : Int).toNat]? = some (intC x2) := ⟨by omega, rfl⟩
    have i2 : 0 ≤ (2 : Int) ∧ ([x1, x2, x3, x4, x5, x6].map intC)[(2 : Int).toNat]? = some (intC x3) := ⟨by omega, rfl⟩
    have i3 : 0 ≤ (3 : Int) ∧ ([x1, x2, x3, x4, x5, x6].map intC)[(3 : Int).toNat]? = some (intC x4) := ⟨by omega, rfl⟩
    have i4 : 0 ≤ (4 : Int) ∧ ([x1, x2, x3, x4, x5, x6].map intC)[(4 : Int).toNat]? = some (intC x5) := ⟨by omega, rfl⟩
    have i5 : 0 ≤ (5 : Int) ∧ ([x1, x2, x3, x4, x5, x6].map intC)[(5 : Int).toNat]? = some (intC x6) := ⟨by omega, rfl⟩
    repeat' (first
     | ((with_reducible refine is_un ?_); refine awpL_ev (ev_slice_fs rfl rfl rfl rfl rfl rfl rfl b0 m0 f0) rfl ?_)
     | refine st [2] ?_
     | ((with_reducible refine is_gd ?_); refine awpL_split rfl rfl (fun h => ?_) (fun h => ?_))
     | ((with_reducible refine isD_gd ?_); ((fail_if_success (refine isD_kn (c := true) rfl qa0 ?_)); (fail_if_success (refine isD_kn (c := false) rfl qa0 ?_)); refine awpD_split rfl (fun h => ?_) (fun h => ?_)))
     | ((with_reducible refine is_awp ?_); refine awp_cond rfl (fun h => ?_) (fun h => ?_))
     | fail)
    exact retP rfl rfl
theorem le_zeroRec : Le (.tup [.agg [vi 0, .v (.string .empty), vi 0, vi 0, nilS], vb false]) (optRec none) :=
  Le.tup (.cons (Le.agg (.cons (Le.rfl' _) (.cons (Le.rfl' _) (.cons (Le.rfl' _) (.cons (Le.rfl' _) (.cons (Le.nil 1) .nil)))))) (.cons (Le.rfl' _) .nil))
set_option maxRecDepth 4000 in
set_option maxHeartbeats 4000000 in
theorem r15recOf_spec (w : List ByteArray) (hl : w.length ≤ 1000000) (hx : ∀ s ∈ w, s.size ≤ 1000000) : PCalls Tryz.prog g 74 [encSs w] (optRec (recP w)) := by
  have n1 : (!true) = false := rfl
  have n2 : (!false) = true := rfl
  refine pcalls' Tryz.func74 Tryz.ntmps74 rfl rfl rfl ?_
  by_cases h5 : w.length < 5
  · have c1 : decide ((w.length : Int) < 5) = true := decide_eq_true (by omega)
    rw [recP_none h5]
    repeat' (first
     | refine stn [2] ?_
     | ((with_reducible refine is_gd ?_); refine awpL_split rfl rfl (fun h => ?_) (fun h => ?_))
     | ((with_reducible refine is_awp ?_); refine awp_cond rfl (fun h => ?_) (fun h => ?_))
     | fail)
    exact retLe rfl le_zeroRec
  have c1 : decide ((w.length : Int) < 5) = false := decide_eq_false (by omega)
  obtain ⟨k, a, nm, r, hw⟩ : ∃ k a nm r, w = k :: a :: nm :: r := by
    match w, h5 with
    | k :: a :: nm :: r, _ => exact ⟨k, a, nm, r, rfl⟩
    | [], h => simp at h
    | [_], h => simp at h
    | [_, _], h => simp at h
  have hr2 : 2 ≤ r.length := by rw [hw] at h5; simp at h5; omega
  have hwl : w.length = r.length + 3 := by rw [hw]; rfl
  have g0 : 0 ≤ (0 : Int) ∧ (w.map strC)[(0 : Int).toNat]? = some (strC k) := ⟨by omega, by rw [hw]; rfl⟩
  have he : recP w = if k = kRec then (match numsP (a :: r) with
    | some (id :: x :: y :: sp) => some ⟨id, nm, x, y, sp⟩
    | _ => none) else none := by
    rw [hw]; unfold recP; simp only [hr2, and_true]
  rw [he]
  by_cases hk : k = kRec
  case neg =>
    have c2 : (!decide (k = kRec)) = true := by rw [decide_eq_false hk]; rfl
    unfold kRec at c2
    rw [if_neg hk]
    repeat' (first
     | refine stn [2] ?_
     | ((with_reducible refine is_gd ?_); refine awpL_split rfl rfl (fun h => ?_) (fun h => ?_))
     | ((with_reducible refine is_awp ?_); refine awp_cond rfl (fun h => ?_) (fun h => ?_))
     | fail)
    exact retLe rfl le_zeroRec
  have c2 : (!decide (k = kRec)) = false := by rw [decide_eq_true hk]; rfl
  unfold kRec at c2
  rw [if_pos hk]
  have j1 : 0 ≤ (1 : Int) ∧ (w.map strC)[(1 : Int).toNat]? = some (strC a) := ⟨by omega, by rw [hw]; rfl⟩
  have j2 : 0 ≤ (2 : Int) ∧ (w.map strC)[(2 : Int).toNat]? = some (strC nm) := ⟨by omega, by rw [hw]; rfl⟩
  have b0 : (0 : Int) ≤ 3 ∧ (3 : Int) ≤ (w.length : Int) ∧ (w.length : Int) ≤ (w.length : Nat) := by omega
  have m0 : ((w.length : Int) - 3).toNat = r.length := by omega
  have f0 : ((w.map strC).drop (3 : Int).toNat).take r.length = r.map strC := by
    rw [hw]
    show (r.map strC).take r.length = _
    rw [List.take_of_length_le (by simp)]
  have hR := r15readN_spec (g := g) (a :: r) (by simp; omega) (fun s hs => hx s (by rw [hw]; rcases List.mem_cons.1 hs with h | h <;> simp [h]))
  have hlen := @numsP_len (a :: r)
  have hj : [strC a] ++ r.map strC = (a :: r).map strC := rfl
  have hmb : (r.map strC).length ≤ 1000000 := by rw [List.length_map]; omega
  clear he hw
  cases hn : numsP (a :: r) with
  | none =>
    rw [hn] at hR
    replace hR : NCalls _ _ _ _ (.tup [encIs [], vb false]) := hR
    repeat' (first
     | refine awpD_nw rfl qd0 (ev_bslice_o (t := 42) (n := 1) (es := [strC a]) rfl rfl rfl rfl rfl rfl rfl rfl rfl rfl rfl qf0 qc0) rfl rfl rfl rfl rfl qc0 qb0 ?_
     | refine awpD_up (kk := 1) rfl qd0 rfl rfl rfl rfl (ev_appB (es' := (a :: r).map strC) (L' := [.box [.v (.int .i64 0), .v (.string .empty), .v (.int .i64 0), .v (.int .i64 0), .v (.slice none 0 0)], .own 1 9 1 ((a :: r).map strC)]) rfl rfl rfl rfl rfl rfl rfl rfl rfl rfl rfl rfl rfl qe0 hj rfl) rfl rfl rfl rfl rfl rfl qb0 ?_
     | ((with_reducible refine isD_un ?_); (first | refine awpD_un (as_ev (fun _ => ev_slice_fs rfl rfl rfl rfl rfl rfl rfl b0 m0 f0) rfl rfl) qb0 ?_ | refine awpD_un (as_callN rfl qd0 rfl (by simp [exL, ex, encSs]) hR rfl rfl) qb0 ?_))
     | ((with_reducible refine isD_gd ?_); (first | refine awpD_gd rfl rfl qa0 (as_ev (fun _ => ev_slice_fs rfl rfl rfl rfl rfl rfl rfl b0 m0 f0) rfl rfl) qb0 ?_ | refine awpD_gd rfl rfl qa0 (as_callN rfl qd0 rfl (by simp [exL, ex, encSs]) hR rfl rfl) qb0 ?_))
     | refine st [2] ?_
     | ((with_reducible refine is_gd ?_); refine awpL_split rfl rfl (fun h => ?_) (fun h => ?_))
     | ((with_reducible refine isD_gd ?_); ((fail_if_success (refine isD_kn (c := true) rfl qa0 ?_)); (fail_if_success (refine isD_kn (c := false) rfl qa0 ?_)); refine awpD_split rfl (fun h => ?_) (fun h => ?_)))
     | ((with_reducible refine is_awp ?_); refine awp_cond rfl (fun h => ?_) (fun h => ?_))
     | fail)
    exact retLe rfl le_zeroRec
  | some l =>
    obtain ⟨id, x, y, sp, rfl⟩ : ∃ id x y sp, l = id :: x :: y :: sp := by
      have := hlen hn
      match l, this with
      | id :: x :: y :: sp, _ => exact ⟨id, x, y, sp, rfl⟩
      | [], h => simp at h
      | [_], h => simp only [List.length_cons, List.length_nil] at h; omega
      | [_, _], h => simp only [List.length_cons, List.length_nil] at h; omega
    rw [hn] at hR
    replace hR : NCalls _ _ _ _ (.tup [encIs (id :: x :: y :: sp), vb true]) := hR
    simp only
    have i0 : 0 ≤ (0 : Int) ∧ ((id :: x :: y :: sp).map intC)[(0 : Int).toNat]? = some (intC id) := ⟨by omega, rfl⟩
    have i1 : 0 ≤ (1 : Int) ∧ ((id :: x :: y :: sp).map intC)[(1 : Int).toNat]? = some (intC x) := ⟨by omega, rfl⟩
    have i2 : 0 ≤ (2 : Int) ∧ ((id :: x :: y :: sp).map intC)[(2 : Int).toNat]? = some (intC y) := ⟨by omega, rfl⟩
    have q0 : (0 : Int) ≤ 3 ∧ (3 : Int) ≤ ((id :: x :: y :: sp).length : Int) ∧ ((id :: x :: y :: sp).length : Int) ≤ ((id :: x :: y :: sp).length : Nat) := by simp; omega
    have w0 : (((id :: x :: y :: sp).length : Int) - 3).toNat = sp.length := by simp; omega
    have v0 : (((id :: x :: y :: sp).map intC).drop (3 : Int).toNat).take sp.length = sp.map intC := by
      show (sp.map intC).take sp.length = _
      rw [List.take_of_length_le (by simp)]
    repeat' (first
     | refine awpD_nw rfl qd0 (ev_bslice_o (t := 42) (n := 1) (es := [strC a]) rfl rfl rfl rfl rfl rfl rfl rfl rfl rfl rfl qf0 qc0) rfl rfl rfl rfl rfl qc0 qb0 ?_
     | refine awpD_up (kk := 1) rfl qd0 rfl rfl rfl rfl (ev_appB (es' := (a :: r).map strC) (L' := [.box [.v (.int .i64 0), .v (.string .empty), .v (.int .i64 0), .v (.int .i64 0), .v (.slice none 0 0)], .own 1 9 1 ((a :: r).map strC)]) rfl rfl rfl rfl rfl rfl rfl rfl rfl rfl rfl rfl rfl qe0 hj rfl) rfl rfl rfl rfl rfl rfl qb0 ?_
     | ((with_reducible refine isD_un ?_); (first | refine awpD_un (as_ev (fun _ => ev_slice_fs rfl rfl rfl rfl rfl rfl rfl b0 m0 f0) rfl rfl) qb0 ?_ | refine awpD_un (as_ev (fun _ => ev_slice_fs rfl rfl rfl rfl rfl rfl rfl q0 w0 v0) rfl rfl) qb0 ?_ | refine awpD_un (as_callN rfl qd0 rfl (by simp [exL, ex, encSs]) hR rfl rfl) qb0 ?_))
     | ((with_reducible refine isD_gd ?_); (first | refine awpD_gd rfl rfl qa0 (as_ev (fun _ => ev_slice_fs rfl rfl rfl rfl rfl rfl rfl b0 m0 f0) rfl rfl) qb0 ?_ | refine awpD_gd rfl rfl qa0 (as_ev (fun _ => ev_slice_fs rfl rfl rfl rfl rfl rfl rfl q0 w0 v0) rfl rfl) qb0 ?_ | refine awpD_gd rfl rfl qa0 (as_callN rfl qd0 rfl (by simp [exL, ex, encSs]) hR rfl rfl) qb0 ?_))
     | refine st [2] ?_
     | ((with_reducible refine is_gd ?_); refine awpL_split rfl rfl (fun h => ?_) (fun h => ?_))
     | ((with_reducible refine isD_gd ?_); ((fail_if_success (refine isD_kn (c := true) rfl qa0 ?_)); (fail_if_success (refine isD_kn (c := false) rfl qa0 ?_)); refine awpD_split rfl (fun h => ?_) (fun h => ?_)))
     | ((with_reducible refine is_awp ?_); refine awp_cond rfl (fun h => ?_) (fun h => ?_))
     | fail)
    exact retP rfl rfl
end Go.Proofs.YtigcjinpkngapaaGreatDoor
end
section
namespace Go.Proofs.YtigcjinpkngapaaGreatDoor
open Go.Ac
attribute [local irreducible] awp awpL Ev Ev2 EvS thenQ blockQ retQ PCalls OCalls ICalls
variable {g : List (Nat × List AV)}
abbrev docB (a b : Nat) (d : Doc) : List AV := [.v (.int .i64 d.rec_.id), .v (.string d.rec_.name), .v (.int .i64 d.rec_.length), .v (.int .i64 d.rec_.day), encIs d.rec_.speakers, .os 2 a, .os 3 b]
abbrev zeroB : List AV := [.v (.int .i64 0), .v (.string .empty), .v (.int .i64 0), .v (.int .i64 0), .v (.slice none 0 0), .v (.slice none 0 0), .v (.slice none 0 0)]
abbrev docLV (a b : Nat) (d : Doc) : List LB := [.box zeroB, .box (docB a b d), .own a 51 4 (d.tiers.map tierC), .own b 55 7 (d.notes.map noteC)]
abbrev docLB (d : Doc) : List LB := docLV 0 0 d
abbrev docL0 : List LB := [.box zeroB, .box [.v (.int .i64 0), .v (.string .empty), .v (.int .i64 0), .v (.int .i64 0), .v (.slice none 0 0), .os 2 0, .os 3 0], .own 0 51 4 [], .own 0 55 7 []]
theorem numsP_cons (a : ByteArray) (r : List ByteArray) : numsP (a :: r) = match numP a with | none => none | some n => (numsP r).map (n :: ·) := rfl
set_option maxRecDepth 8000 in
set_option maxHeartbeats 4000000 in
theorem wrecording_I (hN : NumG g) (w : List ByteArray) (hl : w.length ≤ 90000000) (hx : ∀ s ∈ w, s.size ≤ 281474976710656) : ICalls Tryz.prog (Glo.of g) 67 [.lp 1 0, encSs w] docL0 (match recP w with | some r => docLB ⟨r, [], []⟩ | none => docL0) (vb (recP w).isSome) := by
  have n1 : (!true) = false := rfl
  have n2 : (!false) = true := rfl
  by_cases h5 : w.length < 5
  · have c1 : decide ((w.length : Int) < 5) = true := decide_eq_true (by omega)
    rw [recP_none h5]
    refine icalls Tryz.func67 rfl Tryz.ntmps67 rfl rfl rfl rfl rfl rfl ?_
    repeat' (first
     | refine stn [] ?_
     | ((with_reducible refine is_gd ?_); refine awpL_split rfl rfl (fun h => ?_) (fun h => ?_))
     | ((with_reducible refine is_awp ?_); refine awp_cond rfl (fun h => ?_) (fun h => ?_))
     | fail)
    exact retI rfl ⟨rfl, rfl⟩
  have c1 : decide ((w.length : Int) < 5) = false := decide_eq_false (by omega)
  obtain ⟨k, a, nm, r, hw⟩ : ∃ k a nm r, w = k :: a :: nm :: r := by
    match w, h5 with
    | k :: a :: nm :: r, _ => exact ⟨k, a, nm, r, rfl⟩
    | [], h => simp at h
    | [_], h => simp at h
    | [_, _], h => simp at h
  have hr2 : 2 ≤ r.length := by rw [hw] at h5; simp at h5; omega
  have hwl : w.length = r.length + 3 := by rw [hw]; rfl
  have g0 : 0 ≤ (0 : Int) ∧ (w.map strC)[(0 : Int).toNat]? = some (strC k) := ⟨by omega, by rw [hw]; rfl⟩
  have he : recP w = if k = kRec then (match numsP (a :: r) with
    | some (id :: x :: y :: sp) => some ⟨id, nm, x, y, sp⟩
    | _ => none) else none := by
    rw [hw]; unfold recP; simp only [hr2, and_true]; try rfl
  rw [he]
  by_cases hk : k = kRec
  case neg =>
    have c2 : (!decide (k = kRec)) = true := by rw [decide_eq_false hk]; rfl
    unfold kRec at c2
    rw [if_neg hk]
    refine icalls Tryz.func67 rfl Tryz.ntmps67 rfl rfl rfl rfl rfl rfl ?_
    repeat' (first
     | refine stn [] ?_
     | ((with_reducible refine is_gd ?_); refine awpL_split rfl rfl (fun h => ?_) (fun h => ?_))
     | ((with_reducible refine is_awp ?_); refine awp_cond rfl (fun h => ?_) (fun h => ?_))
     | fail)
    exact retI rfl ⟨rfl, rfl⟩
  have c2 : (!decide (k = kRec)) = false := by rw [decide_eq_true hk]; rfl
  unfold kRec at c2
  rw [if_pos hk, numsP_cons]
  have j1 : 0 ≤ (1 : Int) ∧ (w.map strC)[(1 : Int).toNat]? = some (strC a) := ⟨by omega, by rw [hw]; rfl⟩
  have j2 : 0 ≤ (2 : Int) ∧ (w.map strC)[(2 : Int).toNat]? = some (strC nm) := ⟨by omega, by rw [hw]; rfl⟩
  have b0 : (0 : Int) ≤ 3 ∧ (3 : Int) ≤ (w.length : Int) ∧ (w.length : Int) ≤ (w.length : Nat) := by omega
  have m0 : ((w.length : Int) - 3).toNat = r.length := by omega
  have f0 : ((w.map strC).drop (3 : Int).toNat).take r.length = r.map strC := by
    rw [hw]
    show (r.map strC).take r.length = _
    rw [List.take_of_length_le (by simp)]
  have hA := NParse_spec hN a (hx a (by rw [hw]; simp))
  have hR := wparsed_spec hN r (by omega) (fun s hs => hx s (by rw [hw]; simp [hs]))
  have hlen := @numsP_len r
  clear he hw
  cases ha : numP a with
  | none =>
    rw [ha] at hA
    replace hA : PCalls _ _ _ _ (.tup [vi 0, vb false]) := hA
    simp only
    refine icalls Tryz.func67 rfl Tryz.ntmps67 rfl rfl rfl rfl rfl rfl ?_
    repeat' (first
     | ((with_reducible refine is_un ?_); refine awpL_ev (ev_slice_fs rfl rfl rfl rfl rfl rfl rfl b0 m0 f0) rfl ?_)
     | refine stn [] ?_
     | ((with_reducible refine is_gd ?_); refine awpL_split rfl rfl (fun h => ?_) (fun h => ?_))
     | ((with_reducible refine is_awp ?_); refine awp_cond rfl (fun h => ?_) (fun h => ?_))
     | fail)
    exact retI rfl ⟨rfl, rfl⟩
  | some id =>
    rw [ha] at hA
    replace hA : PCalls _ _ _ _ (.tup [vi id, vb true]) := hA
    cases hn : numsP r with
    | none =>
      rw [hn] at hR
      replace hR : PCalls _ _ _ _ (.tup [encIs [], vb false]) := hR
      simp only [Option.map_none]
      refine icalls Tryz.func67 rfl Tryz.ntmps67 rfl rfl rfl rfl rfl rfl ?_
      repeat' (first
       | ((with_reducible refine is_un ?_); refine awpL_ev (ev_slice_fs rfl rfl rfl rfl rfl rfl rfl b0 m0 f0) rfl ?_)
       | refine stn [] ?_
       | ((with_reducible refine is_gd ?_); refine awpL_split rfl rfl (fun h => ?_) (fun h => ?_))
       | ((with_reducible refine is_awp ?_); refine awp_cond rfl (fun h => ?_) (fun h => ?_))
       | fail)
      exact retI rfl ⟨rfl, rfl⟩
    | some l =>
      obtain ⟨x, y, sp, rfl⟩ : ∃ x y sp, l = x :: y :: sp := by
        have := hlen hn
        match l, this with
        | x :: y :: sp, _ => exact ⟨x, y, sp, rfl⟩
        | [], h => simp only [List.length_nil] at h; omega
        | [_], h => simp only [List.length_cons, List.length_nil] at h; omega
      rw [hn] at hR
      replace hR : PCalls _ _ _ _ (.tup [encIs (x :: y :: sp), vb true]) := hR
      simp only [Option.map_some]
      have i0 : 0 ≤ (0 : Int) ∧ ((x :: y :: sp).map intC)[(0 : Int).toNat]? = some (intC x) := ⟨by omega, rfl⟩
      have i1 : 0 ≤ (1 : Int) ∧ ((x :: y :: sp).map intC)[(1 : Int).toNat]? = some (intC y) := ⟨by omega, rfl⟩
      have q0 : (0 : Int) ≤ 2 ∧ (2 : Int) ≤ ((x :: y :: sp).length : Int) ∧ ((x :: y :: sp).length : Int) ≤ ((x :: y :: sp).length : Nat) := by simp; omega
      have w0 : (((x :: y :: sp).length : Int) - 2).toNat = sp.length := by simp; omega
      have v0 : (((x :: y :: sp).map intC).drop (2 : Int).toNat).take sp.length = sp.map intC := by
        show (sp.map intC).take sp.length = _
        rw [List.take_of_length_le (by simp)]
      refine icalls Tryz.func67 rfl Tryz.ntmps67 rfl rfl rfl rfl rfl rfl ?_
      repeat' (first
       | refine awp_drawT2 14 (by simp only [List.take_succ_cons, List.take_zero, List.take_nil]; rfl) (by simp only [List.drop_succ_cons, List.drop_zero, List.drop_nil]; rfl) (by kernel_rfl) rfl rfl rfl rfl (by repeat' (first | exact Strip.nil | apply Strip.keep rfl | apply Strip.drop rfl)) ?_
       | ((with_reducible refine is_un ?_); refine awpL_ev (ev_slice_fs rfl rfl rfl rfl rfl rfl rfl b0 m0 f0) rfl ?_)
       | ((with_reducible refine isD_un ?_); refine awpD_un (as_ev (fun _ => ev_slice_fs rfl rfl rfl rfl rfl rfl rfl q0 w0 v0) rfl rfl) qb0 ?_)
       | ((with_reducible refine isD_gd ?_); refine awpD_gd rfl rfl qa0 (as_ev (fun _ => ev_slice_fs rfl rfl rfl rfl rfl rfl rfl q0 w0 v0) rfl rfl) qb0 ?_)
       | refine st [] ?_
       | ((with_reducible refine is_gd ?_); refine awpL_split rfl rfl (fun h => ?_) (fun h => ?_))
       | ((with_reducible refine isD_gd ?_); ((fail_if_success (refine isD_kn (c := true) rfl qa0 ?_)); (fail_if_success (refine isD_kn (c := false) rfl qa0 ?_)); refine awpD_split rfl (fun h => ?_) (fun h => ?_)))
       | ((with_reducible refine is_awp ?_); refine awp_cond rfl (fun h => ?_) (fun h => ?_))
       | fail)
      exact retI rfl ⟨rfl, rfl⟩
end Go.Proofs.YtigcjinpkngapaaGreatDoor
end
section
namespace Go.Ac
def moreE (o : Oper) (x : List Edge) : Oper := { o with after := o.after ++ x.toArray }
section
variable {F : Fence} {n : Nat} {P : Program} {Q : Exit → Act → World → Prop}
theorem any_edges {l : List Oper} {k : Nat} {x : List Edge} {o : Oper} (ho : l[k]? = some o) (hx : (x.all fun e => reachE l l.length o.after.toList e.on) = true) :
    ∀ (fuel : Nat) (listed : Array Bool) (a : Act) (w : World), listed.size = l.length → (∀ (i : Nat) (o : Oper), l[i]? = some o → listed.getD i false = true → ∀ e ∈ o.after.toList, Region.binds .any e = true → listed.getD e.on false = true) →
      wpAnyIn F n P .any (l.set k (moreE o x)).toArray Q fuel listed a w → wpAnyIn F n P .any l.toArray Q fuel listed a w := by
  have hk : k < l.length := (List.getElem?_eq_some_iff.1 ho).1
  have get : ∀ i, (l.set k (moreE o x)).toArray[i]? = if k = i then some (moreE o x) else l[i]? := fun i => by
    rw [List.getElem?_toArray, List.getElem?_set]
    by_cases e : k = i
    · rw [if_pos e, if_pos e, if_pos (by omega)]
    · rw [if_neg e, if_neg e]
  have rd : ∀ (listed : Array Bool), listed.size = l.length → (∀ (i : Nat) (o : Oper), l[i]? = some o → listed.getD i false = true → ∀ e ∈ o.after.toList, Region.binds .any e = true → listed.getD e.on false = true) →
      ∀ i, i ∈ Region.ready .any (l.set k (moreE o x)).toArray listed ↔ i ∈ Region.ready .any l.toArray listed := by
    intro listed hs hcl i
    rw [mem_ready, mem_ready, get, List.getElem?_toArray]
    by_cases e : k = i
    · subst e
      rw [if_pos rfl, ho]
      constructor
      · rintro ⟨h0, o', ho', h⟩
        injection ho' with ho'; subst ho'
        exact ⟨h0, o, rfl, fun e he hb => h e (by simp only [moreE, Array.mem_append]; exact .inl he) hb⟩
      · rintro ⟨h0, o', ho', h⟩
        injection ho' with ho'; subst ho'
        refine ⟨h0, _, rfl, fun e he hb => ?_⟩
        simp only [moreE, Array.mem_append] at he
        rcases he with he | he
        · exact h e he hb
        · have hr := List.all_eq_true.1 hx e (by simpa using he)
          exact reach_done hcl _ _ _ (fun e he hb => h e (by simpa using he) hb) hr
    · rw [if_neg e]
  intro fuel
  induction fuel with
  | zero =>
    intro listed a w hs hcl h
    refine ⟨?_, h.2⟩
    cases hq : Region.ready .any l.toArray listed with
    | nil => rfl
    | cons i r =>
      have := (rd listed hs hcl i).2 (by rw [hq]; exact List.mem_cons_self ..)
      rw [h.1] at this; cases this
  | succ f ih =>
    intro listed a w hs hcl h
    refine ⟨fun hr => h.1 ?_, fun i hi => ?_⟩
    · cases hq : Region.ready .any (l.set k (moreE o x)).toArray listed with
      | nil => rfl
      | cons i r =>
        have := (rd listed hs hcl i).1 (by rw [hq]; exact List.mem_cons_self ..)
        rw [hr] at this; cases this
    · have hw := h.2 i ((rd listed hs hcl i).2 hi)
      rw [mem_ready] at hi
      obtain ⟨h0, oi, hoi, haft⟩ := hi
      have hoi : l[i]? = some oi := by simpa using hoi
      have hil : i < l.length := (List.getElem?_eq_some_iff.1 hoi).1
      have next : ∀ a w, wpAnyIn F n P .any (l.set k (moreE o x)).toArray Q f (listed.setIfInBounds i true) a w → wpAnyIn F n P .any l.toArray Q f (listed.setIfInBounds i true) a w := by
        intro a w
        refine ih _ a w (by simpa using hs) fun j oj hj hl e he hb => ?_
        by_cases e1 : i = e.on
        · subst e1; simp [Array.getD_eq_getD_getElem?, hs, hil]
        · rw [getD_set_ne false e1]
          by_cases e2 : i = j
          · subst e2
            rw [hoi] at hj; injection hj with hj; subst hj
            exact haft e (by simpa using he) hb
          · rw [getD_set_ne false e2] at hl
            exact hcl j oj hj hl e he hb
      have hy : ∀ j, yielded (l.set k (moreE o x)).toArray a.tmps j = yielded l.toArray a.tmps j := fun j => by
        unfold yielded
        rw [get, List.getElem?_toArray]
        by_cases e : k = j
        · subst e; rw [if_pos rfl, ho]; rfl
        · rw [if_neg e]
      have hy : yielded (l.set k (moreE o x)).toArray a.tmps = yielded l.toArray a.tmps := funext hy
      unfold wpOpIn at hw ⊢
      rw [get] at hw
      rw [List.getElem?_toArray, hoi]
      by_cases e : k = i
      · subst e
        rw [hoi] at ho; injection ho with ho; subst ho
        rw [if_pos rfl, hy] at hw
        simp only at hw ⊢
        have hwant : Region.wanted (moreE oi x) (yielded l.toArray a.tmps) = Region.wanted oi (yielded l.toArray a.tmps) := rfl
        rw [hwant] at hw
        split at hw
        · rename_i hq
          rw [if_pos hq]
          exact Oper.wpIn_mono next hw
        · rename_i hq
          rw [if_neg hq]
          exact ⟨hw.1, next _ _ hw.2⟩
      · rw [if_neg e, hoi, hy] at hw
        simp only at hw ⊢
        split at hw
        · rename_i hq
          rw [if_pos hq]
          exact Oper.wpIn_mono next hw
        · rename_i hq
          rw [if_neg hq]
          exact ⟨hw.1, next _ _ hw.2⟩
end
section
variable {P : Program} {td : TDs} [T : TOK P td] {G : Glo} {N : Nat} {Q : AQ} {S Sb : SL} {L : List LB} {lx l l1 l2 : List Oper}
theorem awp_drawE (k : Nat) (x : List Edge) (n : Nat) {id : Nat} {ds : List Nat} {o : Oper} (ho : lx[k]? = some o) (hx : (x.all fun e => reachE lx lx.length o.after.toList e.on) = true) (h0 : lx.set k (moreE o x) = l) (h1 : l.take n = l1) (h2 : l.drop n = l2) (hm : P.follows .mixedOrders = true) (hk : drawOk N 0 [] l1 = true) (ht : tailOk2 l1.length l2 = true) (hg : gdOk l1.length l1 = true) (hds : dsts l1 = ds) (hS : Strip ds S Sb)
    (h : awpD P G N (fun S' L' => awpL P G N l.toArray l2 Q S' L') Sb L.length l1 [] ⟨L, [], [], false⟩) : awp P G N (.region id lx.toArray true) Q S L := by
  have hl : l = l1 ++ l2 := by rw [← h1, ← h2, List.take_append_drop]
  subst hl
  clear h1 h2
  have hb : (Sb.all fun p => !(l1.any fun o => match o.dst with | some d => Nat.beq d p.1 | none => false)) = true := by
    rw [List.all_eq_true]
    rintro ⟨t, x⟩ hp
    have hm := strip_keep hS t x hp
    rw [Bool.not_eq_true', List.any_eq_false]
    intro o ho
    cases hd : o.dst with
    | none => simp
    | some d =>
      have hdm : d ∈ ds := by rw [← hds]; exact List.mem_filterMap.2 ⟨o, ho, hd⟩
      simp only [Bool.not_eq_true]
      cases he : Nat.beq d t with
      | false => rfl
      | true =>
        have := Nat.eq_of_beq_eq_true he
        subst this
        rw [memN_of hdm] at hm; cases hm
  intro cx a hc
  refine wpIn_region_any hm ?_
  have hsz : lx.length = (l1 ++ l2).length := by rw [← h0, List.length_set]
  have hlx : lx.toArray.size = (l1 ++ l2).toArray.size := by simpa using hsz
  rw [hlx]
  refine any_edges ho hx _ _ _ _ (by simpa using hsz.symm) (fun i o hi hl => ?_) ?_
  · exfalso; have hi2 := (List.getElem?_eq_some_iff.1 hi).1; rw [hsz] at hi2; have hi3 : i < l1.length + l2.length := by simpa using hi2
    simp [Array.getD_eq_getD_getElem?, hi3] at hl
  rw [h0]
  have hA := draw_any (Q := thenQ (fun S' L' => awpL P G N (l1 ++ l2).toArray l2 Q S' L') Q) hk (fun t x hx => (hS.get t x hx).1) hb h cx a hc
  refine body_run2 ht hg hk (Qt := conc G N (thenQ (fun S' L' => awpL P G N (l1 ++ l2).toArray l2 Q S' L') Q) cx) (fun e a w hne q => ?_) (fun a w q => ?_) _ _ _ _ _ (by simp) (by simp) (fun i hi => ?_) (fun i hi hil => ?_) hA _ (by simp)
  · obtain ⟨S', L', c', q1, q2, q3, q4⟩ := q
    refine ⟨S', L', c', ?_, q2, q3, q4⟩
    cases e with
    | normal => exact absurd rfl hne
    | _ => exact q1
  · obtain ⟨S', L', c', q1, q2, q3, q4⟩ := q
    subst q4
    exact wpListIn_mono (fun e a w r => r.trans q3) _ _ _ (q1 c' a q2)
  · have hi2 : i < l1.length + l2.length := by omega
    simp [Array.getD_eq_getD_getElem?, hi, hi2]
  · simp at hil
    simp [Array.getD_eq_getD_getElem?, hil]
end
end Go.Ac
end
section
namespace Go.Proofs.YtigcjinpkngapaaGreatDoor
open Go.Ac
attribute [local irreducible] awp awpL Ev Ev2 EvS thenQ blockQ retQ PCalls OCalls ICalls
variable {g : List (Nat × List AV)}
def furP (d : Doc) (w : List ByteArray) : Option Doc := match tierP w with
  | some t => if d.notes.length = 0 then some { d with tiers := d.tiers ++ [t] } else none
  | none => match noteP w with
    | some n => some { d with notes := d.notes ++ [n] }
    | none => none
def furA (d : Doc) (w : List ByteArray) : Nat := if (furP d w).isSome = true ∧ (tierP w).isSome = true then 1 else 0
def furB (d : Doc) (w : List ByteArray) : Nat := if (furP d w).isSome = true ∧ (tierP w).isSome = false then 1 else 0
def furD (d : Doc) (w : List ByteArray) : Doc := (furP d w).getD d
set_option maxRecDepth 8000 in
set_option maxHeartbeats 8000000 in
theorem wfurther_I (hN : NumG g) (d : Doc) (w : List ByteArray) (hl : w.length ≤ 90000000) (hx : ∀ s ∈ w, s.size ≤ 281474976710656) (ht : d.tiers.length ≤ 90000000) (hn : d.notes.length ≤ 90000000) :
    ICalls Tryz.prog (Glo.of g) 68 [.lp 1 0, encSs w] (docLB d) (docLV (furA d w) (furB d w) (furD d w)) (vb (furP d w).isSome) := by
  have n1 : (!true) = false := rfl
  have n2 : (!false) = true := rfl
  have ht2 : (d.tiers.map tierC).length ≤ 90000000 := by rw [List.length_map]; exact ht
  have hn2 : (d.notes.map noteC).length ≤ 90000000 := by rw [List.length_map]; exact hn
  by_cases h5 : w.length = 5
  · have c1 : decide ((w.length : Int) = 5) = true := decide_eq_true (by omega)
    have c8 : decide ((w.length : Int) = 8) = false := decide_eq_false (by omega)
    obtain ⟨k, nm, a, b, c, hw⟩ := five h5
    have g0 : 0 ≤ (0 : Int) ∧ (w.map strC)[(0 : Int).toNat]? = some (strC k) := ⟨by omega, by rw [hw]; rfl⟩
    have he : tierP w = if k = kTier then (match numsP [a, b, c] with
      | some [x, y, z] => some ⟨nm, x, y, z⟩
      | _ => none) else none := by rw [hw]; rfl
    have hno : noteP w = none := noteP_none (by omega)
    by_cases hk : k = kTier
    case neg =>
      have c2 : decide (k = kTier) = false := decide_eq_false hk
      unfold kTier at c2
      have hf : furP d w = none := by unfold furP; rw [he, if_neg hk, hno]
      unfold furA furB furD
      rw [hf]
      simp only [Option.isSome_none, Bool.false_eq_true, false_and, if_false, Option.getD_none]
      refine icalls Tryz.func68 rfl Tryz.ntmps68 rfl rfl rfl rfl rfl rfl ?_
      repeat' (first
       | refine stn [] ?_
       | ((with_reducible refine is_gd ?_); refine awpL_split rfl rfl (fun h => ?_) (fun h => ?_))
       | ((with_reducible refine is_awp ?_); refine awp_cond rfl (fun h => ?_) (fun h => ?_))
       | fail)
      exact retI rfl ⟨rfl, rfl⟩
    have c2 : decide (k = kTier) = true := decide_eq_true hk
    unfold kTier at c2
    by_cases h0 : d.notes.length = 0
    case neg =>
      have c3 : decide (((d.notes.map noteC).length : Int) = 0) = false := decide_eq_false (by rw [List.length_map]; omega)
      have hf : furP d w = none := by
        unfold furP; rw [he, if_pos hk]
        cases hq : numsP [a, b, c] with
        | none => simp only [hno]
        | some l =>
          obtain ⟨x, y, z, rfl⟩ := three (numsP_len hq)
          simp only [h0, if_false]
      unfold furA furB furD
      rw [hf]
      simp only [Option.isSome_none, Bool.false_eq_true, false_and, if_false, Option.getD_none]
      refine icalls Tryz.func68 rfl Tryz.ntmps68 rfl rfl rfl rfl rfl rfl ?_
      repeat' (first
       | refine stn [] ?_
       | ((with_reducible refine is_gd ?_); refine awpL_split rfl rfl (fun h => ?_) (fun h => ?_))
       | ((with_reducible refine is_awp ?_); refine awp_cond rfl (fun h => ?_) (fun h => ?_))
       | fail)
      exact retI rfl ⟨rfl, rfl⟩
    have c3 : decide (((d.notes.map noteC).length : Int) = 0) = true := decide_eq_true (by rw [List.length_map]; omega)
    have b0 : (0 : Int) ≤ 2 ∧ (2 : Int) ≤ (w.length : Int) ∧ (w.length : Int) ≤ (w.length : Nat) := by omega
    have m0 : ((w.length : Int) - 2).toNat = 3 := by omega
    have f0 : ((w.map strC).drop (2 : Int).toNat).take 3 = [a, b, c].map strC := by rw [hw]; rfl
    have hR := wparsed_spec hN [a, b, c] (by simp) (fun s hs => hx s (by rw [hw]; exact List.mem_of_mem_drop (i := 2) (l := [k, nm, a, b, c]) hs))
    have j1 : 0 ≤ (1 : Int) ∧ (w.map strC)[(1 : Int).toNat]? = some (strC nm) := ⟨by omega, by rw [hw]; rfl⟩
    cases hq : numsP [a, b, c] with
    | none =>
      rw [hq] at hR
      replace hR : PCalls _ _ _ _ (.tup [encIs [], vb false]) := hR
      have hf : furP d w = none := by unfold furP; rw [he, if_pos hk, hq, hno]
      unfold furA furB furD
      rw [hf]
      simp only [Option.isSome_none, Bool.false_eq_true, false_and, if_false, Option.getD_none]
      refine icalls Tryz.func68 rfl Tryz.ntmps68 rfl rfl rfl rfl rfl rfl ?_
      repeat' (first
       | ((with_reducible refine is_un ?_); refine awpL_ev (ev_slice_fs rfl rfl rfl rfl rfl rfl rfl b0 m0 f0) rfl ?_)
       | refine stn [] ?_
       | ((with_reducible refine is_gd ?_); refine awpL_split rfl rfl (fun h => ?_) (fun h => ?_))
       | ((with_reducible refine is_awp ?_); refine awp_cond rfl (fun h => ?_) (fun h => ?_))
       | fail)
      exact retI rfl ⟨rfl, rfl⟩
    | some l =>
      obtain ⟨x, y, z, rfl⟩ := three (numsP_len hq)
      rw [hq] at hR
      replace hR : PCalls _ _ _ _ (.tup [encIs [x, y, z], vb true]) := hR
      have htp : (tierP w).isSome = true := by rw [he, if_pos hk, hq]; rfl
      have hf : furP d w = some { d with tiers := d.tiers ++ [⟨nm, x, y, z⟩] } := by unfold furP; rw [he, if_pos hk, hq]; simp only [h0, if_true]
      have i0 : 0 ≤ (0 : Int) ∧ ([x, y, z].map intC)[(0 : Int).toNat]? = some (intC x) := ⟨by omega, rfl⟩
      have i1 : 0 ≤ (1 : Int) ∧ ([x, y, z].map intC)[(1 : Int).toNat]? = some (intC y) := ⟨by omega, rfl⟩
      have i2 : 0 ≤ (2 : Int) ∧ ([x, y, z].map intC)[(2 : Int).toNat]? = some (intC z) := ⟨by omega, rfl⟩
      have hj : d.tiers.map tierC ++ [tierC (⟨nm, x, y, z⟩ : Tier)] = (d.tiers ++ [(⟨nm, x, y, z⟩ : Tier)]).map tierC := by simp
      unfold furA furB furD
      rw [hf]
      simp only [Option.getD_some, Option.isSome_some, docLB, docLV, docB, ← hj, htp, true_and, and_true, and_self, if_true, if_false, Bool.true_eq_false, Bool.false_eq_true, and_false]
      clear he hw hf
      refine icalls Tryz.func68 rfl Tryz.ntmps68 rfl rfl rfl rfl rfl rfl ?_
      repeat' (first
       | refine awp_drawE 19 [⟨2, .data⟩, ⟨3, .data⟩] 20 rfl rfl rfl (by simp only [List.set_cons_zero, List.set_cons_succ, moreE, List.take_succ_cons, List.take_zero, List.take_nil]; rfl) (by simp only [List.set_cons_zero, List.set_cons_succ, moreE, List.drop_succ_cons, List.drop_zero, List.drop_nil]; rfl) (by kernel_rfl) rfl rfl rfl rfl (by repeat' (first | exact Strip.nil | apply Strip.keep rfl | apply Strip.drop rfl)) ?_
       | refine awpD_nw rfl qd0 (ev_bslice_o (t := 25) (n := 1) (es := [tierC (⟨nm, x, y, z⟩ : Tier)]) rfl rfl rfl rfl rfl rfl rfl rfl rfl rfl rfl qf0 qc0) rfl rfl rfl rfl rfl qc0 qb0 ?_
       | refine awpD_sV rfl rfl (ev_appB (es' := d.tiers.map tierC ++ [tierC (⟨nm, x, y, z⟩ : Tier)]) rfl rfl rfl rfl rfl rfl rfl rfl rfl rfl rfl rfl rfl qe0 rfl rfl) rfl qb0 ?_
       | ((with_reducible refine is_un ?_); refine awpL_ev (ev_slice_fs rfl rfl rfl rfl rfl rfl rfl b0 m0 f0) rfl ?_)
       | refine st [] ?_
       | ((with_reducible refine is_gd ?_); refine awpL_split rfl rfl (fun h => ?_) (fun h => ?_))
       | ((with_reducible refine isD_gd ?_); ((fail_if_success (refine isD_kn (c := true) rfl qa0 ?_)); (fail_if_success (refine isD_kn (c := false) rfl qa0 ?_)); refine awpD_split rfl (fun h => ?_) (fun h => ?_)))
       | ((with_reducible refine is_awp ?_); refine awp_cond rfl (fun h => ?_) (fun h => ?_))
       | fail)
      exact retI rfl ⟨rfl, rfl⟩
  have c1 : decide ((w.length : Int) = 5) = false := decide_eq_false (by omega)
  have htn : tierP w = none := tierP_none h5
  by_cases h8 : w.length = 8
  case neg =>
    have c8 : decide ((w.length : Int) = 8) = false := decide_eq_false (by omega)
    have hf : furP d w = none := by unfold furP; rw [htn, noteP_none h8]
    unfold furA furB furD
    rw [hf]
    simp only [Option.isSome_none, Bool.false_eq_true, false_and, if_false, Option.getD_none]
    refine icalls Tryz.func68 rfl Tryz.ntmps68 rfl rfl rfl rfl rfl rfl ?_
    repeat' (first
     | refine stn [] ?_
     | ((with_reducible refine is_gd ?_); refine awpL_split rfl rfl (fun h => ?_) (fun h => ?_))
     | ((with_reducible refine is_awp ?_); refine awp_cond rfl (fun h => ?_) (fun h => ?_))
     | fail)
    exact retI rfl ⟨rfl, rfl⟩
  have c8 : decide ((w.length : Int) = 8) = true := decide_eq_true (by omega)
  obtain ⟨k, a, b, c, e, f, m, t, hw⟩ := eight h8
  have g0 : 0 ≤ (0 : Int) ∧ (w.map strC)[(0 : Int).toNat]? = some (strC k) := ⟨by omega, by rw [hw]; rfl⟩
  have he : noteP w = if k = kNote then (match numsP [a, b, c, e, f, m] with
    | some [x1, x2, x3, x4, x5, x6] => some ⟨x1, x2, x3, ⟨x4, x5⟩, x6, t⟩
    | _ => none) else none := by rw [hw]; rfl
  by_cases hk : k = kNote
  case neg =>
    have c2 : decide (k = kNote) = false := decide_eq_false hk
    unfold kNote at c2
    have hf : furP d w = none := by unfold furP; rw [htn, he, if_neg hk]
    unfold furA furB furD
    rw [hf]
    simp only [Option.isSome_none, Bool.false_eq_true, false_and, if_false, Option.getD_none]
    refine icalls Tryz.func68 rfl Tryz.ntmps68 rfl rfl rfl rfl rfl rfl ?_
    repeat' (first
     | refine stn [] ?_
     | ((with_reducible refine is_gd ?_); refine awpL_split rfl rfl (fun h => ?_) (fun h => ?_))
     | ((with_reducible refine is_awp ?_); refine awp_cond rfl (fun h => ?_) (fun h => ?_))
     | fail)
    exact retI rfl ⟨rfl, rfl⟩
  have c2 : decide (k = kNote) = true := decide_eq_true hk
  unfold kNote at c2
  have b0 : (0 : Int) ≤ 1 ∧ (1 : Int) ≤ 7 ∧ (7 : Int) ≤ (w.length : Nat) := by omega
  have m0 : ((7 : Int) - 1).toNat = 6 := rfl
  have f0 : ((w.map strC).drop (1 : Int).toNat).take 6 = [a, b, c, e, f, m].map strC := by rw [hw]; rfl
  have hR := wparsed_spec hN [a, b, c, e, f, m] (by simp) (fun s hs => hx s (by rw [hw]; exact List.mem_of_mem_take (i := 7) (l := [k, a, b, c, e, f, m, t]) (List.mem_of_mem_drop (i := 1) (l := [k, a, b, c, e, f, m]) hs)))
  have j1 : 0 ≤ (7 : Int) ∧ (w.map strC)[(7 : Int).toNat]? = some (strC t) := ⟨by omega, by rw [hw]; rfl⟩
  cases hq : numsP [a, b, c, e, f, m] with
  | none =>
    rw [hq] at hR
    replace hR : PCalls _ _ _ _ (.tup [encIs [], vb false]) := hR
    have hf : furP d w = none := by unfold furP; rw [htn, he, if_pos hk, hq]
    unfold furA furB furD
    rw [hf]
    simp only [Option.isSome_none, Bool.false_eq_true, false_and, if_false, Option.getD_none]
    refine icalls Tryz.func68 rfl Tryz.ntmps68 rfl rfl rfl rfl rfl rfl ?_
    repeat' (first
     | ((with_reducible refine is_un ?_); refine awpL_ev (ev_slice_fs rfl rfl rfl rfl rfl rfl rfl b0 m0 f0) rfl ?_)
     | refine stn [] ?_
     | ((with_reducible refine is_gd ?_); refine awpL_split rfl rfl (fun h => ?_) (fun h => ?_))
     | ((with_reducible refine is_awp ?_); refine awp_cond rfl (fun h => ?_) (fun h => ?_))
     | fail)
    exact retI rfl ⟨rfl, rfl⟩
  | some l =>
    obtain ⟨x1, x2, x3, x4, x5, x6, rfl⟩ := six (numsP_len hq)
    rw [hq] at hR
    replace hR : PCalls _ _ _ _ (.tup [encIs [x1, x2, x3, x4, x5, x6], vb true]) := hR
    have hf : furP d w = some { d with notes := d.notes ++ [⟨x1, x2, x3, ⟨x4, x5⟩, x6, t⟩] } := by unfold furP; rw [htn, he, if_pos hk, hq]
    have i0 : 0 ≤ (0 : Int) ∧ ([x1, x2, x3, x4, x5, x6].map intC)[(0 : Int).toNat]? = some (intC x1) := ⟨by omega, rfl⟩
    have i1 : 0 ≤ (1 : Int) ∧ ([x1, x2, x3, x4, x5, x6].map intC)[(1 : Int).toNat]? = some (intC x2) := ⟨by omega, rfl⟩
    have i2 : 0 ≤ (2 : Int) ∧ ([x1, x2, x3, x4, x5, x6].map intC)[(2 : Int).toNat]? = some (intC x3) := ⟨by omega, rfl⟩
    have i3 : 0 ≤ (3 : Int) ∧ ([x1, x2, x3, x4, x5, x6].map intC)[(3 : Int).toNat]? = some (intC x4) := ⟨by omega, rfl⟩
    have i4 : 0 ≤ (4 : Int) ∧ ([x1, x2, x3, x4, x5, x6].map intC)[(4 : Int).toNat]? = some (intC x5) := ⟨by omega, rfl⟩
    have i5 : 0 ≤ (5 : Int) ∧ ([x1, x2, x3, x4, x5, x6].map intC)[(5 : Int).toNat]? = some (intC x6) := ⟨by omega, rfl⟩
    have hj : d.notes.map noteC ++ [noteC (⟨x1, x2, x3, ⟨x4, x5⟩, x6, t⟩ : Note)] = (d.notes ++ [(⟨x1, x2, x3, ⟨x4, x5⟩, x6, t⟩ : Note)]).map noteC := by simp
    unfold furA furB furD
    rw [hf]
    simp only [Option.getD_some, Option.isSome_some, docLB, docLV, docB, ← hj, htn, Option.isSome_none, true_and, and_true, and_self, if_true, if_false, Bool.true_eq_false, Bool.false_eq_true, and_false]
    clear he hw hf
    refine icalls Tryz.func68 rfl Tryz.ntmps68 rfl rfl rfl rfl rfl rfl ?_
    repeat' (first
     | ((with_reducible refine is_un ?_); refine awpL_ev (ev_slice_fs rfl rfl rfl rfl rfl rfl rfl b0 m0 f0) rfl ?_)
     | refine stn [] ?_
     | ((with_reducible refine is_gd ?_); refine awpL_split rfl rfl (fun h => ?_) (fun h => ?_))
     | ((with_reducible refine is_awp ?_); refine awp_cond rfl (fun h => ?_) (fun h => ?_))
     | fail)
    simp only [List.append_eq, List.cons_append, List.nil_append]
    repeat' (first
     | refine awp_drawE 29 [⟨2, .data⟩, ⟨3, .data⟩] 30 rfl rfl rfl (by simp only [List.set_cons_zero, List.set_cons_succ, moreE, List.take_succ_cons, List.take_zero, List.take_nil]; rfl) (by simp only [List.set_cons_zero, List.set_cons_succ, moreE, List.drop_succ_cons, List.drop_zero, List.drop_nil]; rfl) (by kernel_rfl) rfl rfl rfl rfl (by repeat' (first | exact Strip.nil | apply Strip.keep rfl | apply Strip.drop rfl)) ?_
     | refine awpD_nw rfl qd0 (ev_bslice_o (t := 26) (n := 1) (es := [noteC (⟨x1, x2, x3, ⟨x4, x5⟩, x6, t⟩ : Note)]) rfl rfl rfl rfl rfl rfl rfl rfl rfl rfl rfl qf0 qc0) rfl rfl rfl rfl rfl qc0 qb0 ?_
     | refine awpD_sV rfl rfl (ev_appB (es' := d.notes.map noteC ++ [noteC (⟨x1, x2, x3, ⟨x4, x5⟩, x6, t⟩ : Note)]) rfl rfl rfl rfl rfl rfl rfl rfl rfl rfl rfl rfl rfl qe0 rfl rfl) rfl qb0 ?_
     | refine st [] ?_
     | ((with_reducible refine is_gd ?_); refine awpL_split rfl rfl (fun h => ?_) (fun h => ?_))
     | ((with_reducible refine isD_gd ?_); ((fail_if_success (refine isD_kn (c := true) rfl qa0 ?_)); (fail_if_success (refine isD_kn (c := false) rfl qa0 ?_)); refine awpD_split rfl (fun h => ?_) (fun h => ?_)))
     | ((with_reducible refine is_awp ?_); refine awp_cond rfl (fun h => ?_) (fun h => ?_))
     | fail)
    exact retI rfl ⟨rfl, rfl⟩
end Go.Proofs.YtigcjinpkngapaaGreatDoor
end
section
namespace Go.Proofs.YtigcjinpkngapaaGreatDoor
theorem mapM_all {α β : Type} {f : α → Option β} : ∀ {l : List α} {m : List β}, l.mapM f = some m → m.length = l.length ∧ ∀ y ∈ m, ∃ x ∈ l, f x = some y
  | [], m, h => by
    simp at h; subst h; simp
  | a :: r, m, h => by
    rw [List.mapM_cons] at h
    cases ha : f a with
    | none => rw [ha] at h; simp at h
    | some b =>
      cases hr : r.mapM f with
      | none => rw [ha, hr] at h; simp at h
      | some m' =>
        rw [ha, hr] at h
        simp at h
        subst h
        obtain ⟨h1, h2⟩ := mapM_all hr
        refine ⟨by simp [h1], fun y hy => ?_⟩
        rcases List.mem_cons.1 hy with rfl | hy
        · exact ⟨a, by simp, ha⟩
        · obtain ⟨x, hx, e⟩ := h2 y hy
          exact ⟨x, by simp [hx], e⟩
theorem flat_ge (s : List UInt8) : s.length ≤ (s.flatMap quoteC).length := by
  induction s with
  | nil => simp
  | cons a r ih =>
    rw [List.flatMap_cons, List.length_append, List.length_cons]
    have : 1 ≤ (quoteC a).length := by unfold quoteC; split <;> simp
    omega
theorem unquoteL_len {w s : List UInt8} (h : unquoteL w = some s) : s.length ≤ w.length := by
  unfold unquoteL at h
  split at h
  · injection h with h; subst h; simp
  split at h
  · cases h
  · have := quote_unq w.length w s (Nat.le_refl _) h
    rw [← this]
    exact flat_ge s
theorem splitW_fit {s : List UInt8} {ws : List (List UInt8)} (h : splitW s = some ws) : ws.length ≤ s.length + 1 ∧ ∀ w ∈ ws, w.length ≤ s.length := by
  unfold splitW at h
  split at h
  · injection h with h; subst h; simp
  · obtain ⟨h1, h2⟩ := mapM_all h
    refine ⟨by rw [h1]; exact splitOn_len 32 s, fun w hw => ?_⟩
    obtain ⟨x, hx, e⟩ := h2 w hw
    exact Nat.le_trans (unquoteL_len e) (splitOn_part 32 s x hx)
def zeroDoc : Doc := ⟨zeroRec, [], []⟩
def lineP (i : Nat) (d : Doc) (ln : ByteArray) : Option Doc := match splitW (lst ln) with
  | none => none
  | some ws => if i = 0 then (recP (ws.map toB)).map fun r => { d with rec_ := r } else furP d (ws.map toB)
def readF : Nat → Doc → List ByteArray → Doc × Nat
  | _, d, [] => (d, 0)
  | i, d, ln :: r => match lineP i d ln with
    | none => (d, i + 1)
    | some d' => readF (i + 1) d' r
theorem readF_drop {i : Nat} {d : Doc} {l : List ByteArray} {k : Nat} {x : ByteArray} (h : l[k]? = some x) : readF i d (l.drop k) = match lineP i d x with | none => (d, i + 1) | some d' => readF (i + 1) d' (l.drop (k + 1)) := by
  obtain ⟨h1, rfl⟩ := List.getElem?_eq_some_iff.1 h
  rw [List.drop_eq_getElem_cons h1]
  rfl
theorem furP_len {d d' : Doc} {w : List ByteArray} (h : furP d w = some d') : d'.tiers.length + d'.notes.length = d.tiers.length + d.notes.length + 1 := by
  unfold furP at h
  split at h
  · split at h
    · injection h with h; subst h; simp; omega
    · cases h
  · split at h
    · injection h with h; subst h; simp; omega
    · cases h
theorem words_fit {s : ByteArray} {ws : List (List UInt8)} (h : splitW (lst s) = some ws) : (ws.map toB).length ≤ s.size + 1 ∧ ∀ w ∈ ws.map toB, w.size ≤ s.size := by
  obtain ⟨h1, h2⟩ := splitW_fit h
  have hl : (lst s).length = s.size := size_list s
  rw [hl] at h1 h2
  refine ⟨by simpa using h1, fun w hw => ?_⟩
  obtain ⟨x, hx, rfl⟩ := List.mem_map.1 hw
  rw [toB_size]
  exact h2 x hx
end Go.Proofs.YtigcjinpkngapaaGreatDoor
end
section
namespace Go.Proofs.YtigcjinpkngapaaGreatDoor
theorem linesW_fit {s : List UInt8} {ls : List (List UInt8)} (h : linesW s = some ls) : ls.length ≤ s.length + 1 ∧ ∀ x ∈ ls, x.length ≤ s.length := by
  unfold linesW at h
  split at h
  · injection h with h; subst h; simp
  split at h
  · injection h with h
    subst h
    have hd : s.dropLast.length ≤ s.length := by rw [List.length_dropLast]; omega
    exact ⟨Nat.le_trans (splitOn_len 10 _) (by omega), fun x hx => Nat.le_trans (splitOn_part 10 _ x hx) hd⟩
  · cases h
theorem lines_fit {s : ByteArray} {ls : List (List UInt8)} (h : linesW (lst s) = some ls) : (ls.map toB).length ≤ s.size + 1 ∧ ∀ x ∈ ls.map toB, x.size ≤ s.size := by
  obtain ⟨h1, h2⟩ := linesW_fit h
  have hl : (lst s).length = s.size := size_list s
  rw [hl] at h1 h2
  refine ⟨by simpa using h1, fun w hw => ?_⟩
  obtain ⟨x, hx, rfl⟩ := List.mem_map.1 hw
  rw [toB_size]
  exact h2 x hx
theorem numsP_in : ∀ {l : List ByteArray} {m : List Int}, numsP l = some m → ∀ n ∈ m, inNum n
  | [], m, h, n, hn => by simp [numsP] at h; subst h; cases hn
  | s :: r, m, h, n, hn => by
    rw [numsP] at h
    cases hs : numP s with
    | none => rw [hs] at h; cases h
    | some k =>
      rw [hs] at h
      cases hr : numsP r with
      | none => rw [hr] at h; cases h
      | some m' =>
        rw [hr] at h
        simp at h
        subst h
        rcases List.mem_cons.1 hn with rfl | hn
        · exact numP_in hs
        · exact numsP_in hr n hn
structure RecIn (r : Recording) : Prop where
  i : inNum r.id
  l : inNum r.length
  d : inNum r.day
  s : ∀ n ∈ r.speakers, inNum n
structure TierIn (t : Tier) : Prop where
  k : inNum t.kind
  r : inNum t.role
  p : inNum t.parent
structure NoteIn (n : Note) : Prop where
  i : inNum n.id
  t : inNum n.tier
  p : inNum n.parent
  f : inNum n.span.fro
  e : inNum n.span.til
  r : inNum n.rank
structure DocIn (d : Doc) : Prop where
  r : RecIn d.rec_
  t : ∀ t ∈ d.tiers, TierIn t
  n : ∀ n ∈ d.notes, NoteIn n
theorem recP_spec {w : List ByteArray} {r : Recording} (h : recP w = some r) : ∃ k a nm b, w = k :: a :: nm :: b ∧ k = kRec ∧ 2 ≤ b.length ∧ r.name = nm ∧ numsP (a :: b) = some (r.id :: r.length :: r.day :: r.speakers) := by
  unfold recP at h
  split at h
  · rename_i k a nm b
    split at h
    · rename_i hc
      split at h
      · rename_i id x y sp hq
        injection h with h; subst h
        exact ⟨k, a, nm, b, rfl, hc.1, hc.2, rfl, hq⟩
      · cases h
    · cases h
  · cases h
theorem tierP_spec {w : List ByteArray} {t : Tier} (h : tierP w = some t) : ∃ a b c, w = [kTier, t.name, a, b, c] ∧ numsP [a, b, c] = some [t.kind, t.role, t.parent] := by
  unfold tierP at h
  split at h
  · rename_i k nm a b c
    split at h
    · rename_i hk
      split at h
      · rename_i x y z hq
        injection h with h; subst h
        exact ⟨a, b, c, by rw [hk], hq⟩
      · cases h
    · cases h
  · cases h
theorem noteP_spec {w : List ByteArray} {n : Note} (h : noteP w = some n) : ∃ a b c d e f, w = [kNote, a, b, c, d, e, f, n.text] ∧ numsP [a, b, c, d, e, f] = some [n.id, n.tier, n.parent, n.span.fro, n.span.til, n.rank] := by
  unfold noteP at h
  split at h
  · rename_i k a b c d e f t
    split at h
    · rename_i hk
      split at h
      · rename_i x1 x2 x3 x4 x5 x6 hq
        injection h with h; subst h
        exact ⟨a, b, c, d, e, f, by rw [hk], hq⟩
      · cases h
    · cases h
  · cases h
theorem recP_in {w : List ByteArray} {r : Recording} (h : recP w = some r) : RecIn r := by
  obtain ⟨k, a, nm, b, _, _, _, _, hq⟩ := recP_spec h
  have hi := numsP_in hq
  exact ⟨hi _ (by simp), hi _ (by simp), hi _ (by simp), fun n hn => hi n (by simp [hn])⟩
theorem tierP_in {w : List ByteArray} {t : Tier} (h : tierP w = some t) : TierIn t := by
  obtain ⟨a, b, c, _, hq⟩ := tierP_spec h
  have hi := numsP_in hq
  exact ⟨hi _ (by simp), hi _ (by simp), hi _ (by simp)⟩
theorem noteP_in {w : List ByteArray} {n : Note} (h : noteP w = some n) : NoteIn n := by
  obtain ⟨a, b, c, d, e, f, _, hq⟩ := noteP_spec h
  have hi := numsP_in hq
  exact ⟨hi _ (by simp), hi _ (by simp), hi _ (by simp), hi _ (by simp), hi _ (by simp), hi _ (by simp)⟩
theorem furP_in {d d' : Doc} {w : List ByteArray} (hd : DocIn d) (h : furP d w = some d') : DocIn d' := by
  unfold furP at h
  split at h
  · rename_i t ht
    split at h
    · injection h with h; subst h
      refine ⟨hd.r, fun x hx => ?_, hd.n⟩
      rcases List.mem_append.1 hx with hx | hx
      · exact hd.t x hx
      · simp only [List.mem_singleton] at hx; subst hx; exact tierP_in ht
    · cases h
  · split at h
    · rename_i n hn
      injection h with h; subst h
      refine ⟨hd.r, hd.t, fun x hx => ?_⟩
      rcases List.mem_append.1 hx with hx | hx
      · exact hd.n x hx
      · simp only [List.mem_singleton] at hx; subst hx; exact noteP_in hn
    · cases h
theorem lineP_in {i : Nat} {d d' : Doc} {x : ByteArray} (hd : DocIn d) (h : lineP i d x = some d') : DocIn d' := by
  unfold lineP at h
  split at h
  · cases h
  · split at h
    · obtain ⟨r, hr, rfl⟩ := Option.map_eq_some_iff.1 h
      exact ⟨recP_in hr, hd.t, hd.n⟩
    · exact furP_in hd h
theorem readF_in : ∀ (l : List ByteArray) (i : Nat) (d : Doc), DocIn d → DocIn (readF i d l).1
  | [], _, _, h => h
  | x :: r, i, d, h => by
    rw [readF]
    cases hq : lineP i d x with
    | none => exact h
    | some d' => exact readF_in r (i + 1) d' (lineP_in h hq)
theorem zero_in : DocIn zeroDoc := ⟨⟨by decide, by decide, by decide, fun n hn => (by cases hn)⟩, fun t ht => (by cases ht), fun t ht => (by cases ht)⟩
theorem readF_len : ∀ (l : List ByteArray) (i : Nat) (d : Doc), (readF i d l).1.tiers.length + (readF i d l).1.notes.length ≤ d.tiers.length + d.notes.length + l.length
  | [], _, _ => by simp [readF]
  | x :: r, i, d => by
    rw [readF]
    cases hq : lineP i d x with
    | none => simp
    | some d' =>
      have ih := readF_len r (i + 1) d'
      have : d'.tiers.length + d'.notes.length ≤ d.tiers.length + d.notes.length + 1 := by
        unfold lineP at hq
        split at hq
        · cases hq
        · split at hq
          · obtain ⟨r, hr, rfl⟩ := Option.map_eq_some_iff.1 hq
            simp only; omega
          · rw [furP_len hq]; omega
      simp only [List.length_cons]
      omega
theorem readF_rec {i : Nat} : ∀ (l : List ByteArray) (d : Doc), (readF (i + 1) d l).1.rec_ = d.rec_
  | [], _ => rfl
  | x :: r, d => by
    rw [readF]
    cases hq : lineP (i + 1) d x with
    | none => rfl
    | some d' =>
      rw [readF_rec r d']
      unfold lineP at hq
      split at hq
      · cases hq
      · rw [if_neg (by omega)] at hq
        unfold furP at hq
        split at hq
        · split at hq
          · injection hq with hq; subst hq; rfl
          · cases hq
        · split at hq
          · injection hq with hq; subst hq; rfl
          · cases hq
theorem readF_spk {l : List ByteArray} {m : Nat} (h : ∀ x ∈ l, x.size ≤ m) : (readF 0 zeroDoc l).1.rec_.speakers.length ≤ m + 1 := by
  cases l with
  | nil => simp [readF, zeroDoc, zeroRec]
  | cons x r =>
    rw [readF]
    cases hq : lineP 0 zeroDoc x with
    | none => simp [zeroDoc, zeroRec]
    | some d' =>
      simp only
      rw [readF_rec r d']
      unfold lineP at hq
      split at hq
      · cases hq
      · rename_i ws hw
        rw [if_pos rfl] at hq
        obtain ⟨r', hr, rfl⟩ := Option.map_eq_some_iff.1 hq
        obtain ⟨k, a, nm, b, e1, _, _, _, hn⟩ := recP_spec hr
        have h1 := (words_fit hw).1
        have h2 := numsP_len hn
        have h3 := h x (by simp)
        rw [e1] at h1
        simp only [List.length_cons] at h1 h2 ⊢
        omega
def Named (m : Nat) (d : Doc) : Prop := d.rec_.name.size ≤ m ∧ ∀ t ∈ d.tiers, t.name.size ≤ m
theorem lineP_named {m i : Nat} {d d' : Doc} {x : ByteArray} (hx : x.size ≤ m) (hd : Named m d) (h : lineP i d x = some d') : Named m d' := by
  unfold lineP at h
  split at h
  · cases h
  · rename_i ws hw
    have hws := (words_fit hw).2
    split at h
    · obtain ⟨r, hr, rfl⟩ := Option.map_eq_some_iff.1 h
      obtain ⟨k, a, nm, b, e1, _, _, e2, _⟩ := recP_spec hr
      refine ⟨?_, hd.2⟩
      have := hws nm (by rw [e1]; simp)
      rw [← e2] at this
      simp only; omega
    · unfold furP at h
      split at h
      · rename_i t ht
        split at h
        · injection h with h; subst h
          refine ⟨hd.1, fun y hy => ?_⟩
          rcases List.mem_append.1 hy with hy | hy
          · exact hd.2 y hy
          · simp only [List.mem_singleton] at hy; subst hy
            obtain ⟨a, b, c, e1, _⟩ := tierP_spec ht
            have := hws y.name (by rw [e1]; simp)
            omega
        · cases h
      · split at h
        · injection h with h; subst h
          exact hd
        · cases h
theorem readF_named {m : Nat} : ∀ (l : List ByteArray) (i : Nat) (d : Doc), (∀ x ∈ l, x.size ≤ m) → Named m d → Named m (readF i d l).1
  | [], _, _, _, h => h
  | x :: r, i, d, hx, h => by
    rw [readF]
    cases hq : lineP i d x with
    | none => exact h
    | some d' => exact readF_named r (i + 1) d' (fun y hy => hx y (by simp [hy])) (lineP_named (hx x (by simp)) h hq)
def parseD (s : List UInt8) : Doc × Int × Int :=
  if s = [] then (zeroDoc, 0, 4)
  else match linesW s with
    | none => (zeroDoc, 0, 3)
    | some ls =>
      if (readF 0 zeroDoc (ls.map toB)).2 ≠ 0 then (zeroDoc, ((readF 0 zeroDoc (ls.map toB)).2 : Int), 3)
      else if printE (readF 0 zeroDoc (ls.map toB)).1 ≠ 0 then (zeroDoc, 0, printE (readF 0 zeroDoc (ls.map toB)).1)
      else ((readF 0 zeroDoc (ls.map toB)).1, 0, 0)
end Go.Proofs.YtigcjinpkngapaaGreatDoor
end
section
namespace Go.Ac
section
variable {P : Program} {td : TDs} [T : TOK P td] {G : Glo} {N : Nat} {Q : AQ} {S : SL} {L : List LB} {ops : Array Oper} {rest : List Oper}
  {ty : TypeId} {pos : String} {af : Array Edge} {dd : Nat}
theorem awpL_tgt {f : FuncId} {us : Array Operand} {ats : Array TypeId} {te tp : TypeId} {k gv : Nat} {gx : AV} {gy n m r : Value} {L' : List LB}
    (hargs : vals G S us.toList = some [.ifc te (.agg [.v n]), .ifc tp (.lp k 0)]) (hk : L[k]? = some (.box [.v m])) (h1 : n.oneCell' = true) (hC : Callable P f)
    (hg : (gv, [gx]) ∈ G.g) (hgx : ∀ F w u, RF F w gx u → u = gy)
    (hS : ∀ (b : Nat) (w : World), w.cell? ⟨gv, 0, none⟩ = some gy → w.cell? ⟨b, 0, none⟩ = some m → w.frozen? ⟨b, 0, none⟩ = false → Calls P f #[.iface te (.agg #[n]), .iface tp (.pointer (some ⟨b, 0, none⟩))] w fun e w' => e = .returned r ∧ ∃ c os, w' = (Go.Sort.grow (Go.Sort.ahead w c) os).setCell ⟨b, 0, none⟩ n)
    (hd : Nat.blt dd N = true) (hL : L.set k (.box [.v n]) = L')
    (kk : awpL P G N ops rest Q ((dd, .v r) :: S) L') :
    awpL P G N ops (⟨some dd, .call { callee := .value (.func f), args := us, argTypes := ats }, ty, pos, af, none⟩ :: rest) Q S L := by
  subst hL
  intro cx a hc
  have hr := vals_R hc hargs
  have hb := hc.st.blk k _ hk
  simp only [BR] at hb
  obtain ⟨b0, b, arr, T', e1, e2, e3, e4⟩ := hb
  simp only [TR, R, RF, LF] at hr
  obtain ⟨y1, s1, hs, ⟨u1, rfl, xs, rfl, z1, z2, hz1, rfl, _, rfl⟩, y2, s2, rfl, ⟨u2, rfl, o1, o2, o3⟩, rfl⟩ := hr
  obtain ⟨b', e1', rfl⟩ := o3 b0
  rw [e1] at e1'; injection e1' with e1'; subst e1'
  have hvs : us.map a.eval = #[.iface te (.agg #[z1]), .iface tp (.pointer (some ⟨b, 0, none⟩))] := by
    have hx : xs = #[z1] := by rw [← Array.toArray_toList (xs := xs), hz1]
    subst hx
    have : (us.map a.eval).toList = [.iface te (.agg #[z1]), .iface tp (.pointer (some ⟨b, 0, none⟩))] := by simpa using hs
    rw [← Array.toArray_toList (xs := us.map a.eval), this]
  have hblk : b < cx.w.heap.size := (hc.st.loc k b e1).2.2
  obtain ⟨u, q1, q2, q3⟩ := e4.get (i := 0) (x := .v m) rfl
  simp only [R] at q2
  subst q2
  have hgc : cx.w.cell? ⟨gv, 0, none⟩ = some gy := by
    obtain ⟨u, g1, g2, _⟩ := MF.get (hc.st.glob _ hg).2.1 (i := 0) (x := gx) rfl
    have g1 : cx.w.cell? ⟨gv, 0, none⟩ = some u := by simpa using g1
    rw [g1, hgx _ _ _ g2]
  refine wpListIn_plain rfl fun K hK => wpIn_of_run rfl ?_
  rw [run_call hC (o := ⟨some dd, .call { callee := .value (.func f), args := us, argTypes := ats }, ty, pos, af, none⟩) rfl a cx.w, Oper.uponIn_enter, hvs]
  refine ⟨fun h => by simp at h, CallsIn.mono (callsIn_wide.2 (hS b cx.w hgc q1 (by simp [World.frozen?, e2]))) ?_⟩
  rintro e w' ⟨rfl, c, os, rfl⟩
  have hst1 := hc.st.afterS (F := cx.F) (F' := cx.F) (ext_grow cx.F cx.w hc.st.inF c os)
  generalize hw1 : Go.Sort.grow (Go.Sort.ahead cx.w c) os = w1 at *
  have hh1 : w1.heap[b]? = some (.cells arr T' (0, 0)) := by rw [← hw1, ← e2]; simp [Go.Sort.grow, Go.Sort.ahead, Array.getElem?_append_left hblk]
  have hheap : ∀ b', (w1.setCell ⟨b, 0, none⟩ z1).heap[b']? = if b = b' then some (.cells (arr.setIfInBounds 0 z1) T' (0, 0)) else w1.heap[b']? := by
    intro b'
    simp only [World.setCell, Array.getElem?_modify]
    by_cases e : b = b'
    · subst e; simp [hh1]
    · simp [e]
  have hst2 := hst1.st.wr (k := k) (b := b) (w' := w1.setCell ⟨b, 0, none⟩ z1) e1 rfl rfl rfl (by simp [World.setCell]) (fun b' h => by rw [hheap, if_neg (Ne.symm h)])
    (fun arr' T'' h => by
      have h : w1.heap[b]? = some (.cells arr' T'' (0, 0)) := h
      rw [hh1] at h; cases h
      exact ⟨_, by rw [hheap, if_pos rfl], by simp⟩) (by rw [hk]; simp) (x := .box [.v z1])
    (fun _ => by
      simp only [BR]
      refine ⟨b0, b, _, T', e1, by rw [hheap, if_pos rfl], by simpa using e3, MR.mk fun j x hx => ?_⟩
      match j, hx with
      | 0, hx =>
        have hx : AV.v z1 = x := by simpa using hx
        subst hx
        have h0 : 0 < arr.size := by simp at e3; omega
        exact ⟨z1, by simp [World.cell?, hheap, h0], by simp only [R], h1⟩)
  have htup : ∀ c : Cx, R c (.v r) r := fun c => by simp only [R]
  exact hK _ _ (wpListIn_mono (fun e a w q => q.trans (hst1.ext.trans hst2.ext)) _ _ _ (kk _ _ ((hst2.cn (hst1.cn hc)).put hd (htup _))))
end
end Go.Ac
namespace Go.Ac
section
variable {P : Program} {G : Glo} {N : Nat} {S : SL} {L : List LB} {ty : TypeId} {x : AV}
theorem ev_mkifc {xt : TypeId} {u : Operand} {d : TypeDesc} (h : val G S u = some x) (hu : P.underlying xt = some d) (hn : (match d with | .interface _ => false | _ => true) = true) : Ev P G N (.makeInterface xt u) ty S L (.ifc xt x) := by
  intro o ho _ cx a hc
  have e1 := val_R hc h
  refine ⟨.iface xt (a.eval u), ?_, by simp only [R]; exact ⟨_, rfl, e1⟩⟩
  have : (Instr.makeInterface xt (a.eval u)).run P cx.w = .ok (.iface xt (a.eval u)) cx.w := by
    cases d <;> simp_all [Instr.makeInterface, run_underlying hu, Result.andThen]
  simp only [execOp, ho, Sem.run_bind, this, Result.andThen_ok, Sem.run_pure]
end
end Go.Ac
end
