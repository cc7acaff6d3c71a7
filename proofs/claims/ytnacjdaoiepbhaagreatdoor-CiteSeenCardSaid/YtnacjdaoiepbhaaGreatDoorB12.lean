/- A logic of trees over the model's steps, and the contracts of the functions that the laws reach: part 12 of 19. -/
import Derived.Test.YtnacjdaoiepbhaaGreatDoorB11
set_option linter.unusedVariables false
set_option linter.unusedSimpArgs false
set_option linter.unusedSectionVars false
section
namespace Go.Proofs.YtnacjdaoiepbhaaGreatDoor
open Go.Ac
attribute [local irreducible] awp awpL Ev Ev2 EvS thenQ blockQ retQ PCalls OCalls
variable {g : List (Nat × List AV)}
def citeC (c : Cite) : List AV := [.v (.int .i64 c.rec_), .v (.int .i64 c.note), .v (.int .i64 c.at_.count), .v (.int .i64 c.at_.dev)]
theorem ext_toB (s : ByteArray) (a b : Nat) : s.extract a b = toB ((s.data.toList.take b).drop a) := by
  apply ByteArray.ext
  rw [ByteArray.data_extract]
  apply Array.ext'
  simp [List.drop_take, toB]
abbrev cutV (d : ByteArray) (o : Option (ByteArray × ByteArray)) : AV := .tup [.v (.string (o.getD (d, .empty)).1), .v (.string (o.getD (d, .empty)).2), vb o.isSome]
set_option maxHeartbeats 1000000 in
theorem cut_spec (s : ByteArray) (c : UInt8) (n : Int) (hn : (c.toNat : Int) = n) (hs : s.size ≤ 281474976710656) : PCalls Tryz.prog g 39 [.v (.string s), .v (.int .u8 n)] (cutV s (cutB s c)) := by
  have hlen := size_list s
  refine pcalls' Tryz.func39 Tryz.ntmps39 rfl rfl rfl ?_
  repeat' (first
   | refine stn [] ?_
   | ((with_reducible refine is_gd ?_); refine awpL_split rfl rfl (fun h => ?_) (fun h => ?_))
   | ((with_reducible refine is_awp ?_); refine awp_cond rfl (fun h => ?_) (fun h => ?_))
   | fail)
  refine awp_for (α := Nat) 0 (fun k => [(0, .v (.string s)), (1, .v (.int .u8 n)), (7, vi k)]) (fun _ => []) (fun k => k ≤ s.size ∧ ∀ (j : Nat) (b : UInt8), j < k → s.data.toList[j]? = some b → b ≠ c) (fun k => s.size - k) 0
    ⟨(.cons rfl rfl (.cons rfl rfl (.cons rfl rfl .nil))), rfl, rfl, rfl⟩ ⟨by omega, fun j b h => absurd h (Nat.not_lt_zero _)⟩ ?_
  rintro k ⟨hk, hf⟩
  have hsk := cutL_skip hf
  cases ht : s.data.toList[k]? with
  | none =>
    have hge : s.size ≤ k := by have := List.getElem?_eq_none_iff.1 ht; omega
    have c1 : decide ((k : Int) < s.size) = false := decide_eq_false (by omega)
    have hc : cutB s c = none := by unfold cutB; rw [hsk, List.drop_of_length_le (by omega)]; rfl
    rw [hc]
    repeat' (first
     | refine stn [] ?_
     | ((with_reducible refine is_gd ?_); refine awpL_split rfl rfl (fun h => ?_) (fun h => ?_))
     | ((with_reducible refine is_awp ?_); refine awp_cond rfl (fun h => ?_) (fun h => ?_))
     | fail)
    exact retP rfl rfl
  | some b =>
    have hlt : k < s.size := by have := (List.getElem?_eq_some_iff.1 ht).1; omega
    have c1 : decide ((k : Int) < s.size) = true := decide_eq_true (by omega)
    have ik := byteL_get ht
    by_cases e : b = c
    · have c2 : decide ((b.toNat : Int) = n) = true := decide_eq_true (by rw [e, hn])
      have x1 : s.extract (0 : Int).toNat (k : Int).toNat = toB (s.data.toList.take k) := by rw [ext_toB]; simp
      have x2 : s.extract ((k : Int) + 1).toNat (s.size : Int).toNat = toB (s.data.toList.drop (k + 1)) := by
        rw [ext_toB, show ((k : Int) + 1).toNat = k + 1 by omega, show (s.size : Int).toNat = s.size by omega, List.take_of_length_le (by omega)]
      have hc : cutB s c = some (toB (s.data.toList.take k), toB (s.data.toList.drop (k + 1))) := by
        unfold cutB
        rw [hsk, dropB_cons ht, e]
        simp [cutL]
      rw [hc]
      repeat' (first
       | ((with_reducible refine isD_un ?_); (first | refine awpD_un (as_ev (fun _ => ev_slice_str rfl rfl rfl rfl rfl (by omega) x1) rfl rfl) (by (try simp only [List.nil_append, List.cons_append]); (try rfl)) ?_ | refine awpD_un (as_ev (fun _ => ev_slice_str rfl rfl rfl rfl rfl (by omega) x2) rfl rfl) (by (try simp only [List.nil_append, List.cons_append]); (try rfl)) ?_))
       | ((with_reducible refine isD_gd ?_); (first | refine awpD_gd rfl rfl (by first | with_reducible rfl | with_reducible assumption) (as_ev (fun _ => ev_slice_str rfl rfl rfl rfl rfl (by omega) x1) rfl rfl) (by (try simp only [List.nil_append, List.cons_append]); (try rfl)) ?_ | refine awpD_gd rfl rfl (by first | with_reducible rfl | with_reducible assumption) (as_ev (fun _ => ev_slice_str rfl rfl rfl rfl rfl (by omega) x2) rfl rfl) (by (try simp only [List.nil_append, List.cons_append]); (try rfl)) ?_))
       | refine st [] ?_
       | ((with_reducible refine is_gd ?_); refine awpL_split rfl rfl (fun h => ?_) (fun h => ?_))
       | ((with_reducible refine isD_gd ?_); ((fail_if_success (refine isD_kn (c := true) rfl (by first | with_reducible rfl | with_reducible assumption) ?_)); (fail_if_success (refine isD_kn (c := false) rfl (by first | with_reducible rfl | with_reducible assumption) ?_)); refine awpD_split rfl (fun h => ?_) (fun h => ?_)))
       | ((with_reducible refine is_awp ?_); refine awp_cond rfl (fun h => ?_) (fun h => ?_))
       | fail)
      exact retP rfl rfl
    · have c2 : decide ((b.toNat : Int) = n) = false := decide_eq_false (fun q => e (UInt8.toNat_inj.1 (by omega)))
      repeat' (first
       | refine stn [] ?_
       | ((with_reducible refine is_gd ?_); refine awpL_split rfl rfl (fun h => ?_) (fun h => ?_))
       | ((with_reducible refine is_awp ?_); refine awp_cond rfl (fun h => ?_) (fun h => ?_))
       | fail)
      refine ⟨k + 1, ⟨(.cons rfl rfl (.cons rfl rfl (.cons rfl rfl .nil))), rfl, rfl, rfl⟩, ⟨by omega, fun j x hj hx => ?_⟩, by omega⟩
      rcases Nat.lt_or_ge j k with h | h
      · exact hf j x h hx
      · obtain rfl : j = k := by omega
        rw [ht] at hx
        rw [← Option.some.inj hx]
        exact e
set_option maxHeartbeats 1000000 in
theorem rbefore_spec (s : ByteArray) (c : UInt8) (n : Int) (hn : (c.toNat : Int) = n) (hs : s.size ≤ 281474976710656) : PCalls Tryz.prog g 42 [.v (.string s), .v (.int .u8 n)] (cutV .empty (cutB s c)) := by
  have hlen := size_list s
  refine pcalls' Tryz.func42 Tryz.ntmps42 rfl rfl rfl ?_
  repeat' (first
   | refine stn [] ?_
   | ((with_reducible refine is_gd ?_); refine awpL_split rfl rfl (fun h => ?_) (fun h => ?_))
   | ((with_reducible refine is_awp ?_); refine awp_cond rfl (fun h => ?_) (fun h => ?_))
   | fail)
  refine awp_for (α := Nat) 0 (fun k => [(0, .v (.string s)), (1, .v (.int .u8 n)), (7, vi k)]) (fun _ => []) (fun k => k ≤ s.size ∧ ∀ (j : Nat) (b : UInt8), j < k → s.data.toList[j]? = some b → b ≠ c) (fun k => s.size - k) 0
    ⟨(.cons rfl rfl (.cons rfl rfl (.cons rfl rfl .nil))), rfl, rfl, rfl⟩ ⟨by omega, fun j b h => absurd h (Nat.not_lt_zero _)⟩ ?_
  rintro k ⟨hk, hf⟩
  have hsk := cutL_skip hf
  cases ht : s.data.toList[k]? with
  | none =>
    have hge : s.size ≤ k := by have := List.getElem?_eq_none_iff.1 ht; omega
    have c1 : decide ((k : Int) < s.size) = false := decide_eq_false (by omega)
    have hc : cutB s c = none := by unfold cutB; rw [hsk, List.drop_of_length_le (by omega)]; rfl
    rw [hc]
    repeat' (first
     | refine stn [] ?_
     | ((with_reducible refine is_gd ?_); refine awpL_split rfl rfl (fun h => ?_) (fun h => ?_))
     | ((with_reducible refine is_awp ?_); refine awp_cond rfl (fun h => ?_) (fun h => ?_))
     | fail)
    exact retP rfl rfl
  | some b =>
    have hlt : k < s.size := by have := (List.getElem?_eq_some_iff.1 ht).1; omega
    have c1 : decide ((k : Int) < s.size) = true := decide_eq_true (by omega)
    have ik := byteL_get ht
    by_cases e : b = c
    · have c2 : decide ((b.toNat : Int) = n) = true := decide_eq_true (by rw [e, hn])
      have x1 : s.extract (0 : Int).toNat (k : Int).toNat = toB (s.data.toList.take k) := by rw [ext_toB]; simp
      have x2 : s.extract ((k : Int) + 1).toNat (s.size : Int).toNat = toB (s.data.toList.drop (k + 1)) := by
        rw [ext_toB, show ((k : Int) + 1).toNat = k + 1 by omega, show (s.size : Int).toNat = s.size by omega, List.take_of_length_le (by omega)]
      have hc : cutB s c = some (toB (s.data.toList.take k), toB (s.data.toList.drop (k + 1))) := by
        unfold cutB
        rw [hsk, dropB_cons ht, e]
        simp [cutL]
      rw [hc]
      repeat' (first
       | ((with_reducible refine isD_un ?_); (first | refine awpD_un (as_ev (fun _ => ev_slice_str rfl rfl rfl rfl rfl (by omega) x1) rfl rfl) (by (try simp only [List.nil_append, List.cons_append]); (try rfl)) ?_ | refine awpD_un (as_ev (fun _ => ev_slice_str rfl rfl rfl rfl rfl (by omega) x2) rfl rfl) (by (try simp only [List.nil_append, List.cons_append]); (try rfl)) ?_))
       | ((with_reducible refine isD_gd ?_); (first | refine awpD_gd rfl rfl (by first | with_reducible rfl | with_reducible assumption) (as_ev (fun _ => ev_slice_str rfl rfl rfl rfl rfl (by omega) x1) rfl rfl) (by (try simp only [List.nil_append, List.cons_append]); (try rfl)) ?_ | refine awpD_gd rfl rfl (by first | with_reducible rfl | with_reducible assumption) (as_ev (fun _ => ev_slice_str rfl rfl rfl rfl rfl (by omega) x2) rfl rfl) (by (try simp only [List.nil_append, List.cons_append]); (try rfl)) ?_))
       | refine st [] ?_
       | ((with_reducible refine is_gd ?_); refine awpL_split rfl rfl (fun h => ?_) (fun h => ?_))
       | ((with_reducible refine isD_gd ?_); ((fail_if_success (refine isD_kn (c := true) rfl (by first | with_reducible rfl | with_reducible assumption) ?_)); (fail_if_success (refine isD_kn (c := false) rfl (by first | with_reducible rfl | with_reducible assumption) ?_)); refine awpD_split rfl (fun h => ?_) (fun h => ?_)))
       | ((with_reducible refine is_awp ?_); refine awp_cond rfl (fun h => ?_) (fun h => ?_))
       | fail)
      exact retP rfl rfl
    · have c2 : decide ((b.toNat : Int) = n) = false := decide_eq_false (fun q => e (UInt8.toNat_inj.1 (by omega)))
      repeat' (first
       | refine stn [] ?_
       | ((with_reducible refine is_gd ?_); refine awpL_split rfl rfl (fun h => ?_) (fun h => ?_))
       | ((with_reducible refine is_awp ?_); refine awp_cond rfl (fun h => ?_) (fun h => ?_))
       | fail)
      refine ⟨k + 1, ⟨(.cons rfl rfl (.cons rfl rfl (.cons rfl rfl .nil))), rfl, rfl, rfl⟩, ⟨by omega, fun j x hj hx => ?_⟩, by omega⟩
      rcases Nat.lt_or_ge j k with h | h
      · exact hf j x h hx
      · obtain rfl : j = k := by omega
        rw [ht] at hx
        rw [← Option.some.inj hx]
        exact e
theorem cutB_size {s x y : ByteArray} {c : UInt8} (h : cutB s c = some (x, y)) : x.size + y.size < s.size := by
  obtain ⟨h1, _⟩ := cutB_some h
  have := congrArg ByteArray.size h1
  rw [toB_size, List.length_append, List.length_cons, size_list, size_list] at this
  omega
abbrev pairR (p : Int × Int × Bool) : AV := .tup [vi p.1, vi p.2.1, vb p.2.2]
set_option maxHeartbeats 1000000 in
theorem pair_spec (hN : NumG g) (s : ByteArray) (hs : s.size ≤ 281474976710656) : PCalls Tryz.prog g 40 [.v (.string s)] (pairR (pairV s)) := by
  have hC := cut_spec (g := g) s 46 46 rfl hs
  have n1 : (!true) = false := rfl
  have n2 : (!false) = true := rfl
  refine pcalls' Tryz.func40 Tryz.ntmps40 rfl rfl rfl ?_
  unfold pairV
  cases hc : cutB s 46 with
  | none =>
    rw [cutV, hc] at hC
    simp only [Option.getD_none, Option.isSome_none] at hC
    repeat' (first
     | refine stn [] ?_
     | ((with_reducible refine is_gd ?_); refine awpL_split rfl rfl (fun h => ?_) (fun h => ?_))
     | ((with_reducible refine is_awp ?_); refine awp_cond rfl (fun h => ?_) (fun h => ?_))
     | fail)
    exact retP rfl rfl
  | some p =>
    obtain ⟨x, y⟩ := p
    have hsz := cutB_size hc
    rw [cutV, hc] at hC
    simp only [Option.getD_some, Option.isSome_some] at hC
    have hx := NParse_spec hN x (by omega)
    have hy := NParse_spec hN y (by omega)
    rw [parseV] at hx hy
    simp only
    cases hp : (numP x).isSome with
    | true =>
      rw [hp] at hx
      repeat' (first
       | refine stn [] ?_
       | ((with_reducible refine is_gd ?_); refine awpL_split rfl rfl (fun h => ?_) (fun h => ?_))
       | ((with_reducible refine is_awp ?_); refine awp_cond rfl (fun h => ?_) (fun h => ?_))
       | fail)
      exact retP rfl rfl
    | false =>
      rw [hp] at hx
      repeat' (first
       | refine stn [] ?_
       | ((with_reducible refine is_gd ?_); refine awpL_split rfl rfl (fun h => ?_) (fun h => ?_))
       | ((with_reducible refine is_awp ?_); refine awp_cond rfl (fun h => ?_) (fun h => ?_))
       | fail)
      exact retP rfl rfl
theorem numP_nil : numP .empty = none := by
  cases h : numP .empty with
  | none => rfl
  | some n =>
    obtain ⟨h1, h2⟩ := numP_some.1 h
    have := numT_len n (by unfold inNum at h2; omega)
    rw [h1] at this
    exact absurd this.1 (by decide)
set_option maxHeartbeats 1000000 in
theorem rtwo_spec (hN : NumG g) (s : ByteArray) (hs : s.size ≤ 1000000) : PCalls Tryz.prog g 43 [.v (.string s)] (pairR (pairV s)) := by
  have hC := rbefore_spec (g := g) s 46 46 rfl (by omega)
  refine pcalls' Tryz.func43 Tryz.ntmps43 rfl rfl rfl ?_
  unfold pairV
  cases hc : cutB s 46 with
  | none =>
    rw [cutV, hc] at hC
    simp only [Option.getD_none, Option.isSome_none] at hC
    have hx := rNParse_spec (g := g) .empty (by decide)
    rw [parseV, numP_nil] at hx
    simp only [Option.getD_none, Option.isSome_none] at hx
    repeat' (first
     | refine stn [] ?_
     | ((with_reducible refine is_gd ?_); refine awpL_split rfl rfl (fun h => ?_) (fun h => ?_))
     | ((with_reducible refine is_awp ?_); refine awp_cond rfl (fun h => ?_) (fun h => ?_))
     | fail)
    exact retP rfl rfl
  | some p =>
    obtain ⟨x, y⟩ := p
    have hsz := cutB_size hc
    rw [cutV, hc] at hC
    simp only [Option.getD_some, Option.isSome_some] at hC
    have hx := rNParse_spec (g := g) x (by omega)
    have hy := rNParse_spec (g := g) y (by omega)
    rw [parseV] at hx hy
    simp only
    cases hp : (numP x).isSome with
    | true =>
      rw [hp] at hx
      repeat' (first
       | refine stn [] ?_
       | ((with_reducible refine is_gd ?_); refine awpL_split rfl rfl (fun h => ?_) (fun h => ?_))
       | ((with_reducible refine is_awp ?_); refine awp_cond rfl (fun h => ?_) (fun h => ?_))
       | fail)
      exact retP rfl rfl
    | false =>
      rw [hp] at hx
      repeat' (first
       | refine stn [] ?_
       | ((with_reducible refine is_gd ?_); refine awpL_split rfl rfl (fun h => ?_) (fun h => ?_))
       | ((with_reducible refine is_awp ?_); refine awp_cond rfl (fun h => ?_) (fun h => ?_))
       | fail)
      exact retP rfl rfl
abbrev citeV (o : Option Cite) : AV := .tup [.agg (citeC (o.getD zeroCite)), vi (if o.isSome then 0 else 3)]
theorem cut_nil : pairV .empty = (0, 0, false) := by unfold pairV; rw [show cutB .empty 46 = none from rfl]
set_option maxHeartbeats 1000000 in
theorem CParse_spec (hN : NumG g) (s : ByteArray) (hs : s.size ≤ 281474976710656) : PCalls Tryz.prog g 15 [.v (.string s)] (citeV (citeP s)) := by
  have hC := cut_spec (g := g) s 64 64 rfl (by omega)
  have n1 : (!true) = false := rfl
  have n2 : (!false) = true := rfl
  refine pcalls' Tryz.func15 Tryz.ntmps15 rfl rfl rfl ?_
  unfold citeP
  cases hc : cutB s 64 with
  | none =>
    rw [cutV, hc] at hC
    simp only [Option.getD_none, Option.isSome_none] at hC
    have hx := pair_spec hN s (by first | exact hs | decide)
    have hy := pair_spec hN ByteArray.empty (by decide)
    rw [cut_nil] at hy
    generalize pairV s = q at *
    obtain ⟨q1, q2, q3⟩ := q
    repeat' (first
     | refine stn [2] ?_
     | ((with_reducible refine is_gd ?_); refine awpL_split rfl rfl (fun h => ?_) (fun h => ?_))
     | ((with_reducible refine is_awp ?_); refine awp_cond rfl (fun h => ?_) (fun h => ?_))
     | fail)
    refine retP rfl ?_
    rfl
  | some p =>
    obtain ⟨x, y⟩ := p
    have hsz := cutB_size hc
    rw [cutV, hc] at hC
    simp only [Option.getD_some, Option.isSome_some] at hC
    have hx := pair_spec hN x (by omega)
    have hy := pair_spec hN y (by omega)
    simp only
    generalize pairV x = q at *
    generalize pairV y = r at *
    obtain ⟨q1, q2, q3⟩ := q
    obtain ⟨r1, r2, r3⟩ := r
    cases q3 <;> cases r3
    all_goals
      repeat' (first
       | refine stn [2] ?_
       | ((with_reducible refine is_gd ?_); refine awpL_split rfl rfl (fun h => ?_) (fun h => ?_))
       | ((with_reducible refine is_awp ?_); refine awp_cond rfl (fun h => ?_) (fun h => ?_))
       | fail)
      refine retP rfl ?_
      rfl
set_option maxHeartbeats 1000000 in
theorem rCParse_spec (hN : NumG g) (s : ByteArray) (hs : s.size ≤ 1000000) : PCalls Tryz.prog g 17 [.v (.string s)] (citeV (citeP s)) := by
  have hC := rbefore_spec (g := g) s 64 64 rfl (by omega)
  have n1 : (!true) = false := rfl
  have n2 : (!false) = true := rfl
  refine pcalls' Tryz.func17 Tryz.ntmps17 rfl rfl rfl ?_
  unfold citeP
  cases hc : cutB s 64 with
  | none =>
    rw [cutV, hc] at hC
    simp only [Option.getD_none, Option.isSome_none] at hC
    have hx := rtwo_spec hN ByteArray.empty (by first | exact hs | decide)
    have hy := rtwo_spec hN ByteArray.empty (by decide)
    rw [cut_nil] at hy
    generalize pairV ByteArray.empty = q at *
    obtain ⟨q1, q2, q3⟩ := q
    repeat' (first
     | refine stn [2] ?_
     | ((with_reducible refine is_gd ?_); refine awpL_split rfl rfl (fun h => ?_) (fun h => ?_))
     | ((with_reducible refine is_awp ?_); refine awp_cond rfl (fun h => ?_) (fun h => ?_))
     | fail)
    refine retP rfl ?_
    rfl
  | some p =>
    obtain ⟨x, y⟩ := p
    have hsz := cutB_size hc
    rw [cutV, hc] at hC
    simp only [Option.getD_some, Option.isSome_some] at hC
    have hx := rtwo_spec hN x (by omega)
    have hy := rtwo_spec hN y (by omega)
    simp only
    generalize pairV x = q at *
    generalize pairV y = r at *
    obtain ⟨q1, q2, q3⟩ := q
    obtain ⟨r1, r2, r3⟩ := r
    cases q3 <;> cases r3
    all_goals
      repeat' (first
       | refine stn [2] ?_
       | ((with_reducible refine is_gd ?_); refine awpL_split rfl rfl (fun h => ?_) (fun h => ?_))
       | ((with_reducible refine is_awp ?_); refine awp_cond rfl (fun h => ?_) (fun h => ?_))
       | fail)
      refine retP rfl ?_
      rfl
theorem printB_cat (c : Cite) : ((((((numT c.rec_ ++ ⟨#[46]⟩) ++ numT c.note) ++ ⟨#[64]⟩) ++ numT c.at_.count) ++ ⟨#[46]⟩) ++ numT c.at_.dev) = printB c := by
  have e46 : (⟨#[46]⟩ : ByteArray) = toB [46] := rfl
  have e64 : (⟨#[64]⟩ : ByteArray) = toB [64] := rfl
  rw [e46, e64]
  simp only [numT_toB, toB_cat]
  unfold printB citeT pairT
  simp
theorem NText_GL (hN : NumG g) (n : Int) (h : I6 n) : PCalls Tryz.prog g 37 [vi n] (.v (.string (numT n))) := NText_spec hN n h
theorem rNText_GL (hN : NumG g) (n : Int) (h : I6 n) : PCalls Tryz.prog g 38 [vi n] (.v (.string (numT n))) := rNText_spec n h
set_option maxHeartbeats 2000000 in
theorem CPrint_spec (hN : NumG g) (c : Cite) (hc : CiteI c) : PCalls Tryz.prog g 13 [.agg (citeC c)] (.v (.string (printB c))) := by
  obtain ⟨i1, i2, i3, i4⟩ := hc
  have h1 := NText_GL hN c.rec_ i1
  have h2 := NText_GL hN c.note i2
  have h3 := NText_GL hN c.at_.count i3
  have h4 := NText_GL hN c.at_.dev i4
  have l1 := (numT_len _ i1).2
  have l2 := (numT_len _ i2).2
  have l3 := (numT_len _ i3).2
  have l4 := (numT_len _ i4).2
  have z1 : (⟨#[46]⟩ : ByteArray).size = 1 := rfl
  have z2 : (⟨#[64]⟩ : ByteArray).size = 1 := rfl
  have hE := printB_cat c
  refine pcalls' Tryz.func13 Tryz.ntmps13 rfl rfl rfl ?_
  rw [← hE]
  clear hE
  generalize numT c.rec_ = t1 at *
  generalize numT c.note = t2 at *
  generalize numT c.at_.count = t3 at *
  generalize numT c.at_.dev = t4 at *
  repeat' (first
   | ((with_reducible refine isD_un ?_); refine awpD_un (as_ev (fun _ => ev_cat rfl rfl (by (try simp only [ByteArray.size_append]); omega)) rfl rfl) (by (try simp only [List.nil_append, List.cons_append]); (try rfl)) ?_)
   | ((with_reducible refine isD_gd ?_); refine awpD_gd rfl rfl (by first | with_reducible rfl | with_reducible assumption) (as_ev (fun _ => ev_cat rfl rfl (by (try simp only [ByteArray.size_append]); omega)) rfl rfl) (by (try simp only [List.nil_append, List.cons_append]); (try rfl)) ?_)
   | refine st [] ?_
   | ((with_reducible refine is_gd ?_); refine awpL_split rfl rfl (fun h => ?_) (fun h => ?_))
   | ((with_reducible refine isD_gd ?_); ((fail_if_success (refine isD_kn (c := true) rfl (by first | with_reducible rfl | with_reducible assumption) ?_)); (fail_if_success (refine isD_kn (c := false) rfl (by first | with_reducible rfl | with_reducible assumption) ?_)); refine awpD_split rfl (fun h => ?_) (fun h => ?_)))
   | ((with_reducible refine is_awp ?_); refine awp_cond rfl (fun h => ?_) (fun h => ?_))
   | fail)
  exact retP rfl rfl
set_option maxHeartbeats 2000000 in
theorem rCPrint_spec (hN : NumG g) (c : Cite) (hc : CiteI c) : PCalls Tryz.prog g 14 [.agg (citeC c)] (.v (.string (printB c))) := by
  obtain ⟨i1, i2, i3, i4⟩ := hc
  have h1 := rNText_GL hN c.rec_ i1
  have h2 := rNText_GL hN c.note i2
  have h3 := rNText_GL hN c.at_.count i3
  have h4 := rNText_GL hN c.at_.dev i4
  have l1 := (numT_len _ i1).2
  have l2 := (numT_len _ i2).2
  have l3 := (numT_len _ i3).2
  have l4 := (numT_len _ i4).2
  have z1 : (⟨#[46]⟩ : ByteArray).size = 1 := rfl
  have z2 : (⟨#[64]⟩ : ByteArray).size = 1 := rfl
  have hE := printB_cat c
  refine pcalls' Tryz.func14 Tryz.ntmps14 rfl rfl rfl ?_
  rw [← hE]
  clear hE
  generalize numT c.rec_ = t1 at *
  generalize numT c.note = t2 at *
  generalize numT c.at_.count = t3 at *
  generalize numT c.at_.dev = t4 at *
  repeat' (first
   | ((with_reducible refine isD_un ?_); refine awpD_un (as_ev (fun _ => ev_cat rfl rfl (by (try simp only [ByteArray.size_append]); omega)) rfl rfl) (by (try simp only [List.nil_append, List.cons_append]); (try rfl)) ?_)
   | ((with_reducible refine isD_gd ?_); refine awpD_gd rfl rfl (by first | with_reducible rfl | with_reducible assumption) (as_ev (fun _ => ev_cat rfl rfl (by (try simp only [ByteArray.size_append]); omega)) rfl rfl) (by (try simp only [List.nil_append, List.cons_append]); (try rfl)) ?_)
   | refine st [] ?_
   | ((with_reducible refine is_gd ?_); refine awpL_split rfl rfl (fun h => ?_) (fun h => ?_))
   | ((with_reducible refine isD_gd ?_); ((fail_if_success (refine isD_kn (c := true) rfl (by first | with_reducible rfl | with_reducible assumption) ?_)); (fail_if_success (refine isD_kn (c := false) rfl (by first | with_reducible rfl | with_reducible assumption) ?_)); refine awpD_split rfl (fun h => ?_) (fun h => ?_)))
   | ((with_reducible refine is_awp ?_); refine awp_cond rfl (fun h => ?_) (fun h => ?_))
   | fail)
  exact retP rfl rfl
end Go.Proofs.YtnacjdaoiepbhaaGreatDoor
end
section
namespace Go.Proofs.YtnacjdaoiepbhaaGreatDoor
open Go.Ac
attribute [local irreducible] awp awpL Ev Ev2 EvS thenQ blockQ retQ PCalls OCalls
variable {g : List (Nat × List AV)}
abbrev nextP (o : Option Stamp) : AV := .tup [.agg (stampC (o.getD ⟨0, 0⟩)), vb o.isSome]
end Go.Proofs.YtnacjdaoiepbhaaGreatDoor
end
section
namespace Go.Proofs.YtnacjdaoiepbhaaGreatDoor
open Go.Ac Go.MapKept
attribute [local irreducible] awp awpL Ev Ev2 EvS thenQ blockQ retQ PCalls OCalls YieldOk IterC ICalls
def addV (p : Replica × Int × Int) : AV := .tup [.agg (repC p.1), vi p.2.1, vi p.2.2]
abbrev addC (s : Stamp) (rc : Int) (n : Note) : List AV := [vi s.count, vi s.dev, vi 0, vi rc, vi (idOf s), vi n.tier, vi n.parent, vi n.span.fro, vi n.span.til, vi n.rank, vs n.text, vi 0, vi 0, .v (.string .empty), nilS]
end Go.Proofs.YtnacjdaoiepbhaaGreatDoor
end
section
namespace Go.Proofs.YtnacjdaoiepbhaaGreatDoor
open Go.Ac Go.MapKept
attribute [local irreducible] awp awpL Ev Ev2 EvS thenQ blockQ retQ PCalls OCalls YieldOk IterC
variable {g : List (Nat × List AV)}
set_option maxHeartbeats 2000000 in
theorem rValue_spec (o : Op) (f : Int) : PCalls Tryz.prog g 51 [.agg (opC o), vi f] (.agg (valC (valueOf o f))) := by
  have h1 := rwr_spec (g := g) o f
  have n1 : (!true) = false := rfl
  have n2 : (!false) = true := rfl
  refine pcalls' Tryz.func51 Tryz.ntmps51 rfl rfl rfl ?_
  cases hw : wrt o f with
  | false =>
    rw [hw] at h1
    repeat' (first
     | refine stn [4, 5] ?_
     | ((with_reducible refine is_gd ?_); refine awpL_split rfl rfl (fun h => ?_) (fun h => ?_))
     | ((with_reducible refine is_awp ?_); refine awp_cond rfl (fun h => ?_) (fun h => ?_))
     | fail)
    refine retP rfl ?_
    unfold valueOf
    rw [if_pos hw]
    rfl
  | true =>
    rw [hw] at h1
    have hv : valueOf o f = ⟨o.at_, if f = 0 then 0 else if o.kind = 0 then (if f = 1 then o.note.span.fro else o.note.span.til) else o.n, if f = 0 then (if o.kind = 0 then o.note.text else o.text) else .empty⟩ := by unfold valueOf; rw [if_neg (by simp [hw])]
    have hf : f = 0 ∨ f = 1 ∨ f = 2 := by
      simp only [wrt, within, Bool.and_eq_true, decide_eq_true_eq] at hw
      omega
    have f0 : decide ((0 : Int) = 0) = true := rfl
    have f1 : decide ((1 : Int) = 0) = false := rfl
    have f2 : decide ((1 : Int) = 1) = true := rfl
    have f3 : decide ((2 : Int) = 0) = false := rfl
    have f4 : decide ((2 : Int) = 1) = false := rfl
    have f5 : decide ((2 : Int) = 2) = true := rfl
    by_cases hk : o.kind = 0
    · have k1 : decide (o.kind = 0) = true := decide_eq_true hk
      rcases hf with rfl | rfl | rfl
      · rw [show valueOf o 0 = ⟨o.at_, 0, o.note.text⟩ by rw [hv]; simp [hk]]
        repeat' (first
         | refine stn [4, 5] ?_
         | ((with_reducible refine is_gd ?_); refine awpL_split rfl rfl (fun h => ?_) (fun h => ?_))
         | ((with_reducible refine is_awp ?_); refine awp_cond rfl (fun h => ?_) (fun h => ?_))
         | fail)
        exact retP rfl rfl
      · rw [show valueOf o 1 = ⟨o.at_, o.note.span.fro, .empty⟩ by rw [hv]; simp [hk]]
        repeat' (first
         | refine stn [4, 5] ?_
         | ((with_reducible refine is_gd ?_); refine awpL_split rfl rfl (fun h => ?_) (fun h => ?_))
         | ((with_reducible refine is_awp ?_); refine awp_cond rfl (fun h => ?_) (fun h => ?_))
         | fail)
        exact retP rfl rfl
      · rw [show valueOf o 2 = ⟨o.at_, o.note.span.til, .empty⟩ by rw [hv]; simp [hk]]
        repeat' (first
         | refine stn [4, 5] ?_
         | ((with_reducible refine is_gd ?_); refine awpL_split rfl rfl (fun h => ?_) (fun h => ?_))
         | ((with_reducible refine is_awp ?_); refine awp_cond rfl (fun h => ?_) (fun h => ?_))
         | fail)
        exact retP rfl rfl
    · have k1 : decide (o.kind = 0) = false := decide_eq_false hk
      rcases hf with rfl | rfl | rfl
      · rw [show valueOf o 0 = ⟨o.at_, 0, o.text⟩ by rw [hv]; simp [hk]]
        repeat' (first
         | refine stn [4, 5] ?_
         | ((with_reducible refine is_gd ?_); refine awpL_split rfl rfl (fun h => ?_) (fun h => ?_))
         | ((with_reducible refine is_awp ?_); refine awp_cond rfl (fun h => ?_) (fun h => ?_))
         | fail)
        exact retP rfl rfl
      · rw [show valueOf o 1 = ⟨o.at_, o.n, .empty⟩ by rw [hv]; simp [hk]]
        repeat' (first
         | refine stn [4, 5] ?_
         | ((with_reducible refine is_gd ?_); refine awpL_split rfl rfl (fun h => ?_) (fun h => ?_))
         | ((with_reducible refine is_awp ?_); refine awp_cond rfl (fun h => ?_) (fun h => ?_))
         | fail)
        exact retP rfl rfl
      · rw [show valueOf o 2 = ⟨o.at_, o.n, .empty⟩ by rw [hv]; simp [hk]]
        repeat' (first
         | refine stn [4, 5] ?_
         | ((with_reducible refine is_gd ?_); refine awpL_split rfl rfl (fun h => ?_) (fun h => ?_))
         | ((with_reducible refine is_awp ?_); refine awp_cond rfl (fun h => ?_) (fun h => ?_))
         | fail)
        exact retP rfl rfl
theorem anyd_drop {α : Type} (f : α → Bool) (l : List α) (k : Nat) (x : α) (h : l[k]? = some x) : (l.drop k).any f = (f x || (l.drop (k + 1)).any f) := by
  have hlt := (List.getElem?_eq_some_iff.1 h).1
  rw [List.drop_eq_getElem_cons hlt, List.any_cons]
  have : l[k] = x := by rw [List.getElem?_eq_getElem hlt] at h; exact Option.some.inj h
  rw [this]
set_option maxHeartbeats 1000000 in
theorem in_spec (l : List Stamp) (s : Stamp) (hl : l.length ≤ 1000000) : PCalls Tryz.prog g 139 [encStamps l, .agg (stampC s)] (vb (l.any fun q => decide (q = s))) := by
  refine pcalls' Tryz.func139 Tryz.ntmps139 rfl rfl rfl ?_
  repeat' (first
   | refine stn [] ?_
   | ((with_reducible refine is_gd ?_); refine awpL_split rfl rfl (fun h => ?_) (fun h => ?_))
   | ((with_reducible refine is_awp ?_); refine awp_cond rfl (fun h => ?_) (fun h => ?_))
   | fail)
  refine awp_for (α := Nat) 0 (fun k => [(0, encStamps l), (3, .fp (stampC s)), (5, vi k)]) (fun _ => []) (fun k => k ≤ l.length ∧ (l.any fun q => decide (q = s)) = (l.drop k).any fun q => decide (q = s)) (fun k => l.length - k) 0
    ⟨(.cons rfl rfl (.cons rfl rfl (.cons rfl rfl .nil))), rfl, rfl, rfl⟩ ⟨Nat.zero_le _, rfl⟩ ?_
  rintro k ⟨hk, hf⟩
  cases ht : l[k]? with
  | none =>
    have hge : l.length ≤ k := by simpa using ht
    have c1 : decide ((k : Int) < l.length) = false := decide_eq_false (by omega)
    rw [List.drop_of_length_le hge] at hf
    repeat' (first
     | refine stn [] ?_
     | ((with_reducible refine is_gd ?_); refine awpL_split rfl rfl (fun h => ?_) (fun h => ?_))
     | ((with_reducible refine is_awp ?_); refine awp_cond rfl (fun h => ?_) (fun h => ?_))
     | fail)
    refine retP rfl ?_
    rw [hf]; rfl
  | some x =>
    have hlt : k < l.length := (List.getElem?_eq_some_iff.1 ht).1
    have c1 : decide ((k : Int) < l.length) = true := decide_eq_true (by omega)
    have h1 := stamp_get ht
    rw [anyd_drop _ l k x ht] at hf
    by_cases he : x = s
    · have e1 : (x.count == s.count && x.dev == s.dev) = true := by rw [he]; simp
      rw [decide_eq_true he, Bool.true_or] at hf
      repeat' (first
       | ((with_reducible refine isD_un ?_); refine awpD_un (as_ev (fun _ => ev_eqA (b := true) stampEq_T (by kernel_rfl) rfl rfl rfl rfl (by rw [← e1]; rfl)) rfl rfl) (by (try simp only [List.nil_append, List.cons_append]); (try rfl)) ?_)
       | ((with_reducible refine isD_gd ?_); refine awpD_gd rfl rfl (by first | with_reducible rfl | with_reducible assumption) (as_ev (fun _ => ev_eqA (b := true) stampEq_T (by kernel_rfl) rfl rfl rfl rfl (by rw [← e1]; rfl)) rfl rfl) (by (try simp only [List.nil_append, List.cons_append]); (try rfl)) ?_)
       | refine st [] ?_
       | ((with_reducible refine is_gd ?_); refine awpL_split rfl rfl (fun h => ?_) (fun h => ?_))
       | ((with_reducible refine isD_gd ?_); ((fail_if_success (refine isD_kn (c := true) rfl (by first | with_reducible rfl | with_reducible assumption) ?_)); (fail_if_success (refine isD_kn (c := false) rfl (by first | with_reducible rfl | with_reducible assumption) ?_)); refine awpD_split rfl (fun h => ?_) (fun h => ?_)))
       | ((with_reducible refine is_awp ?_); refine awp_cond rfl (fun h => ?_) (fun h => ?_))
       | fail)
      refine retP rfl ?_
      rw [hf]; rfl
    · have e1 : (x.count == s.count && x.dev == s.dev) = false := by
        cases hc : (x.count == s.count && x.dev == s.dev) with
        | false => rfl
        | true => exact absurd (stamp_ext (by simpa using hc)) he
      rw [decide_eq_false he, Bool.false_or] at hf
      repeat' (first
       | ((with_reducible refine isD_un ?_); refine awpD_un (as_ev (fun _ => ev_eqA (b := false) stampEq_T (by kernel_rfl) rfl rfl rfl rfl (by rw [← e1]; rfl)) rfl rfl) (by (try simp only [List.nil_append, List.cons_append]); (try rfl)) ?_)
       | ((with_reducible refine isD_gd ?_); refine awpD_gd rfl rfl (by first | with_reducible rfl | with_reducible assumption) (as_ev (fun _ => ev_eqA (b := false) stampEq_T (by kernel_rfl) rfl rfl rfl rfl (by rw [← e1]; rfl)) rfl rfl) (by (try simp only [List.nil_append, List.cons_append]); (try rfl)) ?_)
       | refine st [] ?_
       | ((with_reducible refine is_gd ?_); refine awpL_split rfl rfl (fun h => ?_) (fun h => ?_))
       | ((with_reducible refine isD_gd ?_); ((fail_if_success (refine isD_kn (c := true) rfl (by first | with_reducible rfl | with_reducible assumption) ?_)); (fail_if_success (refine isD_kn (c := false) rfl (by first | with_reducible rfl | with_reducible assumption) ?_)); refine awpD_split rfl (fun h => ?_) (fun h => ?_)))
       | ((with_reducible refine is_awp ?_); refine awp_cond rfl (fun h => ?_) (fun h => ?_))
       | fail)
      exact ⟨k + 1, ⟨(.cons rfl rfl (.cons rfl rfl (.cons rfl rfl .nil))), rfl, rfl, rfl⟩, ⟨by omega, hf⟩, by omega⟩
def FitO (l : List Op) : Prop := l.length ≤ 10000 ∧ ∀ o ∈ l, o.over.length ≤ 100000
set_option maxRecDepth 4000 in
set_option maxHeartbeats 2000000 in
theorem rover_spec (r : Replica) (s : Stamp) (kind note f : Int) (hr : FitO r.ops) : PCalls Tryz.prog g 108 [.agg (repC r), .agg (stampC s), vi kind, vi note, vi f] (vb (overd r.ops s kind note f)) := by
  have hl := hr.1
  refine pcalls' Tryz.func108 Tryz.ntmps108 rfl rfl rfl ?_
  repeat' (first
   | refine stn [] ?_
   | ((with_reducible refine is_gd ?_); refine awpL_split rfl rfl (fun h => ?_) (fun h => ?_))
   | ((with_reducible refine is_awp ?_); refine awp_cond rfl (fun h => ?_) (fun h => ?_))
   | fail)
  refine awp_for (α := Nat) 0 (fun k => [(2, vi kind), (3, vi note), (4, vi f), (5, .fp (repC r)), (6, .fp (stampC s)), (11, vi k)]) (fun _ => []) (fun k => k ≤ r.ops.length ∧ overd r.ops s kind note f = (r.ops.drop k).any (overO kind note f s)) (fun k => r.ops.length - k) 0
    ⟨(.cons rfl rfl (.cons rfl rfl (.cons rfl rfl (.cons rfl rfl (.cons rfl rfl (.cons rfl rfl .nil)))))), rfl, rfl, rfl⟩ ⟨Nat.zero_le _, rfl⟩ ?_
  rintro k ⟨hk, hf⟩
  cases ht : r.ops[k]? with
  | none =>
    have hge : r.ops.length ≤ k := by simpa using ht
    have c1 : decide ((k : Int) < r.ops.length) = false := decide_eq_false (by omega)
    rw [List.drop_of_length_le hge] at hf
    repeat' (first
     | refine stn [] ?_
     | ((with_reducible refine is_gd ?_); refine awpL_split rfl rfl (fun h => ?_) (fun h => ?_))
     | ((with_reducible refine is_awp ?_); refine awp_cond rfl (fun h => ?_) (fun h => ?_))
     | fail)
    refine retP rfl ?_
    rw [hf]; rfl
  | some x =>
    have hlt : k < r.ops.length := (List.getElem?_eq_some_iff.1 ht).1
    have c1 : decide ((k : Int) < r.ops.length) = true := decide_eq_true (by omega)
    have h1 := op_get ht
    have hI := in_spec (g := g) x.over s (by have := hr.2 x (List.mem_of_getElem? ht); omega)
    rw [anyd_drop _ r.ops k x ht, overO] at hf
    cases d1 : decide (x.kind = kind) with
    | false =>
      rw [d1] at hf
      repeat' (first
       | refine stn [] ?_
       | ((with_reducible refine is_gd ?_); refine awpL_split rfl rfl (fun h => ?_) (fun h => ?_))
       | ((with_reducible refine is_awp ?_); refine awp_cond rfl (fun h => ?_) (fun h => ?_))
       | fail)
      exact ⟨k + 1, ⟨(.cons rfl rfl (.cons rfl rfl (.cons rfl rfl (.cons rfl rfl (.cons rfl rfl (.cons rfl rfl .nil)))))), rfl, rfl, rfl⟩, ⟨by omega, by simpa using hf⟩, by omega⟩
    | true =>
    rw [d1] at hf
    cases d2 : decide (x.note.id = note) with
    | false =>
      rw [d2] at hf
      repeat' (first
       | refine stn [] ?_
       | ((with_reducible refine is_gd ?_); refine awpL_split rfl rfl (fun h => ?_) (fun h => ?_))
       | ((with_reducible refine is_awp ?_); refine awp_cond rfl (fun h => ?_) (fun h => ?_))
       | fail)
      exact ⟨k + 1, ⟨(.cons rfl rfl (.cons rfl rfl (.cons rfl rfl (.cons rfl rfl (.cons rfl rfl (.cons rfl rfl .nil)))))), rfl, rfl, rfl⟩, ⟨by omega, by simpa using hf⟩, by omega⟩
    | true =>
    rw [d2] at hf
    cases d3 : decide (kind = 2) with
    | true =>
      rw [d3] at hf
      cases hi : x.over.any (fun q => decide (q = s)) with
      | true =>
        rw [hi] at hf hI
        repeat' (first
         | refine stn [] ?_
         | ((with_reducible refine is_gd ?_); refine awpL_split rfl rfl (fun h => ?_) (fun h => ?_))
         | ((with_reducible refine is_awp ?_); refine awp_cond rfl (fun h => ?_) (fun h => ?_))
         | fail)
        refine retP rfl ?_
        rw [hf]; simp [ex]
      | false =>
        rw [hi] at hf hI
        repeat' (first
         | refine stn [] ?_
         | ((with_reducible refine is_gd ?_); refine awpL_split rfl rfl (fun h => ?_) (fun h => ?_))
         | ((with_reducible refine is_awp ?_); refine awp_cond rfl (fun h => ?_) (fun h => ?_))
         | fail)
        exact ⟨k + 1, ⟨(.cons rfl rfl (.cons rfl rfl (.cons rfl rfl (.cons rfl rfl (.cons rfl rfl (.cons rfl rfl .nil)))))), rfl, rfl, rfl⟩, ⟨by omega, by simpa using hf⟩, by omega⟩
    | false =>
    rw [d3] at hf
    cases d4 : decide (x.set = f) with
    | false =>
      rw [d4] at hf
      repeat' (first
       | refine stn [] ?_
       | ((with_reducible refine is_gd ?_); refine awpL_split rfl rfl (fun h => ?_) (fun h => ?_))
       | ((with_reducible refine is_awp ?_); refine awp_cond rfl (fun h => ?_) (fun h => ?_))
       | fail)
      exact ⟨k + 1, ⟨(.cons rfl rfl (.cons rfl rfl (.cons rfl rfl (.cons rfl rfl (.cons rfl rfl (.cons rfl rfl .nil)))))), rfl, rfl, rfl⟩, ⟨by omega, by simpa using hf⟩, by omega⟩
    | true =>
      rw [d4] at hf
      cases hi : x.over.any (fun q => decide (q = s)) with
      | true =>
        rw [hi] at hf hI
        repeat' (first
         | refine stn [] ?_
         | ((with_reducible refine is_gd ?_); refine awpL_split rfl rfl (fun h => ?_) (fun h => ?_))
         | ((with_reducible refine is_awp ?_); refine awp_cond rfl (fun h => ?_) (fun h => ?_))
         | fail)
        refine retP rfl ?_
        rw [hf]; simp [ex]
      | false =>
        rw [hi] at hf hI
        repeat' (first
         | refine stn [] ?_
         | ((with_reducible refine is_gd ?_); refine awpL_split rfl rfl (fun h => ?_) (fun h => ?_))
         | ((with_reducible refine is_awp ?_); refine awp_cond rfl (fun h => ?_) (fun h => ?_))
         | fail)
        exact ⟨k + 1, ⟨(.cons rfl rfl (.cons rfl rfl (.cons rfl rfl (.cons rfl rfl (.cons rfl rfl (.cons rfl rfl .nil)))))), rfl, rfl, rfl⟩, ⟨by omega, by simpa using hf⟩, by omega⟩
set_option maxRecDepth 4000 in
set_option maxHeartbeats 2000000 in
theorem rvalues_spec (r : Replica) (note f : Int) (hr : FitO r.ops) : PCalls Tryz.prog g 78 [.agg (repC r), vi note, vi f] (encVals (valuesL r.ops note f)) := by
  have hl := hr.1
  have n1 : (!true) = false := rfl
  have n2 : (!false) = true := rfl
  refine pcalls' Tryz.func78 Tryz.ntmps78 rfl rfl rfl ?_
  repeat' (first
   | refine stn [] ?_
   | ((with_reducible refine is_gd ?_); refine awpL_split rfl rfl (fun h => ?_) (fun h => ?_))
   | ((with_reducible refine is_awp ?_); refine awp_cond rfl (fun h => ?_) (fun h => ?_))
   | fail)
  refine awp_adopt (t := 7) (E := 93) (sz := 4) rfl rfl rfl ?_
  refine awp_for (α := Nat) 1 (fun k => [(1, vi note), (2, vi f), (3, .fp (repC r)), (7, .os 0 0), (8, vi k)]) (fun k => [.own 0 93 4 ((valsK r.ops note f k).map valC)]) (fun k => k ≤ r.ops.length) (fun k => r.ops.length - k) 0
    ⟨(.cons rfl rfl (.cons rfl rfl (.cons rfl rfl (.cons rfl rfl (.cons rfl rfl .nil))))), rfl, rfl, rfl⟩ (Nat.zero_le _) ?_
  rintro k hk
  cases ht : r.ops[k]? with
  | none =>
    have hge : r.ops.length ≤ k := by simpa using ht
    have c1 : decide ((k : Int) < r.ops.length) = false := decide_eq_false (by omega)
    have hD : valsK r.ops note f k = valuesL r.ops note f := by unfold valsK valuesL; rw [List.take_of_length_le hge]
    rw [hD]
    repeat' (first
     | refine stn [] ?_
     | ((with_reducible refine is_gd ?_); refine awpL_split rfl rfl (fun h => ?_) (fun h => ?_))
     | ((with_reducible refine is_awp ?_); refine awp_cond rfl (fun h => ?_) (fun h => ?_))
     | fail)
    refine retP rfl ?_
    simp [ex]
  | some x =>
    have hlt : k < r.ops.length := (List.getElem?_eq_some_iff.1 ht).1
    have c1 : decide ((k : Int) < r.ops.length) = true := decide_eq_true (by omega)
    have h1 := op_get ht
    have hW := rWrites_spec (g := g) x note f
    have hO := rover_spec (g := g) r x.at_ 1 note f hr
    have hV := rValue_spec (g := g) x f
    have hcl := valsK_len r.ops note f k
    cases hw : writes x note f with
    | false =>
      have hS := valsK_no (note := note) (f := f) ht (by rw [keepV, hw]; rfl)
      rw [hw] at hW
      repeat' (first
       | refine stn [] ?_
       | ((with_reducible refine is_gd ?_); refine awpL_split rfl rfl (fun h => ?_) (fun h => ?_))
       | ((with_reducible refine is_awp ?_); refine awp_cond rfl (fun h => ?_) (fun h => ?_))
       | fail)
      exact ⟨k + 1, by rw [hS]; exact ⟨(.cons rfl rfl (.cons rfl rfl (.cons rfl rfl (.cons rfl rfl (.cons rfl rfl .nil))))), rfl, rfl, rfl⟩, by omega, by omega⟩
    | true =>
      rw [hw] at hW
      cases ho : overd r.ops x.at_ 1 note f with
      | true =>
        have hS := valsK_no (note := note) (f := f) ht (by rw [keepV, hw, ho]; rfl)
        rw [ho] at hO
        repeat' (first
         | refine stn [] ?_
         | ((with_reducible refine is_gd ?_); refine awpL_split rfl rfl (fun h => ?_) (fun h => ?_))
         | ((with_reducible refine is_awp ?_); refine awp_cond rfl (fun h => ?_) (fun h => ?_))
         | fail)
        exact ⟨k + 1, by rw [hS]; exact ⟨(.cons rfl rfl (.cons rfl rfl (.cons rfl rfl (.cons rfl rfl (.cons rfl rfl .nil))))), rfl, rfl, rfl⟩, by omega, by omega⟩
      | false =>
        have hS := valsK_yes (note := note) (f := f) ht (by rw [keepV, hw, ho]; rfl)
        rw [ho] at hO
        have hj : (valsK r.ops note f k).map valC ++ [valC (valueOf x f)] = (valsK r.ops note f (k + 1)).map valC := by rw [hS]; simp
        generalize valsK r.ops note f k = M at hcl hj ⊢
        generalize hM' : valsK r.ops note f (k + 1) = M' at hj
        have hmb : (M.map valC).length ≤ 100000 := by rw [List.length_map]; omega
        repeat' (first
         | ((with_reducible refine is_un ?_); refine awpL_ev2 (ev_app (es' := M'.map valC) rfl rfl rfl rfl rfl rfl rfl rfl rfl rfl rfl rfl rfl (by simp only [List.length_map, List.length_cons, List.length_nil, List.length_append, List.length_take]; omega) hj rfl) rfl ?_)
         | refine stn [] ?_
         | ((with_reducible refine is_gd ?_); refine awpL_split rfl rfl (fun h => ?_) (fun h => ?_))
         | ((with_reducible refine is_awp ?_); refine awp_cond rfl (fun h => ?_) (fun h => ?_))
         | fail)
        exact ⟨k + 1, by rw [hM']; exact ⟨(.cons rfl rfl (.cons rfl rfl (.cons rfl rfl (.cons rfl rfl (.cons rfl rfl .nil))))), rfl, rfl, rfl⟩, by omega, by omega⟩
end Go.Proofs.YtnacjdaoiepbhaaGreatDoor
end
