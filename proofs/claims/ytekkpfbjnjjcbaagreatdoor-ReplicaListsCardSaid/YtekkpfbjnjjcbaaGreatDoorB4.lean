/- A logic of trees over the model's steps, and the contracts of the functions that the laws reach: part 4 of 14. -/
import Derived.Test.YtekkpfbjnjjcbaaGreatDoorB3
section
set_option linter.unusedVariables false
set_option linter.unusedSimpArgs false
set_option linter.unusedSectionVars false
namespace Go.Proofs.YtekkpfbjnjjcbaaGreatDoor
open Go.Ac
attribute [local irreducible] awp awpL Ev Ev2 EvS thenQ blockQ retQ PCalls OCalls
set_option linter.unusedSimpArgs false
set_option linter.unusedVariables false
variable {g : List (Nat × List AV)}
def joinC (a b : List Int) (k : Nat) : List (List AV) := (List.range 15).map fun i => intC (if i < k then max (num a i) (num b i) else 0)
theorem joinC_set (a b : List Int) (k : Nat) (hk : k < 15) : (joinC a b k).set k (intC (max (num a k) (num b k))) = joinC a b (k + 1) := by
  unfold joinC
  apply List.ext_getElem?
  intro i
  rw [List.getElem?_set]
  simp only [List.getElem?_map, List.length_map, List.length_range]
  by_cases e : k = i
  · subst e
    simp [hk]
  · simp only [e, if_false]
    rcases Nat.lt_or_ge i 15 with h | h
    · simp only [List.getElem?_range h, Option.map_some, Option.some.injEq]
      have : (i < k) = (i < k + 1) := by apply propext; omega
      simp only [this]
    · rw [List.getElem?_eq_none (by simpa using h)]; rfl
theorem joinC_get (a b : List Int) (k : Nat) (hk : k < 15) : (joinC a b k)[k]? = some (intC 0) := by
  unfold joinC
  simp [hk]
theorem joinC_end (a b : List Int) : joinC a b 15 = (join a b).map intC := by
  unfold joinC join
  rw [List.map_map]
  refine List.map_congr_left fun i hi => ?_
  simp only [List.mem_range] at hi
  simp [hi]
theorem joinC_len (a b : List Int) (k : Nat) : (joinC a b k).length = 15 := by simp [joinC]
set_option maxHeartbeats 400000 in
theorem Join_spec (a b : List Int) (ha : a.length ≤ 1000000) (hb : b.length ≤ 1000000) : OCalls Tryz.prog g 39 [encIs a, encIs b] 3 1 ((join a b).map intC) := by
  refine ocalls' Tryz.func39 Tryz.ntmps39 rfl rfl rfl ?_
  have hm : (0 : Int) ≤ 15 ∧ (8 : Nat) * (15 : Int) ≤ 281474976710656 ∧ (15 : Int) ≤ 9223372036854775807 := by omega
  repeat' (first
   | ((with_reducible refine is_un ?_); refine awpL_ev2 (ev_make (n := 15) (es := joinC a b 0) rfl rfl rfl rfl rfl rfl rfl rfl hm rfl (by simp only [List.length_nil]; rfl) (by simp only [List.nil_append]; rfl)) rfl ?_)
   | refine stn [] ?_
   | ((with_reducible refine is_awp ?_); refine awp_cond rfl (fun h => ?_) (fun h => ?_))
   | fail)
  refine awp_for (α := Nat) 1 (fun k => [(5, .os 0 0), (9, vi 15), (10, vi k), (0, encIs a), (1, encIs b)]) (fun k => [.own 0 3 1 (joinC a b k)]) (fun k => k ≤ 15) (fun k => 15 - k) 0
    ⟨(.cons rfl rfl (.cons rfl rfl (.cons rfl rfl (.cons rfl rfl (.cons rfl rfl .nil))))), rfl, rfl, rfl⟩ (Nat.zero_le _) ?_
  rintro k hk
  by_cases h15 : k = 15
  · subst h15
    have c1 : decide (((15 : Nat) : Int) < 15) = false := rfl
    refine runn [] ?_
    exact retO rfl (by rw [joinC_end]; rfl)
  · have c1 : decide ((k : Int) < 15) = true := by simp; omega
    have hlt : k < 15 := by omega
    have h1 := number_spec (g := g) a k ha
    have h2 := number_spec (g := g) b k hb
    have hc : 0 ≤ (k : Int) ∧ (k : Int) < (joinC a b k).length := by rw [joinC_len]; omega
    have hel : (joinC a b k)[(k : Int).toNat]? = some (intC 0) := by simpa using joinC_get a b k hlt
    have hset : (joinC a b k).set (k : Int).toNat (intC (max (num a k) (num b k))) = joinC a b (k + 1) := by simpa using joinC_set a b k hlt
    repeat' (first
     | ((with_reducible refine is_un ?_); refine awpL_evS (ev_st_ep (el' := intC (max (num a k) (num b k))) (L' := [.own 0 3 1 (joinC a b (k + 1))]) rfl rfl rfl rfl rfl rfl rfl rfl hel rfl (by rw [← hset]; rfl)) ?_)
     | refine stn [] ?_
     | fail)
    exact ⟨k + 1, ⟨(.cons rfl rfl (.cons rfl rfl (.cons rfl rfl (.cons rfl rfl (.cons rfl rfl .nil))))), rfl, rfl, rfl⟩, by omega, by omega⟩
theorem Join_nil (a : List Int) (ha : a.length ≤ 1000000) : OCalls Tryz.prog g 39 [encIs a, nilS] 3 1 ((join a []).map intC) :=
  (Join_spec a [] ha (by simp)).args (.cons (Le.of_eq rfl) (.cons (Le.nil 1) .nil))
theorem Join_nn : OCalls Tryz.prog g 39 [nilS, nilS] 3 1 ((join [] []).map intC) :=
  (Join_spec [] [] (by simp) (by simp)).args (.cons (Le.nil 1) (.cons (Le.nil 1) .nil))
theorem join_get (a b : List Int) (k : Nat) (hk : k < 15) : (join a b)[k]? = some (max (num a k) (num b k)) := by simp [join, hk]
theorem num_join (a : List Int) (k : Nat) (hk : k < 15) : max (num a k) (num [] k) = num a k := by simp [num]
theorem set_map_int (l : List Int) (k : Nat) (x : Int) : (l.map intC).set k (intC x) = (l.set k x).map intC := by rw [List.map_set]
set_option maxHeartbeats 400000 in
theorem See_spec (v : List Int) (s : Stamp) (hv : v.length ≤ 1000000) : OCalls Tryz.prog g 37 [encIs v, .agg (stampC s)] 3 1 ((see v s).map intC) := by
  have h1 := Right_spec (g := g) s
  have h2 := Join_nil (g := g) v hv
  refine ocalls' Tryz.func37 Tryz.ntmps37 rfl rfl rfl ?_
  cases hr : right s with
  | false =>
    rw [hr] at h1
    have hs : see v s = join v [] := by simp [see, hr]
    repeat' (first
     | ((with_reducible refine is_un ?_); refine awpL_ocall rfl rfl h2 rfl (by simp only [List.length_nil]; rfl) (by simp only [List.nil_append]; rfl) ?_)
     | refine st [] ?_
     | fail)
    exact retO rfl (by rw [hs]; rfl)
  | true =>
    rw [hr] at h1
    have hd := right_dev hr
    have hlt : (s.dev - 1).toNat < 15 := by omega
    have hs : see v s = (join v []).set (s.dev - 1).toNat (max (num v (s.dev - 1).toNat) s.count) := by simp [see, hr]
    have hc : 0 ≤ s.dev - 1 ∧ s.dev - 1 < ((join v []).map intC).length := by rw [List.length_map, join_len]; omega
    have hel : ((join v []).map intC)[(s.dev - 1).toNat]? = some (intC (num v (s.dev - 1).toNat)) := by rw [List.getElem?_map, join_get _ _ _ hlt, num_join _ _ hlt]; rfl
    repeat' (first
     | refine awpD_sS rfl rfl (ev_st_ep (el' := intC (max (num v (s.dev - 1).toNat) s.count)) (L' := [.own 0 3 1 ((see v s).map intC)]) rfl rfl rfl rfl rfl rfl rfl rfl hel rfl (by rw [hs, ← set_map_int]; rfl)) rfl rfl ?_
     | ((with_reducible refine is_un ?_); refine awpL_ocall rfl rfl h2 rfl (by simp only [List.length_nil]; rfl) (by simp only [List.nil_append]; rfl) ?_)
     | refine st [] ?_
     | fail)
    exact retO rfl rfl
end Go.Proofs.YtekkpfbjnjjcbaaGreatDoor
end
section
set_option linter.unusedVariables false
set_option linter.unusedSimpArgs false
set_option linter.unusedSectionVars false
namespace Go.Proofs.YtekkpfbjnjjcbaaGreatDoor
open Go.Ac
attribute [local irreducible] awp awpL Ev Ev2 EvS thenQ blockQ retQ PCalls OCalls
set_option linter.unusedSimpArgs false
set_option linter.unusedVariables false
variable {g : List (Nat × List AV)}
theorem rnum_succ (a : List Int) (k : Nat) (h : k < 15) : rnum a ((k : Int) + 1) = num a k := by
  rw [rnum, if_pos (by omega)]
  congr 1; omega
theorem join_take (a b : List Int) (k : Nat) (h : k < 15) : ((join a b).take k).map intC ++ [[vi (max (num a k) (num b k))]] = ((join a b).take (k + 1)).map intC := by
  rw [List.take_add_one, join_get _ _ _ h, List.map_append]; rfl
set_option maxHeartbeats 400000 in
theorem rJoin_spec (a b : List Int) (ha : a.length ≤ 1000000) (hb : b.length ≤ 1000000) : OCalls Tryz.prog g 33 [encIs a, encIs b] 3 1 ((join a b).map intC) := by
  refine ocalls' Tryz.func33 Tryz.ntmps33 rfl rfl rfl ?_
  repeat' (first
   | refine stn [] ?_
   | ((with_reducible refine is_awp ?_); refine awp_cond rfl (fun h => ?_) (fun h => ?_))
   | fail)
  refine awp_adopt (t := 5) (E := 3) (sz := 1) rfl rfl rfl ?_
  refine awp_for (α := Nat) 1 (fun k => [(5, .os 0 0), (6, vi (k + 1)), (0, encIs a), (1, encIs b)]) (fun k => [.own 0 3 1 (((join a b).take k).map intC)]) (fun k => k ≤ 15) (fun k => 15 - k) 0
    ⟨(.cons rfl rfl (.cons rfl rfl (.cons rfl rfl (.cons rfl rfl .nil)))), rfl, rfl, rfl⟩ (Nat.zero_le _) ?_
  rintro k hk
  by_cases h15 : k = 15
  · subst h15
    have c1 : decide (((15 : Nat) : Int) + 1 ≤ 15) = false := rfl
    refine runn [] ?_
    exact retO rfl (by rw [show (join a b).take 15 = join a b by rw [← join_len a b, List.take_length]]; rfl)
  · have c1 : decide ((k : Int) + 1 ≤ 15) = true := by simp; omega
    have hlt : k < 15 := by omega
    have h1 := At_spec (g := g) a (k + 1) ha
    have h2 := At_spec (g := g) b (k + 1) hb
    rw [rnum_succ _ _ hlt] at h1 h2
    have hj := join_take a b k hlt
    repeat' (first
     | ((with_reducible refine is_un ?_); refine awpL_ev2 (ev_app (es' := ((join a b).take (k + 1)).map intC) (L' := [.own 1 3 1 (((join a b).take (k + 1)).map intC)]) rfl rfl rfl rfl rfl rfl rfl rfl rfl rfl rfl rfl rfl (by simp only [List.length_map, List.length_cons, List.length_nil, List.length_append, List.length_take]; omega) hj rfl) rfl ?_)
     | refine stn [] ?_
     | fail)
    exact ⟨k + 1, ⟨(.cons rfl rfl (.cons rfl rfl (.cons rfl rfl (.cons rfl rfl .nil)))), rfl, rfl, rfl⟩, by omega, by omega⟩
theorem rJoin_nil (a : List Int) (ha : a.length ≤ 1000000) : OCalls Tryz.prog g 33 [encIs a, nilS] 3 1 ((join a []).map intC) :=
  (rJoin_spec a [] ha (by simp)).args (.cons (Le.of_eq rfl) (.cons (Le.nil 1) .nil))
set_option maxHeartbeats 400000 in
theorem rSee_spec (v : List Int) (s : Stamp) (hv : v.length ≤ 1000000) : OCalls Tryz.prog g 83 [encIs v, .agg (stampC s)] 3 1 ((see v s).map intC) := by
  have h1 := rRight_spec (g := g) s
  have h2 := rJoin_nil (g := g) v hv
  refine ocalls' Tryz.func83 Tryz.ntmps83 rfl rfl rfl ?_
  cases hr : right s with
  | false =>
    rw [hr] at h1
    have hs : see v s = join v [] := by simp [see, hr]
    repeat' (first
     | ((with_reducible refine is_un ?_); refine awpL_ocall rfl rfl h2 rfl (by simp only [List.length_nil]; rfl) (by simp only [List.nil_append]; rfl) ?_)
     | refine st [] ?_
     | fail)
    exact retO rfl (by rw [hs]; rfl)
  | true =>
    rw [hr] at h1
    have hd := right_dev hr
    have hlt : (s.dev - 1).toNat < 15 := by omega
    have hs : see v s = (join v []).set (s.dev - 1).toNat (max (num v (s.dev - 1).toNat) s.count) := by simp [see, hr]
    have hc : 0 ≤ s.dev - 1 ∧ s.dev - 1 < ((join v []).map intC).length := by rw [List.length_map, join_len]; omega
    have hel : ((join v []).map intC)[(s.dev - 1).toNat]? = some (intC (num v (s.dev - 1).toNat)) := by rw [List.getElem?_map, join_get _ _ _ hlt, num_join _ _ hlt]; rfl
    repeat' (first
     | refine awpD_sS rfl rfl (ev_st_ep (el' := intC (max (num v (s.dev - 1).toNat) s.count)) (L' := [.own 0 3 1 ((see v s).map intC)]) rfl rfl rfl rfl rfl rfl rfl rfl hel rfl (by rw [hs, ← set_map_int]; rfl)) rfl rfl ?_
     | ((with_reducible refine is_un ?_); refine awpL_ocall rfl rfl h2 rfl (by simp only [List.length_nil]; rfl) (by simp only [List.nil_append]; rfl) ?_)
     | refine st [] ?_
     | fail)
    exact retO rfl rfl
end Go.Proofs.YtekkpfbjnjjcbaaGreatDoor
end
section
set_option linter.unusedVariables false
set_option linter.unusedSimpArgs false
set_option linter.unusedSectionVars false
namespace Go.Proofs.YtekkpfbjnjjcbaaGreatDoor
open Go.Ac
attribute [local irreducible] awp awpL Ev Ev2 EvS thenQ blockQ retQ PCalls OCalls
set_option linter.unusedSimpArgs false
set_option linter.unusedVariables false
variable {g : List (Nat × List AV)}
theorem stamp_ext {x y : Stamp} (h : x.count = y.count ∧ x.dev = y.dev) : x = y := by cases x; cases y; simp_all
def noteEq : List Value → List Value → Option Bool
  | [.int .i64 a, .int .i64 b, .int .i64 c, .int .i64 d, .int .i64 e, .int .i64 f, .string s], [.int .i64 a', .int .i64 b', .int .i64 c', .int .i64 d', .int .i64 e', .int .i64 f', .string s'] =>
    some (a == a' && (b == b' && (c == c' && ((d == d' && e == e') && (f == f' && s.toList == s'.toList)))))
  | _, _ => none
theorem noteEq_T : EqT Tryz.prog 33 noteEq := by
  intro xs ys b w h
  unfold noteEq at h
  split at h
  · rename_i a b c d e f s a' b' c' d' e' f' s'
    have h := Option.some.inj h
    subst h
    have u3 := Tryz.underlying3
    have a3 := Tryz.isAgg3
    have z3 := Tryz.sizeOf3
    have u9 := Tryz.underlying9
    have a9 := Tryz.isAgg9
    have z9 := Tryz.sizeOf9
    have a7 := Tryz.isAgg31
    have z7 := Tryz.sizeOf31
    have hS : Tryz.prog.underlying 33 = some (.struct (Tryz.prog.fieldsOf 33)) := by kernel_rfl
    have hsp : ∀ w, (Op.equalIn 9999 31 (.agg #[.int .i64 d, .int .i64 e]) (.agg #[.int .i64 d', .int .i64 e'])).run Tryz.prog w = .ok (d == d' && e == e') w := by
      intro w
      rw [show (9999 : Nat) = 9998 + 1 from rfl, run_equalIn_agg w 9998 _ _ _ (show Tryz.prog.underlying 31 = some (.struct (Tryz.prog.fieldsOf 31)) by kernel_rfl) (by kernel_rfl)]
      simp only [Program.fieldsOf, Tryz.underlying31]
      go_simp
      by_cases h1 : d = d' <;> by_cases h2 : e = e' <;> simp [h1, h2]
    rw [show (10000 : Nat) = 9999 + 1 from rfl, run_equalIn_agg w 9999 _ _ _ hS (by kernel_rfl)]
    simp only [Program.fieldsOf, Tryz.underlying33]
    go_simp
    by_cases h1 : a = a' <;> by_cases h2 : b = b' <;> by_cases h3 : c = c' <;> by_cases h4 : d = d' <;> by_cases h5 : e = e' <;> by_cases h6 : f = f' <;> by_cases h7 : s.toList = s'.toList <;> simp [h1, h2, h3, h4, h5, h6, h7]
  · cases h
set_option maxHeartbeats 400000 in
theorem eqInts_spec (a b : List Int) (ha : a.length ≤ 1000000) (hb : b.length ≤ 1000000) : PCalls Tryz.prog g 41 [encIs a, encIs b] (vb (decide (a = b))) := by
  refine pcalls' Tryz.func41 Tryz.ntmps41 rfl rfl rfl ?_
  by_cases hl : a.length = b.length
  · have c0 : (!decide ((a.length : Int) = b.length)) = false := by simp; omega
    repeat' (first
     | refine stn [] ?_
     | ((with_reducible refine is_awp ?_); refine awp_cond rfl (fun h => ?_) (fun h => ?_))
     | fail)
    refine awp_for (α := Nat) 0 (fun k => [(0, encIs a), (1, encIs b), (12, vi a.length), (13, vi k)]) (fun _ => []) (fun k => k ≤ a.length ∧ a.take k = b.take k) (fun k => a.length - k) 0
      ⟨(.cons rfl rfl (.cons rfl rfl (.cons rfl rfl (.cons rfl rfl .nil)))), rfl, rfl, rfl⟩ ⟨Nat.zero_le _, rfl⟩ ?_
    rintro k ⟨hk, hf⟩
    cases ht : a[k]? with
    | none =>
      have hge : a.length ≤ k := by simpa using ht
      have c1 : decide ((k : Int) < a.length) = false := by simp; omega
      have he : a = b := by
        rw [List.take_of_length_le hge, List.take_of_length_le (by omega)] at hf; exact hf
      refine runn [] ?_
      refine retP rfl ?_
      simp [ex, he]
    | some x =>
      have hlt : k < a.length := (List.getElem?_eq_some_iff.1 ht).1
      obtain ⟨y, hy⟩ : ∃ y, b[k]? = some y := ⟨_, List.getElem?_eq_getElem (by omega)⟩
      have c1 : decide ((k : Int) < a.length) = true := by simp; omega
      have h1 := int_get ht
      have h2 := int_get hy
      repeat' (first
       | refine st [] ?_
       | ((with_reducible refine is_awp ?_); refine awp_cond rfl (fun h => ?_) (fun h => ?_))
       | fail)
      · refine retP rfl ?_
        have hne : x ≠ y := by simpa using h
        have : a ≠ b := fun e => hne (by rw [e, hy] at ht; exact (Option.some.inj ht).symm)
        simp [ex, this]
      · have he : x = y := by simpa using h
        exact ⟨k + 1, ⟨(.cons rfl rfl (.cons rfl rfl (.cons rfl rfl (.cons rfl rfl .nil)))), rfl, rfl, rfl⟩, ⟨by omega, by rw [List.take_add_one, List.take_add_one, hf, ht, hy, he]⟩, by omega⟩
  · have c0 : (!decide ((a.length : Int) = b.length)) = true := by simp; omega
    refine runn [] ?_
    refine retP rfl ?_
    have : a ≠ b := fun e => hl (by rw [e])
    simp [ex, this]
set_option maxHeartbeats 400000 in
theorem rSameInts_spec (a b : List Int) (ha : a.length ≤ 1000000) (hb : b.length ≤ 1000000) : PCalls Tryz.prog g 43 [encIs a, encIs b] (vb (decide (a = b))) := by
  refine pcalls' Tryz.func43 Tryz.ntmps43 rfl rfl rfl ?_
  by_cases hl : a.length = b.length
  · have c0 : (!decide ((a.length : Int) = b.length)) = false := by simp; omega
    repeat' (first
     | refine stn [] ?_
     | ((with_reducible refine is_awp ?_); refine awp_cond rfl (fun h => ?_) (fun h => ?_))
     | fail)
    refine awp_for (α := Nat) 0 (fun k => [(0, encIs a), (1, encIs b), (12, vi a.length), (13, vi k)]) (fun _ => []) (fun k => k ≤ a.length ∧ a.take k = b.take k) (fun k => a.length - k) 0
      ⟨(.cons rfl rfl (.cons rfl rfl (.cons rfl rfl (.cons rfl rfl .nil)))), rfl, rfl, rfl⟩ ⟨Nat.zero_le _, rfl⟩ ?_
    rintro k ⟨hk, hf⟩
    cases ht : a[k]? with
    | none =>
      have hge : a.length ≤ k := by simpa using ht
      have c1 : decide ((k : Int) < a.length) = false := by simp; omega
      have he : a = b := by
        rw [List.take_of_length_le hge, List.take_of_length_le (by omega)] at hf; exact hf
      refine runn [] ?_
      refine retP rfl ?_
      simp [ex, he]
    | some x =>
      have hlt : k < a.length := (List.getElem?_eq_some_iff.1 ht).1
      obtain ⟨y, hy⟩ : ∃ y, b[k]? = some y := ⟨_, List.getElem?_eq_getElem (by omega)⟩
      have c1 : decide ((k : Int) < a.length) = true := by simp; omega
      have h1 := int_get ht
      have h2 := int_get hy
      repeat' (first
       | refine st [] ?_
       | ((with_reducible refine is_awp ?_); refine awp_cond rfl (fun h => ?_) (fun h => ?_))
       | fail)
      · refine retP rfl ?_
        have hne : x ≠ y := by simpa using h
        have : a ≠ b := fun e => hne (by rw [e, hy] at ht; exact (Option.some.inj ht).symm)
        simp [ex, this]
      · have he : x = y := by simpa using h
        exact ⟨k + 1, ⟨(.cons rfl rfl (.cons rfl rfl (.cons rfl rfl (.cons rfl rfl .nil)))), rfl, rfl, rfl⟩, ⟨by omega, by rw [List.take_add_one, List.take_add_one, hf, ht, hy, he]⟩, by omega⟩
  · have c0 : (!decide ((a.length : Int) = b.length)) = true := by simp; omega
    refine runn [] ?_
    refine retP rfl ?_
    have : a ≠ b := fun e => hl (by rw [e])
    simp [ex, this]
set_option maxHeartbeats 400000 in
theorem eqStamps_spec (a b : List Stamp) (ha : a.length ≤ 1000000) (hb : b.length ≤ 1000000) : PCalls Tryz.prog g 87 [encStamps a, encStamps b] (vb (decide (a = b))) := by
  refine pcalls' Tryz.func87 Tryz.ntmps87 rfl rfl rfl ?_
  by_cases hl : a.length = b.length
  · have c0 : (!decide ((a.length : Int) = b.length)) = false := by simp; omega
    repeat' (first
     | refine stn [] ?_
     | ((with_reducible refine is_awp ?_); refine awp_cond rfl (fun h => ?_) (fun h => ?_))
     | fail)
    refine awp_for (α := Nat) 0 (fun k => [(0, encStamps a), (1, encStamps b), (12, vi a.length), (13, vi k)]) (fun _ => []) (fun k => k ≤ a.length ∧ a.take k = b.take k) (fun k => a.length - k) 0
      ⟨(.cons rfl rfl (.cons rfl rfl (.cons rfl rfl (.cons rfl rfl .nil)))), rfl, rfl, rfl⟩ ⟨Nat.zero_le _, rfl⟩ ?_
    rintro k ⟨hk, hf⟩
    cases ht : a[k]? with
    | none =>
      have hge : a.length ≤ k := by simpa using ht
      have c1 : decide ((k : Int) < a.length) = false := by simp; omega
      have he : a = b := by
        rw [List.take_of_length_le hge, List.take_of_length_le (by omega)] at hf; exact hf
      refine runn [] ?_
      refine retP rfl ?_
      simp [ex, he]
    | some x =>
      have hlt : k < a.length := (List.getElem?_eq_some_iff.1 ht).1
      obtain ⟨y, hy⟩ : ∃ y, b[k]? = some y := ⟨_, List.getElem?_eq_getElem (by omega)⟩
      have c1 : decide ((k : Int) < a.length) = true := by simp; omega
      have h1 := stamp_get ht
      have h2 := stamp_get hy
      repeat' (first
       | ((with_reducible refine isD_un ?_); refine awpD_un (as_ev (fun _ => ev_eq_agg (neg := true) stampEq_T (by kernel_rfl) rfl rfl rfl rfl rfl) rfl rfl) (by (try simp only [List.nil_append, List.cons_append]); (try rfl)) ?_)
       | refine st [] ?_
       | ((with_reducible refine is_awp ?_); refine awp_cond rfl (fun h => ?_) (fun h => ?_))
       | fail)
      · refine retP rfl ?_
        have hne : x ≠ y := by intro e; subst e; simp at h
        have : a ≠ b := fun e => hne (by rw [e, hy] at ht; exact (Option.some.inj ht).symm)
        simp [ex, this]
      · have he : x = y := by exact stamp_ext (by simpa using h)
        exact ⟨k + 1, ⟨(.cons rfl rfl (.cons rfl rfl (.cons rfl rfl (.cons rfl rfl .nil)))), rfl, rfl, rfl⟩, ⟨by omega, by rw [List.take_add_one, List.take_add_one, hf, ht, hy, he]⟩, by omega⟩
  · have c0 : (!decide ((a.length : Int) = b.length)) = true := by simp; omega
    refine runn [] ?_
    refine retP rfl ?_
    have : a ≠ b := fun e => hl (by rw [e])
    simp [ex, this]
theorem op_eq (a b : Op) : decide (a = b) = ((a.at_.count == b.at_.count && a.at_.dev == b.at_.dev) && (decide (a.kind = b.kind) && (decide (a.rec_ = b.rec_) && ((a.note.id == b.note.id && (a.note.tier == b.note.tier && (a.note.parent == b.note.parent && ((a.note.span.fro == b.note.span.fro && a.note.span.til == b.note.span.til) && (a.note.rank == b.note.rank && a.note.text.toList == b.note.text.toList))))) && (decide (a.set = b.set) && (decide (a.n = b.n) && (decide (a.text = b.text) && decide (a.over = b.over)))))))) := by
  have hb : ∀ s t : ByteArray, (s.toList == t.toList) = decide (s = t) := beq_bytes
  rcases a with ⟨⟨a1, a2⟩, a3, a4, ⟨a5, a6, a7, ⟨a8, a9⟩, a10, a11⟩, a12, a13, a14, a15⟩
  rcases b with ⟨⟨b1, b2⟩, b3, b4, ⟨b5, b6, b7, ⟨b8, b9⟩, b10, b11⟩, b12, b13, b14, b15⟩
  simp only [hb, Op.mk.injEq, Stamp.mk.injEq, Note.mk.injEq, Span.mk.injEq, Bool.decide_and]
  simp only [beq_eq_decide']
where
  beq_eq_decide' : ∀ (a b : Int), (a == b) = decide (a = b) := fun a b => by by_cases h : a = b <;> simp [h]
end Go.Proofs.YtekkpfbjnjjcbaaGreatDoor
end
section
set_option linter.unusedVariables false
set_option linter.unusedSimpArgs false
set_option linter.unusedSectionVars false
namespace Go.Proofs.YtekkpfbjnjjcbaaGreatDoor
open Go.Ac
attribute [local irreducible] awp awpL Ev Ev2 EvS thenQ blockQ retQ PCalls OCalls
set_option linter.unusedSimpArgs false
set_option linter.unusedVariables false
variable {g : List (Nat × List AV)}
set_option maxRecDepth 4000 in
set_option maxHeartbeats 1000000 in
theorem Same_spec (a b : Op) (ha : a.over.length ≤ 1000000) (hb : b.over.length ≤ 1000000) : PCalls Tryz.prog g 68 [.agg (opC a), .agg (opC b)] (vb (decide (a = b))) := by
  have h1 := eqStamps_spec (g := g) a.over b.over ha hb
  have hop := op_eq a b
  refine pcalls' Tryz.func68 Tryz.ntmps68 rfl rfl rfl ?_
  repeat' (first
   | ((with_reducible refine is_un ?_); (first | refine awpL_ev (ev_eq_agg (neg := false) stampEq_T (by kernel_rfl) rfl rfl rfl rfl rfl) rfl ?_ | refine awpL_ev (ev_eq_agg (neg := false) noteEq_T (by kernel_rfl) rfl rfl rfl rfl rfl) rfl ?_))
   | refine stn [] ?_
   | ((with_reducible refine is_gd ?_); refine awpL_split rfl rfl (fun h => ?_) (fun h => ?_))
   | fail)
  all_goals refine retP rfl ?_
  all_goals rw [hop]
  all_goals clear h1 hop
  all_goals simp_all [ex]
end Go.Proofs.YtekkpfbjnjjcbaaGreatDoor
end
section
set_option linter.unusedVariables false
set_option linter.unusedSimpArgs false
set_option linter.unusedSectionVars false
namespace Go.Proofs.YtekkpfbjnjjcbaaGreatDoor
open Go.Ac
attribute [local irreducible] awp awpL Ev Ev2 EvS thenQ blockQ retQ PCalls OCalls
set_option linter.unusedSimpArgs false
set_option linter.unusedVariables false
variable {g : List (Nat × List AV)}
set_option maxRecDepth 4000 in
set_option maxHeartbeats 1000000 in
theorem rSame_spec (a b : Op) (ha : a.over.length ≤ 1000000) (hb : b.over.length ≤ 1000000) : PCalls Tryz.prog g 58 [.agg (opC a), .agg (opC b)] (vb (decide (a = b))) := by
  have hop := op_eq a b
  refine pcalls' Tryz.func58 Tryz.ntmps58 rfl rfl rfl ?_
  by_cases hl : a.over.length = b.over.length
  · have c0 : (!decide ((a.over.length : Int) = b.over.length)) = false := by simp; omega
    repeat' (first
     | refine stn [] ?_
     | ((with_reducible refine is_awp ?_); refine awp_cond rfl (fun h => ?_) (fun h => ?_))
     | fail)
    refine awp_for (α := Nat) 0 (fun k => [(2, .fp (opC a)), (3, .fp (opC b)), (15, vi a.over.length), (16, vi k)]) (fun _ => []) (fun k => k ≤ a.over.length ∧ a.over.take k = b.over.take k) (fun k => a.over.length - k) 0
      ⟨(.cons rfl rfl (.cons rfl rfl (.cons rfl rfl (.cons rfl rfl .nil)))), rfl, rfl, rfl⟩ ⟨Nat.zero_le _, rfl⟩ ?_
    rintro k ⟨hk, hf⟩
    cases ht : a.over[k]? with
    | none =>
      have hge : a.over.length ≤ k := by simpa using ht
      have c1 : decide ((k : Int) < a.over.length) = false := by simp; omega
      have he : a.over = b.over := by
        rw [List.take_of_length_le hge, List.take_of_length_le (by omega)] at hf; exact hf
      have he2 : decide (a.over = b.over) = true := by simp [he]
      rw [he2] at hop
      repeat' (first
       | ((with_reducible refine is_un ?_); (first | refine awpL_ev (ev_eq_agg (neg := false) stampEq_T (by kernel_rfl) rfl rfl rfl rfl rfl) rfl ?_ | refine awpL_ev (ev_eq_agg (neg := false) noteEq_T (by kernel_rfl) rfl rfl rfl rfl rfl) rfl ?_))
       | refine stn [] ?_
       | ((with_reducible refine is_gd ?_); refine awpL_split rfl rfl (fun h => ?_) (fun h => ?_))
       | fail)
      all_goals refine retP rfl ?_
      all_goals rw [hop]
      all_goals clear hop he he2 hf
      all_goals simp_all [ex]
    | some x =>
      have hlt : k < a.over.length := (List.getElem?_eq_some_iff.1 ht).1
      obtain ⟨y, hy⟩ : ∃ y, b.over[k]? = some y := ⟨_, List.getElem?_eq_getElem (by omega)⟩
      have c1 : decide ((k : Int) < a.over.length) = true := by simp; omega
      have h1 := stamp_get ht
      have h2 := stamp_get hy
      repeat' (first
       | ((with_reducible refine isD_un ?_); refine awpD_un (as_ev (fun _ => ev_eq_agg (neg := true) stampEq_T (by kernel_rfl) rfl rfl rfl rfl rfl) rfl rfl) (by (try simp only [List.nil_append, List.cons_append]); (try rfl)) ?_)
       | refine st [] ?_
       | ((with_reducible refine is_awp ?_); refine awp_cond rfl (fun h => ?_) (fun h => ?_))
       | fail)
      · refine retP rfl ?_
        have hne : x ≠ y := by intro e; subst e; simp at h
        have : a ≠ b := fun e => hne (by rw [e, hy] at ht; exact (Option.some.inj ht).symm)
        simp [ex, this]
      · have he : x = y := by exact stamp_ext (by simpa using h)
        exact ⟨k + 1, ⟨(.cons rfl rfl (.cons rfl rfl (.cons rfl rfl (.cons rfl rfl .nil)))), rfl, rfl, rfl⟩, ⟨by omega, by rw [List.take_add_one, List.take_add_one, hf, ht, hy, he]⟩, by omega⟩
  · have c0 : (!decide ((a.over.length : Int) = b.over.length)) = true := by simp; omega
    refine runn [] ?_
    refine retP rfl ?_
    have : a ≠ b := fun e => hl (by rw [e])
    simp [ex, this]
end Go.Proofs.YtekkpfbjnjjcbaaGreatDoor
end
section
set_option linter.unusedVariables false
set_option linter.unusedSimpArgs false
set_option linter.unusedSectionVars false
namespace Go.Proofs.YtekkpfbjnjjcbaaGreatDoor
open Go.Ac
attribute [local irreducible] awp awpL Ev Ev2 EvS thenQ blockQ retQ PCalls OCalls
set_option linter.unusedSimpArgs false
set_option linter.unusedVariables false
variable {g : List (Nat × List AV)}
def Fit (l : List Op) : Prop := l.length ≤ 100000 ∧ ∀ o ∈ l, o.over.length ≤ 100000
theorem Fit.get {l : List Op} (h : Fit l) {k : Nat} {o : Op} (hk : l[k]? = some o) : o.over.length ≤ 1000000 := by
  have := h.2 o (List.mem_of_getElem? hk); omega
theorem any_drop {α : Type} (f : α → Bool) (l : List α) (k : Nat) (x : α) (h : l[k]? = some x) : (l.drop k).any f = (f x || (l.drop (k + 1)).any f) := by
  obtain ⟨hlt, rfl⟩ := List.getElem?_eq_some_iff.1 h
  rw [List.drop_eq_getElem_cons hlt]; rfl
end Go.Proofs.YtekkpfbjnjjcbaaGreatDoor
end
section
set_option linter.unusedVariables false
set_option linter.unusedSimpArgs false
set_option linter.unusedSectionVars false
namespace Go.Proofs.YtekkpfbjnjjcbaaGreatDoor
open Go.Ac
attribute [local irreducible] awp awpL Ev Ev2 EvS thenQ blockQ retQ PCalls OCalls
set_option linter.unusedSimpArgs false
set_option linter.unusedVariables false
variable {g : List (Nat × List AV)}
theorem take_map {α : Type} (f : α → List AV) (l : List α) (k : Nat) (x : α) (h : l[k]? = some x) : (l.take k).map f ++ [f x] = (l.take (k + 1)).map f := by
  rw [List.take_add_one, h, List.map_append]; rfl
end Go.Proofs.YtekkpfbjnjjcbaaGreatDoor
end
section
set_option linter.unusedVariables false
set_option linter.unusedSimpArgs false
set_option linter.unusedSectionVars false
namespace Go.Proofs.YtekkpfbjnjjcbaaGreatDoor
open Go.Ac
attribute [local irreducible] awp awpL Ev Ev2 EvS thenQ blockQ retQ PCalls OCalls
set_option linter.unusedSimpArgs false
set_option linter.unusedVariables false
variable {g : List (Nat × List AV)}
def FitR (r : Replica) : Prop := Fit r.ops ∧ r.seen.length ≤ 100000
set_option maxHeartbeats 1000000 in
theorem rSameR_spec (a b : Replica) (ha : FitR a) (hb : FitR b) : PCalls Tryz.prog g 26 [.agg (repC a), .agg (repC b)] (vb (decide (a = b))) := by
  have h1 := rSameInts_spec (g := g) a.seen b.seen (by have := ha.2; omega) (by have := hb.2; omega)
  have ha1 := ha.1.1
  have hb1 := hb.1.1
  have hext : ∀ {a b : Replica}, a.dev = b.dev → a.seen = b.seen → a.ops = b.ops → a = b := fun {a b} h1 h2 h3 => by cases a; cases b; simp_all
  refine pcalls' Tryz.func26 Tryz.ntmps26 rfl rfl rfl ?_
  by_cases hd : a.dev = b.dev
  · have d0 : (!decide (a.dev = b.dev)) = false := by simp [hd]
    by_cases hs : a.seen = b.seen
    · have n1 : (!true) = false := rfl
      rw [decide_eq_true hs] at h1
      by_cases hl : a.ops.length = b.ops.length
      · have c0 : (!decide ((a.ops.length : Int) = b.ops.length)) = false := by simp; omega
        repeat' (first
         | refine stn [] ?_
         | ((with_reducible refine is_awp ?_); refine awp_cond rfl (fun h => ?_) (fun h => ?_))
         | fail)
        refine awp_for (α := Nat) 0 (fun k => [(2, .fp (repC a)), (3, .fp (repC b)), (5, vi k)]) (fun _ => []) (fun k => k ≤ a.ops.length ∧ a.ops.take k = b.ops.take k) (fun k => a.ops.length - k) 0
          ⟨(.cons rfl rfl (.cons rfl rfl (.cons rfl rfl .nil))), rfl, rfl, rfl⟩ ⟨Nat.zero_le _, rfl⟩ ?_
        rintro k ⟨hk, hf⟩
        cases ht : a.ops[k]? with
        | none =>
          have hge : a.ops.length ≤ k := by simpa using ht
          have c1 : decide ((k : Int) < a.ops.length) = false := by simp; omega
          have he : a.ops = b.ops := by
            rw [List.take_of_length_le hge, List.take_of_length_le (by omega)] at hf; exact hf
          refine runn [] ?_
          refine retP rfl ?_
          simp [ex, hext hd hs he]
        | some x =>
          have hlt : k < a.ops.length := (List.getElem?_eq_some_iff.1 ht).1
          obtain ⟨y, hy⟩ : ∃ y, b.ops[k]? = some y := ⟨_, List.getElem?_eq_getElem (by omega)⟩
          have c1 : decide ((k : Int) < a.ops.length) = true := by simp; omega
          have h2 := op_get ht
          have h3 := op_get hy
          have h4 := rSame_spec (g := g) x y (ha.1.get ht) (hb.1.get hy)
          repeat' (first
           | refine st [] ?_
           | ((with_reducible refine is_awp ?_); refine awp_cond rfl (fun h => ?_) (fun h => ?_))
           | fail)
          · refine retP rfl ?_
            have hne : x ≠ y := by simpa using h
            have : a ≠ b := fun e => hne (by rw [e, hy] at ht; exact (Option.some.inj ht).symm)
            simp [ex, this]
          · have he : x = y := by simpa using h
            exact ⟨k + 1, ⟨(.cons rfl rfl (.cons rfl rfl (.cons rfl rfl .nil))), rfl, rfl, rfl⟩, ⟨by omega, by rw [List.take_add_one, List.take_add_one, hf, ht, hy, he]⟩, by omega⟩
      · have c0 : (!decide ((a.ops.length : Int) = b.ops.length)) = true := by simp; omega
        refine runn [] ?_
        refine retP rfl ?_
        have : a ≠ b := fun e => hl (by rw [e])
        simp [ex, this]
    · have n1 : (!false) = true := rfl
      rw [decide_eq_false hs] at h1
      refine runn [] ?_
      refine retP rfl ?_
      have : a ≠ b := fun e => hs (by rw [e])
      simp [ex, this]
  · have d0 : (!decide (a.dev = b.dev)) = true := by simp [hd]
    refine runn [] ?_
    refine retP rfl ?_
    have : a ≠ b := fun e => hd (by rw [e])
    simp [ex, this]
end Go.Proofs.YtekkpfbjnjjcbaaGreatDoor
end
section
set_option linter.unusedVariables false
set_option linter.unusedSimpArgs false
set_option linter.unusedSectionVars false
namespace Go.Proofs.YtekkpfbjnjjcbaaGreatDoor
open Go.Ac
attribute [local irreducible] awp awpL Ev Ev2 EvS thenQ blockQ retQ PCalls OCalls
set_option linter.unusedSimpArgs false
set_option linter.unusedVariables false
variable {g : List (Nat × List AV)}
def start (dev : Int) : Replica := ⟨dev, List.replicate 15 0, []⟩
def addOp (c d : Int) (t : ByteArray) : Op := ⟨⟨c, d⟩, 0, 1, ⟨16 * c + d, 0, 0, ⟨0, 0⟩, 0, t⟩, 0, 0, .empty, []⟩
def opOk (o : Op) : Bool := decide (o.over.length ≤ 20) && decide (o.text.size ≤ 300) && decide (o.note.text.size ≤ 300)
def opsOk (l : List Op) : Bool := decide (l.length ≤ 16) && l.all opOk
theorem all_drop {α : Type} (f : α → Bool) (l : List α) (k : Nat) (x : α) (h : l[k]? = some x) : (l.drop k).all f = (f x && (l.drop (k + 1)).all f) := by
  obtain ⟨hlt, rfl⟩ := List.getElem?_eq_some_iff.1 h
  rw [List.drop_eq_getElem_cons hlt]; rfl
end Go.Proofs.YtekkpfbjnjjcbaaGreatDoor
end
section
set_option linter.unusedVariables false
set_option linter.unusedSimpArgs false
set_option linter.unusedSectionVars false
namespace Go.Proofs.YtekkpfbjnjjcbaaGreatDoor
open Go.Ac
attribute [local irreducible] awp awpL Ev Ev2 EvS thenQ blockQ retQ PCalls OCalls
set_option linter.unusedSimpArgs false
set_option linter.unusedVariables false
variable {g : List (Nat × List AV)}
def missStep (seen : List Int) (most : Int) (out : List Op) (o : Op) : List Op := if (out.length : Int) < most ∧ covers seen o.at_ = false then out ++ [o] else out
def missing (l : List Op) (seen : List Int) (most : Int) : List Op := l.foldl (missStep seen most) []
theorem miss_full (seen : List Int) (most : Int) : ∀ (l out : List Op), most ≤ out.length → l.foldl (missStep seen most) out = out
  | [], out, _ => rfl
  | o :: r, out, h => by
    have : missStep seen most out o = out := by unfold missStep; rw [if_neg (by omega)]
    rw [List.foldl_cons, this, miss_full seen most r out h]
abbrev missK (l : List Op) (seen : List Int) (most : Int) (k : Nat) : List Op := (l.take k).foldl (missStep seen most) []
end Go.Proofs.YtekkpfbjnjjcbaaGreatDoor
end
section
set_option linter.unusedVariables false
set_option linter.unusedSimpArgs false
set_option linter.unusedSectionVars false
namespace Go.Proofs.YtekkpfbjnjjcbaaGreatDoor
open Go.Ac
attribute [local irreducible] awp awpL Ev Ev2 EvS thenQ blockQ retQ PCalls OCalls
set_option linter.unusedSimpArgs false
set_option linter.unusedVariables false
variable {g : List (Nat × List AV)}
end Go.Proofs.YtekkpfbjnjjcbaaGreatDoor
end
section
set_option linter.unusedVariables false
set_option linter.unusedSimpArgs false
set_option linter.unusedSectionVars false
namespace Go.Proofs.YtekkpfbjnjjcbaaGreatDoor
open Go.Ac
attribute [local irreducible] awp awpL Ev Ev2 EvS thenQ blockQ retQ PCalls OCalls
set_option linter.unusedSimpArgs false
set_option linter.unusedVariables false
variable {g : List (Nat × List AV)}
def behind (a b : List Op) : Nat := b.countP fun o => !has a o
abbrev behK (a b : List Op) (k : Nat) : Nat := (b.take k).countP fun o => !has a o
end Go.Proofs.YtekkpfbjnjjcbaaGreatDoor
end
section
set_option linter.unusedVariables false
set_option linter.unusedSimpArgs false
set_option linter.unusedSectionVars false
namespace Go.Proofs.YtekkpfbjnjjcbaaGreatDoor
open Go.Ac
theorem int_chk (b : Bool) (n : Nat) (a : Int) (w : World) : (Instr.checkKey b (n + 1) 3 (.int .i64 a)).run Tryz.prog w = .ok () w := by
  unfold Instr.checkKey
  simp [run_underlying Tryz.underlying3, Result.andThen]
theorem stamp_chk (b : Bool) (a c : Int) (w : World) : (Instr.checkKey b 10000 57 (.agg #[.int .i64 a, .int .i64 c])).run Tryz.prog w = .ok () w := by
  have h1 := int_chk b 9998 a w
  have h2 := int_chk b 9998 c w
  have a3 := Tryz.isAgg3
  have z3 := Tryz.sizeOf3
  rw [show (10000 : Nat) = 9999 + 1 from rfl]
  unfold Instr.checkKey
  simp only [Sem.run_bind, run_underlying Tryz.underlying57, Result.andThen_ok]
  have p0 : (part 3 #[Value.int IntKind.i64 a, Value.int IntKind.i64 c] 0).run Tryz.prog w = .ok (.int .i64 a) w := by simp [part, a3, Result.andThen]
  have p1 : (part 3 #[Value.int IntKind.i64 a, Value.int IntKind.i64 c] 1).run Tryz.prog w = .ok (.int .i64 c) w := by simp [part, a3, Result.andThen]
  simp [p0, p1, h1, h2, Result.andThen]
def isStampV (v : Value) : Prop := ∃ a b, v = .agg #[.int .i64 a, .int .i64 b]
def stampV (s : Stamp) : Value := .agg #[.int .i64 s.count, .int .i64 s.dev]
theorem stampKey : KeyOk Tryz.prog 57 isStampV := by
  refine KeyOk.asks Tryz.underlying57 (fun a b _ _ => by rfl) (fun x y w hx hy => ?_) (fun b k w hk => ?_) (fun k hk => ?_)
  · obtain ⟨a, b, rfl⟩ := hx
    obtain ⟨c, d, rfl⟩ := hy
    refine ⟨_, stampEq_T [.int .i64 a, .int .i64 b] [.int .i64 c, .int .i64 d] _ w rfl, ?_⟩
    simp
  · obtain ⟨a, c, rfl⟩ := hk
    exact stamp_chk b a c w
  · obtain ⟨a, c, rfl⟩ := hk
    simp [Instr.sameBits]
theorem stampV_inj (a b : Stamp) (h : stampV a = stampV b) : a = b := by
  simp [stampV] at h
  exact stamp_ext h
theorem stampV_R (s : Stamp) : ∀ c y, R c (.agg (stampC s)) y → y = stampV s := by
  intro c y h
  simp only [R, RF, stampC, LF] at h
  obtain ⟨xs, rfl, y1, s1, e1, rfl, _, y2, s2, e2, rfl, _, e3⟩ := h
  subst e3 e2
  unfold stampV
  congr 1
  apply Array.ext'
  simpa using e1
theorem stampV_ok (s : Stamp) : isStampV (stampV s) := ⟨_, _, rfl⟩
end Go.Proofs.YtekkpfbjnjjcbaaGreatDoor
end
section
set_option linter.unusedVariables false
set_option linter.unusedSimpArgs false
set_option linter.unusedSectionVars false
namespace Go.Proofs.YtekkpfbjnjjcbaaGreatDoor
open Go.Ac
attribute [local irreducible] awp awpL Ev Ev2 EvS thenQ blockQ retQ PCalls OCalls
set_option linter.unusedSimpArgs false
set_option linter.unusedVariables false
variable {g : List (Nat × List AV)}
abbrev ownM (l : List Op) (k : Nat) : List (Stamp × Op) := (l.take k).foldl (fun m o => aput m o.at_ o) []
def mks (m : List (Stamp × Op)) : List Value := m.map fun p => stampV p.1
def mxs (m : List (Stamp × Op)) : List AV := m.map fun p => .agg (opC p.2)
def unlike (m : List (Stamp × Op)) (o : Op) : Bool := match aget m o.at_ with
  | none => true
  | some y => !decide (y = o)
def behindM (a b : List Op) : Nat := b.countP (unlike (ownM a a.length))
abbrev bmK (m : List (Stamp × Op)) (b : List Op) (k : Nat) : Nat := (b.take k).countP (unlike m)
end Go.Proofs.YtekkpfbjnjjcbaaGreatDoor
namespace Go.Proofs.YtekkpfbjnjjcbaaGreatDoor
open Go.Ac
end Go.Proofs.YtekkpfbjnjjcbaaGreatDoor
end
section
set_option linter.unusedVariables false
set_option linter.unusedSimpArgs false
set_option linter.unusedSectionVars false
namespace Go.Proofs.YtekkpfbjnjjcbaaGreatDoor
open Go.Ac
attribute [local irreducible] awp awpL Ev Ev2 EvS thenQ blockQ retQ PCalls OCalls YieldOk
set_option linter.unusedSimpArgs false
set_option linter.unusedVariables false
variable {g : List (Nat × List AV)}
end Go.Proofs.YtekkpfbjnjjcbaaGreatDoor
end
section
set_option linter.unusedVariables false
set_option linter.unusedSimpArgs false
set_option linter.unusedSectionVars false
namespace Go.Proofs.YtekkpfbjnjjcbaaGreatDoor
open Go.Ac
attribute [local irreducible] awp awpL Ev Ev2 EvS thenQ blockQ retQ PCalls OCalls YieldOk IterC
set_option linter.unusedSimpArgs false
set_option linter.unusedVariables false
variable {g : List (Nat × List AV)}
end Go.Proofs.YtekkpfbjnjjcbaaGreatDoor
end
section
set_option linter.unusedVariables false
set_option linter.unusedSimpArgs false
set_option linter.unusedSectionVars false
namespace Go.Proofs.YtekkpfbjnjjcbaaGreatDoor
open Go.Ac
attribute [local irreducible] awp awpL Ev Ev2 EvS thenQ blockQ retQ PCalls OCalls YieldOk IterC
set_option linter.unusedSimpArgs false
set_option linter.unusedVariables false
variable {g : List (Nat × List AV)}
theorem Fit.take {l : List Op} (h : Fit l) (k : Nat) : Fit (l.take k) := ⟨by have := h.1; rw [List.length_take]; omega, fun o ho => h.2 o (List.mem_of_mem_take ho)⟩
theorem Fit.drop {l : List Op} (h : Fit l) (k : Nat) : Fit (l.drop k) := ⟨by have := h.1; rw [List.length_drop]; omega, fun o ho => h.2 o (List.mem_of_mem_drop ho)⟩
theorem Fit.of_mem {l m : List Op} (h : Fit l) (hl : m.length ≤ l.length) (hm : ∀ o, o ∈ m → o ∈ l) : Fit m := ⟨by have := h.1; omega, fun o ho => h.2 o (hm o ho)⟩
theorem Fit.sorted {l : List Op} (h : Fit l) : Fit (sorted l) := h.of_mem (by rw [sorted_len]; exact Nat.le_refl _) fun o ho => (sorted_mem l o).1 ho
end Go.Proofs.YtekkpfbjnjjcbaaGreatDoor
end
section
set_option linter.unusedVariables false
set_option linter.unusedSimpArgs false
set_option linter.unusedSectionVars false
namespace Go.Proofs.YtekkpfbjnjjcbaaGreatDoor
open Go.Ac
attribute [local irreducible] awp awpL Ev Ev2 EvS thenQ blockQ retQ PCalls OCalls YieldOk IterC
set_option linter.unusedSimpArgs false
set_option linter.unusedVariables false
variable {g : List (Nat × List AV)}
theorem wanted_spec (b : Bool) : PCalls Tryz.prog g 88 [vb b] (vi (wanted b)) := by
  refine pcalls' Tryz.func88 Tryz.ntmps88 rfl rfl rfl ?_
  cases b with
  | false =>
    have n1 : (!false) = true := rfl
    refine runn [] ?_
    exact retP rfl rfl
  | true =>
    have n1 : (!true) = false := rfl
    refine runn [] ?_
    exact retP rfl rfl
theorem within_spec (a b c : Int) : PCalls Tryz.prog g 97 [vi a, vi b, vi c] (vb (within a b c)) := by
  refine pcalls' Tryz.func97 Tryz.ntmps97 rfl rfl rfl ?_
  repeat' (first
   | refine stn [] ?_
   | ((with_reducible refine is_gd ?_); refine awpL_split rfl rfl (fun h => ?_) (fun h => ?_))
   | fail)
  all_goals refine retP rfl ?_
  all_goals simp_all [ex, within]
  all_goals (intros; omega)
theorem ident_spec (a : Int) : PCalls Tryz.prog g 98 [vi a] (vb (within a 1 1099511627776)) := by
  refine pcalls' Tryz.func98 Tryz.ntmps98 rfl rfl rfl ?_
  repeat' (first
   | refine stn [] ?_
   | ((with_reducible refine is_gd ?_); refine awpL_split rfl rfl (fun h => ?_) (fun h => ?_))
   | fail)
  all_goals refine retP rfl ?_
  all_goals simp_all [ex, within]
  all_goals (intros; omega)
abbrev spanC (s : Span) : List AV := [.v (.int .i64 s.fro), .v (.int .i64 s.til)]
theorem spanR_spec (s : Span) : PCalls Tryz.prog g 107 [.agg (spanC s)] (vb (spanRight s)) := by
  refine pcalls' Tryz.func107 Tryz.ntmps107 rfl rfl rfl ?_
  repeat' (first
   | refine stn [] ?_
   | ((with_reducible refine is_gd ?_); refine awpL_split rfl rfl (fun h => ?_) (fun h => ?_))
   | fail)
  all_goals refine retP rfl ?_
  all_goals simp_all [ex, spanRight]
  all_goals omega
theorem rspanR_spec (s : Span) : PCalls Tryz.prog g 112 [.agg (spanC s)] (vb (spanRight s)) := by
  refine pcalls' Tryz.func112 Tryz.ntmps112 rfl rfl rfl ?_
  repeat' (first
   | refine stn [] ?_
   | ((with_reducible refine is_gd ?_); refine awpL_split rfl rfl (fun h => ?_) (fun h => ?_))
   | fail)
  all_goals refine retP rfl ?_
  all_goals simp_all [ex, spanRight]
  all_goals omega
set_option maxHeartbeats 400000 in
theorem first_spec (l : List Int) (hl : l.length ≤ 1000000) : PCalls Tryz.prog g 89 [encIs l] (vi (firstE l)) := by
  refine pcalls' Tryz.func89 Tryz.ntmps89 rfl rfl rfl ?_
  repeat' (first
   | refine stn [] ?_
   | ((with_reducible refine is_awp ?_); refine awp_cond rfl (fun h => ?_) (fun h => ?_))
   | fail)
  refine awp_for (α := Nat) 0 (fun k => [(5, encIs l), (6, vi l.length), (7, vi k)]) (fun _ => []) (fun k => k ≤ l.length ∧ l.find? (fun x => decide (x ≠ 0)) = (l.drop k).find? (fun x => decide (x ≠ 0))) (fun k => l.length - k) 0
    ⟨(.cons rfl rfl (.cons rfl rfl (.cons rfl rfl .nil))), rfl, rfl, rfl⟩ ⟨Nat.zero_le _, rfl⟩ ?_
  rintro k ⟨hk, hf⟩
  cases ht : l[k]? with
  | none =>
    have hge : l.length ≤ k := by simpa using ht
    have c1 : decide ((k : Int) < l.length) = false := by simp; omega
    rw [List.drop_of_length_le hge] at hf
    refine runn [] ?_
    refine retP rfl ?_
    rw [firstE, hf]; rfl
  | some t =>
    have hlt : k < l.length := (List.getElem?_eq_some_iff.1 ht).1
    have c1 : decide ((k : Int) < l.length) = true := by simp; omega
    have h1 := int_get ht
    have hd : l.drop k = t :: l.drop (k + 1) := by
      obtain ⟨_, rfl⟩ := List.getElem?_eq_some_iff.1 ht
      exact List.drop_eq_getElem_cons hlt
    rw [hd] at hf
    repeat' (first
     | refine stn [] ?_
     | ((with_reducible refine is_awp ?_); refine awp_cond rfl (fun h => ?_) (fun h => ?_))
     | fail)
    · refine retP rfl ?_
      rw [firstE, hf]
      have : t ≠ 0 := by simpa using h
      simp [this, ex]
    · refine ⟨k + 1, ⟨(.cons rfl rfl (.cons rfl rfl (.cons rfl rfl .nil))), rfl, rfl, rfl⟩, ⟨by omega, ?_⟩, by omega⟩
      rw [hf]
      have : t = 0 := by simpa using h
      simp [this]
theorem wr_spec (o : Op) (f : Int) : PCalls Tryz.prog g 96 [.agg (opC o), vi f] (vb (wrt o f)) := by
  refine pcalls' Tryz.func96 Tryz.ntmps96 rfl rfl rfl ?_
  repeat' (first
   | refine stn [] ?_
   | ((with_reducible refine is_gd ?_); refine awpL_split rfl rfl (fun h => ?_) (fun h => ?_))
   | ((with_reducible refine is_awp ?_); refine awp_cond rfl (fun h => ?_) (fun h => ?_))
   | fail)
  all_goals refine retP rfl ?_
  all_goals simp_all [ex, wrt, within]
  all_goals omega
theorem rwr_spec (o : Op) (f : Int) : PCalls Tryz.prog g 104 [.agg (opC o), vi f] (vb (wrt o f)) := by
  have h1 := within_spec (g := g) f 0 2
  refine pcalls' Tryz.func104 Tryz.ntmps104 rfl rfl rfl ?_
  cases hw : within f 0 2 with
  | false =>
    rw [hw] at h1
    refine runn [] ?_
    all_goals refine retP rfl ?_
    all_goals clear h1
    all_goals simp_all [ex, wrt]
  | true =>
    rw [hw] at h1
    repeat' (first
     | refine stn [] ?_
     | ((with_reducible refine is_gd ?_); refine awpL_split rfl rfl (fun h => ?_) (fun h => ?_))
     | fail)
    all_goals refine retP rfl ?_
    all_goals clear h1
    all_goals simp_all [ex, wrt]
theorem Writes_spec (o : Op) (n f : Int) : PCalls Tryz.prog g 72 [.agg (opC o), vi n, vi f] (vb (writes o n f)) := by
  have h1 := wr_spec (g := g) o f
  refine pcalls' Tryz.func72 Tryz.ntmps72 rfl rfl rfl ?_
  repeat' (first
   | refine stn [] ?_
   | ((with_reducible refine is_gd ?_); refine awpL_split rfl rfl (fun h => ?_) (fun h => ?_))
   | fail)
  all_goals refine retP rfl ?_
  all_goals clear h1
  all_goals simp_all [ex, writes]
theorem rWrites_spec (o : Op) (n f : Int) : PCalls Tryz.prog g 79 [.agg (opC o), vi n, vi f] (vb (writes o n f)) := by
  have h1 := rwr_spec (g := g) o f
  refine pcalls' Tryz.func79 Tryz.ntmps79 rfl rfl rfl ?_
  repeat' (first
   | refine stn [] ?_
   | ((with_reducible refine is_gd ?_); refine awpL_split rfl rfl (fun h => ?_) (fun h => ?_))
   | fail)
  all_goals refine retP rfl ?_
  all_goals clear h1
  all_goals simp_all [ex, writes]
end Go.Proofs.YtekkpfbjnjjcbaaGreatDoor
end
