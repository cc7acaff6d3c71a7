/- A logic of trees over the model's steps, and the contracts of the functions that the laws reach: part 11 of 19. -/
import Derived.Test.YtnacjdaoiepbhaaGreatDoorB10
import Derived.Lib.AtoiAllCases
set_option linter.unusedVariables false
set_option linter.unusedSimpArgs false
set_option linter.unusedSectionVars false
section
namespace Go.Proofs.YtnacjdaoiepbhaaGreatDoor
open Go.Ac
attribute [local irreducible] awp awpL Ev Ev2 EvS thenQ blockQ retQ PCalls OCalls
variable {g : List (Nat × List AV)}
abbrev parseV (o : Option Int) : AV := .tup [vi (o.getD 0), vb o.isSome]
def GN : List (Nat × List AV) := [(0, limCs), (2, powCs), (3, errCs), (4, errCs)]
theorem GN_num : NumG GN := ⟨by simp [GN], by simp [GN], by simp [GN], by simp [GN]⟩
theorem NumG.sub (h : NumG g) : ∀ p ∈ GN, p ∈ g := by
  intro p hp
  simp only [GN, List.mem_cons, List.not_mem_nil, or_false] at hp
  rcases hp with rfl | rfl | rfl | rfl
  · exact h.lim
  · exact h.pow
  · exact h.syn
  · exact h.rng
set_option maxHeartbeats 1000000 in
theorem NParse_N (s : ByteArray) (hs : s.size ≤ 281474976710656) : PCalls Tryz.prog GN 71 [.v (.string s)] (parseV (numP s)) := by
  have hA := Atoi_spec GN_num s hs
  refine pcalls' Tryz.func71 Tryz.ntmps71 rfl rfl rfl ?_
  unfold atoiV at hA
  cases h : Go.Lib.atoiAll s.data.toList
  · rename_i n
    rw [h] at hA
    simp only at hA
    obtain ⟨b0, b1⟩ := Go.Lib.atoiAll_bounds h
    have hT := NText_spec GN_num n ⟨b0, b1⟩
    have hP : numP s = if numT n = s ∧ inNum n then some n else none := by unfold numP; rw [h]
    have d1 : decide (n < -1099511627776) = true ∨ decide (n < -1099511627776) = false := by cases decide (n < -1099511627776) <;> simp
    by_cases e1 : numT n = s
    · have c1 : (!decide (numT n = s)) = false := by simp [e1]
      by_cases e2 : n < -1099511627776
      · have c2 : decide (n < -1099511627776) = true := decide_eq_true e2
        rw [hP, if_neg (by omega)]
        repeat' (first
         | ((with_reducible refine is_un ?_); (first | refine awpL_ev (ev_ia_fp rfl rfl rfl rfl rfl (by decide)) rfl ?_ | refine awpL_ev (ev_ifc_nn rfl rfl rfl) rfl ?_))
         | refine stn [] ?_
         | ((with_reducible refine is_gd ?_); refine awpL_split rfl rfl (fun h => ?_) (fun h => ?_))
         | ((with_reducible refine is_awp ?_); refine awp_cond rfl (fun h => ?_) (fun h => ?_))
         | fail)
        exact retP rfl rfl
      have c2 : decide (n < -1099511627776) = false := decide_eq_false e2
      by_cases e3 : 1099511627776 < n
      · have c3 : decide (1099511627776 < n) = true := decide_eq_true e3
        rw [hP, if_neg (by omega)]
        repeat' (first
         | ((with_reducible refine is_un ?_); (first | refine awpL_ev (ev_ia_fp rfl rfl rfl rfl rfl (by decide)) rfl ?_ | refine awpL_ev (ev_ifc_nn rfl rfl rfl) rfl ?_))
         | refine stn [] ?_
         | ((with_reducible refine is_gd ?_); refine awpL_split rfl rfl (fun h => ?_) (fun h => ?_))
         | ((with_reducible refine is_awp ?_); refine awp_cond rfl (fun h => ?_) (fun h => ?_))
         | fail)
        exact retP rfl rfl
      have c3 : decide (1099511627776 < n) = false := decide_eq_false e3
      rw [hP, if_pos ⟨e1, by omega, by omega⟩]
      repeat' (first
       | ((with_reducible refine is_un ?_); (first | refine awpL_ev (ev_ia_fp rfl rfl rfl rfl rfl (by decide)) rfl ?_ | refine awpL_ev (ev_ifc_nn rfl rfl rfl) rfl ?_))
       | refine stn [] ?_
       | ((with_reducible refine is_gd ?_); refine awpL_split rfl rfl (fun h => ?_) (fun h => ?_))
       | ((with_reducible refine is_awp ?_); refine awp_cond rfl (fun h => ?_) (fun h => ?_))
       | fail)
      exact retP rfl rfl
    · have c1 : (!decide (numT n = s)) = true := by simp [e1]
      rw [hP, if_neg (fun q => e1 q.1)]
      repeat' (first
       | ((with_reducible refine is_un ?_); (first | refine awpL_ev (ev_ia_fp rfl rfl rfl rfl rfl (by decide)) rfl ?_ | refine awpL_ev (ev_ifc_nn rfl rfl rfl) rfl ?_))
       | refine stn [] ?_
       | ((with_reducible refine is_gd ?_); refine awpL_split rfl rfl (fun h => ?_) (fun h => ?_))
       | ((with_reducible refine is_awp ?_); refine awp_cond rfl (fun h => ?_) (fun h => ?_))
       | fail)
      exact retP rfl rfl
  · rw [h] at hA
    simp only at hA
    have hP : numP s = none := by unfold numP; rw [h]
    rw [hP]
    repeat' (first
     | ((with_reducible refine is_un ?_); refine awpL_ev (ev_ifc_ne rfl rfl rfl) rfl ?_)
     | refine stn [] ?_
     | ((with_reducible refine is_gd ?_); refine awpL_split rfl rfl (fun h => ?_) (fun h => ?_))
     | ((with_reducible refine is_awp ?_); refine awp_cond rfl (fun h => ?_) (fun h => ?_))
     | fail)
    exact retP rfl rfl
  · rw [h] at hA
    simp only at hA
    have hP : numP s = none := by unfold numP; rw [h]
    rw [hP]
    repeat' (first
     | ((with_reducible refine is_un ?_); refine awpL_ev (ev_ifc_ne rfl rfl rfl) rfl ?_)
     | refine stn [] ?_
     | ((with_reducible refine is_gd ?_); refine awpL_split rfl rfl (fun h => ?_) (fun h => ?_))
     | ((with_reducible refine is_awp ?_); refine awp_cond rfl (fun h => ?_) (fun h => ?_))
     | fail)
    exact retP rfl rfl
theorem NParse_spec (hN : NumG g) (s : ByteArray) (hs : s.size ≤ 281474976710656) : PCalls Tryz.prog g 71 [.v (.string s)] (parseV (numP s)) := (NParse_N s hs).sub hN.sub
theorem dropB_cons {l : List UInt8} {k : Nat} {c : UInt8} (h : l[k]? = some c) : l.drop k = c :: l.drop (k + 1) := by
  obtain ⟨h1, h2⟩ := List.getElem?_eq_some_iff.1 h
  rw [List.drop_eq_getElem_cons h1, h2]
theorem size_list (s : ByteArray) : s.data.toList.length = s.size := by rw [Array.length_toList]; rfl
theorem byteL_get {s : ByteArray} {k : Nat} {c : UInt8} (h : s.data.toList[k]? = some c) : 0 ≤ (k : Int) ∧ s.data[(k : Int).toNat]? = some c := ⟨by omega, by simpa using h⟩
set_option maxHeartbeats 4000000 in
theorem rNParse_spec (s : ByteArray) (hs : s.size ≤ 1000000) : PCalls Tryz.prog g 72 [.v (.string s)] (parseV (numP s)) := by
  have hlen := size_list s
  rw [numP_raw]
  refine pcalls' Tryz.func72 Tryz.ntmps72 rfl rfl rfl ?_
  have c45 : (sgn s = 1 ∧ ∃ c : UInt8, (0 ≤ (0 : Int) ∧ s.data[(0 : Int).toNat]? = some c) ∧ decide ((c.toNat : Int) = 45) = true ∧ decide ((0 : Int) < s.size) = true ∧ 1 ≤ s.size) ∨
      (sgn s = 0 ∧ ∃ c : UInt8, (0 ≤ (0 : Int) ∧ s.data[(0 : Int).toNat]? = some c) ∧ decide ((c.toNat : Int) = 45) = false ∧ decide ((0 : Int) < s.size) = true ∧ 0 ≤ s.size) ∨
      (sgn s = 0 ∧ ∃ c : UInt8, True ∧ True ∧ decide ((0 : Int) < s.size) = false ∧ 0 ≤ s.size) := by
    unfold sgn
    cases hh : s.data.toList with
    | nil =>
      rw [hh] at hlen
      exact .inr (.inr ⟨by simp, 0, trivial, trivial, decide_eq_false (by simp at hlen; omega), by omega⟩)
    | cons c r =>
      rw [hh, List.length_cons] at hlen
      have i0 := byteL_get (k := 0) (c := c) (by rw [hh]; rfl)
      by_cases hc : c = 45
      · exact .inl ⟨by simp [hc], c, i0, by rw [hc]; rfl, decide_eq_true (by omega), by omega⟩
      · refine .inr (.inl ⟨by simp [hc], c, i0, decide_eq_false (fun e => hc ?_), decide_eq_true (by omega), by omega⟩)
        exact UInt8.toNat_inj.1 (by have : (45 : UInt8).toNat = 45 := rfl; omega)
  rcases c45 with ⟨hg, c0, i0, d0, d1, hle⟩ | ⟨hg, c0, i0, d0, d1, hle⟩ | ⟨hg, c0, i0, d0, d1, hle⟩
  all_goals
    unfold rawP
    rw [hg]
  · have d2 : decide ((1 : Int) = 1) = true := rfl
    repeat' (first
     | refine stn [] ?_
     | ((with_reducible refine is_gd ?_); refine awpL_split rfl rfl (fun h => ?_) (fun h => ?_))
     | ((with_reducible refine is_awp ?_); refine awp_cond rfl (fun h => ?_) (fun h => ?_))
     | fail)
    refine awp_for2 (α := Nat) (β := Nat) 0 (fun k acc => [(0, .v (.string s)), (4, vi 1), (5, vi acc), (6, vi k)]) (fun _ _ => []) (fun k acc => k ≤ s.size ∧ acc ≤ 1099511627776 ∧ runN (s.data.toList.drop 1) 0 = runN (s.data.toList.drop k) acc) (fun k _ => s.size - k) 1 0
      ⟨(.cons rfl rfl (.cons rfl rfl (.cons rfl rfl (.cons rfl rfl .nil)))), rfl, rfl, rfl⟩ ⟨by omega, by omega, rfl⟩ ?_
    rintro k acc ⟨hk, ha, hr⟩
    cases ht : s.data.toList[k]? with
    | none =>
      have hge : s.size ≤ k := by have := List.getElem?_eq_none_iff.1 ht; omega
      have c1 : decide ((k : Int) < s.size) = false := decide_eq_false (by omega)
      rw [hr, List.drop_of_length_le (by omega)]
      have hT := rNText_spec (g := g) (-(acc:Int)) (by omega)
      by_cases e : numT (-(acc:Int)) = s
      · have c2 : (!decide (numT (-(acc:Int)) = s)) = false := by simp [e]
        repeat' (first
         | ((with_reducible refine is_un ?_); refine awpL_ev (ev_neg rfl ⟨by omega, by omega⟩) rfl ?_)
         | refine stn [] ?_
         | ((with_reducible refine is_gd ?_); refine awpL_split rfl rfl (fun h => ?_) (fun h => ?_))
         | ((with_reducible refine is_awp ?_); refine awp_cond rfl (fun h => ?_) (fun h => ?_))
         | fail)
        refine retP rfl ?_
        simp [ex, exL, runN, e]
      · have c2 : (!decide (numT (-(acc:Int)) = s)) = true := by simp [e]
        repeat' (first
         | ((with_reducible refine is_un ?_); refine awpL_ev (ev_neg rfl ⟨by omega, by omega⟩) rfl ?_)
         | refine stn [] ?_
         | ((with_reducible refine is_gd ?_); refine awpL_split rfl rfl (fun h => ?_) (fun h => ?_))
         | ((with_reducible refine is_awp ?_); refine awp_cond rfl (fun h => ?_) (fun h => ?_))
         | fail)
        refine retP rfl ?_
        simp [ex, exL, runN, e]
    | some c =>
      have hlt : k < s.size := by have := (List.getElem?_eq_some_iff.1 ht).1; omega
      have c1 : decide ((k : Int) < s.size) = true := decide_eq_true (by omega)
      have ik := byteL_get ht
      rw [dropB_cons ht] at hr
      by_cases e1 : c.toNat < 48
      · have c2 : decide ((c.toNat : Int) < 48) = true := decide_eq_true (by omega)
        have hd : isDg c = false := by simp [isDg]; omega
        rw [hr]
        repeat' (first
         | refine stn [] ?_
         | ((with_reducible refine is_gd ?_); refine awpL_split rfl rfl (fun h => ?_) (fun h => ?_))
         | ((with_reducible refine is_awp ?_); refine awp_cond rfl (fun h => ?_) (fun h => ?_))
         | fail)
        refine retP rfl ?_
        simp [ex, exL, runN, hd]
      have c2 : decide ((c.toNat : Int) < 48) = false := decide_eq_false (by omega)
      by_cases e2 : 57 < c.toNat
      · have c3 : decide ((57 : Int) < c.toNat) = true := decide_eq_true (by omega)
        have hd : isDg c = false := by simp [isDg]; omega
        rw [hr]
        repeat' (first
         | refine stn [] ?_
         | ((with_reducible refine is_gd ?_); refine awpL_split rfl rfl (fun h => ?_) (fun h => ?_))
         | ((with_reducible refine is_awp ?_); refine awp_cond rfl (fun h => ?_) (fun h => ?_))
         | fail)
        refine retP rfl ?_
        simp [ex, exL, runN, hd]
      have c3 : decide ((57 : Int) < c.toNat) = false := decide_eq_false (by omega)
      have hd : isDg c = true := by simp [isDg]; omega
      have w1 : IntKind.u8.wrap ((c.toNat : Int) - 48) = ((c.toNat - 48 : Nat) : Int) := by rw [IntKind.wrap_u8]; omega
      have w2 : IntKind.i64.wrap ((c.toNat - 48 : Nat) : Int) = ((c.toNat - 48 : Nat) : Int) := wrap_in (by omega) (by omega)
      have w3 : (acc : Int) * 10 + ((c.toNat - 48 : Nat) : Int) = ((acc * 10 + (c.toNat - 48) : Nat) : Int) := by omega
      by_cases e3 : 1099511627776 < acc * 10 + (c.toNat - 48)
      · have c4 : decide ((1099511627776 : Int) < ((acc * 10 + (c.toNat - 48) : Nat) : Int)) = true := decide_eq_true (by omega)
        rw [hr]
        repeat' (first
         | ((with_reducible refine is_un ?_); (first | refine awpL_ev (ev_conv_int rfl rfl rfl rfl w2) rfl ?_ | refine awpL_ev (ev_mul rfl rfl (by omega)) rfl ?_ | refine awpL_ev (ev_subK rfl rfl w1) rfl ?_ | refine awpL_ev (ev_addE rfl rfl (by omega) w3) rfl ?_))
         | refine stn [] ?_
         | ((with_reducible refine is_gd ?_); refine awpL_split rfl rfl (fun h => ?_) (fun h => ?_))
         | ((with_reducible refine is_awp ?_); refine awp_cond rfl (fun h => ?_) (fun h => ?_))
         | fail)
        refine retP rfl ?_
        simp [ex, exL, runN, hd, e3]
      have c4 : decide ((1099511627776 : Int) < ((acc * 10 + (c.toNat - 48) : Nat) : Int)) = false := decide_eq_false (by omega)
      repeat' (first
       | ((with_reducible refine is_un ?_); (first | refine awpL_ev (ev_conv_int rfl rfl rfl rfl w2) rfl ?_ | refine awpL_ev (ev_mul rfl rfl (by omega)) rfl ?_ | refine awpL_ev (ev_subK rfl rfl w1) rfl ?_ | refine awpL_ev (ev_addE rfl rfl (by omega) w3) rfl ?_))
       | refine stn [] ?_
       | ((with_reducible refine is_gd ?_); refine awpL_split rfl rfl (fun h => ?_) (fun h => ?_))
       | ((with_reducible refine is_awp ?_); refine awp_cond rfl (fun h => ?_) (fun h => ?_))
       | fail)
      refine ⟨k + 1, acc * 10 + (c.toNat - 48), ⟨(.cons rfl rfl (.cons rfl rfl (.cons rfl rfl (.cons rfl rfl .nil)))), rfl, rfl, rfl⟩, ⟨by omega, by omega, ?_⟩, by omega⟩
      rw [hr]
      simp only [runN, hd, if_true]
      rw [if_neg e3]
  · have d2 : decide ((0 : Int) = 1) = false := rfl
    repeat' (first
     | refine stn [] ?_
     | ((with_reducible refine is_gd ?_); refine awpL_split rfl rfl (fun h => ?_) (fun h => ?_))
     | ((with_reducible refine is_awp ?_); refine awp_cond rfl (fun h => ?_) (fun h => ?_))
     | fail)
    refine awp_for2 (α := Nat) (β := Nat) 0 (fun k acc => [(0, .v (.string s)), (4, vi 0), (5, vi acc), (6, vi k)]) (fun _ _ => []) (fun k acc => k ≤ s.size ∧ acc ≤ 1099511627776 ∧ runN (s.data.toList.drop 0) 0 = runN (s.data.toList.drop k) acc) (fun k _ => s.size - k) 0 0
      ⟨(.cons rfl rfl (.cons rfl rfl (.cons rfl rfl (.cons rfl rfl .nil)))), rfl, rfl, rfl⟩ ⟨by omega, by omega, rfl⟩ ?_
    rintro k acc ⟨hk, ha, hr⟩
    cases ht : s.data.toList[k]? with
    | none =>
      have hge : s.size ≤ k := by have := List.getElem?_eq_none_iff.1 ht; omega
      have c1 : decide ((k : Int) < s.size) = false := decide_eq_false (by omega)
      rw [hr, List.drop_of_length_le (by omega)]
      have hT := rNText_spec (g := g) (acc:Int) (by omega)
      by_cases e : numT (acc:Int) = s
      · have c2 : (!decide (numT (acc:Int) = s)) = false := by simp [e]
        repeat' (first
         | ((with_reducible refine is_un ?_); refine awpL_ev (ev_neg rfl ⟨by omega, by omega⟩) rfl ?_)
         | refine stn [] ?_
         | ((with_reducible refine is_gd ?_); refine awpL_split rfl rfl (fun h => ?_) (fun h => ?_))
         | ((with_reducible refine is_awp ?_); refine awp_cond rfl (fun h => ?_) (fun h => ?_))
         | fail)
        refine retP rfl ?_
        simp [ex, exL, runN, e]
      · have c2 : (!decide (numT (acc:Int) = s)) = true := by simp [e]
        repeat' (first
         | ((with_reducible refine is_un ?_); refine awpL_ev (ev_neg rfl ⟨by omega, by omega⟩) rfl ?_)
         | refine stn [] ?_
         | ((with_reducible refine is_gd ?_); refine awpL_split rfl rfl (fun h => ?_) (fun h => ?_))
         | ((with_reducible refine is_awp ?_); refine awp_cond rfl (fun h => ?_) (fun h => ?_))
         | fail)
        refine retP rfl ?_
        simp [ex, exL, runN, e]
    | some c =>
      have hlt : k < s.size := by have := (List.getElem?_eq_some_iff.1 ht).1; omega
      have c1 : decide ((k : Int) < s.size) = true := decide_eq_true (by omega)
      have ik := byteL_get ht
      rw [dropB_cons ht] at hr
      by_cases e1 : c.toNat < 48
      · have c2 : decide ((c.toNat : Int) < 48) = true := decide_eq_true (by omega)
        have hd : isDg c = false := by simp [isDg]; omega
        rw [hr]
        repeat' (first
         | refine stn [] ?_
         | ((with_reducible refine is_gd ?_); refine awpL_split rfl rfl (fun h => ?_) (fun h => ?_))
         | ((with_reducible refine is_awp ?_); refine awp_cond rfl (fun h => ?_) (fun h => ?_))
         | fail)
        refine retP rfl ?_
        simp [ex, exL, runN, hd]
      have c2 : decide ((c.toNat : Int) < 48) = false := decide_eq_false (by omega)
      by_cases e2 : 57 < c.toNat
      · have c3 : decide ((57 : Int) < c.toNat) = true := decide_eq_true (by omega)
        have hd : isDg c = false := by simp [isDg]; omega
        rw [hr]
        repeat' (first
         | refine stn [] ?_
         | ((with_reducible refine is_gd ?_); refine awpL_split rfl rfl (fun h => ?_) (fun h => ?_))
         | ((with_reducible refine is_awp ?_); refine awp_cond rfl (fun h => ?_) (fun h => ?_))
         | fail)
        refine retP rfl ?_
        simp [ex, exL, runN, hd]
      have c3 : decide ((57 : Int) < c.toNat) = false := decide_eq_false (by omega)
      have hd : isDg c = true := by simp [isDg]; omega
      have w1 : IntKind.u8.wrap ((c.toNat : Int) - 48) = ((c.toNat - 48 : Nat) : Int) := by rw [IntKind.wrap_u8]; omega
      have w2 : IntKind.i64.wrap ((c.toNat - 48 : Nat) : Int) = ((c.toNat - 48 : Nat) : Int) := wrap_in (by omega) (by omega)
      have w3 : (acc : Int) * 10 + ((c.toNat - 48 : Nat) : Int) = ((acc * 10 + (c.toNat - 48) : Nat) : Int) := by omega
      by_cases e3 : 1099511627776 < acc * 10 + (c.toNat - 48)
      · have c4 : decide ((1099511627776 : Int) < ((acc * 10 + (c.toNat - 48) : Nat) : Int)) = true := decide_eq_true (by omega)
        rw [hr]
        repeat' (first
         | ((with_reducible refine is_un ?_); (first | refine awpL_ev (ev_conv_int rfl rfl rfl rfl w2) rfl ?_ | refine awpL_ev (ev_mul rfl rfl (by omega)) rfl ?_ | refine awpL_ev (ev_subK rfl rfl w1) rfl ?_ | refine awpL_ev (ev_addE rfl rfl (by omega) w3) rfl ?_))
         | refine stn [] ?_
         | ((with_reducible refine is_gd ?_); refine awpL_split rfl rfl (fun h => ?_) (fun h => ?_))
         | ((with_reducible refine is_awp ?_); refine awp_cond rfl (fun h => ?_) (fun h => ?_))
         | fail)
        refine retP rfl ?_
        simp [ex, exL, runN, hd, e3]
      have c4 : decide ((1099511627776 : Int) < ((acc * 10 + (c.toNat - 48) : Nat) : Int)) = false := decide_eq_false (by omega)
      repeat' (first
       | ((with_reducible refine is_un ?_); (first | refine awpL_ev (ev_conv_int rfl rfl rfl rfl w2) rfl ?_ | refine awpL_ev (ev_mul rfl rfl (by omega)) rfl ?_ | refine awpL_ev (ev_subK rfl rfl w1) rfl ?_ | refine awpL_ev (ev_addE rfl rfl (by omega) w3) rfl ?_))
       | refine stn [] ?_
       | ((with_reducible refine is_gd ?_); refine awpL_split rfl rfl (fun h => ?_) (fun h => ?_))
       | ((with_reducible refine is_awp ?_); refine awp_cond rfl (fun h => ?_) (fun h => ?_))
       | fail)
      refine ⟨k + 1, acc * 10 + (c.toNat - 48), ⟨(.cons rfl rfl (.cons rfl rfl (.cons rfl rfl (.cons rfl rfl .nil)))), rfl, rfl, rfl⟩, ⟨by omega, by omega, ?_⟩, by omega⟩
      rw [hr]
      simp only [runN, hd, if_true]
      rw [if_neg e3]
  · have d2 : decide ((0 : Int) = 1) = false := rfl
    repeat' (first
     | refine stn [] ?_
     | ((with_reducible refine is_gd ?_); refine awpL_split rfl rfl (fun h => ?_) (fun h => ?_))
     | ((with_reducible refine is_awp ?_); refine awp_cond rfl (fun h => ?_) (fun h => ?_))
     | fail)
    refine awp_for2 (α := Nat) (β := Nat) 0 (fun k acc => [(0, .v (.string s)), (4, vi 0), (5, vi acc), (6, vi k)]) (fun _ _ => []) (fun k acc => k ≤ s.size ∧ acc ≤ 1099511627776 ∧ runN (s.data.toList.drop 0) 0 = runN (s.data.toList.drop k) acc) (fun k _ => s.size - k) 0 0
      ⟨(.cons rfl rfl (.cons rfl rfl (.cons rfl rfl (.cons rfl rfl .nil)))), rfl, rfl, rfl⟩ ⟨by omega, by omega, rfl⟩ ?_
    rintro k acc ⟨hk, ha, hr⟩
    cases ht : s.data.toList[k]? with
    | none =>
      have hge : s.size ≤ k := by have := List.getElem?_eq_none_iff.1 ht; omega
      have c1 : decide ((k : Int) < s.size) = false := decide_eq_false (by omega)
      rw [hr, List.drop_of_length_le (by omega)]
      have hT := rNText_spec (g := g) (acc:Int) (by omega)
      by_cases e : numT (acc:Int) = s
      · have c2 : (!decide (numT (acc:Int) = s)) = false := by simp [e]
        repeat' (first
         | ((with_reducible refine is_un ?_); refine awpL_ev (ev_neg rfl ⟨by omega, by omega⟩) rfl ?_)
         | refine stn [] ?_
         | ((with_reducible refine is_gd ?_); refine awpL_split rfl rfl (fun h => ?_) (fun h => ?_))
         | ((with_reducible refine is_awp ?_); refine awp_cond rfl (fun h => ?_) (fun h => ?_))
         | fail)
        refine retP rfl ?_
        simp [ex, exL, runN, e]
      · have c2 : (!decide (numT (acc:Int) = s)) = true := by simp [e]
        repeat' (first
         | ((with_reducible refine is_un ?_); refine awpL_ev (ev_neg rfl ⟨by omega, by omega⟩) rfl ?_)
         | refine stn [] ?_
         | ((with_reducible refine is_gd ?_); refine awpL_split rfl rfl (fun h => ?_) (fun h => ?_))
         | ((with_reducible refine is_awp ?_); refine awp_cond rfl (fun h => ?_) (fun h => ?_))
         | fail)
        refine retP rfl ?_
        simp [ex, exL, runN, e]
    | some c =>
      have hlt : k < s.size := by have := (List.getElem?_eq_some_iff.1 ht).1; omega
      have c1 : decide ((k : Int) < s.size) = true := decide_eq_true (by omega)
      have ik := byteL_get ht
      rw [dropB_cons ht] at hr
      by_cases e1 : c.toNat < 48
      · have c2 : decide ((c.toNat : Int) < 48) = true := decide_eq_true (by omega)
        have hd : isDg c = false := by simp [isDg]; omega
        rw [hr]
        repeat' (first
         | refine stn [] ?_
         | ((with_reducible refine is_gd ?_); refine awpL_split rfl rfl (fun h => ?_) (fun h => ?_))
         | ((with_reducible refine is_awp ?_); refine awp_cond rfl (fun h => ?_) (fun h => ?_))
         | fail)
        refine retP rfl ?_
        simp [ex, exL, runN, hd]
      have c2 : decide ((c.toNat : Int) < 48) = false := decide_eq_false (by omega)
      by_cases e2 : 57 < c.toNat
      · have c3 : decide ((57 : Int) < c.toNat) = true := decide_eq_true (by omega)
        have hd : isDg c = false := by simp [isDg]; omega
        rw [hr]
        repeat' (first
         | refine stn [] ?_
         | ((with_reducible refine is_gd ?_); refine awpL_split rfl rfl (fun h => ?_) (fun h => ?_))
         | ((with_reducible refine is_awp ?_); refine awp_cond rfl (fun h => ?_) (fun h => ?_))
         | fail)
        refine retP rfl ?_
        simp [ex, exL, runN, hd]
      have c3 : decide ((57 : Int) < c.toNat) = false := decide_eq_false (by omega)
      have hd : isDg c = true := by simp [isDg]; omega
      have w1 : IntKind.u8.wrap ((c.toNat : Int) - 48) = ((c.toNat - 48 : Nat) : Int) := by rw [IntKind.wrap_u8]; omega
      have w2 : IntKind.i64.wrap ((c.toNat - 48 : Nat) : Int) = ((c.toNat - 48 : Nat) : Int) := wrap_in (by omega) (by omega)
      have w3 : (acc : Int) * 10 + ((c.toNat - 48 : Nat) : Int) = ((acc * 10 + (c.toNat - 48) : Nat) : Int) := by omega
      by_cases e3 : 1099511627776 < acc * 10 + (c.toNat - 48)
      · have c4 : decide ((1099511627776 : Int) < ((acc * 10 + (c.toNat - 48) : Nat) : Int)) = true := decide_eq_true (by omega)
        rw [hr]
        repeat' (first
         | ((with_reducible refine is_un ?_); (first | refine awpL_ev (ev_conv_int rfl rfl rfl rfl w2) rfl ?_ | refine awpL_ev (ev_mul rfl rfl (by omega)) rfl ?_ | refine awpL_ev (ev_subK rfl rfl w1) rfl ?_ | refine awpL_ev (ev_addE rfl rfl (by omega) w3) rfl ?_))
         | refine stn [] ?_
         | ((with_reducible refine is_gd ?_); refine awpL_split rfl rfl (fun h => ?_) (fun h => ?_))
         | ((with_reducible refine is_awp ?_); refine awp_cond rfl (fun h => ?_) (fun h => ?_))
         | fail)
        refine retP rfl ?_
        simp [ex, exL, runN, hd, e3]
      have c4 : decide ((1099511627776 : Int) < ((acc * 10 + (c.toNat - 48) : Nat) : Int)) = false := decide_eq_false (by omega)
      repeat' (first
       | ((with_reducible refine is_un ?_); (first | refine awpL_ev (ev_conv_int rfl rfl rfl rfl w2) rfl ?_ | refine awpL_ev (ev_mul rfl rfl (by omega)) rfl ?_ | refine awpL_ev (ev_subK rfl rfl w1) rfl ?_ | refine awpL_ev (ev_addE rfl rfl (by omega) w3) rfl ?_))
       | refine stn [] ?_
       | ((with_reducible refine is_gd ?_); refine awpL_split rfl rfl (fun h => ?_) (fun h => ?_))
       | ((with_reducible refine is_awp ?_); refine awp_cond rfl (fun h => ?_) (fun h => ?_))
       | fail)
      refine ⟨k + 1, acc * 10 + (c.toNat - 48), ⟨(.cons rfl rfl (.cons rfl rfl (.cons rfl rfl (.cons rfl rfl .nil)))), rfl, rfl, rfl⟩, ⟨by omega, by omega, ?_⟩, by omega⟩
      rw [hr]
      simp only [runN, hd, if_true]
      rw [if_neg e3]
end Go.Proofs.YtnacjdaoiepbhaaGreatDoor
end
section
namespace Go.Proofs.YtnacjdaoiepbhaaGreatDoor
open Go.Lib
structure Cite where
  rec_ : Int
  note : Int
  at_ : Stamp
  deriving Inhabited, DecidableEq
abbrev I6 (n : Int) : Prop := -9223372036854775808 ≤ n ∧ n ≤ 9223372036854775807
def CiteI (c : Cite) : Prop := I6 c.rec_ ∧ I6 c.note ∧ I6 c.at_.count ∧ I6 c.at_.dev
def zeroCite : Cite := ⟨0, 0, ⟨0, 0⟩⟩
def cutL (c : UInt8) : List UInt8 → Option (List UInt8 × List UInt8)
  | [] => none
  | b :: r => if b = c then some ([], r) else (cutL c r).map fun p => (b :: p.1, p.2)
theorem cutL_some {c : UInt8} : ∀ {l x y : List UInt8}, cutL c l = some (x, y) → l = x ++ c :: y ∧ c ∉ x
  | [], _, _, h => by cases h
  | b :: r, x, y, h => by
    simp only [cutL] at h
    split at h
    · rename_i e
      simp only [Option.some.injEq, Prod.mk.injEq] at h
      obtain ⟨rfl, rfl⟩ := h
      exact ⟨by rw [e]; rfl, by simp⟩
    · rename_i e
      cases hr : cutL c r with
      | none => rw [hr] at h; cases h
      | some p =>
        rw [hr] at h
        have h : some (b :: p.1, p.2) = some (x, y) := h
        simp only [Option.some.injEq, Prod.mk.injEq] at h
        obtain ⟨rfl, rfl⟩ := h
        obtain ⟨h1, h2⟩ := cutL_some (x := p.1) (y := p.2) hr
        exact ⟨by rw [h1]; rfl, by simp only [List.mem_cons, not_or]; exact ⟨fun q => e q.symm, h2⟩⟩
theorem cutL_of {c : UInt8} : ∀ {x y : List UInt8}, c ∉ x → cutL c (x ++ c :: y) = some (x, y)
  | [], y, _ => by simp [cutL]
  | b :: r, y, h => by
    simp only [List.mem_cons, not_or] at h
    simp only [List.cons_append, cutL]
    rw [if_neg (fun e => h.1 e.symm), cutL_of h.2]
    rfl
theorem cutL_skip {c : UInt8} {l : List UInt8} : ∀ {k : Nat}, (∀ (j : Nat) (b : UInt8), j < k → l[j]? = some b → b ≠ c) → cutL c l = (cutL c (l.drop k)).map fun p => (l.take k ++ p.1, p.2) := by
  induction l with
  | nil => intro k _; simp [cutL]
  | cons b r ih =>
    intro k h
    cases k with
    | zero => simp
    | succ k =>
      have hb : b ≠ c := h 0 b (by omega) rfl
      simp only [List.drop_succ_cons, List.take_succ_cons, cutL]
      rw [if_neg hb, ih (k := k) (fun j x hj hx => h (j + 1) x (by omega) (by simpa using hx))]
      cases cutL c (r.drop k) <;> rfl
def toB (l : List UInt8) : ByteArray := ⟨l.toArray⟩
theorem toB_list (l : List UInt8) : (toB l).data.toList = l := by simp [toB]
theorem toB_of (s : ByteArray) : toB s.data.toList = s := by simp [toB]
theorem toB_inj {a b : List UInt8} (h : toB a = toB b) : a = b := by rw [← toB_list a, ← toB_list b, h]
theorem toB_cat (a b : List UInt8) : toB a ++ toB b = toB (a ++ b) := bytes_cat a b
theorem toB_size (l : List UInt8) : (toB l).size = l.length := by rw [show (toB l).size = (toB l).data.toList.length by rw [Array.length_toList]; rfl, toB_list]
theorem numT_toB (n : Int) : numT n = toB (itoa n) := rfl
def cutB (s : ByteArray) (c : UInt8) : Option (ByteArray × ByteArray) := (cutL c s.data.toList).map fun p => (toB p.1, toB p.2)
theorem cutB_some {s x y : ByteArray} {c : UInt8} (h : cutB s c = some (x, y)) : s = toB (x.data.toList ++ c :: y.data.toList) ∧ c ∉ x.data.toList := by
  unfold cutB at h
  cases hr : cutL c s.data.toList with
  | none => rw [hr] at h; cases h
  | some p =>
    rw [hr] at h
    have h : some (toB p.1, toB p.2) = some (x, y) := h
    simp only [Option.some.injEq, Prod.mk.injEq] at h
    obtain ⟨rfl, rfl⟩ := h
    obtain ⟨h1, h2⟩ := cutL_some (x := p.1) (y := p.2) hr
    rw [toB_list, toB_list, ← h1, toB_of]
    exact ⟨rfl, h2⟩
theorem cutB_of {x y : List UInt8} {c : UInt8} (h : c ∉ x) : cutB (toB (x ++ c :: y)) c = some (toB x, toB y) := by
  unfold cutB
  rw [toB_list, cutL_of h]
  rfl
def pairV (s : ByteArray) : Int × Int × Bool := match cutB s 46 with
  | none => (0, 0, false)
  | some (x, y) => ((numP x).getD 0, (numP y).getD 0, (numP x).isSome && (numP y).isSome)
def citeP (s : ByteArray) : Option Cite := match cutB s 64 with
  | none => none
  | some (a, b) => if (pairV a).2.2 && (pairV b).2.2 then some ⟨(pairV a).1, (pairV a).2.1, ⟨(pairV b).1, (pairV b).2.1⟩⟩ else none
def pairT (n m : Int) : List UInt8 := itoa n ++ 46 :: itoa m
def citeT (c : Cite) : List UInt8 := pairT c.rec_ c.note ++ 64 :: pairT c.at_.count c.at_.dev
def printB (c : Cite) : ByteArray := toB (citeT c)
theorem no46 (n : Int) : (46 : UInt8) ∉ itoa n := itoa_no n 46 rfl (by decide)
theorem no64 (n m : Int) : (64 : UInt8) ∉ pairT n m := by
  unfold pairT
  simp only [List.mem_append, List.mem_cons, not_or]
  exact ⟨itoa_no n 64 rfl (by decide), by decide, itoa_no m 64 rfl (by decide)⟩
theorem pairV_T (n m : Int) : pairV (toB (pairT n m)) = ((numP (numT n)).getD 0, (numP (numT m)).getD 0, (numP (numT n)).isSome && (numP (numT m)).isSome) := by
  unfold pairV pairT
  rw [cutB_of (no46 n)]
  rfl
theorem numP_T {n : Int} (h : I6 n) : numP (numT n) = if inNum n then some n else none := by
  split
  · rename_i q; exact numP_numT q
  · rename_i q; exact numP_out h q
def citeIn (c : Cite) : Prop := inNum c.rec_ ∧ inNum c.note ∧ inNum c.at_.count ∧ inNum c.at_.dev
theorem citeP_in {c : Cite} (h : citeIn c) : citeP (printB c) = some c := by
  obtain ⟨h1, h2, h3, h4⟩ := h
  unfold citeP printB citeT
  rw [cutB_of (no64 _ _)]
  simp only
  rw [pairV_T, pairV_T, numP_numT h1, numP_numT h2, numP_numT h3, numP_numT h4]
  rfl
theorem citeP_out {c : Cite} (hi : CiteI c) (h : ¬ citeIn c) : citeP (printB c) = none := by
  obtain ⟨i1, i2, i3, i4⟩ := hi
  unfold citeP printB citeT
  rw [cutB_of (no64 _ _)]
  simp only
  rw [pairV_T, pairV_T, numP_T i1, numP_T i2, numP_T i3, numP_T i4]
  rw [if_neg]
  intro q
  apply h
  refine ⟨?_, ?_, ?_, ?_⟩
  · by_cases e : inNum c.rec_
    · exact e
    · rw [if_neg e] at q; simp at q
  · by_cases e : inNum c.note
    · exact e
    · rw [if_neg (c := inNum c.note) e] at q; simp at q
  · by_cases e : inNum c.at_.count
    · exact e
    · rw [if_neg (c := inNum c.at_.count) e] at q; simp at q
  · by_cases e : inNum c.at_.dev
    · exact e
    · rw [if_neg (c := inNum c.at_.dev) e] at q; simp at q
theorem append_cut {c : UInt8} {a b x y : List UInt8} (ha : c ∉ a) (hx : c ∉ x) (h : a ++ c :: b = x ++ c :: y) : a = x ∧ b = y := by
  have h1 := cutL_of (y := b) ha
  rw [h, cutL_of hx] at h1
  simp only [Option.some.injEq, Prod.mk.injEq] at h1
  exact ⟨h1.1.symm, h1.2.symm⟩
theorem printB_inj {a b : Cite} (ha : CiteI a) (hb : CiteI b) (h : printB a = printB b) : a = b := by
  have h := toB_inj h
  obtain ⟨h1, h2⟩ := append_cut (no64 _ _) (no64 _ _) h
  obtain ⟨h3, h4⟩ := append_cut (no46 _) (no46 _) h1
  obtain ⟨h5, h6⟩ := append_cut (no46 _) (no46 _) h2
  have e1 := itoa_inj ha.1 hb.1 h3
  have e2 := itoa_inj ha.2.1 hb.2.1 h4
  have e3 := itoa_inj ha.2.2.1 hb.2.2.1 h5
  have e4 := itoa_inj ha.2.2.2 hb.2.2.2 h6
  cases a with
  | mk r n s => cases s; cases b with | mk r' n' s' => cases s'; simp_all
theorem pairV_back {s : ByteArray} (h : (pairV s).2.2 = true) : s = toB (pairT (pairV s).1 (pairV s).2.1) ∧ inNum (pairV s).1 ∧ inNum (pairV s).2.1 := by
  unfold pairV at h ⊢
  cases hc : cutB s 46 with
  | none => rw [hc] at h; cases h
  | some p =>
    obtain ⟨x, y⟩ := p
    rw [hc] at h
    simp only [Bool.and_eq_true, Option.isSome_iff_exists] at h
    obtain ⟨⟨n, hn⟩, m, hm⟩ := h
    obtain ⟨h1, _⟩ := cutB_some hc
    simp only [hn, hm, Option.getD_some]
    obtain ⟨e1, q1⟩ := numP_some.1 hn
    obtain ⟨e2, q2⟩ := numP_some.1 hm
    refine ⟨?_, q1, q2⟩
    rw [h1, ← e1, ← e2, numT_list, numT_list]
    rfl
theorem citeP_back {s : ByteArray} {c : Cite} (h : citeP s = some c) : printB c = s ∧ citeIn c := by
  unfold citeP at h
  cases hc : cutB s 64 with
  | none => rw [hc] at h; cases h
  | some p =>
    obtain ⟨x, y⟩ := p
    rw [hc] at h
    simp only at h
    split at h
    · rename_i q
      rw [Bool.and_eq_true] at q
      cases h
      obtain ⟨h1, _⟩ := cutB_some hc
      obtain ⟨a1, a2, a3⟩ := pairV_back q.1
      obtain ⟨b1, b2, b3⟩ := pairV_back q.2
      refine ⟨?_, a2, a3, b2, b3⟩
      rw [h1, printB, citeT]
      simp only
      congr 1
      have ea : x.data.toList = pairT (pairV x).1 (pairV x).2.1 := by conv => lhs; rw [a1, toB_list]
      have eb : y.data.toList = pairT (pairV y).1 (pairV y).2.1 := by conv => lhs; rw [b1, toB_list]
      rw [ea, eb]
    · cases h
end Go.Proofs.YtnacjdaoiepbhaaGreatDoor
end
