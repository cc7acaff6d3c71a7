/- A logic of trees over the model's steps, and the contracts of the functions that the laws reach: part 21 of 29. -/
import Derived.Test.YtcfkokllinkigaaGreatDoorB20
import Derived.Laws.CopyRow
set_option linter.unusedVariables false
set_option linter.unusedSimpArgs false
set_option linter.unusedSectionVars false
set_option linter.unnecessarySimpa false
namespace Go.Proofs.YtcfkokllinkigaaGreatDoor
section
open Go.Ac
attribute [local irreducible] awp awpL Ev Ev2 EvS thenQ blockQ retQ PCalls OCalls
variable {g : List (Nat × List AV)}
theorem sizeD (s : ByteArray) : s.data.toList.length = s.size := by rw [Array.length_toList]; rfl
def lett (k : Nat) (b : UInt8) : Bool := smallB b.toNat || decide (k ≠ 0) && letterB b.toNat
def allFrom : Nat → List UInt8 → Bool
 | _, [] => true
 | k, b :: r => lett k b && allFrom (k + 1) r
theorem allFrom_drop {l : List UInt8} {k : Nat} {b : UInt8} (h : l[k]? = some b) : allFrom k (l.drop k) = (lett k b && allFrom (k + 1) (l.drop (k + 1))) := by
 obtain ⟨hlt, rfl⟩ := List.getElem?_eq_some_iff.1 h
 rw [List.drop_eq_getElem_cons hlt]; rfl
theorem Wo : ∀ (l : List UInt8) (k : Nat), allFrom (k + 1) l = l.all fun b => letterB b.toNat
 | [], _ => rfl
 | b :: r, k => by
  simp only [allFrom, List.all_cons, Wo r]
  congr 1
  simp only [lett, letterB]
  cases smallB b.toNat <;> simp
theorem yF (s : ByteArray) : nameOk s = (allFrom 0 s.data.toList && (decide (1 ≤ s.size) && decide (s.size ≤ 32))) := by
 have h := sizeD s
 simp only [nameOk, ← h]
 generalize s.data.toList = l
 cases l with
 | nil => rfl
 | cons b r =>
  simp only [allFrom, Wo, List.all_cons, lett, letterB, List.length_cons]
  cases smallB b.toNat <;> simp [Bool.and_comm]
theorem rbyte_get {s : ByteArray} {k : Nat} {b : UInt8} (h : s.data.toList[k]? = some b) : 0 ≤ (k : Int) ∧ s.data[(k : Int).toNat]? = some b := ⟨by omega, by simpa using h⟩
set_option maxHeartbeats 1000000 in
theorem rName_spec (s : ByteArray) (hs : s.size ≤ 9223372036854775807) : PCalls Tryz.prog g 49 [vs s] (vb (nameOk s)) := by
  refine pcalls' Tryz.func49 Tryz.ntmps49 rfl rfl rfl ?_
  repeat' (first
   | refine stn [] ?_
   | ((with_reducible refine zr ?_); refine zf rfl rfl (fun h => ?_) (fun h => ?_))
   | ((with_reducible refine zl ?_); refine ze rfl (fun h => ?_) (fun h => ?_))
   | fail)
  refine zi (α := Nat) 0 (fun k => [(0, vs s), (3, vi k)]) (fun _ => []) (fun k => k ≤ s.size ∧ allFrom 0 s.data.toList = allFrom k (s.data.toList.drop k)) (fun k => s.size - k) 0
    qw ⟨Nat.zero_le _, rfl⟩ ?_
  rintro k ⟨hk, hf⟩
  have hsz : s.data.toList.length = s.size := sizeD s
  cases ht : s.data.toList[k]? with
  | none =>
    have hge : s.data.toList.length ≤ k := by simpa using ht
    have d1 : decide ((k : Int) < s.size) = false := by simp; omega
    rw [List.drop_of_length_le hge] at hf
    have hf : allFrom 0 s.data.toList = true := hf
    repeat' (first
     | refine stn [] ?_
     | ((with_reducible refine zr ?_); refine zf rfl rfl (fun h => ?_) (fun h => ?_))
     | ((with_reducible refine zl ?_); refine ze rfl (fun h => ?_) (fun h => ?_))
     | fail)
    all_goals refine retP rfl ?_
    all_goals rw [yF, hf]
    all_goals simp only [ex, Bool.true_and]
    all_goals by_cases a : 1 ≤ s.size <;> by_cases b : s.size ≤ 32 <;> simp_all <;> omega
  | some c =>
    have hlt : k < s.data.toList.length := (List.getElem?_eq_some_iff.1 ht).1
    have d1 : decide ((k : Int) < s.size) = true := by simp; omega
    have g1 := rbyte_get ht
    have hd := allFrom_drop ht
    repeat' (first
     | refine stn [] ?_
     | ((with_reducible refine zr ?_); refine zf rfl rfl (fun h => ?_) (fun h => ?_))
     | ((with_reducible refine zl ?_); refine ze rfl (fun h => ?_) (fun h => ?_))
     | fail)
    all_goals first
      | (have hL : lett k c = true := by
          clear hf hd g1 hsz ht hlt d1 hk hs
          simp only [lett, letterB, smallB, Bool.or_eq_true, Bool.and_eq_true, decide_eq_true_eq]
          (simp at * <;> omega)
         exact ⟨k + 1, qw, ⟨by omega, by rw [hf, hd, hL]; rfl⟩, by omega⟩)
      | (have hL : lett k c = false := by
          clear hf hd g1 hsz ht hlt d1 hk hs
          rw [Bool.eq_false_iff]
          simp only [lett, letterB, smallB, ne_eq, Bool.or_eq_true, Bool.and_eq_true, decide_eq_true_eq]
          (simp at * <;> omega)
         refine retP rfl ?_
         rw [yF, hf, hd, hL]; rfl)
def kindOf (role : Int) : Int := if role = 1 then 0 else if role = 3 then 3 else if role = 4 then 4 else if role = 5 then 4 else -1
def overOf (role : Int) : Int := if role = 2 then 1 else if role = 5 then 1 else if role = 3 then 2 else if role = 4 then 3 else -1
theorem rtkind_spec (k : Int) : PCalls Tryz.prog g 51 [vi k] (vi (kindOf k)) := by
 refine pcalls' Tryz.func51 Tryz.ntmps51 rfl rfl rfl ?_
 repeat' (first
  | refine stn [] ?_
  | ((with_reducible refine zr ?_); refine zf rfl rfl (fun h => ?_) (fun h => ?_))
  | ((with_reducible refine zl ?_); refine ze rfl (fun h => ?_) (fun h => ?_))
  | fail)
 all_goals refine retP rfl ?_
 all_goals simp_all [ex, kindOf]
theorem rtover_spec (k : Int) : PCalls Tryz.prog g 52 [vi k] (vi (overOf k)) := by
 refine pcalls' Tryz.func52 Tryz.ntmps52 rfl rfl rfl ?_
 repeat' (first
  | refine stn [] ?_
  | ((with_reducible refine zr ?_); refine zf rfl rfl (fun h => ?_) (fun h => ?_))
  | ((with_reducible refine zl ?_); refine ze rfl (fun h => ?_) (fun h => ?_))
  | fail)
 all_goals refine retP rfl ?_
 all_goals simp_all [ex, overOf]
theorem qL {l : List Tier} {k : Nat} {x : Tier} (h : l[k]? = some x) : 0 ≤ (k : Int) ∧ (l.map tierC)[(k : Int).toNat]? = some (tierC x) := ⟨by omega, by simp [h]⟩
theorem W4 {α : Type} {l : List α} {i k : Nat} {t : α} (h : l[k]? = some t) (hk : k < i) : (l.take i)[k]? = some t := by
 rw [List.getElem?_take, if_pos hk]; exact h
set_option maxHeartbeats 4000000 in
theorem rtier_spec (l : List Tier) (i : Nat) (t : Tier) (ht : l[i]? = some t) (hl : l.length ≤ 1000000) (hs : t.name.size ≤ 9223372036854775807) :
  PCalls Tryz.prog g 20 [encTiers l, vi i] (vi (tierOne (l.take i) t)) := by
 refine pcalls' Tryz.func20 Tryz.ntmps20 rfl rfl rfl ?_
 have hi : i < l.length := (List.getElem?_eq_some_iff.1 ht).1
 have hlen : (l.take i).length = i := by simp; omega
 have h0 := qL ht
 have hN := rName_spec (g := g) t.name hs
 cases hn : nameOk t.name with
 | false =>
  rw [hn] at hN
  have cn : (!false) = true := rfl
  repeat' (first
   | refine stn [] ?_
   | ((with_reducible refine zr ?_); refine zf rfl rfl (fun h => ?_) (fun h => ?_))
   | ((with_reducible refine zl ?_); refine ze rfl (fun h => ?_) (fun h => ?_))
   | fail)
  refine retP rfl ?_
  simp [ex, tierOne, hn]
 | true =>
 rw [hn] at hN
 have cn : (!true) = false := rfl
 repeat' (first
  | refine stn [] ?_
  | ((with_reducible refine zr ?_); refine zf rfl rfl (fun h => ?_) (fun h => ?_))
  | ((with_reducible refine zl ?_); refine ze rfl (fun h => ?_) (fun h => ?_))
  | fail)
 refine zi (α := Nat) 0 (fun k => [(0, encTiers l), (1, vi i), (5, .fp (tierC t)), (6, vi k)]) (fun _ => []) (fun k => k ≤ i ∧ findT (l.take i) t.name = findTF t.name k ((l.take i).drop k)) (fun k => i - k) 0
  qw ⟨Nat.zero_le _, rfl⟩ ?_
 rintro k ⟨hk, hf⟩
 by_cases hki : k < i
 ·obtain ⟨u, hu⟩ : ∃ u, l[k]? = some u := ⟨l[k]'(by omega), by simp⟩
  have c1 : decide ((k : Int) < i) = true := by simpa using hki
  have h1 := qL hu
  have hd := findTF_drop t.name _ k u (W4 hu hki)
  repeat' (first
   | refine stn [] ?_
   | ((with_reducible refine zr ?_); refine zf rfl rfl (fun h => ?_) (fun h => ?_))
   | ((with_reducible refine zl ?_); refine ze rfl (fun h => ?_) (fun h => ?_))
   | fail)
  repeat' (first
   | refine st [] ?_
   | ((with_reducible refine zr ?_); refine zf rfl rfl (fun h => ?_) (fun h => ?_))
   | ((with_reducible refine zp ?_); ((fail_if_success (refine isD_kn (c := true) rfl qa0 ?_)); (fail_if_success (refine isD_kn (c := false) rfl qa0 ?_)); refine zI rfl (fun h => ?_) (fun h => ?_)))
   | ((with_reducible refine zl ?_); refine ze rfl (fun h => ?_) (fun h => ?_))
   | fail)
  ·refine retP rfl ?_
   have : 0 ≤ findT (l.take i) t.name := by rw [hf, hd, if_pos (by simpa using h)]; omega
   simp [ex, tierOne, hn, this]
  ·exact ⟨k + 1, qw, ⟨by omega, by rw [hf, hd, if_neg (by simpa using h)]⟩, by omega⟩
 have c1 : decide ((k : Int) < i) = false := by simpa using hki
 have hf0 : ¬ 0 ≤ findT (l.take i) t.name := by
  rw [hf, List.drop_of_length_le (by omega)]; simp [findTF]
 by_cases hk0 : t.kind < 0
 ·have c2 : decide (t.kind < 0) = true := by simpa using hk0
  repeat' (first
   | refine stn [] ?_
   | ((with_reducible refine zr ?_); refine zf rfl rfl (fun h => ?_) (fun h => ?_))
   | ((with_reducible refine zl ?_); refine ze rfl (fun h => ?_) (fun h => ?_))
   | fail)
  refine retP rfl ?_
  simp [ex, tierOne, hn, hf0, hk0]
 have c2 : decide (t.kind < 0) = false := by simpa using hk0
 by_cases hk4 : 4 < t.kind
 ·have c3 : decide (4 < t.kind) = true := by simpa using hk4
  repeat' (first
   | refine stn [] ?_
   | ((with_reducible refine zr ?_); refine zf rfl rfl (fun h => ?_) (fun h => ?_))
   | ((with_reducible refine zl ?_); refine ze rfl (fun h => ?_) (fun h => ?_))
   | fail)
  refine retP rfl ?_
  simp [ex, tierOne, hn, hf0, hk4]
 have c3 : decide (4 < t.kind) = false := by simpa using hk4
 by_cases hr0 : t.role < 0
 ·have c4 : decide (t.role < 0) = true := by simpa using hr0
  repeat' (first
   | refine stn [] ?_
   | ((with_reducible refine zr ?_); refine zf rfl rfl (fun h => ?_) (fun h => ?_))
   | ((with_reducible refine zl ?_); refine ze rfl (fun h => ?_) (fun h => ?_))
   | fail)
  refine retP rfl ?_
  simp [ex, tierOne, hn, hf0, hk0, hk4, hr0]
 have c4 : decide (t.role < 0) = false := by simpa using hr0
 by_cases hr5 : 5 < t.role
 ·have c5 : decide (5 < t.role) = true := by simpa using hr5
  repeat' (first
   | refine stn [] ?_
   | ((with_reducible refine zr ?_); refine zf rfl rfl (fun h => ?_) (fun h => ?_))
   | ((with_reducible refine zl ?_); refine ze rfl (fun h => ?_) (fun h => ?_))
   | fail)
  refine retP rfl ?_
  simp [ex, tierOne, hn, hf0, hk0, hk4, hr5]
 have c5 : decide (5 < t.role) = false := by simpa using hr5
 have hk' : ¬ (t.kind < 0 ∨ 4 < t.kind) := by omega
 have hr' : ¬ (t.role < 0 ∨ 5 < t.role) := by omega
 repeat' (first
  | refine stn [] ?_
  | ((with_reducible refine zr ?_); refine zf rfl rfl (fun h => ?_) (fun h => ?_))
  | ((with_reducible refine zl ?_); refine ze rfl (fun h => ?_) (fun h => ?_))
  | fail)
 refine zi (α := Nat) 0 (fun k => [(0, encTiers l), (1, vi i), (5, .fp (tierC t)), (7, vi k)]) (fun _ => []) (fun k => k ≤ i ∧ roleT (l.take i) t.role = roleTF t.role k ((l.take i).drop k)) (fun k => i - k) 0
  qw ⟨Nat.zero_le _, rfl⟩ ?_
 clear hf hk hki c1 k
 rintro k ⟨hk, hf⟩
 by_cases hki : k < i
 ·obtain ⟨u, hu⟩ : ∃ u, l[k]? = some u := ⟨l[k]'(by omega), by simp⟩
  have c1 : decide ((k : Int) < i) = true := by simpa using hki
  have h1 := qL hu
  have hd := roleTF_drop t.role _ k u (W4 hu hki)
  repeat' (first
   | refine stn [] ?_
   | ((with_reducible refine zr ?_); refine zf rfl rfl (fun h => ?_) (fun h => ?_))
   | ((with_reducible refine zl ?_); refine ze rfl (fun h => ?_) (fun h => ?_))
   | fail)
  by_cases hz : t.role = 0
  ·have cz : (!decide (t.role = 0)) = false := by simpa using hz
   repeat' (first
    | refine st [] ?_
    | ((with_reducible refine zr ?_); refine zf rfl rfl (fun h => ?_) (fun h => ?_))
    | ((with_reducible refine zp ?_); ((fail_if_success (refine isD_kn (c := true) rfl qa0 ?_)); (fail_if_success (refine isD_kn (c := false) rfl qa0 ?_)); refine zI rfl (fun h => ?_) (fun h => ?_)))
    | ((with_reducible refine zl ?_); refine ze rfl (fun h => ?_) (fun h => ?_))
    | fail)
   exact ⟨k + 1, qw, ⟨by omega, by rw [hf, hd, if_neg (by simp [hz])]⟩, by omega⟩
  ·have cz : (!decide (t.role = 0)) = true := by simpa using hz
   repeat' (first
    | refine st [] ?_
    | ((with_reducible refine zr ?_); refine zf rfl rfl (fun h => ?_) (fun h => ?_))
    | ((with_reducible refine zp ?_); ((fail_if_success (refine isD_kn (c := true) rfl qa0 ?_)); (fail_if_success (refine isD_kn (c := false) rfl qa0 ?_)); refine zI rfl (fun h => ?_) (fun h => ?_)))
    | ((with_reducible refine zl ?_); refine ze rfl (fun h => ?_) (fun h => ?_))
    | fail)
   ·refine retP rfl ?_
    have : 0 ≤ roleT (l.take i) t.role := by rw [hf, hd, if_pos ⟨hz, by simpa using h⟩]; omega
    simp [ex, tierOne, hn, hf0, hk', hr', this]
   ·exact ⟨k + 1, qw, ⟨by omega, by rw [hf, hd, if_neg (by intro hh; simp [hh.2] at h)]⟩, by omega⟩
 have c1 : decide ((k : Int) < i) = false := by simpa using hki
 have hg0 : ¬ 0 ≤ roleT (l.take i) t.role := by
  rw [hf, List.drop_of_length_le (by omega)]; simp [roleTF]
 have hR5 : 0 ≤ t.role ∧ t.role ≤ 5 := by omega
 have K1 := rtkind_spec (g := g) t.role
 have K2 := rtover_spec (g := g) t.role
 have hrr : ∀ a, rolesE a t = if 0 ≤ kindOf t.role ∧ t.kind ≠ kindOf t.role then 14 else if 0 ≤ overOf t.role ∧ a ≠ overOf t.role then 13 else 0 := by
  intro a
  simp only [rolesE, kindOf, overOf]
  rcases (show t.role = 0 ∨ t.role = 1 ∨ t.role = 2 ∨ t.role = 3 ∨ t.role = 4 ∨ t.role = 5 by omega) with h | h | h | h | h | h <;> simp [h] <;> omega
 by_cases hroot : t.kind = 0
 ·have cr : decide (t.kind = 0) = true := by simpa using hroot
  have cr' : (!decide (t.kind = 0)) = false := by simpa using hroot
  by_cases hp : t.parent = -1
  ·have cp : (!decide (t.parent = -1)) = false := by simpa using hp
   have hone : tierOne (l.take i) t = rolesE (-1) t := by
    simp only [tierOne, hn, hf0, hr', hg0, if_false, Bool.true_eq_false, hroot, hp, ne_eq, not_true_eq_false, if_true]
    simp
   rw [hone, hrr]
   clear hone hf0 hg0 hf hN h0 ht
   repeat' (first
    | ((with_reducible refine zg ?_); refine qn rfl rfl (qu _) rfl ?_)
    | ((with_reducible refine zu ?_); refine zc (Qn rfl rfl (qu _) rfl) qb0 ?_)
    | ((with_reducible refine zp ?_); refine zd rfl rfl qa0 (Qn rfl rfl (qu _) rfl) qb0 ?_)
    | refine st [] ?_
    | ((with_reducible refine zr ?_); refine zf rfl rfl (fun h => ?_) (fun h => ?_))
    | ((with_reducible refine zp ?_); ((fail_if_success (refine isD_kn (c := true) rfl qa0 ?_)); (fail_if_success (refine isD_kn (c := false) rfl qa0 ?_)); refine zI rfl (fun h => ?_) (fun h => ?_)))
    | ((with_reducible refine zl ?_); refine ze rfl (fun h => ?_) (fun h => ?_))
    | fail)
   all_goals refine retP rfl ?_
   all_goals simp only [ex, decide_eq_true_eq, decide_eq_false_iff_not, Bool.not_eq_true', Bool.not_eq_false'] at *
   all_goals refine congrArg (fun n => vi n) ?_
   all_goals clear K1 K2 hrr
   all_goals (repeat' split) <;> omega
  ·have cp : (!decide (t.parent = -1)) = true := by simpa using hp
   have hone : tierOne (l.take i) t = 13 := by
    simp only [tierOne, hn, hf0, hr', hg0, if_false, Bool.true_eq_false, hroot, hp, ne_eq, not_false_eq_true, if_true]
    simp
   rw [hone]
   repeat' (first
    | refine stn [] ?_
    | ((with_reducible refine zr ?_); refine zf rfl rfl (fun h => ?_) (fun h => ?_))
    | ((with_reducible refine zl ?_); refine ze rfl (fun h => ?_) (fun h => ?_))
    | fail)
   refine retP rfl rfl
 have cr : decide (t.kind = 0) = false := by simpa using hroot
 have cr' : (!decide (t.kind = 0)) = true := by simpa using hroot
 by_cases hp0 : t.parent < 0
 ·have cp : decide (t.parent < 0) = true := by simpa using hp0
  have hone : tierOne (l.take i) t = 13 := by
   simp only [tierOne, hn, hf0, hk', hr', hg0, if_false, Bool.true_eq_false, hroot, hp0, true_or, if_true]
  rw [hone]
  repeat' (first
   | refine stn [] ?_
   | ((with_reducible refine zr ?_); refine zf rfl rfl (fun h => ?_) (fun h => ?_))
   | ((with_reducible refine zl ?_); refine ze rfl (fun h => ?_) (fun h => ?_))
   | fail)
  refine retP rfl rfl
 have cp : decide (t.parent < 0) = false := by simpa using hp0
 by_cases hp1 : (i : Int) ≤ t.parent
 ·have cp1 : decide ((i : Int) ≤ t.parent) = true := by simpa using hp1
  have hone : tierOne (l.take i) t = 13 := by
   simp only [tierOne, hn, hf0, hk', hr', hg0, if_false, Bool.true_eq_false, hroot, hlen, hp1, or_true, if_true]
  rw [hone]
  repeat' (first
   | refine stn [] ?_
   | ((with_reducible refine zr ?_); refine zf rfl rfl (fun h => ?_) (fun h => ?_))
   | ((with_reducible refine zl ?_); refine ze rfl (fun h => ?_) (fun h => ?_))
   | fail)
  refine retP rfl rfl
 have cp1 : decide ((i : Int) ≤ t.parent) = false := by simpa using hp1
 obtain ⟨p, hpt⟩ : ∃ p, l[t.parent.toNat]? = some p := ⟨l[t.parent.toNat]'(by omega), by simp⟩
 have h1 : 0 ≤ t.parent ∧ (l.map tierC)[t.parent.toNat]? = some (tierC p) := ⟨by omega, by simp [hpt]⟩
 have hone : tierOne (l.take i) t = if timed t.kind = true ∧ timed p.kind = false then 13 else rolesE p.role t := by
  simp only [tierOne, hn, hf0, hk', hr', hg0, if_false, Bool.true_eq_false, hroot, hlen, hp0, hp1, or_self, W4 hpt (show t.parent.toNat < i by omega)]
 have T1 := qu (g := g) t.kind
 have T2 := qu (g := g) p.kind
 rw [hone, hrr]
 clear hone hf0 hg0 hf hN h0 ht
 cases hb1 : timed t.kind <;> cases hb2 : timed p.kind <;> rw [hb1] at T1 <;> rw [hb2] at T2
 all_goals have cn1 : (!false) = true := rfl
 repeat' (first
  | refine st [] ?_
  | ((with_reducible refine zr ?_); refine zf rfl rfl (fun h => ?_) (fun h => ?_))
  | ((with_reducible refine zp ?_); ((fail_if_success (refine isD_kn (c := true) rfl qa0 ?_)); (fail_if_success (refine isD_kn (c := false) rfl qa0 ?_)); refine zI rfl (fun h => ?_) (fun h => ?_)))
  | ((with_reducible refine zl ?_); refine ze rfl (fun h => ?_) (fun h => ?_))
  | fail)
 all_goals refine retP rfl ?_
 all_goals simp only [ex, decide_eq_true_eq, decide_eq_false_iff_not, Bool.not_eq_true', Bool.not_eq_false'] at *
 all_goals refine congrArg (fun n => vi n) ?_
 all_goals clear K1 K2 T1 T2 hrr
 all_goals simp only [Bool.false_eq_true, Bool.true_eq_false, and_self, and_true, and_false, false_and, true_and, if_true, if_false, reduceIte]
 all_goals (repeat' split) <;> omega
set_option maxHeartbeats 1000000 in
theorem Wb (l : List Tier) (hs : ∀ t ∈ l, t.name.size ≤ 9223372036854775807) : PCalls Tryz.prog g 4 [encTiers l] (vi (tiersE l)) := by
 refine pcalls' Tryz.func4 Tryz.ntmps4 rfl rfl rfl ?_
 by_cases hl : (12 : Int) < l.length
 ·have c0 : decide ((12 : Int) < l.length) = true := by simpa using hl
  repeat' (first
   | refine stn [] ?_
   | ((with_reducible refine zr ?_); refine zf rfl rfl (fun h => ?_) (fun h => ?_))
   | ((with_reducible refine zl ?_); refine ze rfl (fun h => ?_) (fun h => ?_))
   | fail)
  refine retP rfl ?_
  have : 12 < l.length := by omega
  simp [ex, tiersE, this]
 have c0 : decide ((12 : Int) < l.length) = false := by simpa using hl
 have hc : tiersE l = tiersEF l l.length 0 := by
  have : ¬ 12 < l.length := by omega
  simp [tiersE, this]
 rw [hc]
 repeat' (first
  | refine stn [] ?_
  | ((with_reducible refine zr ?_); refine zf rfl rfl (fun h => ?_) (fun h => ?_))
  | ((with_reducible refine zl ?_); refine ze rfl (fun h => ?_) (fun h => ?_))
  | fail)
 refine zi (α := Nat) 0 (fun k => [(0, encTiers l), (3, vi k)]) (fun _ => []) (fun k => k ≤ l.length ∧ tiersEF l l.length 0 = tiersEF l (l.length - k) k) (fun k => l.length - k) 0
  qw ⟨Nat.zero_le _, rfl⟩ ?_
 rintro k ⟨hk, hf⟩
 cases ht : l[k]? with
 | none =>
  have hge : l.length ≤ k := by simpa using ht
  have c1 : decide ((k : Int) < l.length) = false := by simp; omega
  repeat' (first
   | refine stn [] ?_
   | ((with_reducible refine zr ?_); refine zf rfl rfl (fun h => ?_) (fun h => ?_))
   | ((with_reducible refine zl ?_); refine ze rfl (fun h => ?_) (fun h => ?_))
   | fail)
  refine retP rfl ?_
  rw [hf]
  have : l.length - k = 0 := by omega
  rw [this]; rfl
 | some t =>
  have hlt : k < l.length := (List.getElem?_eq_some_iff.1 ht).1
  have c1 : decide ((k : Int) < l.length) = true := by simp; omega
  have hd : tiersEF l (l.length - k) k = if tierOne (l.take k) t ≠ 0 then tierOne (l.take k) t else tiersEF l (l.length - (k + 1)) (k + 1) := by
   rw [show l.length - k = (l.length - (k + 1)) + 1 by omega]; exact tiersEF_step ht
  have ho := rtier_spec (g := g) l k t ht (by omega) (hs t (List.mem_of_getElem? ht))
  repeat' (first
   | refine stn [] ?_
   | ((with_reducible refine zr ?_); refine zf rfl rfl (fun h => ?_) (fun h => ?_))
   | ((with_reducible refine zl ?_); refine ze rfl (fun h => ?_) (fun h => ?_))
   | fail)
  ·refine retP rfl ?_
   rw [hf, hd, if_pos (by simpa using h)]; rfl
  ·exact ⟨k + 1, qw, ⟨by omega, by rw [hf, hd, if_neg (by simpa using h)]⟩, by omega⟩
end
section
open Go.Ac
attribute [local irreducible] awp awpL Ev Ev2 EvS thenQ blockQ retQ PCalls OCalls
variable {g : List (Nat × List AV)}
abbrev sibK (d : Doc) (t p : Int) (k : Nat) : List Note := (d.notes.take k).filter fun n => decide (n.tier = t) && decide (n.parent = p)
theorem sibK_succ {d : Doc} {t p : Int} {k : Nat} {x : Note} (h : d.notes[k]? = some x) : sibK d t p (k + 1) = sibK d t p k ++ (if decide (x.tier = t) && decide (x.parent = p) then [x] else []) := by
 unfold sibK
 rw [List.take_add_one, h, Option.toList_some, List.filter_append]
 congr 1
 simp only [List.filter]
 cases (decide (x.tier = t) && decide (x.parent = p)) <;> rfl
theorem sibs_len (d : Doc) (t p : Int) : (sibs d t p).length ≤ d.notes.length := List.length_filter_le _ _
set_option maxHeartbeats 2000000 in
theorem yj (d : Doc) (t p : Int) (hl : d.notes.length ≤ 1000000) : PCalls Tryz.prog g 75 [.agg (docC d), vi t, vi p] (encNotes (sibs d t p)) := by
 refine pcalls' Tryz.func75 Tryz.ntmps75 rfl rfl rfl ?_
 repeat' (first
  | ((with_reducible refine zg ?_); refine zk (ZM (t := 43) (n := 0) (es := []) rfl rfl rfl rfl rfl rfl rfl rfl rfl rfl rfl qf0 qc0) rfl ?_)
  | refine stn [] ?_
  | fail)
 refine zi (α := Nat) 1 (fun k => [(1, vi t), (2, vi p), (3, .fp (docC d)), (7, .os 0 0), (8, vi k)]) (fun k => [.own 0 56 7 ((sibK d t p k).map noteC)]) (fun k => k ≤ d.notes.length) (fun k => d.notes.length - k) 0
  qw (Nat.zero_le _) ?_
 rintro k hk
 have hcl : (sibK d t p k).length ≤ k := Nat.le_trans (List.length_filter_le _ _) (List.length_take_le _ _)
 cases ht : d.notes[k]? with
 | none =>
  have hge : d.notes.length ≤ k := by simpa using ht
  have c1 : decide ((k : Int) < d.notes.length) = false := decide_eq_false (by omega)
  have hD : sibK d t p k = sibs d t p := by unfold sibK sibs; rw [List.take_of_length_le hge]
  rw [hD]
  refine runn [] ?_
  refine retP rfl ?_
  simp [ex]
 | some x =>
  have hlt : k < d.notes.length := (List.getElem?_eq_some_iff.1 ht).1
  have c1 : decide ((k : Int) < d.notes.length) = true := decide_eq_true (by omega)
  have h1 := ZR ht
  have hS := sibK_succ (t := t) (p := p) ht
  generalize hM : sibK d t p k = M at hS hcl ⊢
  generalize hM' : sibK d t p (k + 1) = M' at hS
  have hmb : (M.map noteC).length ≤ 1000000 := by rw [List.length_map]; omega
  by_cases e1 : x.tier = t
  ·have c2 : decide (x.tier = t) = true := decide_eq_true e1
   by_cases e2 : x.parent = p
   ·have c3 : decide (x.parent = p) = true := decide_eq_true e2
    rw [c2, c3] at hS
    have hj : M.map noteC ++ [noteC x] = M'.map noteC := by rw [hS]; simp
    repeat' (first
     | ((with_reducible refine zg ?_); refine zk (Zx (es' := M'.map noteC) rfl rfl rfl rfl rfl rfl rfl rfl rfl rfl rfl rfl rfl qe0 hj rfl) rfl ?_)
     | refine stn [] ?_
     | fail)
    exact ⟨k + 1, by rw [hM']; exact qw, by omega, by omega⟩
   ·have c3 : decide (x.parent = p) = false := decide_eq_false e2
    rw [c2, c3] at hS
    have hS : M' = M := by rw [hS]; simp
    subst hS
    refine runn [] ?_
    exact ⟨k + 1, by rw [hM']; exact qw, by omega, by omega⟩
  ·have c2 : decide (x.tier = t) = false := decide_eq_false e1
   rw [c2] at hS
   have hS : M' = M := by rw [hS]; simp
   subst hS
   refine runn [] ?_
   exact ⟨k + 1, by rw [hM']; exact qw, by omega, by omega⟩
set_option maxHeartbeats 2000000 in
theorem rspans_spec (l : List Note) (hl : l.length ≤ 1000000) : PCalls Tryz.prog g 79 [encNotes l] (.fs 2 (l.map (·.span)).length ((l.map (·.span)).map spanC)) := by
 refine pcalls' Tryz.func79 Tryz.ntmps79 rfl rfl rfl ?_
 repeat' (first
  | ((with_reducible refine zg ?_); refine zk (ZM (t := 155) (n := 0) (es := []) rfl rfl rfl rfl rfl rfl rfl rfl rfl rfl rfl qf0 qc0) rfl ?_)
  | refine stn [] ?_
  | fail)
 refine zi (α := Nat) 1 (fun k => [(0, encNotes l), (3, .os 0 0), (4, vi k)]) (fun k => [.own 0 54 2 (((l.take k).map (·.span)).map spanC)]) (fun k => k ≤ l.length) (fun k => l.length - k) 0
  qw (Nat.zero_le _) ?_
 rintro k hk
 cases ht : l[k]? with
 | none =>
  have hge : l.length ≤ k := by simpa using ht
  have c1 : decide ((k : Int) < l.length) = false := decide_eq_false (by omega)
  rw [List.take_of_length_le hge]
  refine runn [] ?_
  refine retP rfl ?_
  simp [ex]
 | some x =>
  have hlt : k < l.length := (List.getElem?_eq_some_iff.1 ht).1
  have c1 : decide ((k : Int) < l.length) = true := decide_eq_true (by omega)
  have h1 := ZR ht
  have hcl : ((l.take k).map (·.span)).length ≤ 1000000 := by simp; omega
  have hS : ((l.take k).map (·.span)).map spanC ++ [spanC x.span] = ((l.take (k + 1)).map (·.span)).map spanC := by rw [List.take_add_one, ht]; simp
  generalize (l.take k).map (·.span) = M at *
  generalize hM' : (l.take (k + 1)).map (·.span) = M' at *
  have hmb : (M.map spanC).length ≤ 1000000 := by rw [List.length_map]; omega
  repeat' (first
   | ((with_reducible refine zg ?_); refine zk (Zx (es' := M'.map spanC) rfl rfl rfl rfl rfl rfl rfl rfl rfl rfl rfl rfl rfl qe0 hS rfl) rfl ?_)
   | refine stn [] ?_
   | fail)
  exact ⟨k + 1, by rw [hM']; exact qw, by omega, by omega⟩
theorem overlap_false {l : List Span} (h : ∀ i k, i < l.length → k < i → meet (l.getD i ⟨0, 0⟩) (l.getD k ⟨0, 0⟩) = false) : overlapL l = false := by
 rw [Bool.eq_false_iff]
 intro hc
 unfold overlapL at hc
 simp only [List.any_eq_true, List.mem_range] at hc
 obtain ⟨i, hi, k, hk, hm⟩ := hc
 rw [h i k hi hk] at hm
 cases hm
theorem overlap_true {l : List Span} {i k : Nat} (hi : i < l.length) (hk : k < i) (h : meet (l.getD i ⟨0, 0⟩) (l.getD k ⟨0, 0⟩) = true) : overlapL l = true := by
 unfold overlapL
 simp only [List.any_eq_true, List.mem_range]
 exact ⟨i, hi, k, hk, h⟩
theorem Qz {l : List Note} {k : Nat} {x : Note} (h : l[k]? = some x) : (l.map (·.span)).getD k ⟨0, 0⟩ = x.span := by
 rw [List.getD_eq_getElem?_getD, List.getElem?_map, h]
 rfl
set_option maxHeartbeats 2000000 in
theorem roverlap_spec (l : List Note) (hl : l.length ≤ 1000000) : PCalls Tryz.prog g 77 [encNotes l] (vb (overlapL (l.map (·.span)))) := by
 refine pcalls' Tryz.func77 Tryz.ntmps77 rfl rfl rfl ?_
 refine runn [] ?_
 refine zi (α := Nat) 0 (fun i => [(0, encNotes l), (3, vi i)]) (fun _ => []) (fun i => i ≤ l.length ∧ ∀ a b, a < i → b < a → meet ((l.map (·.span)).getD a ⟨0, 0⟩) ((l.map (·.span)).getD b ⟨0, 0⟩) = false) (fun i => l.length - i) 0
  qw ⟨Nat.zero_le _, fun a b h => absurd h (Nat.not_lt_zero _)⟩ ?_
 rintro i ⟨hi, ho⟩
 cases hti : l[i]? with
 | none =>
  have hge : l.length ≤ i := by simpa using hti
  have c1 : decide ((i : Int) < l.length) = false := decide_eq_false (by omega)
  rw [overlap_false (l := l.map (·.span)) (fun a b ha hb => ho a b (by rw [List.length_map] at ha; omega) hb)]
  refine runn [] ?_
  exact retP rfl rfl
 | some x =>
  have hlt : i < l.length := (List.getElem?_eq_some_iff.1 hti).1
  have c1 : decide ((i : Int) < l.length) = true := decide_eq_true (by omega)
  have h1 := ZR hti
  refine runn [] ?_
  refine zi (α := Nat) 0 (fun k => [(0, encNotes l), (3, vi i), (4, vi k)]) (fun _ => []) (fun k => k ≤ i ∧ ∀ b, b < k → meet x.span ((l.map (·.span)).getD b ⟨0, 0⟩) = false) (fun k => i - k) 0
   qw ⟨Nat.zero_le _, fun b h => absurd h (Nat.not_lt_zero _)⟩ ?_
  rintro k ⟨hk, hb⟩
  by_cases hki : k < i
  ·have d1 : decide ((k : Int) < i) = true := decide_eq_true (by omega)
   obtain ⟨y, hy⟩ : ∃ y, l[k]? = some y := ⟨_, List.getElem?_eq_getElem (by omega)⟩
   have h2 := ZR hy
   by_cases e1 : x.span.fro < y.span.til
   ·have d2 : decide (x.span.fro < y.span.til) = true := decide_eq_true e1
    by_cases e2 : y.span.fro < x.span.til
    ·have d3 : decide (y.span.fro < x.span.til) = true := decide_eq_true e2
     rw [overlap_true (l := l.map (·.span)) (i := i) (k := k) (by rw [List.length_map]; omega) hki (by rw [Qz hti, Qz hy]; simp [meet, e1, e2])]
     refine run [] ?_
     exact retP rfl rfl
    ·have d3 : decide (y.span.fro < x.span.til) = false := decide_eq_false e2
     refine run [] ?_
     refine ⟨k + 1, qw, ⟨by omega, fun b hbk => ?_⟩, by omega⟩
     by_cases e : b = k
     ·subst e; rw [Qz hy]; simp [meet, e2]
     ·exact hb b (by omega)
   ·have d2 : decide (x.span.fro < y.span.til) = false := decide_eq_false e1
    refine run [] ?_
    refine ⟨k + 1, qw, ⟨by omega, fun b hbk => ?_⟩, by omega⟩
    by_cases e : b = k
    ·subst e; rw [Qz hy]; simp [meet, e1]
    ·exact hb b (by omega)
  ·have d1 : decide ((k : Int) < i) = false := decide_eq_false (by omega)
   refine runn [] ?_
   refine ⟨i + 1, qw, ⟨by omega, fun a b ha hab => ?_⟩, by omega⟩
   by_cases e : a = i
   ·subst e; rw [Qz hti]; exact hb b (by omega)
   ·exact ho a b (by omega) hab
theorem ranked_false {l : List Int} {n : Nat} (h : n < l.length) (h2 : (l.any fun r => decide (r = (n : Int))) = false) : rankedL l = false := by
 rw [Bool.eq_false_iff]
 intro hc
 unfold rankedL at hc
 simp only [List.all_eq_true, List.mem_range] at hc
 rw [hc n h] at h2
 cases h2
theorem ranked_true {l : List Int} (h : ∀ n, n < l.length → (l.any fun r => decide (r = (n : Int))) = true) : rankedL l = true := by
 unfold rankedL
 simp only [List.all_eq_true, List.mem_range]
 exact h
theorem any_up {l : List Note} {k : Nat} {n : Int} {y : Note} (h : l[k]? = some y) : (((l.take (k + 1)).map (·.rank)).any fun r => decide (r = n)) = ((((l.take k).map (·.rank)).any fun r => decide (r = n)) || decide (y.rank = n)) := by
 rw [List.take_add_one, h, Option.toList_some, List.map_append, List.any_append]
 simp
set_option maxHeartbeats 2000000 in
theorem rranked_spec (l : List Note) (hl : l.length ≤ 1000000) : PCalls Tryz.prog g 80 [encNotes l] (vb (rankedL (l.map (·.rank)))) := by
 have n1 : (!true) = false := rfl
 have n2 : (!false) = true := rfl
 refine pcalls' Tryz.func80 Tryz.ntmps80 rfl rfl rfl ?_
 refine runn [] ?_
 refine zi (α := Nat) 0 (fun i => [(0, encNotes l), (3, vi i)]) (fun _ => []) (fun i => i ≤ l.length ∧ ∀ a, a < i → ((l.map (·.rank)).any fun r => decide (r = (a : Int))) = true) (fun i => l.length - i) 0
  qw ⟨Nat.zero_le _, fun a h => absurd h (Nat.not_lt_zero _)⟩ ?_
 rintro i ⟨hi, ho⟩
 by_cases hil : i < l.length
 ·have c1 : decide ((i : Int) < l.length) = true := decide_eq_true (by omega)
  refine runn [] ?_
  refine zi (α := Nat) 0 (fun k => [(0, encNotes l), (3, vi i), (4, vb (((l.take k).map (·.rank)).any fun r => decide (r = (i : Int)))), (5, vi k)]) (fun _ => []) (fun k => k ≤ l.length) (fun k => l.length - k) 0
   qw (Nat.zero_le _) ?_
  rintro k hk
  cases hy : l[k]? with
  | some y =>
   have hlt : k < l.length := (List.getElem?_eq_some_iff.1 hy).1
   have d1 : decide ((k : Int) < l.length) = true := decide_eq_true (by omega)
   have h1 := ZR hy
   have hU := any_up (n := (i : Int)) hy
   cases hb : (((l.take k).map (·.rank)).any fun r => decide (r = (i : Int))) with
   | true =>
    rw [hb, Bool.true_or] at hU
    refine runn [] ?_
    exact ⟨k + 1, by rw [hU]; exact qw, by omega, by omega⟩
   | false =>
    rw [hb, Bool.false_or] at hU
    refine runn [] ?_
    exact ⟨k + 1, by rw [hU]; exact qw, by omega, by omega⟩
  | none =>
   have hge : l.length ≤ k := by simpa using hy
   have d1 : decide ((k : Int) < l.length) = false := decide_eq_false (by omega)
   rw [List.take_of_length_le hge]
   cases hb : ((l.map (·.rank)).any fun r => decide (r = (i : Int))) with
   | true =>
    refine runn [] ?_
    refine ⟨i + 1, qw, ⟨by omega, fun a ha => ?_⟩, by omega⟩
    by_cases e : a = i
    ·subst e; exact hb
    ·exact ho a (by omega)
   | false =>
    rw [ranked_false (n := i) (by rw [List.length_map]; exact hil) hb]
    refine runn [] ?_
    exact retP rfl rfl
 ·have c1 : decide ((i : Int) < l.length) = false := decide_eq_false (by omega)
  rw [ranked_true (l := l.map (·.rank)) (fun n hn => ho n (by rw [List.length_map] at hn; omega))]
  refine runn [] ?_
  exact retP rfl rfl
end
section
open Go.RowKit Go.Shelf Go.Lib Go.Sort
end
end Go.Proofs.YtcfkokllinkigaaGreatDoor
namespace Go.Ac
section
section
variable {P : Program} {td : TDs} [T : TOK P td] {G : Glo} {N : Nat} {Q : AQ} {S Sb D : SL} {L : List LB} {ops : Array Oper} {rest : List Oper}
 {op : Op} {ty ty2 : TypeId} {pos pos2 : String} {af af2 : Array Edge} {d i : Nat} {x : AV} {nb : Nat} {W : DW}
end
end
end Go.Ac
namespace Go.Proofs.YtcfkokllinkigaaGreatDoor
section
open Go.Ac
attribute [local irreducible] awp awpL Ev Ev2 EvS thenQ blockQ retQ PCalls OCalls YieldOk IterC ICalls
variable {g : List (Nat × List AV)}
abbrev encSpans (l : List Span) : AV := .fs 2 l.length (l.map spanC)
theorem span_get {l : List Span} {k : Nat} {x : Span} (h : l[k]? = some x) : 0 ≤ (k : Int) ∧ (l.map spanC)[(k : Int).toNat]? = some (spanC x) := ⟨by omega, by simp [h]⟩
end
end Go.Proofs.YtcfkokllinkigaaGreatDoor
section
namespace Go.Proofs.YtcfkokllinkigaaGreatDoor
end Go.Proofs.YtcfkokllinkigaaGreatDoor
end
