/- A logic of trees over the model's steps, and the contracts of the functions that the laws reach: part 4 of 29. -/
import Derived.Test.YtcfkokllinkigaaGreatDoorB3
set_option linter.unusedVariables false
set_option linter.unusedSimpArgs false
set_option linter.unusedSectionVars false
set_option linter.unnecessarySimpa false
namespace Go.Proofs.YtcfkokllinkigaaGreatDoor
section
open Go.Ac
attribute [local irreducible] awp awpL Ev Ev2 EvS thenQ blockQ retQ PCalls OCalls
variable {g : List (Nat × List AV)}
def stampEq : List Value → List Value → Option Bool
 | [.int .i64 a, .int .i64 b], [.int .i64 a', .int .i64 b'] => some (a == a' && b == b')
 | _, _ => none
theorem zF : EqT Tryz.prog 77 stampEq := by
 intro xs ys b w h
 unfold stampEq at h
 split at h
 ·rename_i a b a' b'
  have h := Option.some.inj h
  subst h
  have u3 := Tryz.underlying3
  have a3 := Tryz.isAgg3
  have z3 := Tryz.sizeOf3
  have hS : Tryz.prog.underlying 77 = some (.struct (Tryz.prog.fieldsOf 77)) := by kernel_rfl
  rw [show (10000 : Nat) = 9999 + 1 from rfl, run_equalIn_agg w 9999 _ _ _ hS (by kernel_rfl)]
  simp only [Program.fieldsOf, Tryz.underlying77]
  go_simp
  by_cases h1 : a = a' <;> by_cases h2 : b = b' <;> simp [h1, h2]
 ·cases h
theorem yP (a : Int) : PCalls Tryz.prog g 119 [vi a] (vb false) := by
 refine pcalls' Tryz.func119 Tryz.ntmps119 rfl rfl rfl ?_
 refine runn [] ?_
 all_goals refine retP rfl ?_
 all_goals simp [ex]
theorem cmp_spec (a b : Int) : PCalls Tryz.prog g 97 [vi a, vi b] (vi (cmp a b)) := by
 have h1 := yP (g := g) a
 have h2 := yP (g := g) b
 refine pcalls' Tryz.func97 Tryz.ntmps97 rfl rfl rfl ?_
 repeat' (first
  | refine stn [] ?_
  | ((with_reducible refine zl ?_); refine ze rfl (fun h => ?_) (fun h => ?_))
  | fail)
 all_goals refine retP rfl ?_
 all_goals clear h1 h2
 all_goals simp_all [ex, cmp]
 all_goals first | omega | (intros; omega) | ((repeat' split) <;> omega)
set_option maxHeartbeats 400000 in
theorem or_spec (l : List Int) (hl : l.length ≤ 1000000) : PCalls Tryz.prog g 96 [encIs l] (vi ((l.find? (fun x => decide (x ≠ 0))).getD 0)) := by
 refine pcalls' Tryz.func96 Tryz.ntmps96 rfl rfl rfl ?_
 repeat' (first
  | refine stn [] ?_
  | ((with_reducible refine zl ?_); refine ze rfl (fun h => ?_) (fun h => ?_))
  | fail)
 refine zi (α := Nat) 0 (fun k => [(6, encIs l), (7, vi l.length), (8, vi k), (3, vi 0)]) (fun _ => []) (fun k => k ≤ l.length ∧ l.find? (fun x => decide (x ≠ 0)) = (l.drop k).find? (fun x => decide (x ≠ 0))) (fun k => l.length - k) 0
  qw ⟨Nat.zero_le _, rfl⟩ ?_
 rintro k ⟨hk, hf⟩
 cases ht : l[k]? with
 | none =>
  have hge : l.length ≤ k := by simpa using ht
  have c1 : decide ((k : Int) < l.length) = false := by simp; omega
  rw [List.drop_of_length_le hge] at hf
  refine runn [] ?_
  refine retP rfl ?_
  rw [hf]; rfl
 | some t =>
  have hlt : k < l.length := (List.getElem?_eq_some_iff.1 ht).1
  have c1 : decide ((k : Int) < l.length) = true := by simp; omega
  have h1 := qI ht
  have hd : l.drop k = t :: l.drop (k + 1) := by
   obtain ⟨_, rfl⟩ := List.getElem?_eq_some_iff.1 ht
   exact List.drop_eq_getElem_cons hlt
  rw [hd] at hf
  repeat' (first
   | refine stn [] ?_
   | ((with_reducible refine zl ?_); refine ze rfl (fun h => ?_) (fun h => ?_))
   | fail)
  ·refine retP rfl ?_
   rw [hf]
   have : t ≠ 0 := by simpa using h
   simp [this, ex]
  ·refine ⟨k + 1, qw, ⟨by omega, ?_⟩, by omega⟩
   rw [hf]
   have : t = 0 := by simpa using h
   simp [this]
theorem ZY (s : Stamp) : PCalls Tryz.prog g 65 [.agg (stampC s)] (vb (right s)) := by
 refine pcalls' Tryz.func65 Tryz.ntmps65 rfl rfl rfl ?_
 repeat' (first
  | refine stn [] ?_
  | ((with_reducible refine zr ?_); refine zf rfl rfl (fun h => ?_) (fun h => ?_))
  | fail)
 all_goals refine retP rfl ?_
 all_goals simp_all [ex, right]
 all_goals first | omega | (intros; omega) | ((repeat' split) <;> omega)
theorem Qg (s : Stamp) : PCalls Tryz.prog g 89 [.agg (stampC s)] (vb (right s)) := by
 refine pcalls' Tryz.func89 Tryz.ntmps89 rfl rfl rfl ?_
 repeat' (first
  | refine stn [] ?_
  | ((with_reducible refine zr ?_); refine zf rfl rfl (fun h => ?_) (fun h => ?_))
  | fail)
 all_goals refine retP rfl ?_
 all_goals simp_all [ex, right]
 all_goals first | omega | (intros; omega) | ((repeat' split) <;> omega)
theorem cmp_lt {a b : Int} (h : a < b) : cmp a b = -1 := by simp [cmp, h]
theorem cmp_gt {a b : Int} (h : b < a) : cmp a b = 1 := by
 have : ¬ a < b := by omega
 simp [cmp, h, this]
theorem cmp_eq (a : Int) : cmp a a = 0 := by simp [cmp]
theorem less_cmp (a b : Stamp) : decide ((([cmp a.count b.count, cmp a.dev b.dev].find? (fun x => decide (x ≠ 0))).getD 0) < 0) = less a b := by
 unfold less
 rcases Int.lt_trichotomy a.count b.count with h1 | h1 | h1
 ·simp [cmp_lt h1, h1]
 ·rw [h1, cmp_eq]
  rcases Int.lt_trichotomy a.dev b.dev with h2 | h2 | h2
  ·simp [cmp_lt h2, h2]
  ·rw [h2, cmp_eq]; simp
  ·have : ¬ a.dev < b.dev := by omega
   simp [cmp_gt h2, this]
 ·have : ¬ a.count < b.count := by omega
  have h3 : a.count ≠ b.count := by omega
  simp [cmp_gt h1, this, h3]
theorem less_self {a b : Stamp} (h : (a.count == b.count && a.dev == b.dev) = true) : less a b = false := by
 simp at h
 simp [less, h.1, h.2]
set_option maxHeartbeats 400000 in
theorem QH (a b : Stamp) : PCalls Tryz.prog g 63 [.agg (stampC a), .agg (stampC b)] (vb (less a b)) := by
 have h1 := cmp_spec (g := g) a.count b.count
 have h2 := cmp_spec (g := g) a.dev b.dev
 have h3 := or_spec (g := g) [cmp a.count b.count, cmp a.dev b.dev] (by simp)
 refine pcalls' Tryz.func63 Tryz.ntmps63 rfl rfl rfl ?_
 repeat' (first
  | ((with_reducible refine zu ?_); refine zc (zh (fun _ => ZB (neg := true) zF (by kernel_rfl) rfl rfl rfl rfl rfl) rfl rfl) qb0 ?_)
  | ((with_reducible refine zp ?_); refine zd rfl rfl qa0 (zh (fun _ => ZB (neg := true) zF (by kernel_rfl) rfl rfl rfl rfl rfl) rfl rfl) qb0 ?_)
  | refine st [] ?_
  | ((with_reducible refine zp ?_); ((fail_if_success (refine isD_kn (c := true) rfl qa0 ?_)); (fail_if_success (refine isD_kn (c := false) rfl qa0 ?_)); refine zI rfl (fun h => ?_) (fun h => ?_)))
  | fail)
 ·refine retP rfl ?_
  show vb _ = vb _
  congr 2
  exact less_cmp a b
 ·refine retP rfl ?_
  rw [less_self (by simpa using h)]
  rfl
theorem qT (a b : Stamp) : PCalls Tryz.prog g 58 [.agg (stampC a), .agg (stampC b)] (vb (less a b)) := by
 refine pcalls' Tryz.func58 Tryz.ntmps58 rfl rfl rfl ?_
 repeat' (first
  | refine stn [] ?_
  | ((with_reducible refine zr ?_); refine zf rfl rfl (fun h => ?_) (fun h => ?_))
  | fail)
 all_goals refine retP rfl ?_
 all_goals simp_all [ex, less]
 all_goals first | omega | (intros; omega) | ((repeat' split) <;> omega)
theorem Id_spec (s : Stamp) : PCalls Tryz.prog g 84 [.agg (stampC s)] (vi (idOf s)) := by
 have h1 := ZY (g := g) s
 refine pcalls' Tryz.func84 Tryz.ntmps84 rfl rfl rfl ?_
 cases hr : right s with
 | false =>
  rw [hr] at h1
  have n1 : (!false) = true := rfl
  refine runn [] ?_
  all_goals refine retP rfl ?_
  all_goals simp [ex, idOf, hr]
 | true =>
  rw [hr] at h1
  have n1 : (!true) = false := rfl
  have hb : -9223372036854775808 ≤ 16 * s.count ∧ 16 * s.count ≤ 9223372036854775807 := by
   simp [right] at hr; omega
  have hb2 : -9223372036854775808 ≤ 16 * s.count + s.dev ∧ 16 * s.count + s.dev ≤ 9223372036854775807 := by
   simp [right] at hr; omega
  repeat' (first
   | ((with_reducible refine zg ?_); refine zb (qg rfl rfl hb) rfl ?_)
   | refine stn [] ?_
   | fail)
  all_goals refine retP rfl ?_
  all_goals simp [ex, idOf, hr]
theorem rId_spec (s : Stamp) : PCalls Tryz.prog g 117 [.agg (stampC s)] (vi (idOf s)) := by
 have h1 := Qg (g := g) s
 refine pcalls' Tryz.func117 Tryz.ntmps117 rfl rfl rfl ?_
 cases hr : right s with
 | false =>
  rw [hr] at h1
  have n1 : (!false) = true := rfl
  refine runn [] ?_
  all_goals refine retP rfl ?_
  all_goals simp [ex, idOf, hr]
 | true =>
  rw [hr] at h1
  have n1 : (!true) = false := rfl
  have hb : -9223372036854775808 ≤ 16 * s.count ∧ 16 * s.count ≤ 9223372036854775807 := by
   simp [right] at hr; omega
  have hb2 : -9223372036854775808 ≤ 16 * s.count + s.dev ∧ 16 * s.count + s.dev ≤ 9223372036854775807 := by
   simp [right] at hr; omega
  repeat' (first
   | ((with_reducible refine zg ?_); refine zb (qg rfl rfl hb) rfl ?_)
   | refine stn [] ?_
   | fail)
  all_goals refine retP rfl ?_
  all_goals simp [ex, idOf, hr]
end
section
open Go.Ac
attribute [local irreducible] awp awpL Ev Ev2 EvS thenQ blockQ retQ PCalls OCalls
variable {g : List (Nat × List AV)}
abbrev ofR (id : Int) : AV := .tup [.agg (stampC (if right (stampOf id) then stampOf id else ⟨0, 0⟩)), vb (right (stampOf id))]
theorem Of_spec (id : Int) (hid : -9223372036854775808 ≤ id ∧ id ≤ 9223372036854775807) : PCalls Tryz.prog g 144 [vi id] (ofR id) := by
 have h1 := ZY (g := g) (stampOf id)
 have hq : (0 : Int) < 16 ∧ -9223372036854775808 ≤ id ∧ id ≤ 9223372036854775807 := ⟨by omega, hid⟩
 have hr : (0 : Int) < 16 := by omega
 refine pcalls' Tryz.func144 Tryz.ntmps144 rfl rfl rfl ?_
 cases hc : right (stampOf id) with
 | false =>
  rw [hc] at h1
  have n1 : (!false) = true := rfl
  repeat' (first
   | ((with_reducible refine zg ?_); (first | refine zb (JY rfl rfl hq) rfl ?_ | refine zb (JX rfl rfl hr) rfl ?_))
   | refine stn [2] ?_
   | fail)
  refine retP rfl ?_
  simp [ex, exL, ofR, hc, stampC]
 | true =>
  rw [hc] at h1
  have n1 : (!true) = false := rfl
  repeat' (first
   | ((with_reducible refine zg ?_); (first | refine zb (JY rfl rfl hq) rfl ?_ | refine zb (JX rfl rfl hr) rfl ?_))
   | refine stn [2] ?_
   | fail)
  refine retP rfl ?_
  rw [ofR, hc, if_pos rfl]
  simp [ex, exL, stampC, stampOf]
theorem rOf_spec (id : Int) (hid : -9223372036854775808 ≤ id ∧ id ≤ 9223372036854775807) : PCalls Tryz.prog g 116 [vi id] (ofR id) := by
 have h1 := Qg (g := g) (stampOf id)
 have hq : (0 : Int) < 16 ∧ -9223372036854775808 ≤ id ∧ id ≤ 9223372036854775807 := ⟨by omega, hid⟩
 have hr : (0 : Int) < 16 := by omega
 refine pcalls' Tryz.func116 Tryz.ntmps116 rfl rfl rfl ?_
 cases hc : right (stampOf id) with
 | false =>
  rw [hc] at h1
  have n1 : (!false) = true := rfl
  repeat' (first
   | ((with_reducible refine zg ?_); (first | refine zb (JY rfl rfl hq) rfl ?_ | refine zb (JX rfl rfl hr) rfl ?_))
   | refine stn [2] ?_
   | fail)
  refine retP rfl ?_
  simp [ex, exL, ofR, hc, stampC]
 | true =>
  rw [hc] at h1
  have n1 : (!true) = false := rfl
  repeat' (first
   | ((with_reducible refine zg ?_); (first | refine zb (JY rfl rfl hq) rfl ?_ | refine zb (JX rfl rfl hr) rfl ?_))
   | refine stn [2] ?_
   | fail)
  refine retP rfl ?_
  rw [ofR, hc, if_pos rfl]
  simp [ex, exL, stampC, stampOf]
theorem Qi (v : List Int) (i : Nat) (hv : v.length ≤ 1000000) : PCalls Tryz.prog g 61 [encIs v, vi i] (vi (num v i)) := by
 refine pcalls' Tryz.func61 Tryz.ntmps61 rfl rfl rfl ?_
 cases ht : v[i]? with
 | none =>
  have hge : v.length ≤ i := by simpa using ht
  have c1 : decide ((v.length : Int) ≤ i) = true := by simp; omega
  refine runn [] ?_
  refine retP rfl ?_
  simp [ex, num, ht]
 | some t =>
  have hlt : i < v.length := (List.getElem?_eq_some_iff.1 ht).1
  have c1 : decide ((v.length : Int) ≤ i) = false := by simp; omega
  have h1 := qI ht
  refine runn [] ?_
  refine retP rfl ?_
  simp [ex, num, ht]
theorem jN {s : Stamp} (h : right s = true) : 1 ≤ s.dev ∧ s.dev ≤ 15 ∧ 1 ≤ s.count ∧ s.count ≤ 1048576 := by simp [right] at h; omega
theorem Covers_spec (v : List Int) (s : Stamp) (hv : v.length ≤ 1000000) : PCalls Tryz.prog g 68 [encIs v, .agg (stampC s)] (vb (covers v s)) := by
 have h1 := ZY (g := g) s
 refine pcalls' Tryz.func68 Tryz.ntmps68 rfl rfl rfl ?_
 cases hr : right s with
 | false =>
  rw [hr] at h1
  refine run [] ?_
  refine retP rfl ?_
  simp [ex, covers, hr]
 | true =>
  rw [hr] at h1
  have hd := jN hr
  have h2 : PCalls Tryz.prog g 61 [encIs v, vi (s.dev - 1)] (vi (num v (s.dev - 1).toNat)) := by
   have := Qi (g := g) v (s.dev - 1).toNat hv
   rwa [Int.toNat_of_nonneg (by omega)] at this
  refine run [] ?_
  refine retP rfl ?_
  simp [ex, covers, hr]
end
section
open Go.Ac
attribute [local irreducible] awp awpL Ev Ev2 EvS thenQ blockQ retQ PCalls OCalls
variable {g : List (Nat × List AV)}
def joinC (a b : List Int) (k : Nat) : List (List AV) := (List.range 15).map fun i => intC (if i < k then max (num a i) (num b i) else 0)
theorem joinC_set (a b : List Int) (k : Nat) (hk : k < 15) : (joinC a b k).set k (intC (max (num a k) (num b k))) = joinC a b (k + 1) := by
 unfold joinC
 apply List.ext_getElem?
 intro i
 rw [List.getElem?_set]
 simp only [List.getElem?_map, List.length_map, List.length_range]
 by_cases e : k = i
 ·subst e
  simp [hk]
 ·simp only [e, if_false]
  rcases Nat.lt_or_ge i 15 with h | h
  ·simp only [List.getElem?_range h, Option.map_some, Option.some.injEq]
   have : (i < k) = (i < k + 1) := by apply propext; omega
   simp only [this]
  ·rw [List.getElem?_eq_none (by simpa using h)]; rfl
theorem joinC_get (a b : List Int) (k : Nat) (hk : k < 15) : (joinC a b k)[k]? = some (intC 0) := by
 unfold joinC
 simp [hk]
theorem joinC_end (a b : List Int) : joinC a b 15 = (join a b).map intC := by
 unfold joinC join
 rw [List.map_map]
 refine List.map_congr_left fun i hi => ?_
 simp only [List.mem_range] at hi
 simp [hi]
theorem joinC_len (a b : List Int) (k : Nat) : (joinC a b k).length = 15 := by simp [joinC]
set_option maxHeartbeats 400000 in
theorem Join_spec (a b : List Int) (ha : a.length ≤ 1000000) (hb : b.length ≤ 1000000) : OCalls Tryz.prog g 30 [encIs a, encIs b] 3 1 ((join a b).map intC) := by
 refine ocalls' Tryz.func30 Tryz.ntmps30 rfl rfl rfl ?_
 have hm : (0 : Int) ≤ 15 ∧ (8 : Nat) * (15 : Int) ≤ 281474976710656 ∧ (15 : Int) ≤ 9223372036854775807 := by omega
 repeat' (first
  | ((with_reducible refine zg ?_); refine zk (ev_make (n := 15) (es := joinC a b 0) rfl rfl rfl rfl rfl rfl rfl rfl hm rfl (by simp only [List.length_nil]; rfl) (by simp only [List.nil_append]; rfl)) rfl ?_)
  | refine stn [] ?_
  | ((with_reducible refine zl ?_); refine ze rfl (fun h => ?_) (fun h => ?_))
  | fail)
 refine zi (α := Nat) 1 (fun k => [(5, .os 0 0), (9, vi 15), (10, vi k), (0, encIs a), (1, encIs b)]) (fun k => [.own 0 3 1 (joinC a b k)]) (fun k => k ≤ 15) (fun k => 15 - k) 0
  qw (Nat.zero_le _) ?_
 rintro k hk
 by_cases h15 : k = 15
 ·subst h15
  have c1 : decide (((15 : Nat) : Int) < 15) = false := rfl
  refine runn [] ?_
  exact retO rfl (by rw [joinC_end]; rfl)
 ·have c1 : decide ((k : Int) < 15) = true := by simp; omega
  have hlt : k < 15 := by omega
  have h1 := Qi (g := g) a k ha
  have h2 := Qi (g := g) b k hb
  have hc : 0 ≤ (k : Int) ∧ (k : Int) < (joinC a b k).length := by rw [joinC_len]; omega
  have hel : (joinC a b k)[(k : Int).toNat]? = some (intC 0) := by simpa using joinC_get a b k hlt
  have hset : (joinC a b k).set (k : Int).toNat (intC (max (num a k) (num b k))) = joinC a b (k + 1) := by simpa using joinC_set a b k hlt
  repeat' (first
   | ((with_reducible refine zg ?_); refine Zk (QA (el' := intC (max (num a k) (num b k))) (L' := [.own 0 3 1 (joinC a b (k + 1))]) rfl rfl rfl rfl rfl rfl rfl rfl hel rfl (by rw [← hset]; rfl)) ?_)
   | refine stn [] ?_
   | fail)
  exact ⟨k + 1, qw, by omega, by omega⟩
theorem Join_nil (a : List Int) (ha : a.length ≤ 1000000) : OCalls Tryz.prog g 30 [encIs a, nilS] 3 1 ((join a []).map intC) :=
 (Join_spec a [] ha (by simp)).args (.cons (Le.of_eq rfl) (.cons (Le.nil 1) .nil))
theorem Join_nn : OCalls Tryz.prog g 30 [nilS, nilS] 3 1 ((join [] []).map intC) :=
 (Join_spec [] [] (by simp) (by simp)).args (.cons (Le.nil 1) (.cons (Le.nil 1) .nil))
theorem join_get (a b : List Int) (k : Nat) (hk : k < 15) : (join a b)[k]? = some (max (num a k) (num b k)) := by simp [join, hk]
theorem num_join (a : List Int) (k : Nat) (hk : k < 15) : max (num a k) (num [] k) = num a k := by simp [num]
theorem w7 (l : List Int) (k : Nat) (x : Int) : (l.map intC).set k (intC x) = (l.set k x).map intC := by rw [List.map_set]
set_option maxHeartbeats 400000 in
theorem See_spec (v : List Int) (s : Stamp) (hv : v.length ≤ 1000000) : OCalls Tryz.prog g 34 [encIs v, .agg (stampC s)] 3 1 ((see v s).map intC) := by
 have h1 := ZY (g := g) s
 have h2 := Join_nil (g := g) v hv
 refine ocalls' Tryz.func34 Tryz.ntmps34 rfl rfl rfl ?_
 cases hr : right s with
 | false =>
  rw [hr] at h1
  have hs : see v s = join v [] := by simp [see, hr]
  repeat' (first
   | ((with_reducible refine zg ?_); refine Qc rfl rfl h2 rfl (by simp only [List.length_nil]; rfl) (by simp only [List.nil_append]; rfl) ?_)
   | refine st [] ?_
   | fail)
  exact retO rfl (by rw [hs]; rfl)
 | true =>
  rw [hr] at h1
  have hd := jN hr
  have hlt : (s.dev - 1).toNat < 15 := by omega
  have hs : see v s = (join v []).set (s.dev - 1).toNat (max (num v (s.dev - 1).toNat) s.count) := by simp [see, hr]
  have hc : 0 ≤ s.dev - 1 ∧ s.dev - 1 < ((join v []).map intC).length := by rw [List.length_map, join_len]; omega
  have hel : ((join v []).map intC)[(s.dev - 1).toNat]? = some (intC (num v (s.dev - 1).toNat)) := by rw [List.getElem?_map, join_get _ _ _ hlt, num_join _ _ hlt]; rfl
  repeat' (first
   | refine Q6 rfl rfl (QA (el' := intC (max (num v (s.dev - 1).toNat) s.count)) (L' := [.own 0 3 1 ((see v s).map intC)]) rfl rfl rfl rfl rfl rfl rfl rfl hel rfl (by rw [hs, ← w7]; rfl)) rfl rfl ?_
   | ((with_reducible refine zg ?_); refine Qc rfl rfl h2 rfl (by simp only [List.length_nil]; rfl) (by simp only [List.nil_append]; rfl) ?_)
   | refine st [] ?_
   | fail)
  exact retO rfl rfl
end
section
open Go.Ac
attribute [local irreducible] awp awpL Ev Ev2 EvS thenQ blockQ retQ PCalls OCalls
variable {g : List (Nat × List AV)}
end
section
open Go.Ac
attribute [local irreducible] awp awpL Ev Ev2 EvS thenQ blockQ retQ PCalls OCalls
variable {g : List (Nat × List AV)}
theorem qM {x y : Stamp} (h : x.count = y.count ∧ x.dev = y.dev) : x = y := by cases x; cases y; simp_all
def noteEq : List Value → List Value → Option Bool
 | [.int .i64 a, .int .i64 b, .int .i64 c, .int .i64 d, .int .i64 e, .int .i64 f, .string s], [.int .i64 a', .int .i64 b', .int .i64 c', .int .i64 d', .int .i64 e', .int .i64 f', .string s'] =>
  some (a == a' && (b == b' && (c == c' && ((d == d' && e == e') && (f == f' && s.toList == s'.toList)))))
 | _, _ => none
theorem ZS : EqT Tryz.prog 56 noteEq := by
 intro xs ys b w h
 unfold noteEq at h
 split at h
 ·rename_i a b c d e f s a' b' c' d' e' f' s'
  have h := Option.some.inj h
  subst h
  have u3 := Tryz.underlying3
  have a3 := Tryz.isAgg3
  have z3 := Tryz.sizeOf3
  have u9 := Tryz.underlying9
  have a9 := Tryz.isAgg9
  have z9 := Tryz.sizeOf9
  have a7 := Tryz.isAgg54
  have z7 := Tryz.sizeOf54
  have hS : Tryz.prog.underlying 56 = some (.struct (Tryz.prog.fieldsOf 56)) := by kernel_rfl
  have hsp : ∀ w, (Op.equalIn 9999 54 (.agg #[.int .i64 d, .int .i64 e]) (.agg #[.int .i64 d', .int .i64 e'])).run Tryz.prog w = .ok (d == d' && e == e') w := by
   intro w
   rw [show (9999 : Nat) = 9998 + 1 from rfl, run_equalIn_agg w 9998 _ _ _ (show Tryz.prog.underlying 54 = some (.struct (Tryz.prog.fieldsOf 54)) by kernel_rfl) (by kernel_rfl)]
   simp only [Program.fieldsOf, Tryz.underlying54]
   go_simp
   by_cases h1 : d = d' <;> by_cases h2 : e = e' <;> simp [h1, h2]
  rw [show (10000 : Nat) = 9999 + 1 from rfl, run_equalIn_agg w 9999 _ _ _ hS (by kernel_rfl)]
  simp only [Program.fieldsOf, Tryz.underlying56]
  go_simp
  by_cases h1 : a = a' <;> by_cases h2 : b = b' <;> by_cases h3 : c = c' <;> by_cases h4 : d = d' <;> by_cases h5 : e = e' <;> by_cases h6 : f = f' <;> by_cases h7 : s.toList = s'.toList <;> simp [h1, h2, h3, h4, h5, h6, h7]
 ·cases h
set_option maxHeartbeats 400000 in
theorem eqInts_spec (a b : List Int) (ha : a.length ≤ 1000000) (hb : b.length ≤ 1000000) : PCalls Tryz.prog g 67 [encIs a, encIs b] (vb (decide (a = b))) := by
 refine pcalls' Tryz.func67 Tryz.ntmps67 rfl rfl rfl ?_
 by_cases hl : a.length = b.length
 ·have c0 : (!decide ((a.length : Int) = b.length)) = false := by simp; omega
  repeat' (first
   | refine stn [] ?_
   | ((with_reducible refine zl ?_); refine ze rfl (fun h => ?_) (fun h => ?_))
   | fail)
  refine zi (α := Nat) 0 (fun k => [(0, encIs a), (1, encIs b), (12, vi a.length), (13, vi k)]) (fun _ => []) (fun k => k ≤ a.length ∧ a.take k = b.take k) (fun k => a.length - k) 0
   qw ⟨Nat.zero_le _, rfl⟩ ?_
  rintro k ⟨hk, hf⟩
  cases ht : a[k]? with
  | none =>
   have hge : a.length ≤ k := by simpa using ht
   have c1 : decide ((k : Int) < a.length) = false := by simp; omega
   have he : a = b := by
    rw [List.take_of_length_le hge, List.take_of_length_le (by omega)] at hf; exact hf
   refine runn [] ?_
   refine retP rfl ?_
   simp [ex, he]
  | some x =>
   have hlt : k < a.length := (List.getElem?_eq_some_iff.1 ht).1
   obtain ⟨y, hy⟩ : ∃ y, b[k]? = some y := ⟨_, List.getElem?_eq_getElem (by omega)⟩
   have c1 : decide ((k : Int) < a.length) = true := by simp; omega
   have h1 := qI ht
   have h2 := qI hy
   repeat' (first
    | refine st [] ?_
    | ((with_reducible refine zl ?_); refine ze rfl (fun h => ?_) (fun h => ?_))
    | fail)
   ·refine retP rfl ?_
    have hne : x ≠ y := by simpa using h
    have : a ≠ b := fun e => hne (by rw [e, hy] at ht; exact (Option.some.inj ht).symm)
    simp [ex, this]
   ·have he : x = y := by simpa using h
    exact ⟨k + 1, qw, ⟨by omega, by rw [List.take_add_one, List.take_add_one, hf, ht, hy, he]⟩, by omega⟩
 ·have c0 : (!decide ((a.length : Int) = b.length)) = true := by simp; omega
  refine runn [] ?_
  refine retP rfl ?_
  have : a ≠ b := fun e => hl (by rw [e])
  simp [ex, this]
set_option maxHeartbeats 400000 in
theorem yp (a b : List Int) (ha : a.length ≤ 1000000) (hb : b.length ≤ 1000000) : PCalls Tryz.prog g 26 [encIs a, encIs b] (vb (decide (a = b))) := by
 refine pcalls' Tryz.func26 Tryz.ntmps26 rfl rfl rfl ?_
 by_cases hl : a.length = b.length
 ·have c0 : (!decide ((a.length : Int) = b.length)) = false := by simp; omega
  repeat' (first
   | refine stn [] ?_
   | ((with_reducible refine zl ?_); refine ze rfl (fun h => ?_) (fun h => ?_))
   | fail)
  refine zi (α := Nat) 0 (fun k => [(0, encIs a), (1, encIs b), (12, vi a.length), (13, vi k)]) (fun _ => []) (fun k => k ≤ a.length ∧ a.take k = b.take k) (fun k => a.length - k) 0
   qw ⟨Nat.zero_le _, rfl⟩ ?_
  rintro k ⟨hk, hf⟩
  cases ht : a[k]? with
  | none =>
   have hge : a.length ≤ k := by simpa using ht
   have c1 : decide ((k : Int) < a.length) = false := by simp; omega
   have he : a = b := by
    rw [List.take_of_length_le hge, List.take_of_length_le (by omega)] at hf; exact hf
   refine runn [] ?_
   refine retP rfl ?_
   simp [ex, he]
  | some x =>
   have hlt : k < a.length := (List.getElem?_eq_some_iff.1 ht).1
   obtain ⟨y, hy⟩ : ∃ y, b[k]? = some y := ⟨_, List.getElem?_eq_getElem (by omega)⟩
   have c1 : decide ((k : Int) < a.length) = true := by simp; omega
   have h1 := qI ht
   have h2 := qI hy
   repeat' (first
    | refine st [] ?_
    | ((with_reducible refine zl ?_); refine ze rfl (fun h => ?_) (fun h => ?_))
    | fail)
   ·refine retP rfl ?_
    have hne : x ≠ y := by simpa using h
    have : a ≠ b := fun e => hne (by rw [e, hy] at ht; exact (Option.some.inj ht).symm)
    simp [ex, this]
   ·have he : x = y := by simpa using h
    exact ⟨k + 1, qw, ⟨by omega, by rw [List.take_add_one, List.take_add_one, hf, ht, hy, he]⟩, by omega⟩
 ·have c0 : (!decide ((a.length : Int) = b.length)) = true := by simp; omega
  refine runn [] ?_
  refine retP rfl ?_
  have : a ≠ b := fun e => hl (by rw [e])
  simp [ex, this]
set_option maxHeartbeats 400000 in
theorem eqStamps_spec (a b : List Stamp) (ha : a.length ≤ 1000000) (hb : b.length ≤ 1000000) : PCalls Tryz.prog g 64 [encStamps a, encStamps b] (vb (decide (a = b))) := by
 refine pcalls' Tryz.func64 Tryz.ntmps64 rfl rfl rfl ?_
 by_cases hl : a.length = b.length
 ·have c0 : (!decide ((a.length : Int) = b.length)) = false := by simp; omega
  repeat' (first
   | refine stn [] ?_
   | ((with_reducible refine zl ?_); refine ze rfl (fun h => ?_) (fun h => ?_))
   | fail)
  refine zi (α := Nat) 0 (fun k => [(0, encStamps a), (1, encStamps b), (12, vi a.length), (13, vi k)]) (fun _ => []) (fun k => k ≤ a.length ∧ a.take k = b.take k) (fun k => a.length - k) 0
   qw ⟨Nat.zero_le _, rfl⟩ ?_
  rintro k ⟨hk, hf⟩
  cases ht : a[k]? with
  | none =>
   have hge : a.length ≤ k := by simpa using ht
   have c1 : decide ((k : Int) < a.length) = false := by simp; omega
   have he : a = b := by
    rw [List.take_of_length_le hge, List.take_of_length_le (by omega)] at hf; exact hf
   refine runn [] ?_
   refine retP rfl ?_
   simp [ex, he]
  | some x =>
   have hlt : k < a.length := (List.getElem?_eq_some_iff.1 ht).1
   obtain ⟨y, hy⟩ : ∃ y, b[k]? = some y := ⟨_, List.getElem?_eq_getElem (by omega)⟩
   have c1 : decide ((k : Int) < a.length) = true := by simp; omega
   have h1 := Ze ht
   have h2 := Ze hy
   repeat' (first
    | ((with_reducible refine zu ?_); refine zc (zh (fun _ => ZB (neg := true) zF (by kernel_rfl) rfl rfl rfl rfl rfl) rfl rfl) qb0 ?_)
    | refine st [] ?_
    | ((with_reducible refine zl ?_); refine ze rfl (fun h => ?_) (fun h => ?_))
    | fail)
   ·refine retP rfl ?_
    have hne : x ≠ y := by intro e; subst e; simp at h
    have : a ≠ b := fun e => hne (by rw [e, hy] at ht; exact (Option.some.inj ht).symm)
    simp [ex, this]
   ·have he : x = y := by exact qM (by simpa using h)
    exact ⟨k + 1, qw, ⟨by omega, by rw [List.take_add_one, List.take_add_one, hf, ht, hy, he]⟩, by omega⟩
 ·have c0 : (!decide ((a.length : Int) = b.length)) = true := by simp; omega
  refine runn [] ?_
  refine retP rfl ?_
  have : a ≠ b := fun e => hl (by rw [e])
  simp [ex, this]
theorem op_eq (a b : Op) : decide (a = b) = ((a.at_.count == b.at_.count && a.at_.dev == b.at_.dev) && (decide (a.kind = b.kind) && (decide (a.rec_ = b.rec_) && ((a.note.id == b.note.id && (a.note.tier == b.note.tier && (a.note.parent == b.note.parent && ((a.note.span.fro == b.note.span.fro && a.note.span.til == b.note.span.til) && (a.note.rank == b.note.rank && a.note.text.toList == b.note.text.toList))))) && (decide (a.set = b.set) && (decide (a.n = b.n) && (decide (a.text = b.text) && decide (a.over = b.over)))))))) := by
  have hb : ∀ s t : ByteArray, (s.toList == t.toList) = decide (s = t) := j9
  rcases a with ⟨⟨a1, a2⟩, a3, a4, ⟨a5, a6, a7, ⟨a8, a9⟩, a10, a11⟩, a12, a13, a14, a15⟩
  rcases b with ⟨⟨b1, b2⟩, b3, b4, ⟨b5, b6, b7, ⟨b8, b9⟩, b10, b11⟩, b12, b13, b14, b15⟩
  simp only [hb, Op.mk.injEq, Stamp.mk.injEq, Note.mk.injEq, Span.mk.injEq, Bool.decide_and]
  simp only [beq_eq_decide']
where
  beq_eq_decide' : ∀ (a b : Int), (a == b) = decide (a = b) := fun a b => by by_cases h : a = b <;> simp [h]
end
section
open Go.Ac
attribute [local irreducible] awp awpL Ev Ev2 EvS thenQ blockQ retQ PCalls OCalls
variable {g : List (Nat × List AV)}
set_option maxRecDepth 4000 in
set_option maxHeartbeats 1000000 in
theorem Same_spec (a b : Op) (ha : a.over.length ≤ 1000000) (hb : b.over.length ≤ 1000000) : PCalls Tryz.prog g 33 [.agg (opC a), .agg (opC b)] (vb (decide (a = b))) := by
 have h1 := eqStamps_spec (g := g) a.over b.over ha hb
 have hop := op_eq a b
 refine pcalls' Tryz.func33 Tryz.ntmps33 rfl rfl rfl ?_
 repeat' (first
  | ((with_reducible refine zg ?_); (first | refine zb (ZB (neg := false) zF (by kernel_rfl) rfl rfl rfl rfl rfl) rfl ?_ | refine zb (ZB (neg := false) ZS (by kernel_rfl) rfl rfl rfl rfl rfl) rfl ?_))
  | refine stn [] ?_
  | ((with_reducible refine zr ?_); refine zf rfl rfl (fun h => ?_) (fun h => ?_))
  | fail)
 all_goals refine retP rfl ?_
 all_goals rw [hop]
 all_goals clear h1 hop
 all_goals simp_all [ex]
end
section
open Go.Ac
attribute [local irreducible] awp awpL Ev Ev2 EvS thenQ blockQ retQ PCalls OCalls
variable {g : List (Nat × List AV)}
set_option maxRecDepth 4000 in
set_option maxHeartbeats 1000000 in
theorem rSame_spec (a b : Op) (ha : a.over.length ≤ 1000000) (hb : b.over.length ≤ 1000000) : PCalls Tryz.prog g 28 [.agg (opC a), .agg (opC b)] (vb (decide (a = b))) := by
 have hop := op_eq a b
 refine pcalls' Tryz.func28 Tryz.ntmps28 rfl rfl rfl ?_
 by_cases hl : a.over.length = b.over.length
 ·have c0 : (!decide ((a.over.length : Int) = b.over.length)) = false := by simp; omega
  repeat' (first
   | refine stn [] ?_
   | ((with_reducible refine zl ?_); refine ze rfl (fun h => ?_) (fun h => ?_))
   | fail)
  refine zi (α := Nat) 0 (fun k => [(2, .fp (opC a)), (3, .fp (opC b)), (15, vi a.over.length), (16, vi k)]) (fun _ => []) (fun k => k ≤ a.over.length ∧ a.over.take k = b.over.take k) (fun k => a.over.length - k) 0
   qw ⟨Nat.zero_le _, rfl⟩ ?_
  rintro k ⟨hk, hf⟩
  cases ht : a.over[k]? with
  | none =>
   have hge : a.over.length ≤ k := by simpa using ht
   have c1 : decide ((k : Int) < a.over.length) = false := by simp; omega
   have he : a.over = b.over := by
    rw [List.take_of_length_le hge, List.take_of_length_le (by omega)] at hf; exact hf
   have he2 : decide (a.over = b.over) = true := by simp [he]
   rw [he2] at hop
   repeat' (first
    | ((with_reducible refine zg ?_); (first | refine zb (ZB (neg := false) zF (by kernel_rfl) rfl rfl rfl rfl rfl) rfl ?_ | refine zb (ZB (neg := false) ZS (by kernel_rfl) rfl rfl rfl rfl rfl) rfl ?_))
    | refine stn [] ?_
    | ((with_reducible refine zr ?_); refine zf rfl rfl (fun h => ?_) (fun h => ?_))
    | fail)
   all_goals refine retP rfl ?_
   all_goals rw [hop]
   all_goals clear hop he he2 hf
   all_goals simp_all [ex]
  | some x =>
   have hlt : k < a.over.length := (List.getElem?_eq_some_iff.1 ht).1
   obtain ⟨y, hy⟩ : ∃ y, b.over[k]? = some y := ⟨_, List.getElem?_eq_getElem (by omega)⟩
   have c1 : decide ((k : Int) < a.over.length) = true := by simp; omega
   have h1 := Ze ht
   have h2 := Ze hy
   repeat' (first
    | ((with_reducible refine zu ?_); refine zc (zh (fun _ => ZB (neg := true) zF (by kernel_rfl) rfl rfl rfl rfl rfl) rfl rfl) qb0 ?_)
    | refine st [] ?_
    | ((with_reducible refine zl ?_); refine ze rfl (fun h => ?_) (fun h => ?_))
    | fail)
   ·refine retP rfl ?_
    have hne : x ≠ y := by intro e; subst e; simp at h
    have : a ≠ b := fun e => hne (by rw [e, hy] at ht; exact (Option.some.inj ht).symm)
    simp [ex, this]
   ·have he : x = y := by exact qM (by simpa using h)
    exact ⟨k + 1, qw, ⟨by omega, by rw [List.take_add_one, List.take_add_one, hf, ht, hy, he]⟩, by omega⟩
 ·have c0 : (!decide ((a.over.length : Int) = b.over.length)) = true := by simp; omega
  refine runn [] ?_
  refine retP rfl ?_
  have : a ≠ b := fun e => hl (by rw [e])
  simp [ex, this]
end
section
open Go.Ac
attribute [local irreducible] awp awpL Ev Ev2 EvS thenQ blockQ retQ PCalls OCalls
variable {g : List (Nat × List AV)}
def Fit (l : List Op) : Prop := l.length ≤ 100000 ∧ ∀ o ∈ l, o.over.length ≤ 100000
theorem Fit.get {l : List Op} (h : Fit l) {k : Nat} {o : Op} (hk : l[k]? = some o) : o.over.length ≤ 1000000 := by
 have := h.2 o (List.mem_of_getElem? hk); omega
theorem Yg {α : Type} (f : α → Bool) (l : List α) (k : Nat) (x : α) (h : l[k]? = some x) : (l.drop k).any f = (f x || (l.drop (k + 1)).any f) := by
 obtain ⟨hlt, rfl⟩ := List.getElem?_eq_some_iff.1 h
 rw [List.drop_eq_getElem_cons hlt]; rfl
end
section
open Go.Ac
attribute [local irreducible] awp awpL Ev Ev2 EvS thenQ blockQ retQ PCalls OCalls
variable {g : List (Nat × List AV)}
theorem JF {α : Type} (f : α → List AV) (l : List α) (k : Nat) (x : α) (h : l[k]? = some x) : (l.take k).map f ++ [f x] = (l.take (k + 1)).map f := by
 rw [List.take_add_one, h, List.map_append]; rfl
end
end Go.Proofs.YtcfkokllinkigaaGreatDoor
