/- A logic of trees over the model's steps, and the contracts of the functions that the laws reach: part 8 of 20. -/
import Derived.Test.YtigcjinpkngapaaGreatDoorC7
import Derived.Test.YtigcjinpkngapaaGreatDoorProg
import Derived.WalkKit
import Derived.BigCall
import Derived.StillTailTactics
import Derived.Shelf.Lays
import Derived.Shelf.Strings.BuilderK
import Derived.Shelf.Strings.BuilderX
import Derived.Deep.RegionWith
set_option linter.unusedVariables false
set_option linter.unusedSimpArgs false
set_option linter.unusedSectionVars false
section
namespace Go.Proofs.YtigcjinpkngapaaGreatDoor
open Go.Ac
attribute [local irreducible] awp awpL Ev Ev2 EvS thenQ blockQ retQ PCalls OCalls
variable {g : List (Nat × List AV)}
theorem split_one (c : UInt8) : ∀ (n : Nat) (s : List UInt8), s.length ≤ n → Go.Lib.split s [c] = splitOn c s
  | n, s, hn => by
    have hix : Go.Lib.index s [c] = Go.Lib.indexByte s c := Go.Lib.index_one s c
    have hge := Go.Lib.indexByte_ge s c
    by_cases h : Go.Lib.indexByte s c = -1
    · have hno : c ∉ s := fun q => by
        obtain ⟨k, hk⟩ := List.mem_iff_getElem?.1 q
        exact Go.Lib.indexByte_none h k hk
      unfold Go.Lib.split
      rw [Go.Lib.count_miss (hix.trans h), splitOn_miss hno]
      rfl
    · obtain ⟨i, hi⟩ : ∃ i : Nat, Go.Lib.indexByte s c = i := ⟨(Go.Lib.indexByte s c).toNat, by omega⟩
      obtain ⟨h1, h2⟩ := Go.Lib.indexByte_some hi
      obtain ⟨hlt, h3⟩ := List.getElem?_eq_some_iff.1 h1
      have hs : s = s.take i ++ c :: s.drop (i + 1) := by
        conv => lhs; rw [← List.take_append_drop i s, dropB_cons h1]
      have hno : c ∉ s.take i := fun q => by
        obtain ⟨k, hk⟩ := List.mem_iff_getElem?.1 q
        rw [List.getElem?_take] at hk
        split at hk
        · rename_i hki; exact h2 k hki hk
        · cases hk
      cases n with
      | zero => omega
      | succ n =>
        have ih := split_one c n (s.drop (i + 1)) (by rw [List.length_drop]; omega)
        conv => rhs; rw [hs, splitOn_hit _ hno, ← ih]
        unfold Go.Lib.split
        rw [Go.Lib.count_hit (List.cons_ne_nil _ _) (hix.trans hi), Nat.add_comm]
        have e1 : (Go.Lib.index s [c] == -1) = false := by rw [hix, hi]; exact beq_false_of_ne (by omega)
        rw [Go.Lib.splitK]
        simp only [e1, Bool.false_eq_true, if_false]
        rw [hix, hi]
        simp
abbrev oneB (c : UInt8) : ByteArray := ⟨#[c]⟩
theorem splitA_data (s : ByteArray) (c : UInt8) : (splitA s (oneB c)).map lst = splitOn c (lst s) := by
  rw [← split_one c _ (lst s) (Nat.le_refl _)]
  exact Go.Lib.splitB_data (oneB c) 0 (Go.Lib.countB s (oneB c)) s
theorem splitA_eq (s : ByteArray) (c : UInt8) : splitA s (oneB c) = (splitOn c (lst s)).map toB := by
  rw [← splitA_data, map_lst]
theorem splitOn_len (c : UInt8) : ∀ s : List UInt8, (splitOn c s).length ≤ s.length + 1
  | [] => by simp [splitOn]
  | b :: r => by
    have ih := splitOn_len c r
    simp only [splitOn]
    split
    · simp; omega
    · cases h : splitOn c r with
      | nil => simp
      | cons x t => rw [h] at ih; simp at ih ⊢; omega
theorem splitOn_part (c : UInt8) : ∀ s : List UInt8, ∀ x ∈ splitOn c s, x.length ≤ s.length
  | [], x, h => by simp [splitOn] at h; simp [h]
  | b :: r, x, h => by
    have ih := splitOn_part c r
    simp only [splitOn] at h
    split at h
    · rcases List.mem_cons.1 h with rfl | h
      · simp
      · have := ih x h; simp; omega
    · cases hr : splitOn c r with
      | nil => rw [hr] at h; simp at h; simp [h]
      | cons y t =>
        rw [hr] at h ih
        rcases List.mem_cons.1 h with rfl | h
        · have := ih y (List.mem_cons_self ..); simp; omega
        · have := ih x (List.mem_cons_of_mem _ h); simp; omega
def MaxG (g : List (Nat × List AV)) : Prop := ∃ m : Int, (5, [AV.v (.int .i64 m)]) ∈ g
def laysSplit_ren : Go.Shelf.Ren := ⟨fun | 146 => 65 | 221 => 94 | 268 => 128 | 138 => 129 | 143 => 130 | 195 => 159 | 197 => 160 | 218 => 161 | 219 => 162 | 260 => 181 | 217 => 163 | 225 => 182 | 224 => 183 | 267 => 184 | 266 => 185 | 314 => 197 | n => n, fun | 9 => 9 | 31 => 42 | 3 => 3 | 4 => 4 | 0 => 0 | 105 => 191 | 21 => 21 | 5 => 5 | 46 => 118 | 119 => 195 | 139 => 198 | 138 => 197 | 146 => 222 | 51 => 182 | n => n, fun | 1 => 5 | 3 => 2 | 4 => 3 | n => n⟩
theorem laysSplit : Go.Proofs.Lays.n146 Tryz.prog laysSplit_ren := {
  mixed := by kernel_rfl
  f138 := Tryz.func129.trans (congrArg some (by kernel_rfl))
  f143 := Tryz.func130.trans (congrArg some (by kernel_rfl))
  f146 := Tryz.func65.trans (congrArg some (by kernel_rfl))
  f195 := Tryz.func159.trans (congrArg some (by kernel_rfl))
  f197 := Tryz.func160.trans (congrArg some (by kernel_rfl))
  f217 := Tryz.func163.trans (congrArg some (by kernel_rfl))
  f218 := Tryz.func161.trans (congrArg some (by kernel_rfl))
  f219 := Tryz.func162.trans (congrArg some (by kernel_rfl))
  f221 := Tryz.func94.trans (congrArg some (by kernel_rfl))
  f224 := Tryz.func183.trans (congrArg some (by kernel_rfl))
  f225 := Tryz.func182.trans (congrArg some (by kernel_rfl))
  f260 := Tryz.func181.trans (congrArg some (by kernel_rfl))
  f266 := Tryz.func185.trans (congrArg some (by kernel_rfl))
  f267 := Tryz.func184.trans (congrArg some (by kernel_rfl))
  f268 := Tryz.func128.trans (congrArg some (by kernel_rfl))
  f314 := Tryz.func197.trans (congrArg some (by kernel_rfl))
  t0 := Tryz.underlying0
  a0 := Tryz.isAgg0
  z0 := Tryz.sizeOf0
  v0 := Tryz.zeroValue0
  t3 := Tryz.underlying3
  a3 := Tryz.isAgg3
  z3 := Tryz.sizeOf3
  v3 := Tryz.zeroValue3
  t4 := Tryz.underlying4
  a4 := Tryz.isAgg4
  z4 := Tryz.sizeOf4
  v4 := Tryz.zeroValue4
  t5 := Tryz.underlying5
  a5 := Tryz.isAgg5
  z5 := Tryz.sizeOf5
  v5 := Tryz.zeroValue5
  t9 := Tryz.underlying9
  a9 := Tryz.isAgg9
  z9 := Tryz.sizeOf9
  v9 := Tryz.zeroValue9
  t21 := Tryz.underlying21
  a21 := Tryz.isAgg21
  z21 := Tryz.sizeOf21
  v21 := Tryz.zeroValue21
  t31 := Tryz.underlying42
  a31 := Tryz.isAgg42
  z31 := Tryz.sizeOf42
  v31 := Tryz.zeroValue42
  t46 := Tryz.underlying118
  a46 := Tryz.isAgg118
  z46 := Tryz.sizeOf118
  v46 := Tryz.zeroValue118
  t51 := Tryz.underlying182
  a51 := Tryz.isAgg182
  z51 := Tryz.sizeOf182
  v51 := Tryz.zeroValue182
  t105 := Tryz.underlying191
  a105 := Tryz.isAgg191
  z105 := Tryz.sizeOf191
  v105 := Tryz.zeroValue191
  t119 := Tryz.underlying195
  a119 := Tryz.isAgg195
  z119 := Tryz.sizeOf195
  t138 := Tryz.underlying197
  a138 := Tryz.isAgg197
  z138 := Tryz.sizeOf197
  v138 := Tryz.zeroValue197
  t139 := Tryz.underlying198
  a139 := Tryz.isAgg198
  z139 := Tryz.sizeOf198
  v139 := Tryz.zeroValue198
  t146 := Tryz.underlying222
  a146 := Tryz.isAgg222
  z146 := Tryz.sizeOf222
  v146 := Tryz.zeroValue222
  g1 := by kernel_rfl
  g3 := by kernel_rfl
  g4 := by kernel_rfl }
def laysCutS_ren : Go.Shelf.Ren := ⟨fun | 104 => 64 | 211 => 93 | 207 => 127 | n => n, fun | 9 => 9 | 4 => 4 | 24 => 88 | 3 => 3 | n => n, fun n => n⟩
theorem laysCutS : Go.Proofs.Lays.n104 Tryz.prog laysCutS_ren := {
  mixed := by kernel_rfl
  f104 := Tryz.func64.trans (congrArg some (by kernel_rfl))
  f207 := Tryz.func127.trans (congrArg some (by kernel_rfl))
  f211 := Tryz.func93.trans (congrArg some (by kernel_rfl))
  t3 := Tryz.underlying3
  a3 := Tryz.isAgg3
  z3 := Tryz.sizeOf3
  v3 := Tryz.zeroValue3
  t4 := Tryz.underlying4
  a4 := Tryz.isAgg4
  z4 := Tryz.sizeOf4
  v4 := Tryz.zeroValue4
  t9 := Tryz.underlying9
  a9 := Tryz.isAgg9
  z9 := Tryz.sizeOf9
  v9 := Tryz.zeroValue9
  t24 := Tryz.underlying88
  a24 := Tryz.isAgg88
  z24 := Tryz.sizeOf88
  v24 := Tryz.zeroValue88 }
theorem SSplit_spec (hg : MaxG g) (s : ByteArray) (c : UInt8) (hs : s.size ≤ 90000000) : PCalls Tryz.prog g 65 [.v (.string s), .v (.string (oneB c))] (encSs (splitA s (oneB c))) := by
  obtain ⟨m, hg⟩ := hg
  exact split_P laysSplit (by kernel_rfl) (callable Tryz.func65 rfl rfl) hg s (oneB c) (by omega) (Nat.le_refl _)
theorem suffix_one (s : List UInt8) (c : UInt8) : Go.Lib.hasSuffix s [c] = decide (s.getLast? = some c) ∧ (s.getLast? = some c → Go.Lib.trimSuffix s [c] = s.dropLast) := by
  have h : Go.Lib.hasSuffix s [c] = decide (s.getLast? = some c) := by
    unfold Go.Lib.hasSuffix
    rcases List.eq_nil_or_concat s with rfl | ⟨t, x, rfl⟩
    · rfl
    · simp only [List.concat_eq_append, List.getLast?_append, List.getLast?_singleton, Option.some_or, Option.some.injEq]
      show ([c].reverse).isPrefixOf (t ++ [x]).reverse = _
      rw [List.reverse_append]
      have : (c == x) = decide (x = c) := by rw [Bool.eq_iff_iff, beq_iff_eq, decide_eq_true_iff]; exact eq_comm
      simpa [List.isPrefixOf] using this
  refine ⟨h, fun e => ?_⟩
  unfold Go.Lib.trimSuffix
  rw [h, decide_eq_true e, if_pos rfl, List.dropLast_eq_take]
  rfl
theorem CutS_spec (s : ByteArray) (c : UInt8) (hs : s.size ≤ 90000000) : PCalls Tryz.prog g 64 [.v (.string s), .v (.string (oneB c))] (.tup [.v (.string (toB (Go.Lib.trimSuffix (lst s) [c]))), vb (decide ((lst s).getLast? = some c))]) := by
  have h := cutS_P (P := Tryz.prog) (g := g) laysCutS (callable Tryz.func64 rfl rfl) s (oneB c) (by omega)
  rw [← (suffix_one (lst s) c).1]
  exact h
set_option maxRecDepth 4000 in
set_option maxHeartbeats 2000000 in
theorem wLines_spec (hg : MaxG g) (s : ByteArray) (hs : s.size ≤ 90000000) : PCalls Tryz.prog g 38 [.v (.string s)] (optSs (linesW (lst s))) := by
  have n1 : (!true) = false := rfl
  have n2 : (!false) = true := rfl
  have hlen : (lst s).length = s.size := size_list s
  refine pcalls' Tryz.func38 Tryz.ntmps38 rfl rfl rfl ?_
  by_cases h0 : s = ⟨#[]⟩
  · have c0 : decide (s = (⟨#[]⟩ : ByteArray)) = true := decide_eq_true h0
    have e : linesW (lst s) = some [] := by rw [h0]; rfl
    rw [e]
    repeat' (first
     | refine stn [] ?_
     | ((with_reducible refine is_gd ?_); refine awpL_split rfl rfl (fun h => ?_) (fun h => ?_))
     | ((with_reducible refine is_awp ?_); refine awp_cond rfl (fun h => ?_) (fun h => ?_))
     | fail)
    refine retLe rfl ?_
    exact Le.tup (.cons (Le.nil 1) (.cons (Le.rfl' _) .nil))
  have c0 : decide (s = (⟨#[]⟩ : ByteArray)) = false := decide_eq_false h0
  have hC := CutS_spec (g := g) s 10 hs
  have e : linesW (lst s) = if (lst s).getLast? = some 10 then some (splitOn 10 (lst s).dropLast) else none := by
    unfold linesW
    rw [if_neg (fun q => h0 ((eq_toB s []).2 q))]
  by_cases h1 : (lst s).getLast? = some 10
  · rw [decide_eq_true h1, (suffix_one (lst s) 10).2 h1] at hC
    rw [e, if_pos h1]
    have ht : (toB (lst s).dropLast).size ≤ 90000000 := by rw [toB_size, List.length_dropLast]; omega
    have hS := SSplit_spec hg (toB (lst s).dropLast) 10 ht
    rw [splitA_eq, show lst (toB (lst s).dropLast) = (lst s).dropLast from toB_list _] at hS
    generalize toB (lst s).dropLast = rest at *
    generalize splitOn 10 (lst s).dropLast = parts at *
    repeat' (first
     | refine stn [] ?_
     | ((with_reducible refine is_gd ?_); refine awpL_split rfl rfl (fun h => ?_) (fun h => ?_))
     | ((with_reducible refine is_awp ?_); refine awp_cond rfl (fun h => ?_) (fun h => ?_))
     | fail)
    exact retP rfl rfl
  · rw [decide_eq_false h1] at hC
    rw [e, if_neg h1]
    generalize toB (Go.Lib.trimSuffix (lst s) [10]) = rest at *
    repeat' (first
     | refine stn [] ?_
     | ((with_reducible refine is_gd ?_); refine awpL_split rfl rfl (fun h => ?_) (fun h => ?_))
     | ((with_reducible refine is_awp ?_); refine awp_cond rfl (fun h => ?_) (fun h => ?_))
     | fail)
    refine retLe rfl ?_
    exact Le.tup (.cons (Le.nil 1) (.cons (Le.rfl' _) .nil))
theorem mapM_nil' : ([] : List (List UInt8)).mapM unquoteL = some [] := rfl
set_option maxRecDepth 4000 in
set_option maxHeartbeats 4000000 in
theorem wSplit_spec (hg : MaxG g) (s : ByteArray) (hs : s.size ≤ 80000000) : PCalls Tryz.prog g 66 [.v (.string s)] (optSs (splitW (lst s))) := by
  have n1 : (!true) = false := rfl
  have n2 : (!false) = true := rfl
  have hlen : (lst s).length = s.size := size_list s
  refine pcalls' Tryz.func66 Tryz.ntmps66 rfl rfl rfl ?_
  by_cases h0 : s = ⟨#[]⟩
  · have c0 : decide (s = (⟨#[]⟩ : ByteArray)) = true := decide_eq_true h0
    have e : splitW (lst s) = some [] := by rw [h0]; rfl
    rw [e]
    repeat' (first
     | refine stn [] ?_
     | ((with_reducible refine is_gd ?_); refine awpL_split rfl rfl (fun h => ?_) (fun h => ?_))
     | ((with_reducible refine is_awp ?_); refine awp_cond rfl (fun h => ?_) (fun h => ?_))
     | fail)
    refine retLe rfl ?_
    exact Le.tup (.cons (Le.nil 1) (.cons (Le.rfl' _) .nil))
  have c0 : decide (s = (⟨#[]⟩ : ByteArray)) = false := decide_eq_false h0
  have e : splitW (lst s) = (splitOn 32 (lst s)).mapM unquoteL := by
    unfold splitW
    rw [if_neg (fun q => h0 ((eq_toB s []).2 q))]
  rw [e]
  have hS := SSplit_spec hg s 32 (by omega)
  have hdat := splitA_data s 32
  have hpl : (splitA s (oneB 32)).length ≤ 80000001 := by
    have := splitOn_len 32 (lst s)
    rw [← hdat, List.length_map] at this
    omega
  have hpp : ∀ x ∈ splitA s (oneB 32), x.size ≤ 90000000 := fun x hx => by
    have := splitOn_part 32 (lst s) (lst x) (by rw [← hdat]; exact List.mem_map_of_mem hx)
    have h2 : (lst x).length = x.size := size_list x
    omega
  rw [← hdat]
  generalize splitA s (oneB 32) = parts at *
  repeat' (first
   | refine stn [] ?_
   | ((with_reducible refine is_gd ?_); refine awpL_split rfl rfl (fun h => ?_) (fun h => ?_))
   | ((with_reducible refine is_awp ?_); refine awp_cond rfl (fun h => ?_) (fun h => ?_))
   | fail)
  refine awp_adopt (t := 4) (E := 9) (sz := 1) rfl rfl rfl ?_
  repeat' (first
   | refine stn [] ?_
   | ((with_reducible refine is_gd ?_); refine awpL_split rfl rfl (fun h => ?_) (fun h => ?_))
   | ((with_reducible refine is_awp ?_); refine awp_cond rfl (fun h => ?_) (fun h => ?_))
   | fail)
  refine awp_for2 (α := Nat) (β := List ByteArray) 1 (fun k _ => [(4, .os 0 0), (12, encSs parts), (13, vi parts.length), (14, vi k)]) (fun _ M => [.own 0 9 1 (M.map strC)]) (fun k M => k ≤ parts.length ∧ M.length ≤ k ∧ (parts.map lst).mapM unquoteL = (((parts.drop k).map lst).mapM unquoteL).map (M.map lst ++ ·)) (fun k _ => parts.length - k) 0 []
    ⟨(.cons rfl rfl (.cons rfl rfl (.cons rfl rfl (.cons rfl rfl .nil)))), rfl, rfl, rfl⟩ ⟨Nat.zero_le _, Nat.zero_le _, by simp⟩ ?_
  rintro k M ⟨hk, hM, hf⟩
  have hmb : (M.map strC).length ≤ 80000001 := by rw [List.length_map]; omega
  cases ht : parts[k]? with
  | none =>
    have hge : parts.length ≤ k := by simpa using ht
    have c1 : decide ((k : Int) < parts.length) = false := decide_eq_false (by omega)
    rw [List.drop_of_length_le hge] at hf
    have hf : (parts.map lst).mapM unquoteL = some (M.map lst) := by rw [hf, List.map_nil, mapM_nil']; simp
    rw [hf, optSs_some]
    repeat' (first
     | refine stn [] ?_
     | ((with_reducible refine is_gd ?_); refine awpL_split rfl rfl (fun h => ?_) (fun h => ?_))
     | ((with_reducible refine is_awp ?_); refine awp_cond rfl (fun h => ?_) (fun h => ?_))
     | fail)
    refine retP rfl ?_
    simp [ex, exL]
  | some x =>
    have hlt : k < parts.length := (List.getElem?_eq_some_iff.1 ht).1
    have c1 : decide ((k : Int) < parts.length) = true := decide_eq_true (by omega)
    have ik := str_get ht
    have hU := wUnquote_spec (g := g) x (hpp x (List.mem_of_getElem? ht))
    have hd : parts.drop k = x :: parts.drop (k + 1) := by
      obtain ⟨h1, h2⟩ := List.getElem?_eq_some_iff.1 ht
      rw [List.drop_eq_getElem_cons h1, h2]
    rw [hd, List.map_cons, mapM_hit] at hf
    cases hu : unquoteL (lst x) with
    | none =>
      rw [hu] at hU hf
      have hf : (parts.map lst).mapM unquoteL = none := hf
      have hU : PCalls Tryz.prog g _ [.v (.string x)] (.tup [.v (.string (toB [])), vb false]) := hU
      rw [hf]
      repeat' (first
       | refine stn [] ?_
       | ((with_reducible refine is_gd ?_); refine awpL_split rfl rfl (fun h => ?_) (fun h => ?_))
       | ((with_reducible refine is_awp ?_); refine awp_cond rfl (fun h => ?_) (fun h => ?_))
       | fail)
      refine retLe rfl ?_
      exact Le.tup (.cons (Le.nil 1) (.cons (Le.rfl' _) .nil))
    | some y =>
      rw [hu] at hU hf
      have hf : (parts.map lst).mapM unquoteL = ((((parts.drop (k + 1)).map lst).mapM unquoteL).map (y :: ·)).map (M.map lst ++ ·) := hf
      have hU : PCalls Tryz.prog g _ [.v (.string x)] (.tup [.v (.string (toB y)), vb true]) := hU
      have hj : M.map strC ++ [strC (toB y)] = (M ++ [toB y]).map strC := by simp
      repeat' (first
       | ((with_reducible refine is_un ?_); refine awpL_ev2 (ev_appB (es' := (M ++ [toB y]).map strC) rfl rfl rfl rfl rfl rfl rfl rfl rfl rfl rfl rfl rfl qe0 hj rfl) rfl ?_)
       | refine stn [] ?_
       | ((with_reducible refine is_gd ?_); refine awpL_split rfl rfl (fun h => ?_) (fun h => ?_))
       | ((with_reducible refine is_awp ?_); refine awp_cond rfl (fun h => ?_) (fun h => ?_))
       | fail)
      refine ⟨k + 1, M ++ [toB y], ⟨(.cons rfl rfl (.cons rfl rfl (.cons rfl rfl (.cons rfl rfl .nil)))), rfl, rfl, rfl⟩, ⟨by omega, by simp; omega, ?_⟩, by omega⟩
      rw [hf]
      have : (M ++ [toB y]).map lst = M.map lst ++ [y] := by simp [toB_list]
      rw [this, Option.map_map]
      congr 1
      funext z
      simp
end Go.Proofs.YtigcjinpkngapaaGreatDoor
end
section
namespace Go.Proofs.YtigcjinpkngapaaGreatDoor
open Go.RowKit Go.Lib Go.Shelf
set_option maxHeartbeats 4000000 in
set_option maxRecDepth 100000 in
theorem zplain (c : UInt8) (w : World) : Calls Tryz.prog 85 #[.int .u8 c.toNat] w fun e w' => e = .returned (.bool (plainC c)) ∧ w' = w := by
  go_enter Tryz.func85, Tryz.ntmps85
  go_wp2
  all_goals (go_ret; refine ⟨?_, rfl⟩; congr 1; show Value.bool _ = Value.bool _; congr 1; unfold plainC; rw [Bool.eq_iff_iff]; simp; try omega)
def laysBStr_ren : Go.Shelf.Ren := ⟨fun | 169 => 58 | n => n, fun | 70 => 81 | 9 => 9 | 0 => 0 | 72 => 83 | 37 => 75 | 127 => 120 | 3 => 3 | 5 => 5 | n => n, fun n => n⟩
theorem laysBStr : Go.Proofs.Lays.n169 Tryz.prog laysBStr_ren := {
  mixed := by kernel_rfl
  f169 := Tryz.func58.trans (congrArg some (by kernel_rfl))
  t0 := Tryz.underlying0
  a0 := Tryz.isAgg0
  z0 := Tryz.sizeOf0
  v0 := Tryz.zeroValue0
  t3 := Tryz.underlying3
  a3 := Tryz.isAgg3
  z3 := Tryz.sizeOf3
  v3 := Tryz.zeroValue3
  t9 := Tryz.underlying9
  a9 := Tryz.isAgg9
  z9 := Tryz.sizeOf9
  v9 := Tryz.zeroValue9
  t37 := Tryz.underlying75
  a37 := Tryz.isAgg75
  z37 := Tryz.sizeOf75
  v37 := Tryz.zeroValue75
  t70 := Tryz.underlying81
  a70 := Tryz.isAgg81
  z70 := Tryz.sizeOf81
  v70 := Tryz.zeroValue81
  t72 := Tryz.underlying83
  a72 := Tryz.isAgg83
  z72 := Tryz.sizeOf83
  v72 := Tryz.zeroValue83
  t127 := Tryz.underlying120
  a127 := Tryz.isAgg120
  z127 := Tryz.sizeOf120
  v127 := Tryz.zeroValue120 }
theorem extSt : Builder.Extra Tryz.prog laysBStr_ren := { sizeBuilder := by kernel_rfl, liesBuilder := by kernel_rfl, t5 := Tryz.underlying5, a5 := Tryz.isAgg5, z5 := Tryz.sizeOf5, v5 := Tryz.zeroValue5, infoByte := by kernel_rfl, cellsByte := by kernel_rfl, sizeByte := by kernel_rfl, neB5 := by decide }
abbrev Bld (B b : Nat) (l : List UInt8) (w : World) : Prop := Lib.IsBuilderF 83 5 B b (Lib.byteCells l) w
theorem zBStr (B b : Nat) (l : List UInt8) (w : World) (h : Bld B b l w) (hB : B ≤ w.heap.size) :
    Calls Tryz.prog 58 #[.pointer (some ⟨b, 0, none⟩)] w fun e w' => e = .returned (.string (toB l)) ∧ Below B w w' := by
  refine (Any.Builder_String_any_k laysBStr extSt B b l w h hB).mono ?_
  rintro e w' ⟨he, _, h2, _⟩
  exact ⟨he, h2⟩
set_option maxHeartbeats 4000000 in
set_option maxRecDepth 100000 in
theorem zUsed (b : Nat) (w : World) (h : w.cell? ⟨b, 0, none⟩ = some (.pointer (some ⟨b, 0, none⟩))) :
    Calls Tryz.prog 87 #[.pointer (some ⟨b, 0, none⟩)] w fun e w' => e = .returned (.tuple #[]) ∧ w' = w := by
  obtain ⟨j, hj, _⟩ := Option.map_eq_some_iff.1 extSt.sizeBuilder
  go_enter Tryz.func87, Tryz.ntmps87
  go_wp2
  rw [Lib.run_neq_ptr_same w _ Tryz.underlying81 hj]
  go_wp2
  go_end0
  exact ⟨rfl, rfl⟩
set_option maxHeartbeats 4000000 in
set_option maxRecDepth 100000 in
theorem zFresh (b : Nat) (w : World) (h : w.cell? ⟨b, 0, none⟩ = some (.pointer none)) (hs : w.shape? b = some (83, 2)) (hf : w.frozen? ⟨b, 0, none⟩ = false) :
    Calls Tryz.prog 87 #[.pointer (some ⟨b, 0, none⟩)] w fun e w' => e = .returned (.tuple #[]) ∧ w' = w.setCell ⟨b, 0, none⟩ (.pointer (some ⟨b, 0, none⟩)) := by
  obtain ⟨j, hj, hsz⟩ := Option.map_eq_some_iff.1 extSt.sizeBuilder
  go_enter Tryz.func87, Tryz.ntmps87
  go_wp2
  rw [Lib.run_to_unsafe w ⟨b, 0, none⟩ Tryz.underlying81 Tryz.underlying93 hj (by rw [hsz]; decide) hs (Nat.zero_lt_succ 1)]
  simp only [Result.andThen]
  rw [Oper.upon_value]
  go_wp2
  rw [run_callFunc_extern Tryz.func116 (by kernel_rfl) (by kernel_rfl) (by kernel_rfl) (e := Extern.AbiNoEscape.same) (by kernel_rfl), Lib.run_noEscape]
  simp only [Result.andThen]
  rw [Oper.upon_value]
  go_wp2
  rw [Lib.run_from_unsafe w ⟨b, 0, none⟩ Tryz.underlying93 Tryz.underlying81 hj hs extSt.liesBuilder]
  simp only [Result.andThen]
  rw [Oper.upon_value]
  go_wp2
  go_end0
  exact ⟨rfl, rfl⟩
theorem zCheck (B b : Nat) (bs : List Value) (w : World) (h : Lib.IsBuilderF 83 5 B b bs w) :
    Calls Tryz.prog 87 #[.pointer (some ⟨b, 0, none⟩)] w fun e w' => e = .returned (.tuple #[]) ∧ Lib.BuilderAtF 83 5 B b (.pointer (some ⟨b, 0, none⟩)) bs w' ∧ Below B w w' := by
  rcases h with h | h
  · refine (zFresh b w h.cell0 h.shape h.frozen0).mono ?_
    rintro e w' ⟨rfl, rfl⟩
    exact ⟨rfl, h.used _, (Below.refl B w).setCell (p := ⟨b, 0, none⟩) h.1 _⟩
  · refine (zUsed b w h.cell0).mono ?_
    rintro e w' ⟨rfl, rfl⟩
    exact ⟨rfl, h, Below.refl B _⟩
theorem byteInfo : ∃ i : TypeInfo, Tryz.prog.info? 5 = some i ∧ i.zero = some (.int .u8 0) ∧ i.size = 1 ∧ i.bytes = 1 := by
  obtain ⟨i, h1, h2, h3, h4⟩ := info_parts extSt.infoByte
  exact ⟨i, h1, h2, h3, h4⟩
set_option maxHeartbeats 4000000 in
set_option maxRecDepth 100000 in
theorem zWriteByte (B b : Nat) (l : List UInt8) (c : UInt8) (w : World) (h : Bld B b l w) (hl : l.length ≤ 1000000000) (hB : B ≤ w.heap.size) :
    Calls Tryz.prog 57 #[.pointer (some ⟨b, 0, none⟩), .int .u8 c.toNat] w fun e w' => e = .returned .nilIface ∧ Bld B b (l ++ [c]) w' ∧ Below B w w' := by
  obtain ⟨i, i1, i2, i3, i4⟩ := byteInfo
  have e1 : ∀ args w, (callFunc 87 args).run Tryz.prog w = .ok (.enter 87 args) w := enters_of Tryz.func87 (by kernel_rfl) rfl
  have hbl : (Lib.byteCells l).length = l.length := Lib.byteCells_length l
  go_enter Tryz.func57, Tryz.ntmps57
  go_wp2_with (go_at_fn 87; refine (zCheck B b (Lib.byteCells l) _ h).mono ?_)
  rintro e w1 ⟨rfl, hA, hb1⟩
  have hlt := hA.lt
  obtain ⟨hBb, v, hbk, hown, hne⟩ := hA
  have c0 : w1.cell? ⟨b, 0, none⟩ = some (.pointer (some ⟨b, 0, none⟩)) := by rw [Lib.cell_of_heap hbk]; rfl
  have c1 : w1.cell? ⟨b, 1, none⟩ = some v := by rw [Lib.cell_of_heap hbk]; rfl
  have hz := hb1.size
  go_wp2_with (at_builtin; refine wpList_append_ownF _ rfl _ _ 75 rfl B 5 i (.int .u8 0) 1 1 Tryz.underlying75 i1 i2 i3 i4 rfl (by decide) _ _ _ rfl (hown.alloc _) ⟨w1.heap.size, 0, none⟩ 1 1 [.int .u8 c.toNat] rfl rfl ?q1 ?q2 ?q3 ?q4 ?q5 ?_)
  case q1 =>
    intro j u hj
    match j, hj with
    | 0, hj => simp at hj; subst hj; simp [Addr.add]
  case q2 => intro u hu; simp at hu; subst hu; rfl
  case q3 => unfold maxLen; omega
  case q4 => omega
  case q5 => simp; omega
  intro v' w2 hown' hgrow _
  have hb2 : w2.heap[b]? = some (.cells #[.pointer (some ⟨b, 0, none⟩), v] 83 (0, 0)) := by
    rw [hgrow.block b (by simp; omega) (fun e => hne e.symm), Lib.alloc_old w1 _ b hlt]
    exact hbk
  have d0 : w2.cell? ⟨b, 0, none⟩ = some (.pointer (some ⟨b, 0, none⟩)) := by rw [Lib.cell_of_heap hb2]; rfl
  have d1 : w2.cell? ⟨b, 1, none⟩ = some v := by rw [Lib.cell_of_heap hb2]; rfl
  have f1 : w2.frozen? ⟨b, 1, none⟩ = false := Lib.frozen_of_heap hb2 1
  have hbs : Lib.byteCells (l ++ [c]) = Lib.byteCells l ++ [.int .u8 c.toNat] := by simp [Lib.byteCells]
  obtain ⟨g, cap, rfl⟩ : ∃ g cap, v' = .slice (some ⟨g, 0, none⟩) (l.length + 1) cap := by
    rcases hown'.2 with ⟨_, h0⟩ | ⟨g, cap, cur, fz, hv, _⟩
    · omega
    · exact ⟨g, cap, hv⟩
  go_wp2
  go_ret
  refine ⟨rfl, ?_, ?_⟩
  · refine .inr ?_
    rw [hbs]
    exact Lib.BuilderAtF.put hBb hb2 (by simpa [hbl] using hown') extSt.neB5
  · exact ((hb1.alloc (by omega) _).grown hgrow (by simp; omega) (fun k hk => (hown.lt k hk).1)).setCell (p := ⟨b, 1, none⟩) hBb _
set_option maxHeartbeats 4000000 in
set_option maxRecDepth 100000 in
theorem zWriteString (B b : Nat) (l : List UInt8) (s : ByteArray) (w : World) (h : Bld B b l w) (hl : l.length + s.size ≤ 1000000000) (hB : B ≤ w.heap.size) :
    Calls Tryz.prog 56 #[.pointer (some ⟨b, 0, none⟩), .string s] w fun e w' => e = .returned (.tuple #[.int .i64 s.size, .nilIface]) ∧ Bld B b (l ++ lst s) w' ∧ Below B w w' := by
  obtain ⟨i, i1, i2, i3, i4⟩ := byteInfo
  have e1 : ∀ args w, (callFunc 87 args).run Tryz.prog w = .ok (.enter 87 args) w := enters_of Tryz.func87 (by kernel_rfl) rfl
  have hbl : (Lib.byteCells l).length = l.length := Lib.byteCells_length l
  go_enter Tryz.func56, Tryz.ntmps56
  go_wp2_with (go_at_fn 87; refine (zCheck B b (Lib.byteCells l) _ h).mono ?_)
  rintro e w1 ⟨rfl, hA, hb1⟩
  have hlt := hA.lt
  obtain ⟨hBb, v, hbk, hown, hne⟩ := hA
  have c0 : w1.cell? ⟨b, 0, none⟩ = some (.pointer (some ⟨b, 0, none⟩)) := by rw [Lib.cell_of_heap hbk]; rfl
  have c1 : w1.cell? ⟨b, 1, none⟩ = some v := by rw [Lib.cell_of_heap hbk]; rfl
  have hz := hb1.size
  go_wp2_with (at_builtin; refine Lib.wpList_append_own_stringF _ rfl _ _ 75 9 rfl B 5 i Tryz.underlying75 Tryz.underlying9 i1 i2 i3 i4 _ _ _ rfl hown s rfl ?q3 ?q4 ?q5 ?_)
  case q3 => unfold maxLen; omega
  case q4 => omega
  case q5 => omega
  intro v' w2 hown' hgrow _
  have hb2 : w2.heap[b]? = some (.cells #[.pointer (some ⟨b, 0, none⟩), v] 83 (0, 0)) := by
    rw [hgrow.block b hlt (fun e => hne e.symm)]
    exact hbk
  have d0 : w2.cell? ⟨b, 0, none⟩ = some (.pointer (some ⟨b, 0, none⟩)) := by rw [Lib.cell_of_heap hb2]; rfl
  have d1 : w2.cell? ⟨b, 1, none⟩ = some v := by rw [Lib.cell_of_heap hb2]; rfl
  have f1 : w2.frozen? ⟨b, 1, none⟩ = false := Lib.frozen_of_heap hb2 1
  have hbs : Lib.byteCells (l ++ lst s) = Lib.byteCells l ++ Lib.strCells s := by simp [Lib.byteCells, Lib.strCells]
  obtain ⟨ao, n', cap, rfl⟩ : ∃ ao n' cap, v' = .slice ao n' cap := by
    rcases hown'.2 with ⟨hv, _⟩ | ⟨g, cap, cur, fz, hv, _⟩
    · exact ⟨_, _, _, hv⟩
    · exact ⟨_, _, _, hv⟩
  go_wp2
  go_ret2
  refine ⟨rfl, ?_, ?_⟩
  · refine .inr ?_
    rw [hbs]
    exact Lib.BuilderAtF.put hBb hb2 (by simpa [hbl, Lib.strCells_length] using hown') extSt.neB5
  · exact (hb1.grown hgrow (by omega) (fun k hk => (hown.lt k hk).1)).setCell (p := ⟨b, 1, none⟩) hBb _
end Go.Proofs.YtigcjinpkngapaaGreatDoor
end
section
namespace Go.Proofs.YtigcjinpkngapaaGreatDoor
open Go.RowKit Go.Lib Go.Shelf
theorem hexget (n m : Nat) (e : n = m) (h : m < 16) {hn : n < (⟨#[48, 49, 50, 51, 52, 53, 54, 55, 56, 57, 97, 98, 99, 100, 101, 102]⟩ : ByteArray).size} : (⟨#[48, 49, 50, 51, 52, 53, 54, 55, 56, 57, 97, 98, 99, 100, 101, 102]⟩ : ByteArray)[n]'hn = hexD m := by
  subst e
  exact (by decide : ∀ i : Fin 16, (⟨#[48, 49, 50, 51, 52, 53, 54, 55, 56, 57, 97, 98, 99, 100, 101, 102]⟩ : ByteArray)[i.val]'(i.isLt) = hexD i.val) ⟨n, h⟩
set_option maxHeartbeats 4000000 in
set_option maxRecDepth 100000 in
theorem zQuote (s : ByteArray) (hs : s.size ≤ 90000000) (w : World) :
    Calls Tryz.prog 54 #[.string s] w fun e w' => e = .returned (.string (toB (quoteL (lst s)))) ∧ Below w.heap.size w w' := by
  have hlen : (lst s).length = s.size := size_list s
  have eP : ∀ args w, (callFunc 85 args).run Tryz.prog w = .ok (.enter 85 args) w := enters_of Tryz.func85 (by kernel_rfl) rfl
  by_cases h0 : s = ⟨#[]⟩
  · subst h0
    go_enter Tryz.func54, Tryz.ntmps54
    go_wp2
    go_ret
    exact ⟨rfl, Below.refl _ _⟩
  · have hE : s.toList.isEmpty = false := by
      rw [ByteArray.toList_eq]
      cases e : s.data.toList with
      | nil => exact absurd ((eq_toB s []).2 e) h0
      | cons a r => rfl
    go_enter Tryz.func54, Tryz.ntmps54
    go_wp2
    go_loopw [10] (fun i wr => ∃ k : Nat, k ≤ s.size ∧ i = .int .i64 k ∧ Bld w.heap.size w.heap.size (((lst s).take k).flatMap quoteC) wr ∧ Below w.heap.size w wr) (fun i _ => s.size - (RowKit.intOf i).toNat)
    case atStart =>
      refine ⟨0, Nat.zero_le _, rfl, ?_, (Below.refl _ w).alloc (Nat.le_refl _) _⟩
      exact Lib.IsBuilderF.of (Lib.fresh_isBuilder 83 5 w)
    case round =>
      obtain ⟨k, hk, rfl, hI, hbw⟩ := hrel
      have hsz := hbw.size
      by_cases hlt : k < s.size
      · have hn1 : decide ((k : Int) < s.size) = true := decide_eq_true (by omega)
        have eW : ∀ args w, (callFunc 57 args).run Tryz.prog w = .ok (.enter 57 args) w := enters_of Tryz.func57 (by kernel_rfl) rfl
        have eS : ∀ args w, (callFunc 56 args).run Tryz.prog w = .ok (.enter 56 args) w := enters_of Tryz.func56 (by kernel_rfl) rfl
        have hck : (lst s)[k]? = some (s[k]'hlt) := by
          rw [List.getElem?_eq_getElem (by rw [hlen]; exact hlt)]
          rfl
        have htk : (lst s).take (k + 1) = (lst s).take k ++ [s[k]'hlt] := by rw [List.take_add_one, hck]; rfl
        have hfl : ((lst s).take (k + 1)).flatMap quoteC = ((lst s).take k).flatMap quoteC ++ quoteC (s[k]'hlt) := by rw [htk, List.flatMap_append]; simp
        have hql := flat_len ((lst s).take k)
        have htl : ((lst s).take k).length ≤ 90000000 := by rw [List.length_take]; omega
        generalize ((lst s).take k).flatMap quoteC = M at *
        generalize hM' : ((lst s).take (k + 1)).flatMap quoteC = M' at *
        cases hp : plainC (s[k]'hlt) with
        | true =>
          go_wp2_with (go_at_fn 85; refine (zplain _ _).mono ?_)
          rintro e w1 ⟨rfl, rfl⟩
          simp only [hp]
          go_wp2_with (go_at_fn 57; refine (zWriteByte w.heap.size w.heap.size M (s[k]'hlt) _ hI (by omega) (by omega)).mono ?_)
          rintro e w2 ⟨rfl, h2, b2⟩
          go_wp2
          go_roundw
          case rel =>
            refine ⟨k + 1, by omega, by go_num, ?_, hbw.trans b2⟩
            rw [hM', hfl, quoteC, if_pos hp]
            exact h2
          case measure => simp [RowKit.intOf]; omega
        | false =>
          go_wp2_with (go_at_fn 85; refine (zplain _ _).mono ?_)
          rintro e w1 ⟨rfl, rfl⟩
          simp only [hp]
          go_wp2
          have hc256 := (s[k]'hlt).toNat_lt
          have hba : bits BinOp.and IntKind.u8 ((s[k]'hlt).toNat : Int) 15 = ((s[k]'hlt).toNat % 16 : Nat) := by
            rw [show (15 : Int) = ((15 : Nat) : Int) from rfl, u8_and_nat _ _ hc256 (by decide), Nat.and_two_pow_sub_one_eq_mod _ 4]
          have g1 : 0 ≤ ((s[k]'hlt).toNat : Int) / 16 ∧ ((s[k]'hlt).toNat : Int) / 16 < 16 := by omega
          have g2 : 0 ≤ bits BinOp.and IntKind.u8 ((s[k]'hlt).toNat : Int) 15 ∧ bits BinOp.and IntKind.u8 ((s[k]'hlt).toNat : Int) 15 < 16 := by rw [hba]; omega
          have hcv : ∀ W : World, W.cell? ⟨w1.heap.size, 0, none⟩ = some (.int .u8 37) →
              W.cell? ⟨w1.heap.size, 1, none⟩ = some (.int .u8 (hexD ((s[k]'hlt).toNat / 16)).toNat) →
              W.cell? ⟨w1.heap.size, 2, none⟩ = some (.int .u8 (hexD ((s[k]'hlt).toNat % 16)).toNat) →
              (convert 75 9 (.slice (some ⟨w1.heap.size, 0, none⟩) 3 3)).run Tryz.prog W = .ok (.string (toB (quoteC (s[k]'hlt)))) W := by
            intro W e1 e2 e3
            have hq : quoteC (s[k]'hlt) = [37, hexD ((s[k]'hlt).toNat / 16), hexD ((s[k]'hlt).toNat % 16)] := by unfold quoteC; rw [hp]; rfl
            rw [hq]
            refine run_convert_bytes_back W _ _ 5 ⟨w1.heap.size, 0, none⟩ 3 [37, hexD ((s[k]'hlt).toNat / 16), hexD ((s[k]'hlt).toNat % 16)] Tryz.underlying75 Tryz.underlying5 Tryz.underlying9 ?_
            intro j hj
            match j, hj with
            | 0, _ => exact e1
            | 1, _ => exact e2
            | 2, _ => exact e3
          have x1 : (⟨#[48, 49, 50, 51, 52, 53, 54, 55, 56, 57, 97, 98, 99, 100, 101, 102]⟩ : ByteArray)[(((s[k]'hlt).toNat : Int) / 16).toNat]'(by show _ < 16; omega) = hexD ((s[k]'hlt).toNat / 16) := hexget _ _ (show (((s[k]'hlt).toNat : Int) / 16).toNat = (s[k]'hlt).toNat / 16 from by omega) (by omega)
          have x2 : (⟨#[48, 49, 50, 51, 52, 53, 54, 55, 56, 57, 97, 98, 99, 100, 101, 102]⟩ : ByteArray)[(bits BinOp.and IntKind.u8 ((s[k]'hlt).toNat : Int) 15).toNat]'(by show _ < 16; omega) = hexD ((s[k]'hlt).toNat % 16) := hexget _ _ (show (bits BinOp.and IntKind.u8 ((s[k]'hlt).toNat : Int) 15).toNat = (s[k]'hlt).toNat % 16 from by rw [hba]; omega) (by omega)
          have x3 : (⟨#[48, 49, 50, 51, 52, 53, 54, 55, 56, 57, 97, 98, 99, 100, 101, 102]⟩ : ByteArray)[(((s[k]'hlt).toNat : Int) % 16).toNat]'(by show _ < 16; omega) = hexD ((s[k]'hlt).toNat % 16) := hexget _ _ (show (((s[k]'hlt).toNat : Int) % 16).toNat = (s[k]'hlt).toNat % 16 from by omega) (by omega)
          have hq3 : (toB (quoteC (s[k]'hlt))).size ≤ 3 := by
            rw [toB_size]; unfold quoteC; split <;> simp
          have hX : ∀ o, Bld w.heap.size w.heap.size M ((w1.alloc o).drew) := fun o => Lib.IsBuilderF.alloc hI o
          have hY : ∀ o, w.heap.size ≤ ((w1.alloc o).drew).heap.size := fun o => Nat.le_trans hsz (by simp)
          have hZ : M.length + (toB (quoteC (s[k]'hlt))).size ≤ 1000000000 := by omega
          go_region_with (go_at_call 56; refine (zWriteString w.heap.size w.heap.size M (toB (quoteC (s[k]'hlt))) _ (hX _) hZ (hY _)).mono ?_; rintro e w2 ⟨rfl, h2, b2⟩)
          all_goals
            go_wp2
            go_roundw
            case rel =>
              refine ⟨k + 1, by omega, by go_num, ?_, ?_⟩
              · rw [hM', hfl]
                rw [show lst (toB (quoteC (s[k]'hlt))) = quoteC (s[k]'hlt) from toB_list _] at h2
                exact h2
              · exact (Below.drew (hbw.alloc hsz _)).trans b2
            case measure => simp [RowKit.intOf]; omega
      · have hn1 : decide ((k : Int) < s.size) = false := decide_eq_false (by omega)
        have hkk : k = s.size := by omega
        have eS : ∀ args w, (callFunc 58 args).run Tryz.prog w = .ok (.enter 58 args) w := enters_of Tryz.func58 (by kernel_rfl) rfl
        go_wp2_with (go_at_fn 58; refine (zBStr w.heap.size w.heap.size _ _ hI (by omega)).mono ?_)
        rintro e w1 ⟨rfl, hb2⟩
        go_wp2
        go_ret
        refine ⟨?_, hbw.trans hb2⟩
        show Ending.returned (.string (toB (((lst s).take s.size).flatMap quoteC))) = _
        rw [List.take_of_length_le (by omega)]
        unfold quoteL
        rw [if_neg (fun q => h0 ((eq_toB s []).2 q))]
end Go.Proofs.YtigcjinpkngapaaGreatDoor
end
section
namespace Go.Proofs.YtigcjinpkngapaaGreatDoor
open Go.RowKit Go.Lib Go.Shelf
set_option maxHeartbeats 4000000 in
set_option maxRecDepth 100000 in
theorem zText (l : List ByteArray) (hl : LinesB l) (a : Option Addr) (cap : Nat) (w : World) (hm : ∀ (j : Nat) (x : ByteArray), l[j]? = some x → ∃ b o, a = some ⟨b, o, none⟩ ∧ b < w.heap.size ∧ w.cell? ⟨b, o + j, none⟩ = some (.string x)) :
    Calls Tryz.prog 32 #[.slice a l.length cap] w fun e w' => e = .returned (.string (toB (textW (l.map lst)))) ∧ Below w.heap.size w w' := by
  obtain ⟨hl, hx⟩ := hl
  have eW : ∀ args w, (callFunc 57 args).run Tryz.prog w = .ok (.enter 57 args) w := enters_of Tryz.func57 (by kernel_rfl) rfl
  have eS : ∀ args w, (callFunc 56 args).run Tryz.prog w = .ok (.enter 56 args) w := enters_of Tryz.func56 (by kernel_rfl) rfl
  have eT : ∀ args w, (callFunc 58 args).run Tryz.prog w = .ok (.enter 58 args) w := enters_of Tryz.func58 (by kernel_rfl) rfl
  go_enter Tryz.func32, Tryz.ntmps32
  go_wp2
  go_loopw [8] (fun i wr => ∃ k : Nat, k ≤ l.length ∧ i = .int .i64 k ∧ Bld w.heap.size w.heap.size (textW ((l.take k).map lst)) wr ∧ Below w.heap.size w wr) (fun i _ => l.length - (RowKit.intOf i).toNat)
  case atStart =>
    refine ⟨0, Nat.zero_le _, rfl, ?_, (Below.refl _ w).alloc (Nat.le_refl _) _⟩
    exact Lib.IsBuilderF.of (Lib.fresh_isBuilder 83 5 w)
  case round =>
    obtain ⟨k, hk, rfl, hI, hbw⟩ := hrel
    have hsz := hbw.size
    have hcl := textW_len (l := l.take k) (fun s hs => hx s (List.mem_of_mem_take hs))
    have htl : (l.take k).length ≤ l.length := by rw [List.length_take]; omega
    cases ht : l[k]? with
    | some x =>
      have hlt : k < l.length := (List.getElem?_eq_some_iff.1 ht).1
      have hn1 : decide ((k : Int) < l.length) = true := decide_eq_true (by omega)
      obtain ⟨b, o, rfl, hb, hc⟩ := hm k x ht
      have hc2 : wr.cell? ⟨b, o + k, none⟩ = some (.string x) := by
        have := hbw.block b hb
        rw [← hc]
        simp only [World.cell?, this]
      have hxs := hx x (List.mem_of_getElem? ht)
      have htk := textW_take ht
      generalize textW ((l.take k).map lst) = M at *
      generalize hM' : textW ((l.take (k + 1)).map lst) = M' at *
      go_wp2_with (go_at_fn 56; refine (zWriteString w.heap.size w.heap.size M x _ hI (by omega) (by omega)).mono ?_)
      rintro e w1 ⟨rfl, h1, b1⟩
      have hz1 := b1.size
      have hlx : (lst x).length = x.size := size_list x
      go_wp2_with (go_at_fn 57; refine (zWriteByte w.heap.size w.heap.size (M ++ lst x) 10 _ h1 (by rw [List.length_append]; omega) (by omega)).mono ?_)
      rintro e w2 ⟨rfl, h2, b2⟩
      go_wp2
      go_roundw
      case rel =>
        refine ⟨k + 1, by omega, by go_num, ?_, (hbw.trans b1).trans b2⟩
        rw [hM', htk]
        exact h2
      case measure => simp [RowKit.intOf]; omega
    | none =>
      have hge : l.length ≤ k := by simpa using ht
      have hn1 : decide ((k : Int) < l.length) = false := decide_eq_false (by omega)
      have hkk : k = l.length := by omega
      subst hkk
      go_wp2_with (go_at_fn 58; refine (zBStr w.heap.size w.heap.size _ _ hI (by omega)).mono ?_)
      rintro e w1 ⟨rfl, hb2⟩
      go_wp2
      go_ret
      exact ⟨rfl, hbw.trans hb2⟩
theorem zOneArg {F : Nat → Prop} {w : World} {x : Go.Ac.AV} {vs : Array Value} (h : Go.Ac.TF F w [x] vs.toList) : ∃ u, vs = #[u] ∧ Go.Ac.RF F w x u := by
  simp only [Go.Ac.TF] at h
  obtain ⟨u, s, e, h1, rfl⟩ := h
  refine ⟨u, ?_, h1⟩
  cases vs
  simp_all
theorem zQuoteP {g : List (Nat × List Go.Ac.AV)} (s : ByteArray) (hs : s.size ≤ 90000000) : Go.Ac.PCalls Tryz.prog g 54 [.v (.string s)] (.v (.string (toB (quoteL (lst s))))) := by
  refine Go.Ac.PCalls.ofBelow (Go.Ac.callable Tryz.func54 rfl rfl) fun F w vs st ha => ?_
  obtain ⟨u, rfl, h1⟩ := zOneArg ha
  simp only [Go.Ac.RF] at h1
  subst h1
  exact zQuote s hs w
theorem zTextP {g : List (Nat × List Go.Ac.AV)} (l : List ByteArray) (hl : LinesB l) : Go.Ac.PCalls Tryz.prog g 32 [encSs l] (.v (.string (toB (textW (l.map lst))))) := by
  refine Go.Ac.PCalls.ofBelow (Go.Ac.callable Tryz.func32 rfl rfl) fun F w vs st ha => ?_
  obtain ⟨u, rfl, h1⟩ := zOneArg ha
  simp only [Go.Ac.RF] at h1
  obtain ⟨_, a, cap, rfl, hcap, hm⟩ := h1
  refine zText l hl a cap w fun j x hj => ?_
  have hne : l.length ≠ 0 := by
    intro e
    have := (List.getElem?_eq_some_iff.1 hj).1
    omega
  obtain ⟨b, o, rfl, hF, hE⟩ := hm hne
  exact ⟨b, o, rfl, st.inF b hF, Go.Ac.strs_cells hE j x hj⟩
end Go.Proofs.YtigcjinpkngapaaGreatDoor
end
