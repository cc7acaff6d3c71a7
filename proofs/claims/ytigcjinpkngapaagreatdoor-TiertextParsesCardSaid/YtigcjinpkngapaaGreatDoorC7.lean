/- A logic of trees over the model's steps, and the contracts of the functions that the laws reach: part 7 of 20. -/
import Derived.Test.YtigcjinpkngapaaGreatDoorC6
import Derived.Shelf.Small.Strs
import Derived.Shelf.Small.Wraps
import Derived.Shelf.Strings.Split
import Derived.Shelf.Strings.OnBuilder
set_option linter.unusedVariables false
set_option linter.unusedSimpArgs false
set_option linter.unusedSectionVars false
section
namespace Go.Proofs.YtigcjinpkngapaaGreatDoor
open Go.Ac
attribute [local irreducible] awp awpL Ev Ev2 EvS thenQ blockQ retQ PCalls OCalls
variable {g : List (Nat × List AV)}
theorem map_lst (l : List ByteArray) : (l.map lst).map toB = l := by
  rw [List.map_map]
  conv => rhs; rw [← List.map_id l]
  exact List.map_congr_left fun x _ => toB_of x
abbrev optSs (o : Option (List (List UInt8))) : AV := .tup [encSs ((o.getD []).map toB), vb o.isSome]
theorem optSs_some (M : List ByteArray) : optSs (some (M.map lst)) = .tup [encSs M, vb true] := by
  unfold optSs
  rw [Option.getD_some, map_lst]
  rfl
theorem lines_none {s a t : List UInt8} (h : s = a ++ t) (ht : t ≠ []) (h10 : (10 : UInt8) ∉ t) : linesW s = none := by
  unfold linesW
  have hs : s ≠ [] := by rw [h]; simp [ht]
  rw [if_neg hs, if_neg]
  intro e
  rw [h, List.getLast?_append, List.getLast?_eq_some_getLast ht] at e
  have e : t.getLast ht = 10 := Option.some.inj e
  exact h10 (e ▸ List.getLast_mem ht)
theorem ext_list (s : ByteArray) (a b : Nat) : lst (s.extract a b) = ((lst s).take b).drop a := by
  show (s.extract a b).data.toList = _
  rw [ByteArray.data_extract]
  simp [List.drop_take]
theorem seg_snoc {l : List UInt8} {a k : Nat} {c : UInt8} (h : l[k]? = some c) (ha : a ≤ k) : (l.take (k + 1)).drop a = (l.take k).drop a ++ [c] := by
  have hlt := (List.getElem?_eq_some_iff.1 h).1
  rw [List.take_add_one, h, Option.toList_some, List.drop_append_of_le_length (by rw [List.length_take]; omega)]
theorem seg_cat {l : List UInt8} {a k : Nat} (ha : a ≤ k) : (l.take k).drop a ++ l.drop k = l.drop a := by
  have : l.drop a = (l.take k ++ l.drop k).drop a := by rw [List.take_append_drop]
  rw [this]
  by_cases hk : k ≤ l.length
  · rw [List.drop_append_of_le_length (by rw [List.length_take]; omega)]
  · rw [List.drop_of_length_le (l := l) (i := k) (by omega)]
    simp
set_option maxRecDepth 4000 in
set_option maxHeartbeats 2000000 in
theorem r3Lines_spec (s : ByteArray) (hs : s.size ≤ 90000000) : PCalls Tryz.prog g 22 [.v (.string s)] (optSs (linesW (lst s))) := by
  have hlen : (lst s).length = s.size := size_list s
  refine pcalls' Tryz.func22 Tryz.ntmps22 rfl rfl rfl ?_
  repeat' (first
   | ((with_reducible refine is_un ?_); refine awpL_ev2 (ev_bslice_o (t := 42) (n := 0) (es := []) rfl rfl rfl rfl rfl rfl rfl rfl rfl rfl rfl qf0 qc0) rfl ?_)
   | refine stn [] ?_
   | ((with_reducible refine is_gd ?_); refine awpL_split rfl rfl (fun h => ?_) (fun h => ?_))
   | ((with_reducible refine is_awp ?_); refine awp_cond rfl (fun h => ?_) (fun h => ?_))
   | fail)
  refine awp_for2 (α := Nat × Nat) (β := List ByteArray) 1 (fun p _ => [(0, .v (.string s)), (4, .os 0 0), (5, vi p.1), (6, vi p.2)]) (fun _ M => [.own 0 9 1 (M.map strC)]) (fun p M => p.1 ≤ p.2 ∧ p.2 ≤ s.size ∧ M.length ≤ p.2 ∧ lst s = textW (M.map lst) ++ (lst s).drop p.1 ∧ (∀ x ∈ M, (10 : UInt8) ∉ lst x) ∧ (10 : UInt8) ∉ ((lst s).take p.2).drop p.1) (fun p _ => s.size - p.2) (0, 0) []
    ⟨(.cons rfl rfl (.cons rfl rfl (.cons rfl rfl (.cons rfl rfl .nil)))), rfl, rfl, rfl⟩ ⟨Nat.zero_le _, Nat.zero_le _, Nat.zero_le _, rfl, by simp, by simp⟩ ?_
  rintro ⟨fr, k⟩ M ⟨hfk, hk, hM, hf, hno, hseg⟩
  simp only at hfk hk hM hf hseg
  have hmb : (M.map strC).length ≤ 90000000 := by rw [List.length_map]; omega
  cases ht : (lst s)[k]? with
  | some c =>
    have hlt : k < (lst s).length := (List.getElem?_eq_some_iff.1 ht).1
    have c1 : decide ((k : Int) < s.size) = true := decide_eq_true (by omega)
    have ik := byteL_get ht
    have hsn := seg_snoc ht hfk
    by_cases e : c = 10
    · have c2 : decide ((c.toNat : Int) = 10) = true := by rw [e]; rfl
      have hx : s.extract ((fr : Int)).toNat ((k : Int)).toNat = s.extract fr k := rfl
      have hb : (0 : Int) ≤ fr ∧ (fr : Int) ≤ k ∧ (k : Int) ≤ s.size := by omega
      have hj : M.map strC ++ [strC (s.extract fr k)] = (M ++ [s.extract fr k]).map strC := by simp
      repeat' (first
       | ((with_reducible refine is_un ?_); (first | refine awpL_ev (ev_slice_str (s' := s.extract fr k) rfl rfl rfl rfl rfl hb hx) rfl ?_ | refine awpL_ev2 (ev_appB (es' := (M ++ [s.extract fr k]).map strC) rfl rfl rfl rfl rfl rfl rfl rfl rfl rfl rfl rfl rfl qe0 hj rfl) rfl ?_))
       | refine stn [] ?_
       | ((with_reducible refine is_gd ?_); refine awpL_split rfl rfl (fun h => ?_) (fun h => ?_))
       | ((with_reducible refine is_awp ?_); refine awp_cond rfl (fun h => ?_) (fun h => ?_))
       | fail)
      refine ⟨(k + 1, k + 1), M ++ [s.extract fr k], ⟨(.cons rfl rfl (.cons rfl rfl (.cons rfl rfl (.cons rfl rfl .nil)))), rfl, rfl, rfl⟩, ⟨Nat.le_refl _, by simp only; omega, by simp; omega, ?_, ?_, ?_⟩, by simp only; omega⟩
      · simp only
        have h1 : textW ((M ++ [s.extract fr k]).map lst) = textW (M.map lst) ++ (lst (s.extract fr k) ++ [10]) := by
          unfold textW; rw [List.map_append, List.flatMap_append]; simp
        rw [h1, ext_list, List.append_assoc, List.append_assoc]
        have h2 : [10] ++ (lst s).drop (k + 1) = (lst s).drop k := by rw [dropB_cons ht, e]; rfl
        rw [h2, seg_cat hfk]
        exact hf
      · intro x hx
        rcases List.mem_append.1 hx with hx | hx
        · exact hno x hx
        · simp only [List.mem_singleton] at hx
          rw [hx, ext_list]
          exact hseg
      · simp only; rw [List.drop_of_length_le (by rw [List.length_take]; omega)]; simp
    · have c2 : decide ((c.toNat : Int) = 10) = false := decide_eq_false (fun q => e (UInt8.toNat_inj.1 (by have : (10 : UInt8).toNat = 10 := rfl; omega)))
      repeat' (first
       | refine stn [] ?_
       | ((with_reducible refine is_gd ?_); refine awpL_split rfl rfl (fun h => ?_) (fun h => ?_))
       | ((with_reducible refine is_awp ?_); refine awp_cond rfl (fun h => ?_) (fun h => ?_))
       | fail)
      refine ⟨(fr, k + 1), M, ⟨(.cons rfl rfl (.cons rfl rfl (.cons rfl rfl (.cons rfl rfl .nil)))), rfl, rfl, rfl⟩, ⟨by simp only; omega, by simp only; omega, by simp only; omega, hf, hno, ?_⟩, by simp only; omega⟩
      simp only
      rw [hsn, List.mem_append, not_or]
      exact ⟨hseg, by simp only [List.mem_singleton]; exact fun q => e q.symm⟩
  | none =>
    have hge : (lst s).length ≤ k := by simpa using ht
    have c1 : decide ((k : Int) < s.size) = false := decide_eq_false (by omega)
    rw [List.take_of_length_le hge] at hseg
    by_cases e : fr = s.size
    · have c2 : (!decide ((fr : Int) = s.size)) = false := by simp [e]
      rw [List.drop_of_length_le (by omega), List.append_nil] at hf
      have hL : linesW (lst s) = some (M.map lst) := by
        rw [hf]
        exact lines_text fun x hx => by obtain ⟨y, hy, rfl⟩ := List.mem_map.1 hx; exact hno y hy
      rw [hL, optSs_some]
      repeat' (first
       | refine stn [] ?_
       | ((with_reducible refine is_gd ?_); refine awpL_split rfl rfl (fun h => ?_) (fun h => ?_))
       | ((with_reducible refine is_awp ?_); refine awp_cond rfl (fun h => ?_) (fun h => ?_))
       | fail)
      refine retP rfl ?_
      simp [ex, exL]
    · have c2 : (!decide ((fr : Int) = s.size)) = true := by simp; omega
      have hL : linesW (lst s) = none := lines_none hf (by intro q; have := congrArg List.length q; rw [List.length_drop] at this; simp at this; omega) hseg
      rw [hL]
      repeat' (first
       | refine stn [] ?_
       | ((with_reducible refine is_gd ?_); refine awpL_split rfl rfl (fun h => ?_) (fun h => ?_))
       | ((with_reducible refine is_awp ?_); refine awp_cond rfl (fun h => ?_) (fun h => ?_))
       | fail)
      refine retLe rfl ?_
      exact Le.tup (.cons (Le.nil 1) (.cons (Le.rfl' _) .nil))
theorem mapM_hit {a : List UInt8} {r : List (List UInt8)} : (a :: r).mapM unquoteL = match unquoteL a with | none => none | some x => (r.mapM unquoteL).map (x :: ·) := by
  rw [List.mapM_cons]
  cases unquoteL a with
  | none => rfl
  | some x => cases r.mapM unquoteL <;> rfl
def splitK (M : List (List UInt8)) (r : List UInt8) : Option (List (List UInt8)) := ((splitOn 32 r).mapM unquoteL).map (M ++ ·)
theorem splitK_hit {M : List (List UInt8)} {a b : List UInt8} (h : (32 : UInt8) ∉ a) : splitK M (a ++ 32 :: b) = match unquoteL a with | none => none | some x => splitK (M ++ [x]) b := by
  unfold splitK
  rw [splitOn_hit b h, mapM_hit]
  cases unquoteL a with
  | none => rfl
  | some x => simp only; cases (splitOn 32 b).mapM unquoteL <;> simp
theorem splitK_miss {M : List (List UInt8)} {a : List UInt8} (h : (32 : UInt8) ∉ a) : splitK M a = match unquoteL a with | none => none | some x => some (M ++ [x]) := by
  unfold splitK
  rw [splitOn_miss h, mapM_hit]
  cases unquoteL a with
  | none => rfl
  | some x => simp
set_option maxRecDepth 4000 in
set_option maxHeartbeats 4000000 in
theorem r3Split_spec (s : ByteArray) (hs : s.size ≤ 80000000) : PCalls Tryz.prog g 73 [.v (.string s)] (optSs (splitW (lst s))) := by
  have hlen : (lst s).length = s.size := size_list s
  have n1 : (!true) = false := rfl
  have n2 : (!false) = true := rfl
  refine pcalls' Tryz.func73 Tryz.ntmps73 rfl rfl rfl ?_
  by_cases h0 : s = ⟨#[]⟩
  · have c0 : decide (s = (⟨#[]⟩ : ByteArray)) = true := decide_eq_true h0
    have e : splitW (lst s) = some [] := by rw [h0]; rfl
    rw [e]
    repeat' (first
     | refine stn [] ?_
     | ((with_reducible refine is_gd ?_); refine awpL_split rfl rfl (fun h => ?_) (fun h => ?_))
     | ((with_reducible refine is_awp ?_); refine awp_cond rfl (fun h => ?_) (fun h => ?_))
     | fail)
    refine retLe rfl ?_
    exact Le.tup (.cons (Le.nil 1) (.cons (Le.rfl' _) .nil))
  have c0 : decide (s = (⟨#[]⟩ : ByteArray)) = false := decide_eq_false h0
  have e : splitW (lst s) = splitK [] (lst s) := by
    unfold splitW splitK
    rw [if_neg (fun q => h0 ((eq_toB s []).2 q))]
    cases (splitOn 32 (lst s)).mapM unquoteL <;> simp
  rw [e]
  repeat' (first
   | ((with_reducible refine is_un ?_); refine awpL_ev2 (ev_bslice_o (t := 42) (n := 0) (es := []) rfl rfl rfl rfl rfl rfl rfl rfl rfl rfl rfl qf0 qc0) rfl ?_)
   | refine stn [] ?_
   | ((with_reducible refine is_gd ?_); refine awpL_split rfl rfl (fun h => ?_) (fun h => ?_))
   | ((with_reducible refine is_awp ?_); refine awp_cond rfl (fun h => ?_) (fun h => ?_))
   | fail)
  refine awp_for2 (α := Nat × Nat) (β := List ByteArray) 1 (fun p _ => [(0, .v (.string s)), (4, .os 0 0), (5, vi p.1), (6, vi p.2)]) (fun _ M => [.own 0 9 1 (M.map strC)]) (fun p M => M.length ≤ p.2 ∧ ((p.1 ≤ p.2 ∧ p.2 ≤ s.size ∧ (32 : UInt8) ∉ ((lst s).take p.2).drop p.1 ∧ splitK [] (lst s) = splitK (M.map lst) ((lst s).drop p.1)) ∨ (p.2 = s.size + 1 ∧ splitK [] (lst s) = some (M.map lst)))) (fun p _ => s.size + 1 - p.2) (0, 0) []
    ⟨(.cons rfl rfl (.cons rfl rfl (.cons rfl rfl (.cons rfl rfl .nil)))), rfl, rfl, rfl⟩ ⟨Nat.zero_le _, .inl ⟨Nat.zero_le _, Nat.zero_le _, by simp, rfl⟩⟩ ?_
  rintro ⟨fr, k⟩ M ⟨hM, hf⟩
  simp only at hM hf
  rcases hf with ⟨hfk, hk, hseg, hf⟩ | ⟨hk, hf⟩
  · have hmb : (M.map strC).length ≤ 80000001 := by rw [List.length_map]; omega
    have c1 : decide ((k : Int) ≤ s.size) = true := decide_eq_true (by omega)
    have hb : (0 : Int) ≤ fr ∧ (fr : Int) ≤ k ∧ (k : Int) ≤ s.size := by omega
    have hx : s.extract ((fr : Int)).toNat ((k : Int)).toNat = s.extract fr k := rfl
    have hxs : (s.extract fr k).size ≤ 90000000 := by rw [ByteArray.size_extract]; omega
    have hU := r3Unquote_spec (g := g) (s.extract fr k) hxs
    rw [show (s.extract fr k).data.toList = _ from ext_list s fr k] at hU
    have hcat := seg_cat (l := lst s) hfk
    cases ht : (lst s)[k]? with
    | some c =>
      have hlt : k < (lst s).length := (List.getElem?_eq_some_iff.1 ht).1
      have c2 : decide ((k : Int) < s.size) = true := decide_eq_true (by omega)
      have ik := byteL_get ht
      by_cases e : c = 32
      · have c3 : (!decide ((c.toNat : Int) = 32)) = false := by rw [e]; rfl
        have hd : (lst s).drop k = 32 :: (lst s).drop (k + 1) := by rw [dropB_cons ht, e]
        rw [← hcat, hd, splitK_hit hseg] at hf
        generalize s.extract fr k = part at *
        generalize ((lst s).take k).drop fr = sg at *
        cases hu : unquoteL sg with
        | none =>
          rw [hu] at hU hf
          have hf : splitK [] (lst s) = none := hf
          have hU : PCalls Tryz.prog g _ [.v (.string part)] (.tup [.v (.string (toB [])), vb false]) := hU
          rw [hf]
          repeat' (first
           | ((with_reducible refine is_un ?_); refine awpL_ev (ev_slice_str (s' := part) rfl rfl rfl rfl rfl hb hx) rfl ?_)
           | refine stn [] ?_
           | ((with_reducible refine is_gd ?_); refine awpL_split rfl rfl (fun h => ?_) (fun h => ?_))
           | ((with_reducible refine is_awp ?_); refine awp_cond rfl (fun h => ?_) (fun h => ?_))
           | fail)
          refine retLe rfl ?_
          exact Le.tup (.cons (Le.nil 1) (.cons (Le.rfl' _) .nil))
        | some x =>
          rw [hu] at hU hf
          have hf : splitK [] (lst s) = splitK (M.map lst ++ [x]) ((lst s).drop (k + 1)) := hf
          have hU : PCalls Tryz.prog g _ [.v (.string part)] (.tup [.v (.string (toB x)), vb true]) := hU
          have hj : M.map strC ++ [strC (toB x)] = (M ++ [toB x]).map strC := by simp
          repeat' (first
           | ((with_reducible refine is_un ?_); (first | refine awpL_ev (ev_slice_str (s' := part) rfl rfl rfl rfl rfl hb hx) rfl ?_ | refine awpL_ev2 (ev_appB (es' := (M ++ [toB x]).map strC) rfl rfl rfl rfl rfl rfl rfl rfl rfl rfl rfl rfl rfl qe0 hj rfl) rfl ?_))
           | refine stn [] ?_
           | ((with_reducible refine is_gd ?_); refine awpL_split rfl rfl (fun h => ?_) (fun h => ?_))
           | ((with_reducible refine is_awp ?_); refine awp_cond rfl (fun h => ?_) (fun h => ?_))
           | fail)
          refine ⟨(k + 1, k + 1), M ++ [toB x], ⟨(.cons rfl rfl (.cons rfl rfl (.cons rfl rfl (.cons rfl rfl .nil)))), rfl, rfl, rfl⟩, ⟨by simp; omega, .inl ⟨Nat.le_refl _, by simp only; omega, ?_, ?_⟩⟩, by simp only; omega⟩
          · simp only; rw [List.drop_of_length_le (by rw [List.length_take]; omega)]; simp
          · simp only
            rw [hf, List.map_append]
            have : [toB x].map lst = [x] := by simp [toB_list]
            rw [this]
      · have c3 : (!decide ((c.toNat : Int) = 32)) = true := by
          have : c.toNat ≠ 32 := fun q => e (UInt8.toNat_inj.1 q)
          simp; omega
        repeat' (first
         | refine stn [] ?_
         | ((with_reducible refine is_gd ?_); refine awpL_split rfl rfl (fun h => ?_) (fun h => ?_))
         | ((with_reducible refine is_awp ?_); refine awp_cond rfl (fun h => ?_) (fun h => ?_))
         | fail)
        refine ⟨(fr, k + 1), M, ⟨(.cons rfl rfl (.cons rfl rfl (.cons rfl rfl (.cons rfl rfl .nil)))), rfl, rfl, rfl⟩, ⟨by simp only; omega, .inl ⟨by simp only; omega, by simp only; omega, ?_, hf⟩⟩, by simp only; omega⟩
        simp only
        rw [seg_snoc ht hfk, List.mem_append, not_or]
        exact ⟨hseg, by simp only [List.mem_singleton]; exact fun q => e q.symm⟩
    | none =>
      have hge : (lst s).length ≤ k := by simpa using ht
      have c2 : decide ((k : Int) < s.size) = false := decide_eq_false (by omega)
      rw [List.drop_of_length_le hge, List.append_nil] at hcat
      rw [← hcat, splitK_miss hseg] at hf
      generalize s.extract fr k = part at *
      generalize ((lst s).take k).drop fr = sg at *
      cases hu : unquoteL sg with
      | none =>
        rw [hu] at hU hf
        have hf : splitK [] (lst s) = none := hf
        have hU : PCalls Tryz.prog g _ [.v (.string part)] (.tup [.v (.string (toB [])), vb false]) := hU
        rw [hf]
        repeat' (first
         | ((with_reducible refine is_un ?_); refine awpL_ev (ev_slice_str (s' := part) rfl rfl rfl rfl rfl hb hx) rfl ?_)
         | refine stn [] ?_
         | ((with_reducible refine is_gd ?_); refine awpL_split rfl rfl (fun h => ?_) (fun h => ?_))
         | ((with_reducible refine is_awp ?_); refine awp_cond rfl (fun h => ?_) (fun h => ?_))
         | fail)
        refine retLe rfl ?_
        exact Le.tup (.cons (Le.nil 1) (.cons (Le.rfl' _) .nil))
      | some x =>
        rw [hu] at hU hf
        have hf : splitK [] (lst s) = some (M.map lst ++ [x]) := hf
        have hU : PCalls Tryz.prog g _ [.v (.string part)] (.tup [.v (.string (toB x)), vb true]) := hU
        have hj : M.map strC ++ [strC (toB x)] = (M ++ [toB x]).map strC := by simp
        repeat' (first
         | ((with_reducible refine is_un ?_); (first | refine awpL_ev (ev_slice_str (s' := part) rfl rfl rfl rfl rfl hb hx) rfl ?_ | refine awpL_ev2 (ev_appB (es' := (M ++ [toB x]).map strC) rfl rfl rfl rfl rfl rfl rfl rfl rfl rfl rfl rfl rfl qe0 hj rfl) rfl ?_))
         | refine stn [] ?_
         | ((with_reducible refine is_gd ?_); refine awpL_split rfl rfl (fun h => ?_) (fun h => ?_))
         | ((with_reducible refine is_awp ?_); refine awp_cond rfl (fun h => ?_) (fun h => ?_))
         | fail)
        refine ⟨(k + 1, k + 1), M ++ [toB x], ⟨(.cons rfl rfl (.cons rfl rfl (.cons rfl rfl (.cons rfl rfl .nil)))), rfl, rfl, rfl⟩, ⟨by simp; omega, .inr ⟨by simp only; omega, ?_⟩⟩, by simp only; omega⟩
        rw [hf, List.map_append]
        have : [toB x].map lst = [x] := by simp [toB_list]
        rw [this]
  · have c1 : decide ((k : Int) ≤ s.size) = false := decide_eq_false (by omega)
    rw [hf, optSs_some]
    repeat' (first
     | refine stn [] ?_
     | ((with_reducible refine is_gd ?_); refine awpL_split rfl rfl (fun h => ?_) (fun h => ?_))
     | ((with_reducible refine is_awp ?_); refine awp_cond rfl (fun h => ?_) (fun h => ?_))
     | fail)
    refine retP rfl ?_
    simp [ex, exL]
end Go.Proofs.YtigcjinpkngapaaGreatDoor
end
section
namespace Go.Ac
open Go.RowKit
theorem two_args {F : Nat → Prop} {w : World} {x y : AV} {vs : Array Value} (h : TF F w [x, y] vs.toList) : ∃ u v, vs = #[u, v] ∧ RF F w x u ∧ RF F w y v := by
  simp only [TF] at h
  obtain ⟨u, s, e, h1, v, t, rfl, h2, rfl⟩ := h
  refine ⟨u, v, ?_, h1, h2⟩
  cases vs
  simp_all
theorem two_vals {F : Nat → Prop} {w : World} {x y : Value} {vs : Array Value} (h : TF F w [.v x, .v y] vs.toList) : vs = #[x, y] := by
  obtain ⟨u, v, rfl, h1, h2⟩ := two_args h
  simp only [RF] at h1 h2
  rw [h1, h2]
theorem u8_back (c : UInt8) : ((c.toNat : Int)).toNat.toUInt8 = c := by
  rw [Int.toNat_natCast]
  exact UInt8.ofNat_toNat
theorem idx_P {P : Program} {ρ : Go.Shelf.Ren} {g : List (Nat × List AV)} (L : Go.Proofs.Lays.n137 P ρ) (hc : Callable P (ρ.f 137)) (s : ByteArray) (c : UInt8) :
    PCalls P g (ρ.f 137) [.v (.string s), .v (.int .u8 c.toNat)] (.v (.int .i64 (Go.Lib.indexByte s.data.toList c))) := by
  refine PCalls.ofBelow hc fun F w vs st ha => ?_
  obtain rfl := two_vals ha
  have h := Go.Proofs.Any.strings_IndexByte L s (c.toNat : Int) w
  rw [u8_back] at h
  refine h.mono ?_
  rintro e w' ⟨rfl, rfl⟩
  exact ⟨rfl, Below.refl _ _⟩
theorem cutS_P {P : Program} {ρ : Go.Shelf.Ren} {g : List (Nat × List AV)} (L : Go.Proofs.Lays.n104 P ρ) (hc : Callable P (ρ.f 104)) (s p : ByteArray) (hs : s.size ≤ 9223372036854775807) :
    PCalls P g (ρ.f 104) [.v (.string s), .v (.string p)] (.tup [.v (.string ⟨(Go.Lib.trimSuffix s.data.toList p.data.toList).toArray⟩), .v (.bool (Go.Lib.hasSuffix s.data.toList p.data.toList))]) := by
  refine PCalls.ofBelowN hc fun F w vs st ha => ?_
  obtain rfl := two_vals ha
  refine (Go.Proofs.Any.strings_CutSuffix L s p w hs).mono ?_
  rintro e w' ⟨rfl, rfl⟩
  refine ⟨_, rfl, Below.refl _ _, ?_⟩
  simp only [RF, TF]
  exact ⟨_, rfl, _, _, rfl, rfl, _, _, rfl, rfl, rfl⟩
theorem strs_cells {F : Nat → Prop} {w : World} {xs : List ByteArray} {b o : Nat} (h : EF F w 1 (xs.map fun s => [AV.v (.string s)]) b o) (j : Nat) (x : ByteArray) (hj : xs[j]? = some x) : w.cell? ⟨b, o + j, none⟩ = some (.string x) := by
  obtain ⟨h1, h2⟩ := h.get (i := j) (e := [.v (.string x)]) (by rw [List.getElem?_map, hj]; rfl)
  obtain ⟨u, q1, q2, _⟩ := h2.get (i := 0) (x := .v (.string x)) rfl
  simp only [RF] at q2
  subst q2
  simpa using q1
def splitA (s sep : ByteArray) : List ByteArray := Go.Lib.splitB sep 0 (Go.Lib.countB s sep) s
theorem split_P {P : Program} {ρ : Go.Shelf.Ren} {g : List (Nat × List AV)} (L : Go.Proofs.Lays.n146 P ρ) (hi9 : (P.info? (ρ.t 9)).map (fun i => (i.zero, i.size, i.bytes)) = some (some (.string ByteArray.empty), 1, 16)) (hc : Callable P (ρ.f 146)) {m : Int} (hg : (ρ.g 1, [AV.v (.int .i64 m)]) ∈ g)
    (s sep : ByteArray) (hs : s.size < 4294967281) (h1 : 1 ≤ sep.size) :
    PCalls P g (ρ.f 146) [.v (.string s), .v (.string sep)] (.fs 1 (splitA s sep).length ((splitA s sep).map fun s => [AV.v (.string s)])) := by
  refine PCalls.ofBelowN hc fun F w vs st ha => ?_
  obtain rfl := two_vals ha
  have hm : w.cell? ⟨ρ.g 1, 0, none⟩ = some (.int .i64 m) := by
    obtain ⟨_, q, _⟩ := st.glob _ hg
    obtain ⟨u, q1, q2, _⟩ := q.get (i := 0) (x := .v (.int .i64 m)) rfl
    simp only [RF] at q2
    subst q2
    simpa [Cx.bare] using q1
  refine (Go.Proofs.Any.strings_Split L hi9 s sep m w hs hm h1).mono ?_
  rintro e w' ⟨rfl, rfl⟩
  have hl : (splitA s sep).length = Go.Lib.countB s sep + 1 := Go.Lib.splitB_all sep h1 0 _ s rfl
  refine ⟨_, rfl, (Below.refl _ _).alloc (Nat.le_refl _) _, ?_⟩
  simp only [RF]
  refine ⟨by simp, _, _, by rw [hl], by omega, fun _ => ⟨w.heap.size, 0, rfl, .inr ⟨Nat.le_refl _, by simp⟩, ?_⟩⟩
  refine EF.mk fun i e he => ?_
  rw [List.getElem?_map, Option.map_eq_some_iff] at he
  obtain ⟨x, hx, rfl⟩ := he
  refine ⟨rfl, MF.mk fun j y hj => ?_⟩
  have hj0 : j = 0 := by have := (List.getElem?_eq_some_iff.1 hj).1; simpa using this
  subst hj0
  cases hj
  refine ⟨.string x, ?_, by simp only [RF], rfl⟩
  have hh : (w.alloc (.cells ((Go.Lib.splitB sep 0 (Go.Lib.countB s sep) s).map Value.string).toArray (ρ.t 9))).heap[w.heap.size]? = some (.cells ((splitA s sep).map Value.string).toArray (ρ.t 9) (0, 0)) := heap_alloc_new w _
  simp only [World.cell?, hh]
  simp [hx]
end Go.Ac
end
section
namespace Go.Ac
section
variable {P : Program} {G : Glo} {N : Nat} {S : SL} {L : List LB} {ty : TypeId}
theorem ev_shlK {xt yt : TypeId} {u e : Operand} {k j : IntKind} {p q r : Int} (h1 : val G S u = some (.v (.int k p))) (h2 : val G S e = some (.v (.int j q))) (hq : 0 ≤ q) (hr : k.wrap (p * 2 ^ min q.toNat k.bits) = r) : Ev P G N (.binOp .shl xt u e yt) ty S L (.v (.int k r)) := by
  subst hr
  intro o ho _ cx a hc
  have e1 := val_R hc h1
  have e2 := val_R hc h2
  simp only [R] at e1 e2
  refine ⟨_, ?_, by simp only [R]; rfl⟩
  simp only [execOp, ho, e1, e2]
  simp [eqGuard, binOp, Op.shift, Int.not_lt.mpr hq]
theorem ev_orK {xt yt : TypeId} {u e : Operand} {k : IntKind} {p q r : Int} (h1 : val G S u = some (.v (.int k p))) (h2 : val G S e = some (.v (.int k q))) (hr : k.wrap (BitVec.ofInt k.bits p ||| BitVec.ofInt k.bits q).toNat = r) : Ev P G N (.binOp .or xt u e yt) ty S L (.v (.int k r)) := by
  subst hr
  intro o ho _ cx a hc
  have e1 := val_R hc h1
  have e2 := val_R hc h2
  simp only [R] at e1 e2
  refine ⟨_, ?_, by simp only [R]; rfl⟩
  simp only [execOp, ho, e1, e2]
  simp [eqGuard, binOp, Op.intBits]
end
end Go.Ac
end
section
namespace Go.Proofs.YtigcjinpkngapaaGreatDoor
open Go.Ac
attribute [local irreducible] awp awpL Ev Ev2 EvS thenQ blockQ retQ PCalls OCalls
variable {g : List (Nat × List AV)}
def laysIdx_ren : Go.Shelf.Ren := ⟨fun | 137 => 131 | 217 => 163 | 266 => 185 | n => n, fun | 9 => 9 | 5 => 5 | 3 => 3 | n => n, fun n => n⟩
theorem laysIdx : Go.Proofs.Lays.n137 Tryz.prog laysIdx_ren := {
  mixed := by kernel_rfl
  f137 := Tryz.func131.trans (congrArg some (by kernel_rfl))
  f217 := Tryz.func163.trans (congrArg some (by kernel_rfl))
  f266 := Tryz.func185.trans (congrArg some (by kernel_rfl))
  t3 := Tryz.underlying3
  a3 := Tryz.isAgg3
  z3 := Tryz.sizeOf3
  v3 := Tryz.zeroValue3
  t5 := Tryz.underlying5
  a5 := Tryz.isAgg5
  z5 := Tryz.sizeOf5
  v5 := Tryz.zeroValue5
  t9 := Tryz.underlying9
  a9 := Tryz.isAgg9
  z9 := Tryz.sizeOf9
  v9 := Tryz.zeroValue9 }
theorem Idx_spec (s : ByteArray) (c : UInt8) : PCalls Tryz.prog g 131 [.v (.string s), u8v c] (vi (Go.Lib.indexByte (lst s) c)) :=
  idx_P laysIdx (callable Tryz.func131 rfl rfl) s c
theorem hex_idx (c : UInt8) : Go.Lib.indexByte (lst hexB) c = digI c := by
  have h : ∀ n : Fin 256, Go.Lib.indexByte (lst hexB) (UInt8.ofNat n.val) = digI (UInt8.ofNat n.val) := by decide +kernel
  have := h ⟨c.toNat, c.toNat_lt⟩
  rwa [show UInt8.ofNat c.toNat = c from UInt8.ofNat_toNat] at this
theorem hexI_spec (c : UInt8) : PCalls Tryz.prog g 131 [.v (.string hexB), u8v c] (vi (digI c)) := by
  rw [← hex_idx]
  exact Idx_spec hexB c
theorem shl4 {h : Nat} (hh : h < 16) : IntKind.i64.wrap ((h : Int) * 2 ^ min (4 : Int).toNat IntKind.i64.bits) = ((16 * h : Nat) : Int) := by
  show IntKind.i64.wrap ((h : Int) * 16) = _
  rw [wrap_in (by omega) (by omega)]
  omega
theorem or4 {h l : Nat} (hh : h < 16) (hl : l < 16) : IntKind.i64.wrap (BitVec.ofInt IntKind.i64.bits ((16 * h : Nat) : Int) ||| BitVec.ofInt IntKind.i64.bits (l : Int)).toNat = ((16 * h + l : Nat) : Int) :=
  (by decide +kernel : ∀ a b : Fin 16, IntKind.i64.wrap (BitVec.ofInt IntKind.i64.bits ((16 * a.val : Nat) : Int) ||| BitVec.ofInt IntKind.i64.bits (b.val : Int)).toNat = ((16 * a.val + b.val : Nat) : Int)) ⟨h, hh⟩ ⟨l, hl⟩
theorem unqL_ne {l : List UInt8} (h : l ≠ []) : unqL l ≠ some [] := by
  intro e
  have := quote_unq l.length l [] (Nat.le_refl _) e
  exact h this.symm
theorem unq_end {l : List UInt8} (h0 : l ≠ [37, 45]) : unqV (unquoteL l) = .tup [.v (.string (toB ((unqL l).getD []))), vb (decide ((0 : Int) < ((bytesL ((unqL l).getD [])).length : Int)))] := by
  unfold unquoteL
  rw [if_neg h0]
  by_cases h : l = []
  · rw [if_pos h, h]; rfl
  rw [if_neg h]
  cases e : unqL l with
  | none => rfl
  | some M =>
    have hM : M ≠ [] := fun q => unqL_ne h (by rw [e, q])
    have : decide ((0 : Int) < ((bytesL M).length : Int)) = true := by
      have := List.length_pos_iff.2 hM
      rw [bytesL, List.length_map]
      exact decide_eq_true (by omega)
    simp only [Option.getD_some, this]
    rfl
set_option maxRecDepth 4000 in
set_option maxHeartbeats 4000000 in
theorem wUnquote_spec (s : ByteArray) (hs : s.size ≤ 90000000) : PCalls Tryz.prog g 95 [.v (.string s)] (unqV (unquoteL s.data.toList)) := by
  have hlen := size_list s
  have n1 : (!true) = false := rfl
  have n2 : (!false) = true := rfl
  have zz : decide ((-1 : Int) < 0) = true := rfl
  refine pcalls' Tryz.func95 Tryz.ntmps95 rfl rfl rfl ?_
  by_cases h0 : s = ⟨#[37, 45]⟩
  · have c0 : decide (s = (⟨#[37, 45]⟩ : ByteArray)) = true := decide_eq_true h0
    have e : unquoteL s.data.toList = some [] := by rw [h0]; rfl
    rw [e]
    repeat' (first
     | refine stn [] ?_
     | ((with_reducible refine is_gd ?_); refine awpL_split rfl rfl (fun h => ?_) (fun h => ?_))
     | ((with_reducible refine is_awp ?_); refine awp_cond rfl (fun h => ?_) (fun h => ?_))
     | fail)
    exact retP rfl rfl
  have c0 : decide (s = (⟨#[37, 45]⟩ : ByteArray)) = false := decide_eq_false h0
  rw [unq_end (fun q => h0 ((eq_toB s [37, 45]).2 q))]
  repeat' (first
   | refine stn [] ?_
   | ((with_reducible refine is_gd ?_); refine awpL_split rfl rfl (fun h => ?_) (fun h => ?_))
   | ((with_reducible refine is_awp ?_); refine awp_cond rfl (fun h => ?_) (fun h => ?_))
   | fail)
  refine awp_adopt (t := 4) (E := 5) (sz := 1) rfl rfl rfl ?_
  repeat' (first
   | refine stn [] ?_
   | ((with_reducible refine is_gd ?_); refine awpL_split rfl rfl (fun h => ?_) (fun h => ?_))
   | ((with_reducible refine is_awp ?_); refine awp_cond rfl (fun h => ?_) (fun h => ?_))
   | fail)
  refine awp_for2 (α := Nat) (β := List UInt8) 1 (fun k _ => [(0, .v (.string s)), (4, .os 0 0), (5, vi k)]) (fun _ M => [.own 0 5 1 (bytesL M)]) (fun k M => k ≤ s.size ∧ M.length ≤ k ∧ unqL s.data.toList = (unqL (s.data.toList.drop k)).map (M ++ ·)) (fun k _ => s.size - k) 0 []
    ⟨(.cons rfl rfl (.cons rfl rfl (.cons rfl rfl .nil))), rfl, rfl, rfl⟩ ⟨Nat.zero_le _, Nat.zero_le _, by simp⟩ ?_
  rintro k M ⟨hk, hM, hf⟩
  have hmb : (bytesL M).length ≤ 90000000 := by rw [bytesL, List.length_map]; omega
  cases ht : s.data.toList[k]? with
  | none =>
    have hge : s.data.toList.length ≤ k := by simpa using ht
    have d1 : decide ((k : Int) < s.size) = false := decide_eq_false (by omega)
    rw [List.drop_of_length_le hge] at hf
    have hf : unqL s.data.toList = some M := by rw [hf]; simp [unqL]
    rw [hf]
    repeat' (first
     | ((with_reducible refine is_un ?_); refine awpL_ev (ev_bts_os (l := M) rfl rfl rfl rfl rfl rfl rfl rfl rfl rfl) rfl ?_)
     | refine stn [] ?_
     | ((with_reducible refine is_gd ?_); refine awpL_split rfl rfl (fun h => ?_) (fun h => ?_))
     | ((with_reducible refine is_awp ?_); refine awp_cond rfl (fun h => ?_) (fun h => ?_))
     | fail)
    exact retP rfl rfl
  | some c =>
    have hlt : k < s.data.toList.length := (List.getElem?_eq_some_iff.1 ht).1
    have d1 : decide ((k : Int) < s.size) = true := decide_eq_true (by omega)
    have ik := byteL_get ht
    have hdr := dropB_cons ht
    have hP := wplain_spec (g := g) c
    cases hp : plainC c with
    | true =>
      rw [hp] at hP
      rw [hdr, unqL_plain hp, unq_map] at hf
      have hj : bytesL M ++ [[u8v c]] = bytesL (M ++ [c]) := by simp [bytesL]
      repeat' (first
       | ((with_reducible refine is_un ?_); refine awpL_ev2 (ev_appB (es' := bytesL (M ++ [c])) rfl rfl rfl rfl rfl rfl rfl rfl rfl rfl rfl rfl rfl qe0 hj rfl) rfl ?_)
       | refine stn [] ?_
       | ((with_reducible refine is_gd ?_); refine awpL_split rfl rfl (fun h => ?_) (fun h => ?_))
       | ((with_reducible refine is_awp ?_); refine awp_cond rfl (fun h => ?_) (fun h => ?_))
       | fail)
      exact ⟨k + 1, M ++ [c], ⟨(.cons rfl rfl (.cons rfl rfl (.cons rfl rfl .nil))), rfl, rfl, rfl⟩, ⟨by omega, by simp; omega, hf⟩, by omega⟩
    | false =>
      rw [hp] at hP
      by_cases hc : c = 37
      · have d2 : (!decide ((c.toNat : Int) = 37)) = false := by rw [hc]; rfl
        by_cases h2 : k + 2 < s.size
        · have d3 : decide ((s.size : Int) ≤ (k : Int) + 2) = false := decide_eq_false (by omega)
          obtain ⟨a, ha⟩ : ∃ a, s.data.toList[k + 1]? = some a := ⟨_, List.getElem?_eq_getElem (by omega)⟩
          obtain ⟨b, hb⟩ : ∃ b, s.data.toList[k + 2]? = some b := ⟨_, List.getElem?_eq_getElem (by omega)⟩
          have ia : 0 ≤ (k : Int) + 1 ∧ s.data[((k : Int) + 1).toNat]? = some a := ⟨by omega, by rw [show ((k : Int) + 1).toNat = k + 1 by omega]; simpa using ha⟩
          have ib : 0 ≤ (k : Int) + 2 ∧ s.data[((k : Int) + 2).toNat]? = some b := ⟨by omega, by rw [show ((k : Int) + 2).toNat = k + 2 by omega]; simpa using hb⟩
          have hd2 : unqL (s.data.toList.drop k) = (pairC a b).bind fun x => (unqL (s.data.toList.drop (k + 3))).map (x :: ·) := by
            rw [hdr, dropB_cons ha, dropB_cons hb, hc, unqL_pct]
          have hDa := hexI_spec (g := g) a
          have hDb := hexI_spec (g := g) b
          cases ua : unhex a with
          | none =>
            rw [digI_none ua] at hDa
            have hpc : pairC a b = none := by unfold pairC; rw [ua]
            rw [hd2, hpc] at hf
            have hf : unqL s.data.toList = none := hf
            rw [hf]
            generalize digI b = db at *
            repeat' (first
             | refine st [] ?_
             | ((with_reducible refine is_gd ?_); refine awpL_split rfl rfl (fun h => ?_) (fun h => ?_))
             | ((with_reducible refine isD_gd ?_); ((fail_if_success (refine isD_kn (c := true) rfl qa0 ?_)); (fail_if_success (refine isD_kn (c := false) rfl qa0 ?_)); refine awpD_split rfl (fun h => ?_) (fun h => ?_)))
             | ((with_reducible refine is_awp ?_); refine awp_cond rfl (fun h => ?_) (fun h => ?_))
             | fail)
            exact retP rfl rfl
          | some h =>
            have hh := unhex_lt ua
            rw [digI_some ua] at hDa
            have d4 : decide ((h : Int) < 0) = false := decide_eq_false (by omega)
            have w0 := shl4 hh
            cases ub : unhex b with
            | none =>
              rw [digI_none ub] at hDb
              have hpc : pairC a b = none := by unfold pairC; rw [ua, ub]
              rw [hd2, hpc] at hf
              have hf : unqL s.data.toList = none := hf
              rw [hf]
              repeat' (first
               | refine st [] ?_
               | ((with_reducible refine is_gd ?_); refine awpL_split rfl rfl (fun h => ?_) (fun h => ?_))
               | ((with_reducible refine isD_gd ?_); ((fail_if_success (refine isD_kn (c := true) rfl qa0 ?_)); (fail_if_success (refine isD_kn (c := false) rfl qa0 ?_)); refine awpD_split rfl (fun h => ?_) (fun h => ?_)))
               | ((with_reducible refine is_awp ?_); refine awp_cond rfl (fun h => ?_) (fun h => ?_))
               | fail)
              exact retP rfl rfl
            | some l =>
              have hl := unhex_lt ub
              rw [digI_some ub] at hDb
              have d5 : decide ((l : Int) < 0) = false := decide_eq_false (by omega)
              have e1 : (UInt8.ofNat (16 * h + l)).toNat = 16 * h + l := by rw [UInt8.toNat_ofNat']; omega
              have w9 := or4 hh hl
              have w1 : IntKind.u8.wrap ((16 * h + l : Nat) : Int) = ((UInt8.ofNat (16 * h + l)).toNat : Int) := by rw [e1]; exact u8_small (by omega) (by omega)
              have hPx := wplain_spec (g := g) (UInt8.ofNat (16 * h + l))
              cases hp2 : plainC (UInt8.ofNat (16 * h + l)) with
              | true =>
                rw [hp2] at hPx
                have hpc : pairC a b = none := by unfold pairC; rw [ua, ub]; simp only [hp2, if_true]
                rw [hd2, hpc] at hf
                have hf : unqL s.data.toList = none := hf
                rw [hf]
                generalize UInt8.ofNat (16 * h + l) = x at *
                repeat' (first
                 | ((with_reducible refine is_un ?_); (first | refine awpL_ev (ev_shlK rfl rfl (by decide) w0) rfl ?_ | refine awpL_ev (ev_orK rfl rfl w9) rfl ?_ | refine awpL_ev (ev_conv_int rfl rfl rfl rfl w1) rfl ?_))
                 | ((with_reducible refine isD_un ?_); (first | refine awpD_un (as_ev (fun _ => ev_shlK rfl rfl (by decide) w0) rfl rfl) qb0 ?_ | refine awpD_un (as_ev (fun _ => ev_orK rfl rfl w9) rfl rfl) qb0 ?_ | refine awpD_un (as_ev (fun _ => ev_conv_int rfl rfl rfl rfl w1) rfl rfl) qb0 ?_))
                 | ((with_reducible refine isD_gd ?_); (first | refine awpD_gd rfl rfl qa0 (as_ev (fun _ => ev_shlK rfl rfl (by decide) w0) rfl rfl) qb0 ?_ | refine awpD_gd rfl rfl qa0 (as_ev (fun _ => ev_orK rfl rfl w9) rfl rfl) qb0 ?_ | refine awpD_gd rfl rfl qa0 (as_ev (fun _ => ev_conv_int rfl rfl rfl rfl w1) rfl rfl) qb0 ?_))
                 | refine st [] ?_
                 | ((with_reducible refine is_gd ?_); refine awpL_split rfl rfl (fun h => ?_) (fun h => ?_))
                 | ((with_reducible refine isD_gd ?_); ((fail_if_success (refine isD_kn (c := true) rfl qa0 ?_)); (fail_if_success (refine isD_kn (c := false) rfl qa0 ?_)); refine awpD_split rfl (fun h => ?_) (fun h => ?_)))
                 | ((with_reducible refine is_awp ?_); refine awp_cond rfl (fun h => ?_) (fun h => ?_))
                 | fail)
                exact retP rfl rfl
              | false =>
                rw [hp2] at hPx
                have hpc : pairC a b = some (UInt8.ofNat (16 * h + l)) := by unfold pairC; rw [ua, ub]; simp only [hp2, Bool.false_eq_true, if_false]
                generalize UInt8.ofNat (16 * h + l) = x at *
                rw [hd2, hpc] at hf
                have hf : unqL s.data.toList = ((unqL (s.data.toList.drop (k + 3))).map (x :: ·)).map (M ++ ·) := hf
                rw [unq_map] at hf
                have hj : bytesL M ++ [[u8v x]] = bytesL (M ++ [x]) := by simp [bytesL]
                repeat' (first
                 | ((with_reducible refine is_un ?_); (first | refine awpL_ev (ev_shlK rfl rfl (by decide) w0) rfl ?_ | refine awpL_ev (ev_orK rfl rfl w9) rfl ?_ | refine awpL_ev (ev_conv_int rfl rfl rfl rfl w1) rfl ?_ | refine awpL_ev2 (ev_appB (es' := bytesL (M ++ [x])) rfl rfl rfl rfl rfl rfl rfl rfl rfl rfl rfl rfl rfl qe0 hj rfl) rfl ?_))
                 | ((with_reducible refine isD_un ?_); (first | refine awpD_un (as_ev (fun _ => ev_shlK rfl rfl (by decide) w0) rfl rfl) qb0 ?_ | refine awpD_un (as_ev (fun _ => ev_orK rfl rfl w9) rfl rfl) qb0 ?_ | refine awpD_un (as_ev (fun _ => ev_conv_int rfl rfl rfl rfl w1) rfl rfl) qb0 ?_))
                 | ((with_reducible refine isD_gd ?_); (first | refine awpD_gd rfl rfl qa0 (as_ev (fun _ => ev_shlK rfl rfl (by decide) w0) rfl rfl) qb0 ?_ | refine awpD_gd rfl rfl qa0 (as_ev (fun _ => ev_orK rfl rfl w9) rfl rfl) qb0 ?_ | refine awpD_gd rfl rfl qa0 (as_ev (fun _ => ev_conv_int rfl rfl rfl rfl w1) rfl rfl) qb0 ?_))
                 | refine st [] ?_
                 | ((with_reducible refine is_gd ?_); refine awpL_split rfl rfl (fun h => ?_) (fun h => ?_))
                 | ((with_reducible refine isD_gd ?_); ((fail_if_success (refine isD_kn (c := true) rfl qa0 ?_)); (fail_if_success (refine isD_kn (c := false) rfl qa0 ?_)); refine awpD_split rfl (fun h => ?_) (fun h => ?_)))
                 | ((with_reducible refine is_awp ?_); refine awp_cond rfl (fun h => ?_) (fun h => ?_))
                 | fail)
                exact ⟨k + 3, M ++ [x], ⟨(.cons rfl rfl (.cons rfl rfl (.cons rfl rfl .nil))), rfl, rfl, rfl⟩, ⟨by omega, by simp; omega, hf⟩, by omega⟩
        · have d3 : decide ((s.size : Int) ≤ (k : Int) + 2) = true := decide_eq_true (by omega)
          have hn : unqL (s.data.toList.drop k) = none := by
            rw [hdr, hc]
            exact unqL_short (by rw [List.length_drop]; omega)
          rw [hn] at hf
          have hf : unqL s.data.toList = none := hf
          rw [hf]
          repeat' (first
           | refine st [] ?_
           | ((with_reducible refine is_gd ?_); refine awpL_split rfl rfl (fun h => ?_) (fun h => ?_))
           | ((with_reducible refine isD_gd ?_); ((fail_if_success (refine isD_kn (c := true) rfl qa0 ?_)); (fail_if_success (refine isD_kn (c := false) rfl qa0 ?_)); refine awpD_split rfl (fun h => ?_) (fun h => ?_)))
           | ((with_reducible refine is_awp ?_); refine awp_cond rfl (fun h => ?_) (fun h => ?_))
           | fail)
          exact retP rfl rfl
      · have d2 : (!decide ((c.toNat : Int) = 37)) = true := by
          have : c.toNat ≠ 37 := fun q => hc (UInt8.toNat_inj.1 q)
          simp; omega
        rw [hdr, unqL_bad hp hc] at hf
        have hf : unqL s.data.toList = none := hf
        rw [hf]
        repeat' (first
         | refine st [] ?_
         | ((with_reducible refine is_gd ?_); refine awpL_split rfl rfl (fun h => ?_) (fun h => ?_))
         | ((with_reducible refine isD_gd ?_); ((fail_if_success (refine isD_kn (c := true) rfl qa0 ?_)); (fail_if_success (refine isD_kn (c := false) rfl qa0 ?_)); refine awpD_split rfl (fun h => ?_) (fun h => ?_)))
         | ((with_reducible refine is_awp ?_); refine awp_cond rfl (fun h => ?_) (fun h => ?_))
         | fail)
        exact retP rfl rfl
end Go.Proofs.YtigcjinpkngapaaGreatDoor
end
