/- A logic of trees over the model's steps, and the contracts of the functions that the laws reach: part 6 of 18. -/
import Derived.Test.YtigcjinpkngapaaGreatDoorE5
import Derived.Shelf.Small.Strs
import Derived.Shelf.Small.Wraps
import Derived.Shelf.Strings.Split
import Derived.Shelf.Strings.OnBuilder
set_option linter.unusedVariables false
set_option linter.unusedSimpArgs false
set_option linter.unusedSectionVars false
section
namespace Go.Proofs.YtigcjinpkngapaaGreatDoor
open Go.Ac
attribute [local irreducible] awp awpL Ev Ev2 EvS thenQ blockQ retQ PCalls OCalls
variable {g : List (Nat × List AV)}
abbrev u8v (c : UInt8) : AV := .v (.int .u8 c.toNat)
set_option maxHeartbeats 1000000 in
theorem r3plain_spec (c : UInt8) : PCalls Tryz.prog g 92 [u8v c] (vb (plainC c)) := by
  refine pcalls' Tryz.func92 Tryz.ntmps92 rfl rfl rfl ?_
  unfold plainC
  by_cases h1 : 128 ≤ c.toNat
  · have c1 : decide ((128 : Int) ≤ c.toNat) = true := decide_eq_true (by omega)
    rw [decide_eq_true h1]
    repeat' (first
     | refine stn [] ?_
     | ((with_reducible refine is_gd ?_); refine awpL_split rfl rfl (fun h => ?_) (fun h => ?_))
     | ((with_reducible refine is_awp ?_); refine awp_cond rfl (fun h => ?_) (fun h => ?_))
     | fail)
    exact retP rfl rfl
  have c1 : decide ((128 : Int) ≤ c.toNat) = false := decide_eq_false (by omega)
  rw [decide_eq_false h1, Bool.false_or]
  by_cases h2 : 33 ≤ c.toNat
  · have c2 : decide ((33 : Int) ≤ c.toNat) = true := decide_eq_true (by omega)
    have c2' : decide ((32 : Int) < c.toNat) = true := decide_eq_true (by omega)
    rw [decide_eq_true h2, Bool.true_and]
    by_cases h3 : c.toNat ≤ 126
    · have c3 : decide ((c.toNat : Int) ≤ 126) = true := decide_eq_true (by omega)
      have c3' : decide ((c.toNat : Int) < 127) = true := decide_eq_true (by omega)
      rw [decide_eq_true h3, Bool.true_and]
      by_cases h4 : c.toNat = 37
      · have c4 : (!decide ((c.toNat : Int) = 37)) = false := by simp [h4]
        rw [decide_eq_true h4]
        repeat' (first
         | refine stn [] ?_
         | ((with_reducible refine is_gd ?_); refine awpL_split rfl rfl (fun h => ?_) (fun h => ?_))
         | ((with_reducible refine is_awp ?_); refine awp_cond rfl (fun h => ?_) (fun h => ?_))
         | fail)
        refine retP rfl ?_
        simp [ex, c4]
      · have c4 : (!decide ((c.toNat : Int) = 37)) = true := by simp; omega
        rw [decide_eq_false h4]
        repeat' (first
         | refine stn [] ?_
         | ((with_reducible refine is_gd ?_); refine awpL_split rfl rfl (fun h => ?_) (fun h => ?_))
         | ((with_reducible refine is_awp ?_); refine awp_cond rfl (fun h => ?_) (fun h => ?_))
         | fail)
        refine retP rfl ?_
        simp [ex, c4]
    · have c3 : decide ((c.toNat : Int) ≤ 126) = false := decide_eq_false (by omega)
      have c3' : decide ((c.toNat : Int) < 127) = false := decide_eq_false (by omega)
      rw [decide_eq_false h3, Bool.false_and]
      repeat' (first
       | refine stn [] ?_
       | ((with_reducible refine is_gd ?_); refine awpL_split rfl rfl (fun h => ?_) (fun h => ?_))
       | ((with_reducible refine is_awp ?_); refine awp_cond rfl (fun h => ?_) (fun h => ?_))
       | fail)
      refine retP rfl ?_
      rfl
  · have c2 : decide ((33 : Int) ≤ c.toNat) = false := decide_eq_false (by omega)
    have c2' : decide ((32 : Int) < c.toNat) = false := decide_eq_false (by omega)
    rw [decide_eq_false h2, Bool.false_and]
    repeat' (first
     | refine stn [] ?_
     | ((with_reducible refine is_gd ?_); refine awpL_split rfl rfl (fun h => ?_) (fun h => ?_))
     | ((with_reducible refine is_awp ?_); refine awp_cond rfl (fun h => ?_) (fun h => ?_))
     | fail)
    refine retP rfl ?_
    rfl
theorem wplain_spec (c : UInt8) : PCalls Tryz.prog g 85 [u8v c] (vb (plainC c)) := by
  refine pcalls' Tryz.func85 Tryz.ntmps85 rfl rfl rfl ?_
  unfold plainC
  by_cases h1 : 128 ≤ c.toNat
  · have c1 : decide ((128 : Int) ≤ c.toNat) = true := decide_eq_true (by omega)
    rw [decide_eq_true h1]
    repeat' (first
     | refine stn [] ?_
     | ((with_reducible refine is_gd ?_); refine awpL_split rfl rfl (fun h => ?_) (fun h => ?_))
     | ((with_reducible refine is_awp ?_); refine awp_cond rfl (fun h => ?_) (fun h => ?_))
     | fail)
    exact retP rfl rfl
  have c1 : decide ((128 : Int) ≤ c.toNat) = false := decide_eq_false (by omega)
  rw [decide_eq_false h1, Bool.false_or]
  by_cases h2 : 33 ≤ c.toNat
  · have c2 : decide ((33 : Int) ≤ c.toNat) = true := decide_eq_true (by omega)
    have c2' : decide ((32 : Int) < c.toNat) = true := decide_eq_true (by omega)
    rw [decide_eq_true h2, Bool.true_and]
    by_cases h3 : c.toNat ≤ 126
    · have c3 : decide ((c.toNat : Int) ≤ 126) = true := decide_eq_true (by omega)
      have c3' : decide ((c.toNat : Int) < 127) = true := decide_eq_true (by omega)
      rw [decide_eq_true h3, Bool.true_and]
      by_cases h4 : c.toNat = 37
      · have c4 : (!decide ((c.toNat : Int) = 37)) = false := by simp [h4]
        rw [decide_eq_true h4]
        repeat' (first
         | refine stn [] ?_
         | ((with_reducible refine is_gd ?_); refine awpL_split rfl rfl (fun h => ?_) (fun h => ?_))
         | ((with_reducible refine is_awp ?_); refine awp_cond rfl (fun h => ?_) (fun h => ?_))
         | fail)
        refine retP rfl ?_
        simp [ex, c4]
      · have c4 : (!decide ((c.toNat : Int) = 37)) = true := by simp; omega
        rw [decide_eq_false h4]
        repeat' (first
         | refine stn [] ?_
         | ((with_reducible refine is_gd ?_); refine awpL_split rfl rfl (fun h => ?_) (fun h => ?_))
         | ((with_reducible refine is_awp ?_); refine awp_cond rfl (fun h => ?_) (fun h => ?_))
         | fail)
        refine retP rfl ?_
        simp [ex, c4]
    · have c3 : decide ((c.toNat : Int) ≤ 126) = false := decide_eq_false (by omega)
      have c3' : decide ((c.toNat : Int) < 127) = false := decide_eq_false (by omega)
      rw [decide_eq_false h3, Bool.false_and]
      repeat' (first
       | refine stn [] ?_
       | ((with_reducible refine is_gd ?_); refine awpL_split rfl rfl (fun h => ?_) (fun h => ?_))
       | ((with_reducible refine is_awp ?_); refine awp_cond rfl (fun h => ?_) (fun h => ?_))
       | fail)
      refine retP rfl ?_
      rfl
  · have c2 : decide ((33 : Int) ≤ c.toNat) = false := decide_eq_false (by omega)
    have c2' : decide ((32 : Int) < c.toNat) = false := decide_eq_false (by omega)
    rw [decide_eq_false h2, Bool.false_and]
    repeat' (first
     | refine stn [] ?_
     | ((with_reducible refine is_gd ?_); refine awpL_split rfl rfl (fun h => ?_) (fun h => ?_))
     | ((with_reducible refine is_awp ?_); refine awp_cond rfl (fun h => ?_) (fun h => ?_))
     | fail)
    refine retP rfl ?_
    rfl
theorem quoteC_len (c : UInt8) : (quoteC c).length ≤ 3 := by unfold quoteC; split <;> simp
theorem flat_len : ∀ l : List UInt8, (l.flatMap quoteC).length ≤ 3 * l.length
  | [] => by simp
  | c :: r => by
    rw [List.flatMap_cons, List.length_append, List.length_cons]
    have := quoteC_len c
    have := flat_len r
    omega
theorem flat_take {l : List UInt8} {k : Nat} {c : UInt8} (h : l[k]? = some c) : (l.take (k + 1)).flatMap quoteC = (l.take k).flatMap quoteC ++ quoteC c := by
  rw [List.take_add_one, h, Option.toList_some, List.flatMap_append]
  simp
def hexB : ByteArray := ⟨#[48, 49, 50, 51, 52, 53, 54, 55, 56, 57, 97, 98, 99, 100, 101, 102]⟩
theorem hex_get {n : Nat} (h : n < 16) {i : Int} (hi : i = n) : 0 ≤ i ∧ hexB.data[i.toNat]? = some (hexD n) := by
  subst hi
  refine ⟨by omega, ?_⟩
  rw [Int.toNat_natCast]
  exact (by decide : ∀ m : Fin 16, hexB.data[m.val]? = some (hexD m.val)) ⟨n, h⟩
theorem eq_empty (s : ByteArray) : s = .empty ↔ s.data.toList = [] := by
  constructor
  · rintro rfl; rfl
  · intro h
    have := toB_of s
    rw [h] at this
    exact this.symm
theorem eq_toB (s : ByteArray) (l : List UInt8) : s = toB l ↔ s.data.toList = l := by
  constructor
  · rintro rfl; exact toB_list l
  · intro h
    rw [← h, toB_of]
set_option maxRecDepth 4000 in
set_option maxHeartbeats 2000000 in
theorem r3Quote_spec (s : ByteArray) (hs : s.size ≤ 30000000) : PCalls Tryz.prog g 61 [.v (.string s)] (.v (.string (toB (quoteL s.data.toList)))) := by
  have hlen := size_list s
  have n1 : (!true) = false := rfl
  have n2 : (!false) = true := rfl
  refine pcalls' Tryz.func61 Tryz.ntmps61 rfl rfl rfl ?_
  by_cases h0 : s = ⟨#[]⟩
  · have c0 : decide (s = (⟨#[]⟩ : ByteArray)) = true := decide_eq_true h0
    have e : quoteL s.data.toList = [37, 45] := by rw [h0]; rfl
    rw [e]
    repeat' (first
     | refine stn [] ?_
     | ((with_reducible refine is_gd ?_); refine awpL_split rfl rfl (fun h => ?_) (fun h => ?_))
     | ((with_reducible refine is_awp ?_); refine awp_cond rfl (fun h => ?_) (fun h => ?_))
     | fail)
    exact retP rfl rfl
  have c0 : decide (s = (⟨#[]⟩ : ByteArray)) = false := decide_eq_false h0
  have e : quoteL s.data.toList = s.data.toList.flatMap quoteC := by
    unfold quoteL
    rw [if_neg]
    intro q
    exact h0 ((eq_empty s).2 q)
  rw [e]
  repeat' (first
   | ((with_reducible refine is_un ?_); refine awpL_ev2 (ev_bslice_o (t := 75) (n := 0) (es := []) rfl rfl rfl rfl rfl rfl rfl rfl rfl rfl rfl qf0 qc0) rfl ?_)
   | refine stn [] ?_
   | ((with_reducible refine is_gd ?_); refine awpL_split rfl rfl (fun h => ?_) (fun h => ?_))
   | ((with_reducible refine is_awp ?_); refine awp_cond rfl (fun h => ?_) (fun h => ?_))
   | fail)
  refine awp_for (α := Nat) 1 (fun k => [(0, .v (.string s)), (3, .os 0 0), (4, vi k)]) (fun k => [.own 0 5 1 (bytesL ((s.data.toList.take k).flatMap quoteC))]) (fun k => k ≤ s.size) (fun k => s.size - k) 0
    ⟨(.cons rfl rfl (.cons rfl rfl (.cons rfl rfl .nil))), rfl, rfl, rfl⟩ (Nat.zero_le _) ?_
  intro k hk
  have hcl := flat_len (s.data.toList.take k)
  rw [List.length_take] at hcl
  cases ht : s.data.toList[k]? with
  | none =>
    have hge : s.data.toList.length ≤ k := by simpa using ht
    have c1 : decide ((k : Int) < s.size) = false := decide_eq_false (by omega)
    rw [List.take_of_length_le hge]
    have hb : bytesL (s.data.toList.flatMap quoteC) = bytesL (s.data.toList.flatMap quoteC) := rfl
    repeat' (first
     | ((with_reducible refine is_un ?_); refine awpL_ev (ev_bts_os (l := s.data.toList.flatMap quoteC) rfl rfl rfl rfl rfl rfl rfl rfl rfl rfl) rfl ?_)
     | refine stn [] ?_
     | ((with_reducible refine is_gd ?_); refine awpL_split rfl rfl (fun h => ?_) (fun h => ?_))
     | ((with_reducible refine is_awp ?_); refine awp_cond rfl (fun h => ?_) (fun h => ?_))
     | fail)
    exact retP rfl rfl
  | some c =>
    have hlt : k < s.data.toList.length := (List.getElem?_eq_some_iff.1 ht).1
    have c1 : decide ((k : Int) < s.size) = true := decide_eq_true (by omega)
    have ik := byteL_get ht
    have hS := flat_take ht
    have hP := r3plain_spec (g := g) c
    generalize (s.data.toList.take k).flatMap quoteC = M at hS hcl ⊢
    generalize hM' : (s.data.toList.take (k + 1)).flatMap quoteC = M' at hS
    have hmb : (bytesL M).length ≤ 90000000 := by rw [bytesL, List.length_map]; omega
    cases hp : plainC c with
    | true =>
      rw [hp] at hP
      have hq : quoteC c = [c] := by simp [quoteC, hp]
      rw [hq] at hS
      have hj : bytesL M ++ [[u8v c]] = bytesL M' := by rw [hS]; simp [bytesL]
      repeat' (first
       | ((with_reducible refine is_un ?_); refine awpL_ev2 (ev_appB (es' := bytesL M') rfl rfl rfl rfl rfl rfl rfl rfl rfl rfl rfl rfl rfl qe0 hj rfl) rfl ?_)
       | refine stn [] ?_
       | ((with_reducible refine is_gd ?_); refine awpL_split rfl rfl (fun h => ?_) (fun h => ?_))
       | ((with_reducible refine is_awp ?_); refine awp_cond rfl (fun h => ?_) (fun h => ?_))
       | fail)
      exact ⟨k + 1, by rw [hM']; exact ⟨(.cons rfl rfl (.cons rfl rfl (.cons rfl rfl .nil))), rfl, rfl, rfl⟩, by omega, by omega⟩
    | false =>
      rw [hp] at hP
      have hc := toNat_lt c
      have hq : quoteC c = [37, hexD (c.toNat / 16), hexD (c.toNat % 16)] := by simp [quoteC, hp]
      rw [hq] at hS
      have hj : bytesL M ++ [[.v (.int .u8 37)], [u8v (hexD (c.toNat / 16))], [u8v (hexD (c.toNat % 16))]] = bytesL M' := by rw [hS]; simp [bytesL]
      have w1 : IntKind.u8.wrap ((c.toNat : Int).tdiv 16) = ((c.toNat / 16 : Nat) : Int) := u8_small rfl (by omega)
      have w2 : (c.toNat : Int).tmod 16 = ((c.toNat % 16 : Nat) : Int) := rfl
      have x1 := hex_get (n := c.toNat / 16) (by omega) rfl
      have x2 := hex_get (n := c.toNat % 16) (by omega) rfl
      repeat' (first
       | refine awp_drawT3 8 (by simp only [List.take_succ_cons, List.take_zero, List.take_nil]; rfl) (by simp only [List.drop_succ_cons, List.drop_zero, List.drop_nil]; rfl) (by kernel_rfl) rfl rfl rfl rfl (by repeat' (first | exact Strip.nil | apply Strip.keep rfl | apply Strip.drop rfl)) ?_
       | ((with_reducible refine is_un ?_); refine awpL_ev2 (ev_appB (es' := bytesL M') rfl rfl rfl rfl rfl rfl rfl rfl rfl rfl rfl rfl rfl qe0 hj rfl) rfl ?_)
       | ((with_reducible refine isD_un ?_); (first | refine awpD_un (as_ev (fun _ => ev_quoK rfl rfl (by decide) w1) rfl rfl) qb0 ?_ | refine awpD_un (as_ev (fun _ => ev_remK rfl rfl (by decide) w2) rfl rfl) qb0 ?_ | refine awpD_un (as_ev (fun _ => ev_index_str (s := hexB) rfl rfl rfl rfl x1) rfl rfl) qb0 ?_ | refine awpD_un (as_ev (fun _ => ev_index_str (s := hexB) rfl rfl rfl rfl x2) rfl rfl) qb0 ?_))
       | ((with_reducible refine isD_gd ?_); (first | refine awpD_gd rfl rfl qa0 (as_ev (fun _ => ev_quoK rfl rfl (by decide) w1) rfl rfl) qb0 ?_ | refine awpD_gd rfl rfl qa0 (as_ev (fun _ => ev_remK rfl rfl (by decide) w2) rfl rfl) qb0 ?_ | refine awpD_gd rfl rfl qa0 (as_ev (fun _ => ev_index_str (s := hexB) rfl rfl rfl rfl x1) rfl rfl) qb0 ?_ | refine awpD_gd rfl rfl qa0 (as_ev (fun _ => ev_index_str (s := hexB) rfl rfl rfl rfl x2) rfl rfl) qb0 ?_))
       | refine st [] ?_
       | ((with_reducible refine is_gd ?_); refine awpL_split rfl rfl (fun h => ?_) (fun h => ?_))
       | ((with_reducible refine isD_gd ?_); ((fail_if_success (refine isD_kn (c := true) rfl qa0 ?_)); (fail_if_success (refine isD_kn (c := false) rfl qa0 ?_)); refine awpD_split rfl (fun h => ?_) (fun h => ?_)))
       | ((with_reducible refine is_awp ?_); refine awp_cond rfl (fun h => ?_) (fun h => ?_))
       | fail)
      exact ⟨k + 1, by rw [hM']; exact ⟨(.cons rfl rfl (.cons rfl rfl (.cons rfl rfl .nil))), rfl, rfl, rfl⟩, by omega, by omega⟩
end Go.Proofs.YtigcjinpkngapaaGreatDoor
end
section
namespace Go.Proofs.YtigcjinpkngapaaGreatDoor
open Go.Ac
attribute [local irreducible] awp awpL Ev Ev2 EvS thenQ blockQ retQ PCalls OCalls
variable {g : List (Nat × List AV)}
def digI (c : UInt8) : Int := match unhex c with
  | some n => n
  | none => -1
theorem digI_some {c : UInt8} {n : Nat} (h : unhex c = some n) : digI c = n := by unfold digI; rw [h]
theorem digI_none {c : UInt8} (h : unhex c = none) : digI c = -1 := by unfold digI; rw [h]
abbrev unqV (o : Option (List UInt8)) : AV := .tup [.v (.string (toB (o.getD []))), vb o.isSome]
theorem unq_map {o : Option (List UInt8)} {M : List UInt8} {c : UInt8} : (o.map (c :: ·)).map (M ++ ·) = o.map ((M ++ [c]) ++ ·) := by
  cases o <;> simp
theorem unhex_lt {c : UInt8} {n : Nat} (h : unhex c = some n) : n < 16 := (hexD_unhex h).2
end Go.Proofs.YtigcjinpkngapaaGreatDoor
end
section
namespace Go.Proofs.YtigcjinpkngapaaGreatDoor
open Go.Ac
attribute [local irreducible] awp awpL Ev Ev2 EvS thenQ blockQ retQ PCalls OCalls
variable {g : List (Nat × List AV)}
def strC (s : ByteArray) : List AV := [.v (.string s)]
abbrev encSs (l : List ByteArray) : AV := .fs 1 l.length (l.map strC)
abbrev lst (s : ByteArray) : List UInt8 := s.data.toList
theorem str_get {l : List ByteArray} {k : Nat} {x : ByteArray} (h : l[k]? = some x) : 0 ≤ (k : Int) ∧ (l.map strC)[(k : Int).toNat]? = some (strC x) := ⟨by omega, by simp [h]⟩
theorem glue_snoc {c : UInt8} : ∀ {l : List (List UInt8)} (x : List UInt8), l ≠ [] → glue c (l ++ [x]) = glue c l ++ c :: x
  | [], _, h => absurd rfl h
  | [y], x, _ => rfl
  | y :: z :: r, x, _ => by
    have := glue_snoc (c := c) (l := z :: r) x (List.cons_ne_nil _ _)
    rw [List.cons_append, glue_cons y (by simp), this, glue_cons y (List.cons_ne_nil _ _)]
    simp
theorem quoteL_len (s : List UInt8) : (quoteL s).length ≤ 3 * s.length + 2 := by
  unfold quoteL
  split
  · simp
  · have := flat_len s; omega
def Words (l : List ByteArray) : Prop := l.length ≤ 100000 ∧ ∀ s ∈ l, s.size ≤ 250
theorem joinW_len {l : List ByteArray} (h : ∀ s ∈ l, s.size ≤ 250) : (joinW (l.map lst)).length ≤ 760 * l.length := by
  unfold joinW
  induction l with
  | nil => simp [glue]
  | cons x r ih =>
    have hx := h x (List.mem_cons_self ..)
    have hq := quoteL_len (lst x)
    have hl : (lst x).length = x.size := size_list x
    have ih := ih (fun s hs => h s (List.mem_cons_of_mem _ hs))
    simp only [List.map_cons, List.length_cons]
    cases r with
    | nil => simp only [List.map_nil, glue]; simp; omega
    | cons y r =>
      rw [glue_cons _ (by simp), List.length_append, List.length_cons]
      omega
theorem joinW_take {l : List ByteArray} {k : Nat} {x : ByteArray} (h : l[k]? = some x) : joinW ((l.take (k + 1)).map lst) = (if k = 0 then [] else joinW ((l.take k).map lst) ++ [32]) ++ quoteL (lst x) := by
  unfold joinW
  rw [List.take_add_one, h, Option.toList_some, List.map_append, List.map_append]
  by_cases hk : k = 0
  · subst hk; simp [glue]
  · rw [if_neg hk]
    have hlt := (List.getElem?_eq_some_iff.1 h).1
    simp only [List.map_cons, List.map_nil]
    rw [glue_snoc _ (by
      intro e
      rw [List.map_eq_nil_iff, List.map_eq_nil_iff, List.take_eq_nil_iff] at e
      rcases e with e | e
      · exact hk e
      · subst e; simp at hlt)]
    simp
theorem byteEs_B (l : List UInt8) : byteEs (toB l) = bytesL l := by
  unfold byteEs
  rw [toB_list]
  rfl
set_option maxRecDepth 4000 in
set_option maxHeartbeats 2000000 in
theorem r3Join_spec (l : List ByteArray) (hl : Words l) : PCalls Tryz.prog g 34 [encSs l] (.v (.string (toB (joinW (l.map lst))))) := by
  obtain ⟨hl, hw⟩ := hl
  refine pcalls' Tryz.func34 Tryz.ntmps34 rfl rfl rfl ?_
  repeat' (first
   | ((with_reducible refine is_un ?_); refine awpL_ev2 (ev_bslice_o (t := 75) (n := 0) (es := []) rfl rfl rfl rfl rfl rfl rfl rfl rfl rfl rfl qf0 qc0) rfl ?_)
   | refine stn [] ?_
   | ((with_reducible refine is_gd ?_); refine awpL_split rfl rfl (fun h => ?_) (fun h => ?_))
   | ((with_reducible refine is_awp ?_); refine awp_cond rfl (fun h => ?_) (fun h => ?_))
   | fail)
  refine awp_for (α := Nat) 1 (fun k => [(0, encSs l), (3, .os 0 (if k = 0 then 0 else 0)), (4, vi k)]) (fun k => [.own 0 5 1 (bytesL (joinW ((l.take k).map lst)))]) (fun k => k ≤ l.length) (fun k => l.length - k) 0
    ⟨(.cons rfl rfl (.cons rfl rfl (.cons rfl rfl .nil))), rfl, rfl, rfl⟩ (Nat.zero_le _) ?_
  intro k hk
  rw [show (if k = 0 then (0 : Nat) else 0) = 0 by split <;> rfl]
  have hcl := joinW_len (l := l.take k) (fun s hs => hw s (List.mem_of_mem_take hs))
  rw [List.length_take] at hcl
  cases ht : l[k]? with
  | none =>
    have hge : l.length ≤ k := by simpa using ht
    have c1 : decide ((k : Int) < l.length) = false := decide_eq_false (by omega)
    rw [List.take_of_length_le hge]
    repeat' (first
     | ((with_reducible refine is_un ?_); refine awpL_ev (ev_bts_os (l := joinW (l.map lst)) rfl rfl rfl rfl rfl rfl rfl rfl rfl rfl) rfl ?_)
     | refine stn [] ?_
     | ((with_reducible refine is_gd ?_); refine awpL_split rfl rfl (fun h => ?_) (fun h => ?_))
     | ((with_reducible refine is_awp ?_); refine awp_cond rfl (fun h => ?_) (fun h => ?_))
     | fail)
    exact retP rfl rfl
  | some x =>
    have hlt : k < l.length := (List.getElem?_eq_some_iff.1 ht).1
    have c1 : decide ((k : Int) < l.length) = true := decide_eq_true (by omega)
    have ik := str_get ht
    have hx := hw x (List.mem_of_getElem? ht)
    have hQ := r3Quote_spec (g := g) x (by omega)
    have hS := joinW_take ht
    have hql := quoteL_len (lst x)
    have hxl : (lst x).length = x.size := size_list x
    have hts : (toB (quoteL (lst x))).size = (quoteL (lst x)).length := toB_size _
    generalize joinW ((l.take k).map lst) = M at hS hcl ⊢
    generalize hM' : joinW ((l.take (k + 1)).map lst) = M' at hS
    have hmb : (bytesL M).length ≤ 90000000 := by rw [bytesL, List.length_map]; omega
    have hBE := byteEs_B (quoteL (lst x))
    by_cases h0 : k = 0
    · have c2 : decide ((0 : Int) < k) = false := decide_eq_false (by omega)
      rw [if_pos h0] at hS
      have hM0 : M = [] := by
        cases M with
        | nil => rfl
        | cons a r => subst h0; simp at hcl
      have hj : bytesL M ++ byteEs (toB (quoteL (lst x))) = bytesL M' := by rw [hBE, hS, hM0]; simp [bytesL]
      have hbd : (bytesL M).length + (toB (quoteL (lst x))).size ≤ 140737488355328 := by omega
      repeat' (first
       | ((with_reducible refine is_un ?_); refine awpL_ev2 (ev_appSS (es' := bytesL M') rfl rfl rfl rfl rfl rfl rfl rfl rfl rfl rfl rfl hbd hj rfl) rfl ?_)
       | refine stn [] ?_
       | ((with_reducible refine is_gd ?_); refine awpL_split rfl rfl (fun h => ?_) (fun h => ?_))
       | ((with_reducible refine is_awp ?_); refine awp_cond rfl (fun h => ?_) (fun h => ?_))
       | fail)
      exact ⟨k + 1, by rw [hM']; exact ⟨(.cons rfl rfl (.cons rfl rfl (.cons rfl rfl .nil))), rfl, rfl, rfl⟩, by omega, by omega⟩
    · have c2 : decide ((0 : Int) < k) = true := decide_eq_true (by omega)
      rw [if_neg h0] at hS
      have hj1 : bytesL M ++ [[.v (.int .u8 32)]] = bytesL (M ++ [32]) := by simp [bytesL]
      have hj : bytesL (M ++ [32]) ++ byteEs (toB (quoteL (lst x))) = bytesL M' := by rw [hBE, hS]; simp [bytesL]
      have hbd : (bytesL (M ++ [32])).length + (toB (quoteL (lst x))).size ≤ 140737488355328 := by simp only [bytesL, List.length_map, List.length_append, List.length_singleton]; omega
      repeat' (first
       | ((with_reducible refine is_un ?_); (first | refine awpL_ev2 (ev_appSS (es' := bytesL M') rfl rfl rfl rfl rfl rfl rfl rfl rfl rfl rfl rfl hbd hj rfl) rfl ?_ | refine awpL_ev2 (ev_appB (es' := bytesL (M ++ [32])) rfl rfl rfl rfl rfl rfl rfl rfl rfl rfl rfl rfl rfl qe0 hj1 rfl) rfl ?_))
       | refine stn [] ?_
       | ((with_reducible refine is_gd ?_); refine awpL_split rfl rfl (fun h => ?_) (fun h => ?_))
       | ((with_reducible refine is_awp ?_); refine awp_cond rfl (fun h => ?_) (fun h => ?_))
       | fail)
      exact ⟨k + 1, by rw [hM']; exact ⟨(.cons rfl rfl (.cons rfl rfl (.cons rfl rfl .nil))), rfl, rfl, rfl⟩, by omega, by omega⟩
theorem textW_take {l : List ByteArray} {k : Nat} {x : ByteArray} (h : l[k]? = some x) : textW ((l.take (k + 1)).map lst) = textW ((l.take k).map lst) ++ lst x ++ [10] := by
  unfold textW
  rw [List.take_add_one, h, Option.toList_some, List.map_append, List.flatMap_append]
  simp
def LinesB (l : List ByteArray) : Prop := l.length ≤ 1000 ∧ ∀ s ∈ l, s.size ≤ 80000
theorem textW_len {l : List ByteArray} (h : ∀ s ∈ l, s.size ≤ 80000) : (textW (l.map lst)).length ≤ 80001 * l.length := by
  unfold textW
  induction l with
  | nil => simp
  | cons x r ih =>
    have hx := h x (List.mem_cons_self ..)
    have hl : (lst x).length = x.size := size_list x
    have ih := ih (fun s hs => h s (List.mem_cons_of_mem _ hs))
    simp only [List.map_cons, List.flatMap_cons, List.length_append, List.length_cons, List.length_nil]
    omega
set_option maxRecDepth 4000 in
set_option maxHeartbeats 2000000 in
theorem r3Text_spec (l : List ByteArray) (hl : LinesB l) : PCalls Tryz.prog g 23 [encSs l] (.v (.string (toB (textW (l.map lst))))) := by
  obtain ⟨hl, hw⟩ := hl
  refine pcalls' Tryz.func23 Tryz.ntmps23 rfl rfl rfl ?_
  repeat' (first
   | ((with_reducible refine is_un ?_); refine awpL_ev2 (ev_bslice_o (t := 75) (n := 0) (es := []) rfl rfl rfl rfl rfl rfl rfl rfl rfl rfl rfl qf0 qc0) rfl ?_)
   | refine stn [] ?_
   | ((with_reducible refine is_gd ?_); refine awpL_split rfl rfl (fun h => ?_) (fun h => ?_))
   | ((with_reducible refine is_awp ?_); refine awp_cond rfl (fun h => ?_) (fun h => ?_))
   | fail)
  refine awp_for (α := Nat) 1 (fun k => [(0, encSs l), (3, .os 0 0), (4, vi k)]) (fun k => [.own 0 5 1 (bytesL (textW ((l.take k).map lst)))]) (fun k => k ≤ l.length) (fun k => l.length - k) 0
    ⟨(.cons rfl rfl (.cons rfl rfl (.cons rfl rfl .nil))), rfl, rfl, rfl⟩ (Nat.zero_le _) ?_
  intro k hk
  have hcl := textW_len (l := l.take k) (fun s hs => hw s (List.mem_of_mem_take hs))
  rw [List.length_take] at hcl
  cases ht : l[k]? with
  | none =>
    have hge : l.length ≤ k := by simpa using ht
    have c1 : decide ((k : Int) < l.length) = false := decide_eq_false (by omega)
    rw [List.take_of_length_le hge]
    repeat' (first
     | ((with_reducible refine is_un ?_); refine awpL_ev (ev_bts_os (l := textW (l.map lst)) rfl rfl rfl rfl rfl rfl rfl rfl rfl rfl) rfl ?_)
     | refine stn [] ?_
     | ((with_reducible refine is_gd ?_); refine awpL_split rfl rfl (fun h => ?_) (fun h => ?_))
     | ((with_reducible refine is_awp ?_); refine awp_cond rfl (fun h => ?_) (fun h => ?_))
     | fail)
    exact retP rfl rfl
  | some x =>
    have hlt : k < l.length := (List.getElem?_eq_some_iff.1 ht).1
    have c1 : decide ((k : Int) < l.length) = true := decide_eq_true (by omega)
    have ik := str_get ht
    have hx := hw x (List.mem_of_getElem? ht)
    have hS := textW_take ht
    generalize textW ((l.take k).map lst) = M at hS hcl ⊢
    generalize hM' : textW ((l.take (k + 1)).map lst) = M' at hS
    have hmb : (bytesL M).length ≤ 80010000 := by rw [bytesL, List.length_map]; omega
    have hj : bytesL M ++ byteEs x = bytesL (M ++ lst x) := by simp [bytesL, byteEs]
    have hbd : (bytesL M).length + x.size ≤ 140737488355328 := by omega
    have hmb2 : (bytesL (M ++ lst x)).length ≤ 90000000 := by
      have hxl : (lst x).length = x.size := size_list x
      simp only [bytesL, List.length_map, List.length_append] at hmb ⊢; omega
    have hj2 : bytesL (M ++ lst x) ++ [[.v (.int .u8 10)]] = bytesL M' := by rw [hS]; simp [bytesL]
    repeat' (first
     | ((with_reducible refine is_un ?_); (first | refine awpL_ev2 (ev_appSS (es' := bytesL (M ++ lst x)) rfl rfl rfl rfl rfl rfl rfl rfl rfl rfl rfl rfl hbd hj rfl) rfl ?_ | refine awpL_ev2 (ev_appB (es' := bytesL M') rfl rfl rfl rfl rfl rfl rfl rfl rfl rfl rfl rfl rfl qe0 hj2 rfl) rfl ?_))
     | refine stn [] ?_
     | ((with_reducible refine is_gd ?_); refine awpL_split rfl rfl (fun h => ?_) (fun h => ?_))
     | ((with_reducible refine is_awp ?_); refine awp_cond rfl (fun h => ?_) (fun h => ?_))
     | fail)
    exact ⟨k + 1, by rw [hM']; exact ⟨(.cons rfl rfl (.cons rfl rfl (.cons rfl rfl .nil))), rfl, rfl, rfl⟩, by omega, by omega⟩
end Go.Proofs.YtigcjinpkngapaaGreatDoor
end
section
namespace Go.Proofs.YtigcjinpkngapaaGreatDoor
open Go.Ac
attribute [local irreducible] awp awpL Ev Ev2 EvS thenQ blockQ retQ PCalls OCalls
variable {g : List (Nat × List AV)}
theorem map_lst (l : List ByteArray) : (l.map lst).map toB = l := by
  rw [List.map_map]
  conv => rhs; rw [← List.map_id l]
  exact List.map_congr_left fun x _ => toB_of x
abbrev optSs (o : Option (List (List UInt8))) : AV := .tup [encSs ((o.getD []).map toB), vb o.isSome]
theorem optSs_some (M : List ByteArray) : optSs (some (M.map lst)) = .tup [encSs M, vb true] := by
  unfold optSs
  rw [Option.getD_some, map_lst]
  rfl
theorem mapM_hit {a : List UInt8} {r : List (List UInt8)} : (a :: r).mapM unquoteL = match unquoteL a with | none => none | some x => (r.mapM unquoteL).map (x :: ·) := by
  rw [List.mapM_cons]
  cases unquoteL a with
  | none => rfl
  | some x => cases r.mapM unquoteL <;> rfl
end Go.Proofs.YtigcjinpkngapaaGreatDoor
end
section
namespace Go.Ac
open Go.RowKit
theorem two_args {F : Nat → Prop} {w : World} {x y : AV} {vs : Array Value} (h : TF F w [x, y] vs.toList) : ∃ u v, vs = #[u, v] ∧ RF F w x u ∧ RF F w y v := by
  simp only [TF] at h
  obtain ⟨u, s, e, h1, v, t, rfl, h2, rfl⟩ := h
  refine ⟨u, v, ?_, h1, h2⟩
  cases vs
  simp_all
theorem two_vals {F : Nat → Prop} {w : World} {x y : Value} {vs : Array Value} (h : TF F w [.v x, .v y] vs.toList) : vs = #[x, y] := by
  obtain ⟨u, v, rfl, h1, h2⟩ := two_args h
  simp only [RF] at h1 h2
  rw [h1, h2]
theorem u8_back (c : UInt8) : ((c.toNat : Int)).toNat.toUInt8 = c := by
  rw [Int.toNat_natCast]
  exact UInt8.ofNat_toNat
theorem idx_P {P : Program} {ρ : Go.Shelf.Ren} {g : List (Nat × List AV)} (L : Go.Proofs.Lays.n137 P ρ) (hc : Callable P (ρ.f 137)) (s : ByteArray) (c : UInt8) :
    PCalls P g (ρ.f 137) [.v (.string s), .v (.int .u8 c.toNat)] (.v (.int .i64 (Go.Lib.indexByte s.data.toList c))) := by
  refine PCalls.ofBelow hc fun F w vs st ha => ?_
  obtain rfl := two_vals ha
  have h := Go.Proofs.Any.strings_IndexByte L s (c.toNat : Int) w
  rw [u8_back] at h
  refine h.mono ?_
  rintro e w' ⟨rfl, rfl⟩
  exact ⟨rfl, Below.refl _ _⟩
theorem cutS_P {P : Program} {ρ : Go.Shelf.Ren} {g : List (Nat × List AV)} (L : Go.Proofs.Lays.n104 P ρ) (hc : Callable P (ρ.f 104)) (s p : ByteArray) (hs : s.size ≤ 9223372036854775807) :
    PCalls P g (ρ.f 104) [.v (.string s), .v (.string p)] (.tup [.v (.string ⟨(Go.Lib.trimSuffix s.data.toList p.data.toList).toArray⟩), .v (.bool (Go.Lib.hasSuffix s.data.toList p.data.toList))]) := by
  refine PCalls.ofBelowN hc fun F w vs st ha => ?_
  obtain rfl := two_vals ha
  refine (Go.Proofs.Any.strings_CutSuffix L s p w hs).mono ?_
  rintro e w' ⟨rfl, rfl⟩
  refine ⟨_, rfl, Below.refl _ _, ?_⟩
  simp only [RF, TF]
  exact ⟨_, rfl, _, _, rfl, rfl, _, _, rfl, rfl, rfl⟩
theorem strs_cells {F : Nat → Prop} {w : World} {xs : List ByteArray} {b o : Nat} (h : EF F w 1 (xs.map fun s => [AV.v (.string s)]) b o) (j : Nat) (x : ByteArray) (hj : xs[j]? = some x) : w.cell? ⟨b, o + j, none⟩ = some (.string x) := by
  obtain ⟨h1, h2⟩ := h.get (i := j) (e := [.v (.string x)]) (by rw [List.getElem?_map, hj]; rfl)
  obtain ⟨u, q1, q2, _⟩ := h2.get (i := 0) (x := .v (.string x)) rfl
  simp only [RF] at q2
  subst q2
  simpa using q1
def splitA (s sep : ByteArray) : List ByteArray := Go.Lib.splitB sep 0 (Go.Lib.countB s sep) s
theorem split_P {P : Program} {ρ : Go.Shelf.Ren} {g : List (Nat × List AV)} (L : Go.Proofs.Lays.n146 P ρ) (hi9 : (P.info? (ρ.t 9)).map (fun i => (i.zero, i.size, i.bytes)) = some (some (.string ByteArray.empty), 1, 16)) (hc : Callable P (ρ.f 146)) {m : Int} (hg : (ρ.g 1, [AV.v (.int .i64 m)]) ∈ g)
    (s sep : ByteArray) (hs : s.size < 4294967281) (h1 : 1 ≤ sep.size) :
    PCalls P g (ρ.f 146) [.v (.string s), .v (.string sep)] (.fs 1 (splitA s sep).length ((splitA s sep).map fun s => [AV.v (.string s)])) := by
  refine PCalls.ofBelowN hc fun F w vs st ha => ?_
  obtain rfl := two_vals ha
  have hm : w.cell? ⟨ρ.g 1, 0, none⟩ = some (.int .i64 m) := by
    obtain ⟨_, q, _⟩ := st.glob _ hg
    obtain ⟨u, q1, q2, _⟩ := q.get (i := 0) (x := .v (.int .i64 m)) rfl
    simp only [RF] at q2
    subst q2
    simpa [Cx.bare] using q1
  refine (Go.Proofs.Any.strings_Split L hi9 s sep m w hs hm h1).mono ?_
  rintro e w' ⟨rfl, rfl⟩
  have hl : (splitA s sep).length = Go.Lib.countB s sep + 1 := Go.Lib.splitB_all sep h1 0 _ s rfl
  refine ⟨_, rfl, (Below.refl _ _).alloc (Nat.le_refl _) _, ?_⟩
  simp only [RF]
  refine ⟨by simp, _, _, by rw [hl], by omega, fun _ => ⟨w.heap.size, 0, rfl, .inr ⟨Nat.le_refl _, by simp⟩, ?_⟩⟩
  refine EF.mk fun i e he => ?_
  rw [List.getElem?_map, Option.map_eq_some_iff] at he
  obtain ⟨x, hx, rfl⟩ := he
  refine ⟨rfl, MF.mk fun j y hj => ?_⟩
  have hj0 : j = 0 := by have := (List.getElem?_eq_some_iff.1 hj).1; simpa using this
  subst hj0
  cases hj
  refine ⟨.string x, ?_, by simp only [RF], rfl⟩
  have hh : (w.alloc (.cells ((Go.Lib.splitB sep 0 (Go.Lib.countB s sep) s).map Value.string).toArray (ρ.t 9))).heap[w.heap.size]? = some (.cells ((splitA s sep).map Value.string).toArray (ρ.t 9) (0, 0)) := heap_alloc_new w _
  simp only [World.cell?, hh]
  simp [hx]
end Go.Ac
end
section
namespace Go.Ac
section
variable {P : Program} {G : Glo} {N : Nat} {S : SL} {L : List LB} {ty : TypeId}
theorem ev_shlK {xt yt : TypeId} {u e : Operand} {k j : IntKind} {p q r : Int} (h1 : val G S u = some (.v (.int k p))) (h2 : val G S e = some (.v (.int j q))) (hq : 0 ≤ q) (hr : k.wrap (p * 2 ^ min q.toNat k.bits) = r) : Ev P G N (.binOp .shl xt u e yt) ty S L (.v (.int k r)) := by
  subst hr
  intro o ho _ cx a hc
  have e1 := val_R hc h1
  have e2 := val_R hc h2
  simp only [R] at e1 e2
  refine ⟨_, ?_, by simp only [R]; rfl⟩
  simp only [execOp, ho, e1, e2]
  simp [eqGuard, binOp, Op.shift, Int.not_lt.mpr hq]
theorem ev_orK {xt yt : TypeId} {u e : Operand} {k : IntKind} {p q r : Int} (h1 : val G S u = some (.v (.int k p))) (h2 : val G S e = some (.v (.int k q))) (hr : k.wrap (BitVec.ofInt k.bits p ||| BitVec.ofInt k.bits q).toNat = r) : Ev P G N (.binOp .or xt u e yt) ty S L (.v (.int k r)) := by
  subst hr
  intro o ho _ cx a hc
  have e1 := val_R hc h1
  have e2 := val_R hc h2
  simp only [R] at e1 e2
  refine ⟨_, ?_, by simp only [R]; rfl⟩
  simp only [execOp, ho, e1, e2]
  simp [eqGuard, binOp, Op.intBits]
theorem ev_andK {xt yt : TypeId} {u e : Operand} {k : IntKind} {p q r : Int} (h1 : val G S u = some (.v (.int k p))) (h2 : val G S e = some (.v (.int k q))) (hr : k.wrap (BitVec.ofInt k.bits p &&& BitVec.ofInt k.bits q).toNat = r) : Ev P G N (.binOp .and xt u e yt) ty S L (.v (.int k r)) := by
  subst hr
  intro o ho _ cx a hc
  have e1 := val_R hc h1
  have e2 := val_R hc h2
  simp only [R] at e1 e2
  refine ⟨_, ?_, by simp only [R]; rfl⟩
  simp only [execOp, ho, e1, e2]
  simp [eqGuard, binOp, Op.intBits]
end
end Go.Ac
end
section
namespace Go.Proofs.YtigcjinpkngapaaGreatDoor
open Go.Ac
attribute [local irreducible] awp awpL Ev Ev2 EvS thenQ blockQ retQ PCalls OCalls
variable {g : List (Nat × List AV)}
def laysIdx_ren : Go.Shelf.Ren := ⟨fun | 137 => 131 | 217 => 163 | 266 => 185 | n => n, fun | 9 => 9 | 5 => 5 | 3 => 3 | n => n, fun n => n⟩
theorem laysIdx : Go.Proofs.Lays.n137 Tryz.prog laysIdx_ren := {
  mixed := by kernel_rfl
  f137 := Tryz.func131.trans (congrArg some (by kernel_rfl))
  f217 := Tryz.func163.trans (congrArg some (by kernel_rfl))
  f266 := Tryz.func185.trans (congrArg some (by kernel_rfl))
  t3 := Tryz.underlying3
  a3 := Tryz.isAgg3
  z3 := Tryz.sizeOf3
  v3 := Tryz.zeroValue3
  t5 := Tryz.underlying5
  a5 := Tryz.isAgg5
  z5 := Tryz.sizeOf5
  v5 := Tryz.zeroValue5
  t9 := Tryz.underlying9
  a9 := Tryz.isAgg9
  z9 := Tryz.sizeOf9
  v9 := Tryz.zeroValue9 }
theorem Idx_spec (s : ByteArray) (c : UInt8) : PCalls Tryz.prog g 131 [.v (.string s), u8v c] (vi (Go.Lib.indexByte (lst s) c)) :=
  idx_P laysIdx (callable Tryz.func131 rfl rfl) s c
theorem hex_idx (c : UInt8) : Go.Lib.indexByte (lst hexB) c = digI c := by
  have h : ∀ n : Fin 256, Go.Lib.indexByte (lst hexB) (UInt8.ofNat n.val) = digI (UInt8.ofNat n.val) := by decide +kernel
  have := h ⟨c.toNat, c.toNat_lt⟩
  rwa [show UInt8.ofNat c.toNat = c from UInt8.ofNat_toNat] at this
theorem hexI_spec (c : UInt8) : PCalls Tryz.prog g 131 [.v (.string hexB), u8v c] (vi (digI c)) := by
  rw [← hex_idx]
  exact Idx_spec hexB c
theorem shl4 {h : Nat} (hh : h < 16) : IntKind.i64.wrap ((h : Int) * 2 ^ min (4 : Int).toNat IntKind.i64.bits) = ((16 * h : Nat) : Int) := by
  show IntKind.i64.wrap ((h : Int) * 16) = _
  rw [wrap_in (by omega) (by omega)]
  omega
theorem or4 {h l : Nat} (hh : h < 16) (hl : l < 16) : IntKind.i64.wrap (BitVec.ofInt IntKind.i64.bits ((16 * h : Nat) : Int) ||| BitVec.ofInt IntKind.i64.bits (l : Int)).toNat = ((16 * h + l : Nat) : Int) :=
  (by decide +kernel : ∀ a b : Fin 16, IntKind.i64.wrap (BitVec.ofInt IntKind.i64.bits ((16 * a.val : Nat) : Int) ||| BitVec.ofInt IntKind.i64.bits (b.val : Int)).toNat = ((16 * a.val + b.val : Nat) : Int)) ⟨h, hh⟩ ⟨l, hl⟩
theorem unqL_ne {l : List UInt8} (h : l ≠ []) : unqL l ≠ some [] := by
  intro e
  have := quote_unq l.length l [] (Nat.le_refl _) e
  exact h this.symm
theorem unq_end {l : List UInt8} (h0 : l ≠ [37, 45]) : unqV (unquoteL l) = .tup [.v (.string (toB ((unqL l).getD []))), vb (decide ((0 : Int) < ((bytesL ((unqL l).getD [])).length : Int)))] := by
  unfold unquoteL
  rw [if_neg h0]
  by_cases h : l = []
  · rw [if_pos h, h]; rfl
  rw [if_neg h]
  cases e : unqL l with
  | none => rfl
  | some M =>
    have hM : M ≠ [] := fun q => unqL_ne h (by rw [e, q])
    have : decide ((0 : Int) < ((bytesL M).length : Int)) = true := by
      have := List.length_pos_iff.2 hM
      rw [bytesL, List.length_map]
      exact decide_eq_true (by omega)
    simp only [Option.getD_some, this]
    rfl
set_option maxRecDepth 4000 in
set_option maxHeartbeats 4000000 in
theorem wUnquote_spec (s : ByteArray) (hs : s.size ≤ 90000000) : PCalls Tryz.prog g 95 [.v (.string s)] (unqV (unquoteL s.data.toList)) := by
  have hlen := size_list s
  have n1 : (!true) = false := rfl
  have n2 : (!false) = true := rfl
  have zz : decide ((-1 : Int) < 0) = true := rfl
  refine pcalls' Tryz.func95 Tryz.ntmps95 rfl rfl rfl ?_
  by_cases h0 : s = ⟨#[37, 45]⟩
  · have c0 : decide (s = (⟨#[37, 45]⟩ : ByteArray)) = true := decide_eq_true h0
    have e : unquoteL s.data.toList = some [] := by rw [h0]; rfl
    rw [e]
    repeat' (first
     | refine stn [] ?_
     | ((with_reducible refine is_gd ?_); refine awpL_split rfl rfl (fun h => ?_) (fun h => ?_))
     | ((with_reducible refine is_awp ?_); refine awp_cond rfl (fun h => ?_) (fun h => ?_))
     | fail)
    exact retP rfl rfl
  have c0 : decide (s = (⟨#[37, 45]⟩ : ByteArray)) = false := decide_eq_false h0
  rw [unq_end (fun q => h0 ((eq_toB s [37, 45]).2 q))]
  repeat' (first
   | refine stn [] ?_
   | ((with_reducible refine is_gd ?_); refine awpL_split rfl rfl (fun h => ?_) (fun h => ?_))
   | ((with_reducible refine is_awp ?_); refine awp_cond rfl (fun h => ?_) (fun h => ?_))
   | fail)
  refine awp_adopt (t := 4) (E := 5) (sz := 1) rfl rfl rfl ?_
  repeat' (first
   | refine stn [] ?_
   | ((with_reducible refine is_gd ?_); refine awpL_split rfl rfl (fun h => ?_) (fun h => ?_))
   | ((with_reducible refine is_awp ?_); refine awp_cond rfl (fun h => ?_) (fun h => ?_))
   | fail)
  refine awp_for2 (α := Nat) (β := List UInt8) 1 (fun k _ => [(0, .v (.string s)), (4, .os 0 0), (5, vi k)]) (fun _ M => [.own 0 5 1 (bytesL M)]) (fun k M => k ≤ s.size ∧ M.length ≤ k ∧ unqL s.data.toList = (unqL (s.data.toList.drop k)).map (M ++ ·)) (fun k _ => s.size - k) 0 []
    ⟨(.cons rfl rfl (.cons rfl rfl (.cons rfl rfl .nil))), rfl, rfl, rfl⟩ ⟨Nat.zero_le _, Nat.zero_le _, by simp⟩ ?_
  rintro k M ⟨hk, hM, hf⟩
  have hmb : (bytesL M).length ≤ 90000000 := by rw [bytesL, List.length_map]; omega
  cases ht : s.data.toList[k]? with
  | none =>
    have hge : s.data.toList.length ≤ k := by simpa using ht
    have d1 : decide ((k : Int) < s.size) = false := decide_eq_false (by omega)
    rw [List.drop_of_length_le hge] at hf
    have hf : unqL s.data.toList = some M := by rw [hf]; simp [unqL]
    rw [hf]
    repeat' (first
     | ((with_reducible refine is_un ?_); refine awpL_ev (ev_bts_os (l := M) rfl rfl rfl rfl rfl rfl rfl rfl rfl rfl) rfl ?_)
     | refine stn [] ?_
     | ((with_reducible refine is_gd ?_); refine awpL_split rfl rfl (fun h => ?_) (fun h => ?_))
     | ((with_reducible refine is_awp ?_); refine awp_cond rfl (fun h => ?_) (fun h => ?_))
     | fail)
    exact retP rfl rfl
  | some c =>
    have hlt : k < s.data.toList.length := (List.getElem?_eq_some_iff.1 ht).1
    have d1 : decide ((k : Int) < s.size) = true := decide_eq_true (by omega)
    have ik := byteL_get ht
    have hdr := dropB_cons ht
    have hP := wplain_spec (g := g) c
    cases hp : plainC c with
    | true =>
      rw [hp] at hP
      rw [hdr, unqL_plain hp, unq_map] at hf
      have hj : bytesL M ++ [[u8v c]] = bytesL (M ++ [c]) := by simp [bytesL]
      repeat' (first
       | ((with_reducible refine is_un ?_); refine awpL_ev2 (ev_appB (es' := bytesL (M ++ [c])) rfl rfl rfl rfl rfl rfl rfl rfl rfl rfl rfl rfl rfl qe0 hj rfl) rfl ?_)
       | refine stn [] ?_
       | ((with_reducible refine is_gd ?_); refine awpL_split rfl rfl (fun h => ?_) (fun h => ?_))
       | ((with_reducible refine is_awp ?_); refine awp_cond rfl (fun h => ?_) (fun h => ?_))
       | fail)
      exact ⟨k + 1, M ++ [c], ⟨(.cons rfl rfl (.cons rfl rfl (.cons rfl rfl .nil))), rfl, rfl, rfl⟩, ⟨by omega, by simp; omega, hf⟩, by omega⟩
    | false =>
      rw [hp] at hP
      by_cases hc : c = 37
      · have d2 : (!decide ((c.toNat : Int) = 37)) = false := by rw [hc]; rfl
        by_cases h2 : k + 2 < s.size
        · have d3 : decide ((s.size : Int) ≤ (k : Int) + 2) = false := decide_eq_false (by omega)
          obtain ⟨a, ha⟩ : ∃ a, s.data.toList[k + 1]? = some a := ⟨_, List.getElem?_eq_getElem (by omega)⟩
          obtain ⟨b, hb⟩ : ∃ b, s.data.toList[k + 2]? = some b := ⟨_, List.getElem?_eq_getElem (by omega)⟩
          have ia : 0 ≤ (k : Int) + 1 ∧ s.data[((k : Int) + 1).toNat]? = some a := ⟨by omega, by rw [show ((k : Int) + 1).toNat = k + 1 by omega]; simpa using ha⟩
          have ib : 0 ≤ (k : Int) + 2 ∧ s.data[((k : Int) + 2).toNat]? = some b := ⟨by omega, by rw [show ((k : Int) + 2).toNat = k + 2 by omega]; simpa using hb⟩
          have hd2 : unqL (s.data.toList.drop k) = (pairC a b).bind fun x => (unqL (s.data.toList.drop (k + 3))).map (x :: ·) := by
            rw [hdr, dropB_cons ha, dropB_cons hb, hc, unqL_pct]
          have hDa := hexI_spec (g := g) a
          have hDb := hexI_spec (g := g) b
          cases ua : unhex a with
          | none =>
            rw [digI_none ua] at hDa
            have hpc : pairC a b = none := by unfold pairC; rw [ua]
            rw [hd2, hpc] at hf
            have hf : unqL s.data.toList = none := hf
            rw [hf]
            generalize digI b = db at *
            repeat' (first
             | refine st [] ?_
             | ((with_reducible refine is_gd ?_); refine awpL_split rfl rfl (fun h => ?_) (fun h => ?_))
             | ((with_reducible refine isD_gd ?_); ((fail_if_success (refine isD_kn (c := true) rfl qa0 ?_)); (fail_if_success (refine isD_kn (c := false) rfl qa0 ?_)); refine awpD_split rfl (fun h => ?_) (fun h => ?_)))
             | ((with_reducible refine is_awp ?_); refine awp_cond rfl (fun h => ?_) (fun h => ?_))
             | fail)
            exact retP rfl rfl
          | some h =>
            have hh := unhex_lt ua
            rw [digI_some ua] at hDa
            have d4 : decide ((h : Int) < 0) = false := decide_eq_false (by omega)
            have w0 := shl4 hh
            cases ub : unhex b with
            | none =>
              rw [digI_none ub] at hDb
              have hpc : pairC a b = none := by unfold pairC; rw [ua, ub]
              rw [hd2, hpc] at hf
              have hf : unqL s.data.toList = none := hf
              rw [hf]
              repeat' (first
               | refine st [] ?_
               | ((with_reducible refine is_gd ?_); refine awpL_split rfl rfl (fun h => ?_) (fun h => ?_))
               | ((with_reducible refine isD_gd ?_); ((fail_if_success (refine isD_kn (c := true) rfl qa0 ?_)); (fail_if_success (refine isD_kn (c := false) rfl qa0 ?_)); refine awpD_split rfl (fun h => ?_) (fun h => ?_)))
               | ((with_reducible refine is_awp ?_); refine awp_cond rfl (fun h => ?_) (fun h => ?_))
               | fail)
              exact retP rfl rfl
            | some l =>
              have hl := unhex_lt ub
              rw [digI_some ub] at hDb
              have d5 : decide ((l : Int) < 0) = false := decide_eq_false (by omega)
              have e1 : (UInt8.ofNat (16 * h + l)).toNat = 16 * h + l := by rw [UInt8.toNat_ofNat']; omega
              have w9 := or4 hh hl
              have w1 : IntKind.u8.wrap ((16 * h + l : Nat) : Int) = ((UInt8.ofNat (16 * h + l)).toNat : Int) := by rw [e1]; exact u8_small (by omega) (by omega)
              have hPx := wplain_spec (g := g) (UInt8.ofNat (16 * h + l))
              cases hp2 : plainC (UInt8.ofNat (16 * h + l)) with
              | true =>
                rw [hp2] at hPx
                have hpc : pairC a b = none := by unfold pairC; rw [ua, ub]; simp only [hp2, if_true]
                rw [hd2, hpc] at hf
                have hf : unqL s.data.toList = none := hf
                rw [hf]
                generalize UInt8.ofNat (16 * h + l) = x at *
                repeat' (first
                 | ((with_reducible refine is_un ?_); (first | refine awpL_ev (ev_shlK rfl rfl (by decide) w0) rfl ?_ | refine awpL_ev (ev_orK rfl rfl w9) rfl ?_ | refine awpL_ev (ev_conv_int rfl rfl rfl rfl w1) rfl ?_))
                 | ((with_reducible refine isD_un ?_); (first | refine awpD_un (as_ev (fun _ => ev_shlK rfl rfl (by decide) w0) rfl rfl) qb0 ?_ | refine awpD_un (as_ev (fun _ => ev_orK rfl rfl w9) rfl rfl) qb0 ?_ | refine awpD_un (as_ev (fun _ => ev_conv_int rfl rfl rfl rfl w1) rfl rfl) qb0 ?_))
                 | ((with_reducible refine isD_gd ?_); (first | refine awpD_gd rfl rfl qa0 (as_ev (fun _ => ev_shlK rfl rfl (by decide) w0) rfl rfl) qb0 ?_ | refine awpD_gd rfl rfl qa0 (as_ev (fun _ => ev_orK rfl rfl w9) rfl rfl) qb0 ?_ | refine awpD_gd rfl rfl qa0 (as_ev (fun _ => ev_conv_int rfl rfl rfl rfl w1) rfl rfl) qb0 ?_))
                 | refine st [] ?_
                 | ((with_reducible refine is_gd ?_); refine awpL_split rfl rfl (fun h => ?_) (fun h => ?_))
                 | ((with_reducible refine isD_gd ?_); ((fail_if_success (refine isD_kn (c := true) rfl qa0 ?_)); (fail_if_success (refine isD_kn (c := false) rfl qa0 ?_)); refine awpD_split rfl (fun h => ?_) (fun h => ?_)))
                 | ((with_reducible refine is_awp ?_); refine awp_cond rfl (fun h => ?_) (fun h => ?_))
                 | fail)
                exact retP rfl rfl
              | false =>
                rw [hp2] at hPx
                have hpc : pairC a b = some (UInt8.ofNat (16 * h + l)) := by unfold pairC; rw [ua, ub]; simp only [hp2, Bool.false_eq_true, if_false]
                generalize UInt8.ofNat (16 * h + l) = x at *
                rw [hd2, hpc] at hf
                have hf : unqL s.data.toList = ((unqL (s.data.toList.drop (k + 3))).map (x :: ·)).map (M ++ ·) := hf
                rw [unq_map] at hf
                have hj : bytesL M ++ [[u8v x]] = bytesL (M ++ [x]) := by simp [bytesL]
                repeat' (first
                 | ((with_reducible refine is_un ?_); (first | refine awpL_ev (ev_shlK rfl rfl (by decide) w0) rfl ?_ | refine awpL_ev (ev_orK rfl rfl w9) rfl ?_ | refine awpL_ev (ev_conv_int rfl rfl rfl rfl w1) rfl ?_ | refine awpL_ev2 (ev_appB (es' := bytesL (M ++ [x])) rfl rfl rfl rfl rfl rfl rfl rfl rfl rfl rfl rfl rfl qe0 hj rfl) rfl ?_))
                 | ((with_reducible refine isD_un ?_); (first | refine awpD_un (as_ev (fun _ => ev_shlK rfl rfl (by decide) w0) rfl rfl) qb0 ?_ | refine awpD_un (as_ev (fun _ => ev_orK rfl rfl w9) rfl rfl) qb0 ?_ | refine awpD_un (as_ev (fun _ => ev_conv_int rfl rfl rfl rfl w1) rfl rfl) qb0 ?_))
                 | ((with_reducible refine isD_gd ?_); (first | refine awpD_gd rfl rfl qa0 (as_ev (fun _ => ev_shlK rfl rfl (by decide) w0) rfl rfl) qb0 ?_ | refine awpD_gd rfl rfl qa0 (as_ev (fun _ => ev_orK rfl rfl w9) rfl rfl) qb0 ?_ | refine awpD_gd rfl rfl qa0 (as_ev (fun _ => ev_conv_int rfl rfl rfl rfl w1) rfl rfl) qb0 ?_))
                 | refine st [] ?_
                 | ((with_reducible refine is_gd ?_); refine awpL_split rfl rfl (fun h => ?_) (fun h => ?_))
                 | ((with_reducible refine isD_gd ?_); ((fail_if_success (refine isD_kn (c := true) rfl qa0 ?_)); (fail_if_success (refine isD_kn (c := false) rfl qa0 ?_)); refine awpD_split rfl (fun h => ?_) (fun h => ?_)))
                 | ((with_reducible refine is_awp ?_); refine awp_cond rfl (fun h => ?_) (fun h => ?_))
                 | fail)
                exact ⟨k + 3, M ++ [x], ⟨(.cons rfl rfl (.cons rfl rfl (.cons rfl rfl .nil))), rfl, rfl, rfl⟩, ⟨by omega, by simp; omega, hf⟩, by omega⟩
        · have d3 : decide ((s.size : Int) ≤ (k : Int) + 2) = true := decide_eq_true (by omega)
          have hn : unqL (s.data.toList.drop k) = none := by
            rw [hdr, hc]
            exact unqL_short (by rw [List.length_drop]; omega)
          rw [hn] at hf
          have hf : unqL s.data.toList = none := hf
          rw [hf]
          repeat' (first
           | refine st [] ?_
           | ((with_reducible refine is_gd ?_); refine awpL_split rfl rfl (fun h => ?_) (fun h => ?_))
           | ((with_reducible refine isD_gd ?_); ((fail_if_success (refine isD_kn (c := true) rfl qa0 ?_)); (fail_if_success (refine isD_kn (c := false) rfl qa0 ?_)); refine awpD_split rfl (fun h => ?_) (fun h => ?_)))
           | ((with_reducible refine is_awp ?_); refine awp_cond rfl (fun h => ?_) (fun h => ?_))
           | fail)
          exact retP rfl rfl
      · have d2 : (!decide ((c.toNat : Int) = 37)) = true := by
          have : c.toNat ≠ 37 := fun q => hc (UInt8.toNat_inj.1 q)
          simp; omega
        rw [hdr, unqL_bad hp hc] at hf
        have hf : unqL s.data.toList = none := hf
        rw [hf]
        repeat' (first
         | refine st [] ?_
         | ((with_reducible refine is_gd ?_); refine awpL_split rfl rfl (fun h => ?_) (fun h => ?_))
         | ((with_reducible refine isD_gd ?_); ((fail_if_success (refine isD_kn (c := true) rfl qa0 ?_)); (fail_if_success (refine isD_kn (c := false) rfl qa0 ?_)); refine awpD_split rfl (fun h => ?_) (fun h => ?_)))
         | ((with_reducible refine is_awp ?_); refine awp_cond rfl (fun h => ?_) (fun h => ?_))
         | fail)
        exact retP rfl rfl
end Go.Proofs.YtigcjinpkngapaaGreatDoor
end
