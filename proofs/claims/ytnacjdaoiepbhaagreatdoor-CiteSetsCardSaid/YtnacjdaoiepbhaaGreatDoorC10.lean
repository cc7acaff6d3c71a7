/- A logic of trees over the model's steps, and the contracts of the functions that the laws reach: part 10 of 15. -/
import Derived.Test.YtnacjdaoiepbhaaGreatDoorC9
set_option linter.unusedVariables false
set_option linter.unusedSimpArgs false
set_option linter.unusedSectionVars false
section
namespace Go.Proofs.YtnacjdaoiepbhaaGreatDoor
open Go.Ac
attribute [local irreducible] awp awpL Ev Ev2 EvS thenQ blockQ retQ PCalls OCalls YieldOk IterC ICalls
variable {g : List (Nat × List AV)}
abbrev encSpans (l : List Span) : AV := .fs 2 l.length (l.map spanC)
theorem span_get {l : List Span} {k : Nat} {x : Span} (h : l[k]? = some x) : 0 ≤ (k : Int) ∧ (l.map spanC)[(k : Int).toNat]? = some (spanC x) := ⟨by omega, by simp [h]⟩
set_option maxHeartbeats 1000000 in
theorem CloneS_spec (l : List Span) (hl : l.length ≤ 100000) : OCalls Tryz.prog g 120 [encSpans l] 63 2 (l.map spanC) := by
  have hj : ([] : List (List AV)) ++ l.map spanC = l.map spanC := rfl
  refine ocalls' Tryz.func120 Tryz.ntmps120 rfl rfl rfl ?_
  repeat' (first
   | refine awp_retA (t := 2) (E := 63) (sz := 2) rfl ?_
   | ((with_reducible refine is_un ?_); (first | refine awpL_eqnil rfl rfl rfl rfl (fun h0 => ?_) ?_ | refine awpL_ev2 (ev_bslice_o (t := 54) (n := 0) (es := []) rfl rfl rfl rfl rfl rfl rfl rfl rfl rfl rfl (by (try simp only [List.length_nil, List.length_cons, Nat.reduceAdd]); (try rfl)) (by (try simp only [List.set_cons_zero, List.set_cons_succ, List.nil_append, List.cons_append, List.append_nil, cellsOf, List.take_zero, List.drop_zero, List.take_succ_cons, List.drop_succ_cons, Nat.zero_add, Nat.reduceAdd, List.drop_nil, List.map_cons, List.map_nil]); (try rfl))) rfl ?_ | refine awpL_ev2 (ev_app (es' := l.map spanC) rfl rfl rfl rfl rfl rfl rfl rfl rfl rfl rfl rfl rfl (by simp only [List.length_map, List.length_cons, List.length_nil, List.length_append, List.length_take]; omega) hj rfl) rfl ?_))
   | refine stn [] ?_
   | ((with_reducible refine is_gd ?_); refine awpL_split rfl rfl (fun h => ?_) (fun h => ?_))
   | ((with_reducible refine is_awp ?_); refine awp_cond rfl (fun h => ?_) (fun h => ?_))
   | fail)
  · have hl0 : l = [] := List.eq_nil_of_length_eq_zero h0
    subst hl0
    exact retO rfl rfl
  · exact retO rfl rfl
def idxFrom (p : Span → Bool) : Nat → List Span → Int
  | _, [] => -1
  | k, x :: r => if p x then k else idxFrom p (k + 1) r
theorem idxFrom_drop {p : Span → Bool} {l : List Span} {k : Nat} {x : Span} (h : l[k]? = some x) : idxFrom p k (l.drop k) = if p x then (k : Int) else idxFrom p (k + 1) (l.drop (k + 1)) := by
  obtain ⟨h1, h2⟩ := List.getElem?_eq_some_iff.1 h
  rw [List.drop_eq_getElem_cons h1, h2]; rfl
theorem idxFrom_any (p : Span → Bool) : ∀ (l : List Span) (k : Nat), (decide (0 ≤ idxFrom p k l)) = l.any p
  | [], k => rfl
  | x :: r, k => by
    simp only [idxFrom, List.any_cons]
    split
    · rename_i h; simp [h]
    · rename_i h; rw [idxFrom_any p r (k + 1)]; simp [h]
theorem idxFrom_cases (p : Span → Bool) : ∀ (l : List Span) (k : Nat), (idxFrom p k l = -1 ∧ ∀ x ∈ l, p x = false) ∨ ∃ (j : Nat) (x : Span), idxFrom p k l = ((k + j : Nat) : Int) ∧ l[j]? = some x ∧ p x = true ∧ ∀ y ∈ l.take j, p y = false
  | [], k => .inl ⟨rfl, by simp⟩
  | x :: r, k => by
    simp only [idxFrom]
    split
    · rename_i h; exact .inr ⟨0, x, by simp, rfl, h, by simp⟩
    · rename_i h
      rcases idxFrom_cases p r (k + 1) with ⟨h1, h2⟩ | ⟨j, y, h1, h2, h3, h4⟩
      · refine .inl ⟨h1, ?_⟩
        intro y hy
        rcases List.mem_cons.1 hy with rfl | hy
        · simpa using h
        · exact h2 y hy
      · refine .inr ⟨j + 1, y, by rw [h1]; congr 1; omega, by simpa using h2, h3, ?_⟩
        intro z hz
        rw [List.take_succ_cons] at hz
        rcases List.mem_cons.1 hz with rfl | hz
        · simpa using h
        · exact h4 z hz
set_option maxHeartbeats 1000000 in
theorem IndexS0_spec (p : Span → Bool) (f : FuncId)  (hf : ∀ x, PCalls Tryz.prog g f ([.agg (spanC x)] ++ []) (vb (p x))) (l : List Span) (hl : l.length ≤ 1000000) :
    PCalls Tryz.prog g 118 [encSpans l, .fn f [] []] (vi (idxFrom p 0 l)) := by
  have hFC : ∀ x, (([AV.agg (spanC x)] ++ []).all isF) = true := fun x => rfl
  refine pcalls' Tryz.func118 Tryz.ntmps118 rfl rfl rfl ?_
  repeat' (first
   | refine stn [] ?_
   | ((with_reducible refine is_gd ?_); refine awpL_split rfl rfl (fun h => ?_) (fun h => ?_))
   | ((with_reducible refine is_awp ?_); refine awp_cond rfl (fun h => ?_) (fun h => ?_))
   | fail)
  refine awp_for (α := Nat) 0 (fun k => [(0, encSpans l), (1, .fn f [] []), (7, vi l.length), (8, vi k)]) (fun _ => []) (fun k => k ≤ l.length ∧ idxFrom p 0 l = idxFrom p k (l.drop k)) (fun k => l.length - k) 0
    ⟨(.cons rfl rfl (.cons rfl rfl (.cons rfl rfl (.cons rfl rfl .nil)))), rfl, rfl, rfl⟩ ⟨Nat.zero_le _, rfl⟩ ?_
  rintro k ⟨hk, hi⟩
  cases ht : l[k]? with
  | none =>
    have hge : l.length ≤ k := by simpa using ht
    have c1 : decide ((k : Int) < l.length) = false := decide_eq_false (by omega)
    rw [List.drop_of_length_le hge] at hi
    rw [hi]
    repeat' (first
     | refine stn [] ?_
     | ((with_reducible refine is_gd ?_); refine awpL_split rfl rfl (fun h => ?_) (fun h => ?_))
     | ((with_reducible refine is_awp ?_); refine awp_cond rfl (fun h => ?_) (fun h => ?_))
     | fail)
    exact retP rfl rfl
  | some x =>
    have hlt : k < l.length := (List.getElem?_eq_some_iff.1 ht).1
    have c1 : decide ((k : Int) < l.length) = true := decide_eq_true (by omega)
    have h1 := span_get ht
    have hx := hf x
    rw [idxFrom_drop ht] at hi
    cases hp : p x with
    | true =>
      rw [hp] at hx hi
      rw [hi]
      repeat' (first
       | ((with_reducible refine is_un ?_); refine awpL_callC rfl rfl (hFC x) hx rfl ?_)
       | refine stn [] ?_
       | ((with_reducible refine is_gd ?_); refine awpL_split rfl rfl (fun h => ?_) (fun h => ?_))
       | ((with_reducible refine is_awp ?_); refine awp_cond rfl (fun h => ?_) (fun h => ?_))
       | fail)
      exact retP rfl rfl
    | false =>
      rw [hp] at hx hi
      repeat' (first
       | ((with_reducible refine is_un ?_); refine awpL_callC rfl rfl (hFC x) hx rfl ?_)
       | refine stn [] ?_
       | ((with_reducible refine is_gd ?_); refine awpL_split rfl rfl (fun h => ?_) (fun h => ?_))
       | ((with_reducible refine is_awp ?_); refine awp_cond rfl (fun h => ?_) (fun h => ?_))
       | fail)
      exact ⟨k + 1, ⟨(.cons rfl rfl (.cons rfl rfl (.cons rfl rfl (.cons rfl rfl .nil)))), rfl, rfl, rfl⟩, ⟨by omega, hi⟩, by omega⟩
set_option maxHeartbeats 1000000 in
theorem IndexS1_spec (p : Span → Bool) (f : FuncId) (cs : List AV)  (hf : ∀ x, PCalls Tryz.prog g f ([AV.agg (spanC x)] ++ [AV.fp cs]) (vb (p x))) (l : List Span) (hl : l.length ≤ 1000000) :
    PCalls Tryz.prog g 118 [encSpans l, .fn f [] [.fp cs]] (vi (idxFrom p 0 l)) := by
  have hFC : ∀ x, (([AV.agg (spanC x)] ++ [AV.fp cs]).all isF) = true := fun x => rfl
  refine pcalls' Tryz.func118 Tryz.ntmps118 rfl rfl rfl ?_
  repeat' (first
   | refine stn [] ?_
   | ((with_reducible refine is_gd ?_); refine awpL_split rfl rfl (fun h => ?_) (fun h => ?_))
   | ((with_reducible refine is_awp ?_); refine awp_cond rfl (fun h => ?_) (fun h => ?_))
   | fail)
  refine awp_for (α := Nat) 0 (fun k => [(0, encSpans l), (1, .fn f [] [.fp cs]), (7, vi l.length), (8, vi k)]) (fun _ => []) (fun k => k ≤ l.length ∧ idxFrom p 0 l = idxFrom p k (l.drop k)) (fun k => l.length - k) 0
    ⟨(.cons rfl rfl (.cons rfl rfl (.cons rfl rfl (.cons rfl rfl .nil)))), rfl, rfl, rfl⟩ ⟨Nat.zero_le _, rfl⟩ ?_
  rintro k ⟨hk, hi⟩
  cases ht : l[k]? with
  | none =>
    have hge : l.length ≤ k := by simpa using ht
    have c1 : decide ((k : Int) < l.length) = false := decide_eq_false (by omega)
    rw [List.drop_of_length_le hge] at hi
    rw [hi]
    repeat' (first
     | refine stn [] ?_
     | ((with_reducible refine is_gd ?_); refine awpL_split rfl rfl (fun h => ?_) (fun h => ?_))
     | ((with_reducible refine is_awp ?_); refine awp_cond rfl (fun h => ?_) (fun h => ?_))
     | fail)
    exact retP rfl rfl
  | some x =>
    have hlt : k < l.length := (List.getElem?_eq_some_iff.1 ht).1
    have c1 : decide ((k : Int) < l.length) = true := decide_eq_true (by omega)
    have h1 := span_get ht
    have hx := hf x
    rw [idxFrom_drop ht] at hi
    cases hp : p x with
    | true =>
      rw [hp] at hx hi
      rw [hi]
      repeat' (first
       | ((with_reducible refine is_un ?_); refine awpL_callC rfl rfl (hFC x) hx rfl ?_)
       | refine stn [] ?_
       | ((with_reducible refine is_gd ?_); refine awpL_split rfl rfl (fun h => ?_) (fun h => ?_))
       | ((with_reducible refine is_awp ?_); refine awp_cond rfl (fun h => ?_) (fun h => ?_))
       | fail)
      exact retP rfl rfl
    | false =>
      rw [hp] at hx hi
      repeat' (first
       | ((with_reducible refine is_un ?_); refine awpL_callC rfl rfl (hFC x) hx rfl ?_)
       | refine stn [] ?_
       | ((with_reducible refine is_gd ?_); refine awpL_split rfl rfl (fun h => ?_) (fun h => ?_))
       | ((with_reducible refine is_awp ?_); refine awp_cond rfl (fun h => ?_) (fun h => ?_))
       | fail)
      exact ⟨k + 1, ⟨(.cons rfl rfl (.cons rfl rfl (.cons rfl rfl (.cons rfl rfl .nil)))), rfl, rfl, rfl⟩, ⟨by omega, hi⟩, by omega⟩
set_option maxHeartbeats 1000000 in
theorem ContainsS1_spec (p : Span → Bool) (f : FuncId) (cs : List AV)  (hf : ∀ x, PCalls Tryz.prog g f ([AV.agg (spanC x)] ++ [AV.fp cs]) (vb (p x))) (l : List Span) (hl : l.length ≤ 1000000) :
    PCalls Tryz.prog g 86 [encSpans l, .fn f [] [.fp cs]] (vb (l.any p)) := by
  have hI := IndexS1_spec p f cs hf l hl
  have hF : ([encSpans l, AV.fn f [] [.fp cs]].all isF) = true := rfl
  refine pcalls' Tryz.func86 Tryz.ntmps86 rfl rfl rfl ?_
  rw [← idxFrom_any p l 0]
  generalize idxFrom p 0 l = i at *
  repeat' (first
   | ((with_reducible refine is_un ?_); refine awpL_call rfl hF hI rfl ?_)
   | refine stn [] ?_
   | ((with_reducible refine is_gd ?_); refine awpL_split rfl rfl (fun h => ?_) (fun h => ?_))
   | ((with_reducible refine is_awp ?_); refine awp_cond rfl (fun h => ?_) (fun h => ?_))
   | fail)
  exact retP rfl rfl
set_option maxHeartbeats 1000000 in
theorem UnionR_spec (s : Span) : PCalls Tryz.prog g 121 ([.agg (spanC s)] ++ []) (vb (!spanRight s)) := by
  have hR := spanR_spec (g := g) s
  refine pcalls' Tryz.func121 Tryz.ntmps121 rfl rfl rfl ?_
  repeat' (first
   | refine stn [] ?_
   | ((with_reducible refine is_gd ?_); refine awpL_split rfl rfl (fun h => ?_) (fun h => ?_))
   | ((with_reducible refine is_awp ?_); refine awp_cond rfl (fun h => ?_) (fun h => ?_))
   | fail)
  exact retP rfl rfl
set_option maxHeartbeats 1000000 in
theorem CoversC_spec (s x : Span) : PCalls Tryz.prog g 88 ([.agg (spanC x)] ++ [.fp (spanC s)]) (vb (around s x)) := by
  refine pcalls' Tryz.func88 Tryz.ntmps88 rfl rfl rfl ?_
  unfold around
  by_cases h1 : x.fro ≤ s.fro
  · have c1 : decide (x.fro ≤ s.fro) = true := decide_eq_true h1
    rw [c1]
    repeat' (first
     | refine stn [] ?_
     | ((with_reducible refine is_gd ?_); refine awpL_split rfl rfl (fun h => ?_) (fun h => ?_))
     | ((with_reducible refine is_awp ?_); refine awp_cond rfl (fun h => ?_) (fun h => ?_))
     | fail)
    exact retP rfl rfl
  · have c1 : decide (x.fro ≤ s.fro) = false := decide_eq_false h1
    rw [c1]
    repeat' (first
     | refine stn [] ?_
     | ((with_reducible refine is_gd ?_); refine awpL_split rfl rfl (fun h => ?_) (fun h => ?_))
     | ((with_reducible refine is_awp ?_); refine awp_cond rfl (fun h => ?_) (fun h => ?_))
     | fail)
    exact retP rfl rfl
def delK (l : List Span) (k : Nat) : List Span := (l.take k).filter spanRight
theorem delK_succ {l : List Span} {k : Nat} {x : Span} (h : l[k]? = some x) : delK l (k + 1) = delK l k ++ (if spanRight x then [x] else []) := by
  unfold delK
  rw [List.take_add_one, h, List.filter_append]
  congr 1
  cases hx : spanRight x <;> simp [hx]
def allRight (l : List Span) : Bool := l.all spanRight
set_option maxRecDepth 8000 in
set_option maxHeartbeats 4000000 in
theorem Delete_all (l : List Span) (hl : l.length ≤ 1000000) (ha : allRight l = true) : ICalls Tryz.prog (Glo.of g) 119 [.os 0 0, .fn 121 [] []] [.own 0 63 2 (l.map spanC)] [.own 0 63 2 (l.map spanC)] (.os 0 0) := by
  have hI := IndexS0_spec (g := g) (fun s => !spanRight s) 121 (fun x => UnionR_spec x) l hl
  have hm : idxFrom (fun s => !spanRight s) 0 l = -1 := by
    rcases idxFrom_cases (fun s => !spanRight s) l 0 with ⟨h, _⟩ | ⟨j, x, _, h2, h3, _⟩
    · exact h
    · have := List.all_eq_true.1 ha x (List.mem_of_getElem? h2)
      rw [this] at h3; cases h3
  rw [hm] at hI
  have hx : exL [LB.own 0 63 2 (l.map spanC), .pin] [.os 0 0, .fn 121 [] []] = [encSpans l, .fn 121 [] []] := by simp [exL, ex]
  have c1 : decide ((-1 : Int) = -1) = true := rfl
  refine icalls Tryz.func119 rfl Tryz.ntmps119 rfl rfl rfl rfl rfl rfl ?_
  repeat' (first
   | ((with_reducible refine is_un ?_); refine awpL_callS rfl hx hI rfl rfl ?_)
   | refine stn [] ?_
   | ((with_reducible refine is_gd ?_); refine awpL_split rfl rfl (fun h => ?_) (fun h => ?_))
   | ((with_reducible refine is_awp ?_); refine awp_cond rfl (fun h => ?_) (fun h => ?_))
   | fail)
  exact retI rfl ⟨rfl, rfl⟩
abbrev mixL (l mid : List Span) (i : Nat) : List Span := delK l i ++ (mid ++ l.drop i)
set_option maxRecDepth 8000 in
set_option maxHeartbeats 8000000 in
theorem Delete_some (l : List Span) (hl : l.length ≤ 1000000) (ha : allRight l = false) : ICalls Tryz.prog (Glo.of g) 119 [.os 0 0, .fn 121 [] []] [.own 0 63 2 (l.map spanC)] [.own 1 63 2 ((l.filter spanRight).map spanC)] (.os 0 1) := by
  have hI := IndexS0_spec (g := g) (fun s => !spanRight s) 121 (fun x => UnionR_spec x) l hl
  have n1 : (!true) = false := rfl
  have n2 : (!false) = true := rfl
  rcases idxFrom_cases (fun s => !spanRight s) l 0 with ⟨_, h⟩ | ⟨j, x0, h1, h2, h3, h4⟩
  · exfalso
    have : allRight l = true := List.all_eq_true.2 fun x hx => by have := h x hx; simpa using this
    rw [this] at ha; cases ha
  rw [h1, Nat.zero_add] at hI
  have hjl : j < l.length := (List.getElem?_eq_some_iff.1 h2).1
  have hx0 : spanRight x0 = false := by simpa using h3
  have hdj : delK l (j + 1) = l.take j := by
    rw [delK_succ h2, hx0]
    simp only [Bool.false_eq_true, if_false, List.append_nil]
    unfold delK
    exact List.filter_eq_self.2 fun y hy => by have := h4 y hy; simpa using this
  have hx : exL [LB.own 0 63 2 (l.map spanC), .pin] [.os 0 0, .fn 121 [] []] = [encSpans l, .fn 121 [] []] := by simp [exL, ex]
  have c1 : decide ((j : Int) = -1) = false := decide_eq_false (by omega)
  have hl0 : l.map spanC = (mixL l [x0] (j + 1)).map spanC := by
    congr 1
    rw [mixL, hdj]
    have : l.drop j = x0 :: l.drop (j + 1) := by
      obtain ⟨q1, q2⟩ := List.getElem?_eq_some_iff.1 h2
      rw [List.drop_eq_getElem_cons q1, q2]
    conv => lhs; rw [← List.take_append_drop j l, this]
    rfl
  have hjn : ((delK l (j + 1)).length : Int) = j := by rw [hdj, List.length_take]; omega
  refine icalls Tryz.func119 rfl Tryz.ntmps119 rfl rfl rfl rfl rfl rfl ?_
  repeat' (first
   | ((with_reducible refine is_un ?_); refine awpL_callS rfl hx hI rfl rfl ?_)
   | refine stn [] ?_
   | ((with_reducible refine is_gd ?_); refine awpL_split rfl rfl (fun h => ?_) (fun h => ?_))
   | ((with_reducible refine is_awp ?_); refine awp_cond rfl (fun h => ?_) (fun h => ?_))
   | fail)
  refine awp_for2 (α := Nat) (β := List Span) 2 (fun i mid => [(0, .os 0 0), (1, .fn 121 [] []), (5, vi (delK l i).length), (6, vi i)]) (fun i mid => [.own 0 63 2 ((mixL l mid i).map spanC), .pin])
    (fun i mid => i ≤ l.length ∧ (delK l i).length + mid.length = i ∧ 1 ≤ mid.length) (fun i _ => l.length - i) (j + 1) [x0]
    (by rw [hl0, hjn]; exact ⟨(.cons rfl rfl (.cons rfl rfl (.cons rfl rfl (.cons rfl rfl .nil)))), rfl, rfl, rfl⟩) ⟨by omega, by rw [hdj, List.length_take]; simp; omega, by simp⟩ ?_
  rintro i mid ⟨hi, hc, hm⟩
  have hln : (mixL l mid i).length = l.length := by rw [mixL, List.length_append, List.length_append, List.length_drop]; omega
  have hln2 : ((mixL l mid i).map spanC).length = l.length := by rw [List.length_map, hln]
  cases ht : l[i]? with
  | none =>
    have hge : l.length ≤ i := by simpa using ht
    have c2 : decide ((i : Int) < ((mixL l mid i).map spanC).length) = false := decide_eq_false (by rw [hln2]; omega)
    have hD : delK l i = l.filter spanRight := by unfold delK; rw [List.take_of_length_le hge]
    have hdl : (delK l i).length ≤ ((mixL l mid i).map spanC).length := by rw [hln2]; omega
    have htk : ∀ r, (((mixL l mid i).map spanC).take (delK l i).length ++ r).take (delK l i).length = (l.filter spanRight).map spanC := fun r => by
      rw [List.take_append_of_le_length (by rw [List.length_take]; omega), List.take_take, Nat.min_self, ← List.map_take, mixL, List.take_left, hD]
    repeat' (first
     | ((with_reducible refine is_un ?_); (first | refine awpL_clrs rfl rfl rfl hdl rfl rfl rfl rfl rfl rfl rfl rfl rfl rfl ?_ | refine awpL_ev2 (ev_slice_pre (L' := [.own 1 63 2 ((l.filter spanRight).map spanC), .pin]) rfl rfl rfl (by rw [List.length_append, List.length_take, List.length_replicate]; omega) rfl rfl rfl (by rw [← htk]; rfl)) rfl ?_))
     | refine stn [] ?_
     | ((with_reducible refine is_gd ?_); refine awpL_split rfl rfl (fun h => ?_) (fun h => ?_))
     | ((with_reducible refine is_awp ?_); refine awp_cond rfl (fun h => ?_) (fun h => ?_))
     | fail)
    exact retI rfl ⟨rfl, rfl⟩
  | some x =>
    have hlt : i < l.length := (List.getElem?_eq_some_iff.1 ht).1
    have c2 : decide ((i : Int) < ((mixL l mid i).map spanC).length) = true := decide_eq_true (by rw [hln2]; omega)
    have hb1 : 0 ≤ (i : Int) ∧ (i : Int) < ((mixL l mid i).map spanC).length := ⟨by omega, by rw [hln2]; omega⟩
    have hb2 : 0 ≤ ((delK l i).length : Int) ∧ ((delK l i).length : Int) < ((mixL l mid i).map spanC).length := ⟨by omega, by rw [hln2]; omega⟩
    have hdr : l.drop i = x :: l.drop (i + 1) := by
      obtain ⟨q1, q2⟩ := List.getElem?_eq_some_iff.1 ht
      rw [List.drop_eq_getElem_cons q1, q2]
    have hel : ((mixL l mid i).map spanC)[(i : Int).toNat]? = some (spanC x) := by
      rw [show (i : Int).toNat = i by omega, List.getElem?_map, mixL, List.getElem?_append_right (by omega), List.getElem?_append_right (by omega), hdr]
      rw [show i - (delK l i).length - mid.length = 0 by omega]
      rfl
    have hR := UnionR_spec (g := g) x
    have hdk := delK_succ ht
    obtain ⟨a, mr, rfl⟩ : ∃ a mr, mid = a :: mr := by
      cases mid with
      | nil => simp at hm
      | cons a mr => exact ⟨a, mr, rfl⟩
    rw [List.length_cons] at hc
    have hFx : (([AV.agg (spanC x)] ++ []).all isF) = true := rfl
    cases hr : spanRight x with
    | true =>
      rw [hr] at hR hdk
      rw [n1] at hR
      simp only [if_true] at hdk
      have hel2 : ((mixL l (a :: mr) i).map spanC)[((delK l i).length : Int).toNat]? = some (spanC a) := by
        rw [show ((delK l i).length : Int).toNat = (delK l i).length by omega, List.getElem?_map, mixL, List.getElem?_append_right (by omega), Nat.sub_self]
        rfl
      have hset : ((mixL l (a :: mr) i).map spanC).set ((delK l i).length : Int).toNat (spanC x) = (mixL l (mr ++ [x]) (i + 1)).map spanC := by
        rw [show ((delK l i).length : Int).toNat = (delK l i).length by omega, mixL, mixL, hdk, hdr, List.map_append, List.set_append_right _ _ (by rw [List.length_map]; omega), List.length_map, Nat.sub_self]
        simp
      have hlen : ((delK l i).length : Int) + 1 = ((delK l (i + 1)).length : Int) := by rw [hdk, List.length_append]; rfl
      repeat' (first
       | ((with_reducible refine is_un ?_); (first | refine awpL_ev (ev_addE rfl rfl (by omega) hlen) rfl ?_ | refine awpL_ev (ev_el_agg (f := spanC x) rfl rfl rfl rfl hel rfl rfl) rfl ?_ | refine awpL_callC rfl rfl hFx hR rfl ?_ | refine awpL_evS (ev_st_ep (el' := spanC x) (L' := [.own 0 63 2 ((mixL l (mr ++ [x]) (i + 1)).map spanC), .pin, .dead]) rfl rfl rfl rfl rfl rfl rfl rfl hel2 rfl (by rw [← hset]; rfl)) ?_))
       | refine stn [] ?_
       | ((with_reducible refine is_gd ?_); refine awpL_split rfl rfl (fun h => ?_) (fun h => ?_))
       | ((with_reducible refine is_awp ?_); refine awp_cond rfl (fun h => ?_) (fun h => ?_))
       | fail)
      refine ⟨i + 1, mr ++ [x], ⟨(.cons rfl rfl (.cons rfl rfl (.cons rfl rfl (.cons rfl rfl .nil)))), rfl, rfl, rfl⟩, ⟨by omega, by rw [hdk, List.length_append, List.length_append]; simp; omega, by rw [List.length_append]; simp⟩, by omega⟩
    | false =>
      rw [hr] at hR hdk
      rw [n2] at hR
      simp only [Bool.false_eq_true, if_false, List.append_nil] at hdk
      have hmx : (mixL l (a :: mr) i).map spanC = (mixL l (a :: mr ++ [x]) (i + 1)).map spanC := by
        rw [mixL, mixL, hdk, hdr]; simp
      repeat' (first
       | ((with_reducible refine is_un ?_); (first | refine awpL_ev (ev_el_agg (f := spanC x) rfl rfl rfl rfl hel rfl rfl) rfl ?_ | refine awpL_callC rfl rfl hFx hR rfl ?_))
       | refine stn [] ?_
       | ((with_reducible refine is_gd ?_); refine awpL_split rfl rfl (fun h => ?_) (fun h => ?_))
       | ((with_reducible refine is_awp ?_); refine awp_cond rfl (fun h => ?_) (fun h => ?_))
       | fail)
      refine ⟨i + 1, a :: mr ++ [x], by rw [hdk, ← hmx]; exact ⟨(.cons rfl rfl (.cons rfl rfl (.cons rfl rfl (.cons rfl rfl .nil)))), rfl, rfl, rfl⟩, ⟨by omega, by rw [hdk, List.length_append]; simp; omega, by simp⟩, by omega⟩
end Go.Proofs.YtnacjdaoiepbhaaGreatDoor
end
section
namespace Go.Proofs.YtnacjdaoiepbhaaGreatDoor
theorem gaps_tail {x : Span} {r : List Span} (h : Gaps (x :: r)) : Gaps r ∧ x.fro < x.til ∧ ∀ y ∈ r, x.til < y.fro := by
  obtain ⟨h1, h2⟩ := h
  rw [List.pairwise_cons] at h1
  exact ⟨⟨h1.2, fun y hy => h2 y (by simp [hy])⟩, h2 x (by simp), h1.1⟩
theorem gaps_one : ∀ {m1 m2 : List Span}, Gaps m1 → Gaps m2 → (∀ p, (∃ y ∈ m1, inS p y) ↔ ∃ y ∈ m2, inS p y) → m1 = m2
  | [], [], _, _, _ => rfl
  | [], y :: s, _, h2, h => by
    obtain ⟨_, q, _⟩ := gaps_tail h2
    obtain ⟨z, hz, _⟩ := (h y.fro).2 ⟨y, by simp, by unfold inS; omega⟩
    cases hz
  | x :: r, [], h1, _, h => by
    obtain ⟨_, q, _⟩ := gaps_tail h1
    obtain ⟨z, hz, _⟩ := (h x.fro).1 ⟨x, by simp, by unfold inS; omega⟩
    cases hz
  | x :: r, y :: s, h1, h2, h => by
    obtain ⟨a1, a2, a3⟩ := gaps_tail h1
    obtain ⟨b1, b2, b3⟩ := gaps_tail h2
    have lo1 : ∀ p, (∃ z ∈ x :: r, inS p z) → x.fro ≤ p := by
      rintro p ⟨z, hz, hp⟩
      rcases List.mem_cons.1 hz with rfl | hz
      · exact hp.1
      · have := a3 z hz; have := hp.1; omega
    have lo2 : ∀ p, (∃ z ∈ y :: s, inS p z) → y.fro ≤ p := by
      rintro p ⟨z, hz, hp⟩
      rcases List.mem_cons.1 hz with rfl | hz
      · exact hp.1
      · have := b3 z hz; have := hp.1; omega
    have e1 : x.fro = y.fro := by
      have u1 := lo2 x.fro ((h x.fro).1 ⟨x, by simp, by unfold inS; omega⟩)
      have u2 := lo1 y.fro ((h y.fro).2 ⟨y, by simp, by unfold inS; omega⟩)
      omega
    have n1 : ¬ ∃ z ∈ x :: r, inS x.til z := by
      rintro ⟨z, hz, hp⟩
      rcases List.mem_cons.1 hz with rfl | hz
      · have := hp.2; omega
      · have := a3 z hz; have := hp.1; omega
    have n2 : ¬ ∃ z ∈ y :: s, inS y.til z := by
      rintro ⟨z, hz, hp⟩
      rcases List.mem_cons.1 hz with rfl | hz
      · have := hp.2; omega
      · have := b3 z hz; have := hp.1; omega
    have e2 : x.til = y.til := by
      rcases Int.lt_trichotomy x.til y.til with q | q | q
      · exact absurd ((h x.til).2 ⟨y, by simp, by unfold inS; omega⟩) n1
      · exact q
      · exact absurd ((h y.til).1 ⟨x, by simp, by unfold inS; omega⟩) n2
    have exy : x = y := by cases x; cases y; simp_all
    subst exy
    congr 1
    refine gaps_one a1 b1 fun p => ⟨?_, ?_⟩
    · rintro ⟨z, hz, hp⟩
      obtain ⟨w, hw, hq⟩ := (h p).1 ⟨z, by simp [hz], hp⟩
      rcases List.mem_cons.1 hw with rfl | hw
      · have := a3 z hz; have := hp.1; have := hq.2; omega
      · exact ⟨w, hw, hq⟩
    · rintro ⟨z, hz, hp⟩
      obtain ⟨w, hw, hq⟩ := (h p).2 ⟨z, by simp [hz], hp⟩
      rcases List.mem_cons.1 hw with rfl | hw
      · have := b3 z hz; have := hp.1; have := hq.2; omega
      · exact ⟨w, hw, hq⟩
def sortedS (l : List Span) : List Span := l.mergeSort (fun a b => decide (a.fro ≤ b.fro))
theorem sortedS_perm (l : List Span) : (sortedS l).Perm l := List.mergeSort_perm _ _
theorem sortedS_sort (l : List Span) : SortS (sortedS l) := by
  have := List.pairwise_mergeSort (le := fun a b : Span => decide (a.fro ≤ b.fro)) (fun a b c h1 h2 => by simp only [decide_eq_true_eq] at *; omega) (fun a b => by simp only [Bool.or_eq_true, decide_eq_true_eq]; omega) l
  exact this.imp fun h => by simpa using h
def unionS (l : List Span) : List Span := (sortedS (l.filter spanRight)).foldl mergeS []
theorem unionS_eq {l d : List Span} (hp : d.Perm (l.filter spanRight)) (ho : SortS d) : d.foldl mergeS [] = unionS l := by
  have hr : AllR d := fun x hx => (List.mem_filter.1 (hp.mem_iff.1 hx)).2
  have hp' := sortedS_perm (l.filter spanRight)
  have hr' : AllR (sortedS (l.filter spanRight)) := fun x hx => (List.mem_filter.1 (hp'.mem_iff.1 hx)).2
  obtain ⟨h1, h2⟩ := mergeS_all (l := d) (out := []) ⟨by simp, by simp⟩ hr ho (by simp)
  obtain ⟨g1, g2⟩ := mergeS_all (l := sortedS (l.filter spanRight)) (out := []) ⟨by simp, by simp⟩ hr' (sortedS_sort _) (by simp)
  refine gaps_one h1 g1 fun p => ?_
  rw [h2 p]
  show _ ↔ ∃ y ∈ (sortedS (l.filter spanRight)).foldl mergeS [], inS p y
  rw [g2 p]
  constructor
  · rintro (⟨_, h, _⟩ | ⟨t, ht, hq⟩)
    · cases h
    · exact .inr ⟨t, hp'.mem_iff.2 (hp.mem_iff.1 ht), hq⟩
  · rintro (⟨_, h, _⟩ | ⟨t, ht, hq⟩)
    · cases h
    · exact .inr ⟨t, hp.mem_iff.2 (hp'.mem_iff.1 ht), hq⟩
theorem unionS_cov {l : List Span} {s : Span} (hs : spanRight s = true) : (unionS l).any (around s) = covB l s := union_covers hs (sortedS_perm _) (sortedS_sort _)
theorem mergeS_len (out : List Span) (s : Span) : (mergeS out s).length ≤ out.length + 1 := by
  unfold mergeS
  rcases List.eq_nil_or_concat out with rfl | ⟨m, z, rfl⟩
  · simp
  · rw [List.concat_eq_append]
    simp only [List.getLast?_append, List.getLast?_singleton, Option.some_or, List.dropLast_concat]
    split <;> simp
theorem merge_len : ∀ (l out : List Span), (l.foldl mergeS out).length ≤ out.length + l.length
  | [], out => by simp
  | s :: r, out => by
    have h1 := merge_len r (mergeS out s)
    have h2 := mergeS_len out s
    simp only [List.foldl_cons, List.length_cons]; omega
end Go.Proofs.YtnacjdaoiepbhaaGreatDoor
end
section
namespace Go.Ac
def tailOkR : Nat → List Oper → Bool
  | _, [] => true
  | i, o :: r => hasE o.after.toList (i - 1) && (o.after.toList.all fun e => !(Region.binds .any e) || Nat.blt e.on i) && tailOkR (i + 1) r
def tailOk2 : Nat → List Oper → Bool
  | _, [] => true
  | i, o :: r => (List.range i).all (hasE o.after.toList) && (o.after.toList.all fun e => !(Region.binds .any e) || Nat.blt e.on i) && tailOkR (i + 1) r
theorem tailOkR_get : ∀ {l : List Oper} {i k : Nat} {o : Oper}, tailOkR i l = true → l[k]? = some o → hasE o.after.toList (i + k - 1) = true ∧ ∀ e ∈ o.after.toList, Region.binds .any e = true → e.on < i + k
  | [], _, k, o, _, h => by simp at h
  | o0 :: r, i, k, o, ht, h => by
    simp only [tailOkR, Bool.and_eq_true] at ht
    obtain ⟨⟨h1, h2⟩, h3⟩ := ht
    cases k with
    | zero =>
      simp at h; subst h
      refine ⟨h1, fun e he hb => ?_⟩
      have := List.all_eq_true.1 h2 e he
      simp only [hb, Bool.not_true, Bool.false_or] at this
      simpa using blt_lt this
    | succ k =>
      have := tailOkR_get h3 (by simpa using h)
      rw [show i + 1 + k = i + (k + 1) by omega] at this
      exact this
theorem tailOk2_get {l : List Oper} {i k : Nat} {o : Oper} (ht : tailOk2 i l = true) (h : l[k]? = some o) : ((k = 0 → ∀ m, m < i → hasE o.after.toList m = true) ∧ (k ≠ 0 → hasE o.after.toList (i + k - 1) = true)) ∧ ∀ e ∈ o.after.toList, Region.binds .any e = true → e.on < i + k := by
  cases l with
  | nil => simp at h
  | cons o0 r =>
    simp only [tailOk2, Bool.and_eq_true] at ht
    obtain ⟨⟨h1, h2⟩, h3⟩ := ht
    cases k with
    | zero =>
      simp at h; subst h
      refine ⟨⟨fun _ m hm => List.all_eq_true.1 h1 m (by simpa using hm), fun e => absurd rfl e⟩, fun e he hb => ?_⟩
      have := List.all_eq_true.1 h2 e he
      simp only [hb, Bool.not_true, Bool.false_or] at this
      simpa using blt_lt this
    | succ k =>
      have := tailOkR_get h3 (by simpa using h)
      rw [show i + 1 + k = i + (k + 1) by omega] at this
      exact ⟨⟨fun e => by omega, fun _ => this.1⟩, this.2⟩
section
variable {F : Fence} {n : Nat} {P : Program} {Q : Exit → Act → World → Prop} {l1 l2 : List Oper}
theorem tail_run2 (ht : tailOk2 l1.length l2 = true) : ∀ (d k : Nat), d + k = l2.length → ∀ (listed : Array Bool) (a : Act) (w : World), listed.size = (l1 ++ l2).length →
    (∀ i, i < l1.length + k → listed.getD i false = true) → (∀ i, l1.length + k ≤ i → i < (l1 ++ l2).length → listed.getD i false = false) →
    wpListIn F n P (l1 ++ l2).toArray Q (l2.drop k) a w → ∀ fuel, d ≤ fuel → wpAnyIn F n P .any (l1 ++ l2).toArray Q fuel listed a w := by
  intro d
  induction d with
  | zero =>
    intro k hk listed a w hsz h1 h2 h fuel _
    rw [List.drop_of_length_le (by omega)] at h
    have hr : Region.ready .any (l1 ++ l2).toArray listed = [] := by
      cases hq : Region.ready .any (l1 ++ l2).toArray listed with
      | nil => rfl
      | cons i r =>
        have hi : i ∈ Region.ready .any (l1 ++ l2).toArray listed := by rw [hq]; exact List.mem_cons_self ..
        rw [mem_ready] at hi
        obtain ⟨h0, o, ho, _⟩ := hi
        have hil : i < (l1 ++ l2).length := by have := (Array.getElem?_eq_some_iff.1 ho).1; simpa using this
        rw [getD_tf (by omega), h1 i (by simp at hil; omega)] at h0
        cases h0
    cases fuel with
    | zero => exact ⟨hr, h⟩
    | succ f => exact ⟨fun _ => h, fun i hi => by rw [hr] at hi; cases hi⟩
  | succ d ih =>
    intro k hk listed a w hsz h1 h2 h fuel hf
    obtain ⟨f, rfl⟩ : ∃ f, fuel = f + 1 := ⟨fuel - 1, by omega⟩
    obtain ⟨o, ho⟩ : ∃ o, l2[k]? = some o := ⟨_, List.getElem?_eq_getElem (by omega)⟩
    have hgo : (l1 ++ l2).toArray[l1.length + k]? = some o := by rw [List.getElem?_toArray, List.getElem?_append_right (Nat.le_add_right _ _), Nat.add_sub_cancel_left]; exact ho
    have hlt : l1.length + k < (l1 ++ l2).length := by simp; omega
    obtain ⟨t1, t2⟩ := tailOk2_get ht ho
    have hme : l1.length + k ∈ Region.ready .any (l1 ++ l2).toArray listed := by
      rw [mem_ready]
      exact ⟨by rw [getD_tf (by omega)]; exact h2 _ (Nat.le_refl _) hlt, o, hgo, fun e he hb => h1 _ (t2 e (by simpa using he) hb)⟩
    refine ⟨fun hr => (by rw [hr] at hme; cases hme), fun i hi => ?_⟩
    have hii : i = l1.length + k := by
      rw [mem_ready] at hi
      obtain ⟨h0, o', ho', haft⟩ := hi
      have hil : i < (l1 ++ l2).length := by have := (Array.getElem?_eq_some_iff.1 ho').1; simpa using this
      rw [getD_tf (by omega)] at h0
      rcases Nat.lt_trichotomy i (l1.length + k) with g | g | g
      · rw [h1 i g] at h0; cases h0
      · exact g
      · obtain ⟨j, rfl⟩ : ∃ j, i = l1.length + j := ⟨i - l1.length, by omega⟩
        have ho2 : l2[j]? = some o' := by rw [List.getElem?_toArray, List.getElem?_append_right (Nat.le_add_right _ _), Nat.add_sub_cancel_left] at ho'; exact ho'
        obtain ⟨e, he, hb, hon⟩ := hasE_spec ((tailOk2_get ht ho2).1.2 (by omega))
        have := haft e (by simpa using he) hb
        rw [hon, h2 _ (by omega) (by omega)] at this
        cases this
    subst hii
    unfold wpOpIn
    simp only [hgo]
    have hd : l2.drop k = o :: l2.drop (k + 1) := by
      obtain ⟨hl, rfl⟩ := List.getElem?_eq_some_iff.1 ho
      exact List.drop_eq_getElem_cons hl
    rw [hd] at h
    have next : ∀ a w, wpListIn F n P (l1 ++ l2).toArray Q (l2.drop (k + 1)) a w → wpAnyIn F n P .any (l1 ++ l2).toArray Q f (listed.setIfInBounds (l1.length + k) true) a w := by
      intro a w h
      refine ih (k + 1) (by omega) _ a w (by simpa using hsz) (fun i hi => ?_) (fun i hi hil => ?_) h f (by omega)
      · by_cases e : l1.length + k = i
        · subst e; simp [Array.getD_eq_getD_getElem?, hsz, hlt]; omega
        · rw [getD_set_ne false e]; exact h1 i (by omega)
      · rw [getD_set_ne false (by omega)]; exact h2 i (by omega) hil
    simp only [wpListIn] at h
    split at h
    · rename_i hw
      rw [if_pos hw]
      exact Oper.wpIn_mono next h
    · rename_i hw
      rw [if_neg hw]
      exact ⟨h.1, next _ _ h.2⟩
theorem body_run2 {N : Nat} (ht : tailOk2 l1.length l2 = true) (hg : gdOk l1.length l1 = true) (hk : drawOk N 0 [] l1 = true) {Qt : Exit → Act → World → Prop} (hq : ∀ e a w, e ≠ .normal → Qt e a w → Q e a w)
    (hn : ∀ a w, Qt .normal a w → wpListIn F n P (l1 ++ l2).toArray Q l2 a w) : ∀ (fuel1 : Nat) (listed1 listed : Array Bool) (a : Act) (w : World), listed1.size = l1.length → listed.size = (l1 ++ l2).length →
      (∀ i, i < l1.length → listed.getD i false = listed1.getD i false) → (∀ i, l1.length ≤ i → i < (l1 ++ l2).length → listed.getD i false = false) →
      wpAnyIn F n P .any l1.toArray Qt fuel1 listed1 a w → ∀ fuel, fuel1 + l2.length ≤ fuel → wpAnyIn F n P .any (l1 ++ l2).toArray Q fuel listed a w := by
  have back : ∀ (i : Nat) (o : Oper), l1[i]? = some o → ∀ e ∈ o.after.toList, Region.binds .any e = true → e.on < i := fun i o ho e he hb => by
    have := (drawOk_spec hk i o ho).2 e (by simpa using he) hb
    omega
  intro fuel1
  induction fuel1 with
  | zero =>
    intro listed1 listed a w hs1 hs heq hfa h fuel hf
    have all : ∀ i, i < l1.length → listed1.getD i false = true := by
      intro i
      induction i using Nat.strongRecOn with
      | _ i ih =>
        intro hi
        cases hl : listed1.getD i false with
        | true => rfl
        | false =>
          have : i ∈ Region.ready .any l1.toArray listed1 := by
            rw [mem_ready]
            refine ⟨by rw [getD_tf (by omega)]; exact hl, l1[i], by simp [hi], fun e he hb => ?_⟩
            have := back i _ (List.getElem?_eq_getElem hi) e (by simpa using he) hb
            exact ih e.on this (by omega)
          rw [h.1] at this; cases this
    exact tail_run2 ht l2.length 0 (by omega) listed a w hs (fun i hi => by rw [heq i (by omega)]; exact all i (by omega)) (fun i hi hil => hfa i (by omega) hil) (hn a w h.2) fuel (by omega)
  | succ f1 ih =>
    intro listed1 listed a w hs1 hs heq hfa h fuel hf
    by_cases hr : Region.ready .any l1.toArray listed1 = []
    · have all : ∀ i, i < l1.length → listed1.getD i false = true := by
        intro i
        induction i using Nat.strongRecOn with
        | _ i ih =>
          intro hi
          cases hl : listed1.getD i false with
          | true => rfl
          | false =>
            have : i ∈ Region.ready .any l1.toArray listed1 := by
              rw [mem_ready]
              refine ⟨by rw [getD_tf (by omega)]; exact hl, l1[i], by simp [hi], fun e he hb => ?_⟩
              have := back i _ (List.getElem?_eq_getElem hi) e (by simpa using he) hb
              exact ih e.on this (by omega)
            rw [hr] at this; cases this
      exact tail_run2 ht l2.length 0 (by omega) listed a w hs (fun i hi => by rw [heq i (by omega)]; exact all i (by omega)) (fun i hi hil => hfa i (by omega) hil) (hn a w (h.1 hr)) fuel (by omega)
    · obtain ⟨f, rfl⟩ : ∃ f, fuel = f + 1 := ⟨fuel - 1, by omega⟩
      obtain ⟨i0, hi0⟩ := List.exists_mem_of_ne_nil _ hr
      have hi0' := hi0
      rw [mem_ready] at hi0'
      obtain ⟨z0, o0, zo, za⟩ := hi0'
      have hl0 : i0 < l1.length := by have := (Array.getElem?_eq_some_iff.1 zo).1; simpa using this
      rw [getD_tf (by omega)] at z0
      have up : ∀ i, i ∈ Region.ready .any (l1 ++ l2).toArray listed ↔ i ∈ Region.ready .any l1.toArray listed1 := by
        intro i
        rw [mem_ready, mem_ready]
        constructor
        · rintro ⟨h0, o, ho, haft⟩
          have hil : i < (l1 ++ l2).length := by have := (Array.getElem?_eq_some_iff.1 ho).1; simpa using this
          rw [getD_tf (by omega)] at h0
          rcases Nat.lt_or_ge i l1.length with g | g
          · have ho1 : l1[i]? = some o := by rw [List.getElem?_toArray, List.getElem?_append_left g] at ho; exact ho
            refine ⟨by rw [getD_tf (by omega), ← heq i g]; exact h0, o, by simpa using ho1, fun e he hb => ?_⟩
            have := back i o ho1 e (by simpa using he) hb
            rw [← heq _ (by omega)]; exact haft e he hb
          · exfalso
            obtain ⟨j, rfl⟩ : ∃ j, i = l1.length + j := ⟨i - l1.length, by omega⟩
            have ho2 : l2[j]? = some o := by rw [List.getElem?_toArray, List.getElem?_append_right (Nat.le_add_right _ _), Nat.add_sub_cancel_left] at ho; exact ho
            rcases Nat.eq_zero_or_pos j with hj0 | hj0
            · obtain ⟨e, he, hb, hon⟩ := hasE_spec ((tailOk2_get ht ho2).1.1 hj0 i0 (by omega))
              have := haft e (by simpa using he) hb
              rw [hon, heq i0 hl0, z0] at this
              cases this
            · obtain ⟨e, he, hb, hon⟩ := hasE_spec ((tailOk2_get ht ho2).1.2 (by omega))
              have := haft e (by simpa using he) hb
              rw [hon, hfa _ (by omega) (by omega)] at this
              cases this
        · rintro ⟨h0, o, ho, haft⟩
          have g : i < l1.length := by have := (Array.getElem?_eq_some_iff.1 ho).1; simpa using this
          have ho1 : l1[i]? = some o := by simpa using ho
          rw [getD_tf (by omega)] at h0
          refine ⟨by rw [getD_tf (by simp at hs; omega), heq i g]; exact h0, o, by rw [List.getElem?_toArray, List.getElem?_append_left g]; exact ho1, fun e he hb => ?_⟩
          have := back i o ho1 e (by simpa using he) hb
          rw [heq _ (by omega)]; exact haft e he hb
      refine ⟨fun hr2 => ?_, fun i hi => ?_⟩
      · have := (up i0).2 hi0
        rw [hr2] at this; cases this
      · have hi1 := (up i).1 hi
        have hw := h.2 i hi1
        rw [mem_ready] at hi1
        obtain ⟨h0, o, ho, haft⟩ := hi1
        have g : i < l1.length := by have := (Array.getElem?_eq_some_iff.1 ho).1; simpa using this
        have ho1 : l1[i]? = some o := by simpa using ho
        have hoc : (l1 ++ l2).toArray[i]? = some o := by rw [List.getElem?_toArray, List.getElem?_append_left g]; exact ho1
        unfold wpOpIn at hw ⊢
        simp only [ho, hoc] at hw ⊢
        have hwant : Region.wanted o (yielded (l1 ++ l2).toArray a.tmps) = Region.wanted o (yielded l1.toArray a.tmps) := by
          unfold Region.wanted
          have hgo := List.all_eq_true.1 hg o (List.mem_of_getElem? ho1)
          split
          · rfl
          · rename_i j want he
            rw [he] at hgo
            have hj := blt_lt hgo
            have : yielded (l1 ++ l2).toArray a.tmps j = yielded l1.toArray a.tmps j := by
              unfold yielded
              rw [List.getElem?_toArray, List.getElem?_toArray, List.getElem?_append_left hj]
            rw [this]
        rw [hwant]
        have next : ∀ a w, wpAnyIn F n P .any l1.toArray Qt f1 (listed1.setIfInBounds i true) a w → wpAnyIn F n P .any (l1 ++ l2).toArray Q f (listed.setIfInBounds i true) a w := by
          intro a w h
          refine ih _ _ a w (by simpa using hs1) (by simpa using hs) (fun j hj => ?_) (fun j hj hjl => ?_) h f (by omega)
          · by_cases e : i = j
            · subst e
              have : i < listed.size := by simp at hs; omega
              simp [Array.getD_eq_getD_getElem?, hs1, g, this]
            · rw [getD_set_ne false e, getD_set_ne false e]; exact heq j hj
          · rw [getD_set_ne false (by omega)]; exact hfa j hj hjl
        split at hw
        · rename_i hq2
          rw [if_pos hq2]
          exact wpIn_monoN hq next hw
        · rename_i hq2
          rw [if_neg hq2]
          exact ⟨hw.1, next _ _ hw.2⟩
end
section
variable {P : Program} {td : TDs} [T : TOK P td] {G : Glo} {N : Nat} {Q : AQ} {S Sb : SL} {L : List LB} {l l1 l2 : List Oper}
theorem awp_drawT2 (n : Nat) {id : Nat} {ds : List Nat} (h1 : l.take n = l1) (h2 : l.drop n = l2) (hm : P.follows .mixedOrders = true) (hk : drawOk N 0 [] l1 = true) (ht : tailOk2 l1.length l2 = true) (hg : gdOk l1.length l1 = true) (hds : dsts l1 = ds) (hS : Strip ds S Sb)
    (h : awpD P G N (fun S' L' => awpL P G N l.toArray l2 Q S' L') Sb L.length l1 [] ⟨L, [], [], false⟩) : awp P G N (.region id l.toArray true) Q S L := by
  have hl : l = l1 ++ l2 := by rw [← h1, ← h2, List.take_append_drop]
  subst hl
  clear h1 h2
  have hb : (Sb.all fun p => !(l1.any fun o => match o.dst with | some d => Nat.beq d p.1 | none => false)) = true := by
    rw [List.all_eq_true]
    rintro ⟨t, x⟩ hp
    have hm := strip_keep hS t x hp
    rw [Bool.not_eq_true', List.any_eq_false]
    intro o ho
    cases hd : o.dst with
    | none => simp
    | some d =>
      have hdm : d ∈ ds := by rw [← hds]; exact List.mem_filterMap.2 ⟨o, ho, hd⟩
      simp only [Bool.not_eq_true]
      cases he : Nat.beq d t with
      | false => rfl
      | true =>
        have := Nat.eq_of_beq_eq_true he
        subst this
        rw [memN_of hdm] at hm; cases hm
  intro cx a hc
  refine wpIn_region_any hm ?_
  have hA := draw_any (Q := thenQ (fun S' L' => awpL P G N (l1 ++ l2).toArray l2 Q S' L') Q) hk (fun t x hx => (hS.get t x hx).1) hb h cx a hc
  refine body_run2 ht hg hk (Qt := conc G N (thenQ (fun S' L' => awpL P G N (l1 ++ l2).toArray l2 Q S' L') Q) cx) (fun e a w hne q => ?_) (fun a w q => ?_) _ _ _ _ _ (by simp) (by simp) (fun i hi => ?_) (fun i hi hil => ?_) hA _ (by simp)
  · obtain ⟨S', L', c', q1, q2, q3, q4⟩ := q
    refine ⟨S', L', c', ?_, q2, q3, q4⟩
    cases e with
    | normal => exact absurd rfl hne
    | _ => exact q1
  · obtain ⟨S', L', c', q1, q2, q3, q4⟩ := q
    subst q4
    exact wpListIn_mono (fun e a w r => r.trans q3) _ _ _ (q1 c' a q2)
  · have hi2 : i < l1.length + l2.length := by omega
    simp [Array.getD_eq_getD_getElem?, hi, hi2]
  · simp at hil
    simp [Array.getD_eq_getD_getElem?, hil]
end
end Go.Ac
end
section
namespace Go.Proofs.YtnacjdaoiepbhaaGreatDoor
open Go.Ac
attribute [local irreducible] awp awpL Ev Ev2 EvS thenQ blockQ retQ PCalls OCalls YieldOk IterC ICalls
variable {g : List (Nat × List AV)}
abbrev mrgK (d : List Span) (k : Nat) : List Span := (d.take k).foldl mergeS []
theorem mrgK_succ {d : List Span} {k : Nat} {x : Span} (h : d[k]? = some x) : mrgK d (k + 1) = mergeS (mrgK d k) x := by
  unfold mrgK
  rw [List.take_add_one, h]
  simp
theorem mrgK_len (d : List Span) (k : Nat) : (mrgK d k).length ≤ d.length := by
  have := merge_len (d.take k) []
  rw [List.length_take] at this
  simp only [List.length_nil] at this
  unfold mrgK
  omega
theorem set_last {m : List Span} {z y : Span} : ((m ++ [z]).map spanC).set m.length (spanC y) = (m ++ [y]).map spanC := by
  rw [List.map_append, List.set_append_right _ _ (by rw [List.length_map]; exact Nat.le_refl _), List.length_map, Nat.sub_self, List.map_append]
  rfl
set_option maxRecDepth 8000 in
set_option maxHeartbeats 8000000 in
theorem Union_spec (l : List Span) (hl : l.length ≤ 100000) : PCalls Tryz.prog g 87 [encSpans l] (encSpans (unionS l)) := by
  have hC := CloneS_spec (g := g) l hl
  have n1 : (!true) = false := rfl
  have n2 : (!false) = true := rfl
  refine pcalls' Tryz.func87 Tryz.ntmps87 rfl rfl rfl ?_
  cases ha : allRight l with
  | true =>
    have hD := Delete_all (g := g) l (by omega) ha
    have hfl : (l.filter spanRight).length ≤ 100000 := Nat.le_trans (List.length_filter_le ..) hl
    have hfa : l.filter spanRight = l := List.filter_eq_self.2 (fun x hx => List.all_eq_true.1 ha x hx)
    repeat' (first
     | ((with_reducible refine is_un ?_); (first | refine awpL_ocall rfl rfl hC rfl (by simp only [List.length_nil]; rfl) (by simp only [List.nil_append]; rfl) ?_ | refine awpL_icall rfl hD rfl ?_))
     | refine stn [] ?_
     | ((with_reducible refine is_gd ?_); refine awpL_split rfl rfl (fun h => ?_) (fun h => ?_))
     | ((with_reducible refine is_awp ?_); refine awp_cond rfl (fun h => ?_) (fun h => ?_))
     | fail)
    refine awpL_sort (enc := encSp) (d := l) (lt := Go.Proofs.ltOf cmpSp) rfl rfl (fun _ => rfl) (fun x v hv => by simp [encSp] at hv; rcases hv with rfl | rfl <;> rfl) (callable Tryz.func122 rfl rfl) (fun blk cap w hH hb => sortSpans_calls _ blk cap w (by omega) hH hb) (fun _ w => sortSpans_none w) rfl fun d hp hs => ?_
    have hso : SortS d := hs.imp fun h => by rw [ltSp] at h; simpa using h
    have hdl : d.length ≤ 100000 := by rw [hp.length_eq]; omega
    have hU := unionS_eq (l := l) (by rw [hfa]; exact hp) hso
    have hU2 : mrgK d d.length = unionS l := by rw [← hU]; unfold mrgK; rw [List.take_length]
    clear hU hp hs hso
    have hLd : ([LB.own 0 63 2 (l.map spanC)].set 0 (.own 0 63 2 (d.map fun x => (encSp x).map AV.v))) = [.own 0 63 2 (d.map spanC)] := rfl
    repeat' (first
     | refine stn [] ?_
     | ((with_reducible refine is_gd ?_); refine awpL_split rfl rfl (fun h => ?_) (fun h => ?_))
     | ((with_reducible refine is_awp ?_); refine awp_cond rfl (fun h => ?_) (fun h => ?_))
     | fail)
    refine awp_adopt (t := 3) (E := 63) (sz := 2) rfl rfl rfl ?_
    refine awp_for (α := Nat) 2 (fun k => [(3, .os 1 0), (12, .os 0 0), (13, vi d.length), (14, vi k)]) (fun k => [.own 0 63 2 (d.map spanC), .own 0 63 2 ((mrgK d k).map spanC)]) (fun k => k ≤ d.length) (fun k => d.length - k) 0
      ?_ (Nat.zero_le _) ?_
    · rw [show (d.length : Int) = ((d.map fun x => (encSp x).map AV.v).length : Int) by rw [List.length_map]]
      exact ⟨(.cons rfl rfl (.cons rfl rfl (.cons rfl rfl (.cons rfl rfl .nil)))), rfl, rfl, rfl⟩
    intro k hk
    have hml := mrgK_len d k
    cases ht : d[k]? with
    | none =>
      have hge : d.length ≤ k := by simpa using ht
      have c1 : decide ((k : Int) < d.length) = false := decide_eq_false (by omega)
      rw [show mrgK d k = unionS l by rw [← hU2, show k = d.length by omega]]
      repeat' (first
       | refine stn [] ?_
       | ((with_reducible refine is_gd ?_); refine awpL_split rfl rfl (fun h => ?_) (fun h => ?_))
       | ((with_reducible refine is_awp ?_); refine awp_cond rfl (fun h => ?_) (fun h => ?_))
       | fail)
      refine retP rfl ?_
      simp [ex]
    | some x =>
      have hlt : k < d.length := (List.getElem?_eq_some_iff.1 ht).1
      have c1 : decide ((k : Int) < d.length) = true := decide_eq_true (by omega)
      have hb1 : 0 ≤ (k : Int) ∧ (k : Int) < (d.map spanC).length := ⟨by omega, by rw [List.length_map]; omega⟩
      have hel : (d.map spanC)[(k : Int).toNat]? = some (spanC x) := by rw [show (k : Int).toNat = k by omega, List.getElem?_map, ht]; rfl
      have hS := mrgK_succ ht
      generalize hM : mrgK d k = M at hS hml ⊢
      generalize hM' : mrgK d (k + 1) = M' at hS
      have hMl : ((M.map spanC).length : Int) = M.length := by rw [List.length_map]
      have hmb : (M.map spanC).length ≤ 100000 := by rw [List.length_map]; omega
      rcases List.eq_nil_or_concat M with hM0 | ⟨m, z, hMz⟩
      · subst hM0
        have d1 : decide ((0 : Int) < (([] : List (List AV)).length : Int)) = false := rfl
        have hj : ([] : List (List AV)) ++ [spanC x] = M'.map spanC := by rw [hS]; rfl
        repeat' (first
         | ((with_reducible refine is_un ?_); (first | refine awpL_ev (ev_el_agg (f := spanC x) rfl rfl rfl rfl hel rfl rfl) rfl ?_ | refine awpL_ev2 (ev_app (es' := M'.map spanC) rfl rfl rfl rfl rfl rfl rfl rfl rfl rfl rfl rfl rfl (by simp only [List.length_map, List.length_cons, List.length_nil, List.length_append, List.length_take]; omega) hj rfl) rfl ?_))
         | refine st [] ?_
         | ((with_reducible refine is_gd ?_); refine awpL_split rfl rfl (fun h => ?_) (fun h => ?_))
         | ((with_reducible refine isD_gd ?_); ((fail_if_success (refine isD_kn (c := true) rfl (by first | with_reducible rfl | with_reducible assumption) ?_)); (fail_if_success (refine isD_kn (c := false) rfl (by first | with_reducible rfl | with_reducible assumption) ?_)); refine awpD_split rfl (fun h => ?_) (fun h => ?_)))
         | ((with_reducible refine is_awp ?_); refine awp_cond rfl (fun h => ?_) (fun h => ?_))
         | fail)
        exact ⟨k + 1, by rw [hM']; exact ⟨(.cons rfl rfl (.cons rfl rfl (.cons rfl rfl (.cons rfl rfl .nil)))), rfl, rfl, rfl⟩, by omega, by omega⟩
      · rw [List.concat_eq_append] at hMz
        subst hMz
        have hn1 : (((m ++ [z]).map spanC).length : Int) - 1 = m.length := by rw [List.length_map, List.length_append]; simp
        have d1 : decide ((0 : Int) < ((m ++ [z]).map spanC).length) = true := decide_eq_true (by omega)
        have hb2 : 0 ≤ (((m ++ [z]).map spanC).length : Int) - 1 ∧ (((m ++ [z]).map spanC).length : Int) - 1 < ((m ++ [z]).map spanC).length := ⟨by omega, by omega⟩
        have hel2 : ((m ++ [z]).map spanC)[((((m ++ [z]).map spanC).length : Int) - 1).toNat]? = some (spanC z) := by
          rw [hn1, show (m.length : Int).toNat = m.length by omega, List.getElem?_map, List.getElem?_append_right (Nat.le_refl _), Nat.sub_self]; rfl
        have hms : M' = if x.fro ≤ z.til then m ++ [⟨z.fro, max z.til x.til⟩] else (m ++ [z]) ++ [x] := by
          rw [hS]; unfold mergeS
          simp only [List.getLast?_append, List.getLast?_singleton, Option.some_or, List.dropLast_concat]
        by_cases hle : x.fro ≤ z.til
        · have d2 : decide (x.fro ≤ z.til) = true := decide_eq_true hle
          rw [if_pos hle] at hms
          have hset : ((m ++ [z]).map spanC).set ((((m ++ [z]).map spanC).length : Int) - 1).toNat (spanC ⟨z.fro, max z.til x.til⟩) = M'.map spanC := by
            rw [hn1, show (m.length : Int).toNat = m.length by omega, hms]; exact set_last
          repeat' (first
           | refine awp_drawT2 12 (by simp only [List.take_succ_cons, List.take_zero, List.take_nil]; rfl) (by simp only [List.drop_succ_cons, List.drop_zero, List.drop_nil]; rfl) (by kernel_rfl) rfl rfl rfl rfl (by repeat' (first | exact Strip.nil | apply Strip.keep rfl | apply Strip.drop rfl)) ?_
           | ((with_reducible refine is_un ?_); (first | refine awpL_ev (ev_el_agg (f := spanC x) rfl rfl rfl rfl hel rfl rfl) rfl ?_ | refine awpL_evS (ev_st_ep (el' := spanC ⟨z.fro, max z.til x.til⟩) (L' := [.own 0 63 2 (d.map spanC), .own 0 63 2 (M'.map spanC), .dead]) rfl rfl rfl rfl rfl rfl rfl rfl hel2 rfl (by rw [← hset]; rfl)) ?_))
           | refine st [] ?_
           | ((with_reducible refine is_gd ?_); refine awpL_split rfl rfl (fun h => ?_) (fun h => ?_))
           | ((with_reducible refine isD_gd ?_); ((fail_if_success (refine isD_kn (c := true) rfl (by first | with_reducible rfl | with_reducible assumption) ?_)); (fail_if_success (refine isD_kn (c := false) rfl (by first | with_reducible rfl | with_reducible assumption) ?_)); refine awpD_split rfl (fun h => ?_) (fun h => ?_)))
           | ((with_reducible refine is_awp ?_); refine awp_cond rfl (fun h => ?_) (fun h => ?_))
           | fail)
          exact ⟨k + 1, by rw [hM']; exact ⟨(.cons rfl rfl (.cons rfl rfl (.cons rfl rfl (.cons rfl rfl .nil)))), rfl, rfl, rfl⟩, by omega, by omega⟩
        · have d2 : decide (x.fro ≤ z.til) = false := decide_eq_false hle
          rw [if_neg hle] at hms
          have hj : (m ++ [z]).map spanC ++ [spanC x] = M'.map spanC := by rw [hms]; simp
          repeat' (first
           | ((with_reducible refine is_un ?_); (first | refine awpL_ev (ev_el_agg (f := spanC x) rfl rfl rfl rfl hel rfl rfl) rfl ?_ | refine awpL_ev2 (ev_app (es' := M'.map spanC) rfl rfl rfl rfl rfl rfl rfl rfl rfl rfl rfl rfl rfl (by simp only [List.length_map, List.length_cons, List.length_nil, List.length_append, List.length_take]; omega) hj rfl) rfl ?_))
           | refine st [] ?_
           | ((with_reducible refine is_gd ?_); refine awpL_split rfl rfl (fun h => ?_) (fun h => ?_))
           | ((with_reducible refine isD_gd ?_); ((fail_if_success (refine isD_kn (c := true) rfl (by first | with_reducible rfl | with_reducible assumption) ?_)); (fail_if_success (refine isD_kn (c := false) rfl (by first | with_reducible rfl | with_reducible assumption) ?_)); refine awpD_split rfl (fun h => ?_) (fun h => ?_)))
           | ((with_reducible refine is_awp ?_); refine awp_cond rfl (fun h => ?_) (fun h => ?_))
           | fail)
          exact ⟨k + 1, by rw [hM']; exact ⟨(.cons rfl rfl (.cons rfl rfl (.cons rfl rfl (.cons rfl rfl .nil)))), rfl, rfl, rfl⟩, by omega, by omega⟩
  | false =>
    have hD := Delete_some (g := g) l (by omega) ha
    have hfl : (l.filter spanRight).length ≤ 100000 := Nat.le_trans (List.length_filter_le ..) hl
    skip
    repeat' (first
     | ((with_reducible refine is_un ?_); (first | refine awpL_ocall rfl rfl hC rfl (by simp only [List.length_nil]; rfl) (by simp only [List.nil_append]; rfl) ?_ | refine awpL_icall rfl hD rfl ?_))
     | refine stn [] ?_
     | ((with_reducible refine is_gd ?_); refine awpL_split rfl rfl (fun h => ?_) (fun h => ?_))
     | ((with_reducible refine is_awp ?_); refine awp_cond rfl (fun h => ?_) (fun h => ?_))
     | fail)
    refine awpL_sort (enc := encSp) (d := (l.filter spanRight)) (lt := Go.Proofs.ltOf cmpSp) rfl rfl (fun _ => rfl) (fun x v hv => by simp [encSp] at hv; rcases hv with rfl | rfl <;> rfl) (callable Tryz.func122 rfl rfl) (fun blk cap w hH hb => sortSpans_calls _ blk cap w (by omega) hH hb) (fun _ w => sortSpans_none w) rfl fun d hp hs => ?_
    have hso : SortS d := hs.imp fun h => by rw [ltSp] at h; simpa using h
    have hdl : d.length ≤ 100000 := by rw [hp.length_eq]; omega
    have hU := unionS_eq (l := l) hp hso
    have hU2 : mrgK d d.length = unionS l := by rw [← hU]; unfold mrgK; rw [List.take_length]
    clear hU hp hs hso
    have hLd : ([LB.own 1 63 2 ((l.filter spanRight).map spanC)].set 0 (.own 1 63 2 (d.map fun x => (encSp x).map AV.v))) = [.own 1 63 2 (d.map spanC)] := rfl
    repeat' (first
     | refine stn [] ?_
     | ((with_reducible refine is_gd ?_); refine awpL_split rfl rfl (fun h => ?_) (fun h => ?_))
     | ((with_reducible refine is_awp ?_); refine awp_cond rfl (fun h => ?_) (fun h => ?_))
     | fail)
    refine awp_adopt (t := 3) (E := 63) (sz := 2) rfl rfl rfl ?_
    refine awp_for (α := Nat) 2 (fun k => [(3, .os 1 0), (12, .os 0 0), (13, vi d.length), (14, vi k)]) (fun k => [.own 0 63 2 (d.map spanC), .own 0 63 2 ((mrgK d k).map spanC)]) (fun k => k ≤ d.length) (fun k => d.length - k) 0
      ?_ (Nat.zero_le _) ?_
    · rw [show (d.length : Int) = ((d.map fun x => (encSp x).map AV.v).length : Int) by rw [List.length_map]]
      exact ⟨(.cons rfl rfl (.cons rfl rfl (.cons rfl rfl (.cons rfl rfl .nil)))), rfl, rfl, rfl⟩
    intro k hk
    have hml := mrgK_len d k
    cases ht : d[k]? with
    | none =>
      have hge : d.length ≤ k := by simpa using ht
      have c1 : decide ((k : Int) < d.length) = false := decide_eq_false (by omega)
      rw [show mrgK d k = unionS l by rw [← hU2, show k = d.length by omega]]
      repeat' (first
       | refine stn [] ?_
       | ((with_reducible refine is_gd ?_); refine awpL_split rfl rfl (fun h => ?_) (fun h => ?_))
       | ((with_reducible refine is_awp ?_); refine awp_cond rfl (fun h => ?_) (fun h => ?_))
       | fail)
      refine retP rfl ?_
      simp [ex]
    | some x =>
      have hlt : k < d.length := (List.getElem?_eq_some_iff.1 ht).1
      have c1 : decide ((k : Int) < d.length) = true := decide_eq_true (by omega)
      have hb1 : 0 ≤ (k : Int) ∧ (k : Int) < (d.map spanC).length := ⟨by omega, by rw [List.length_map]; omega⟩
      have hel : (d.map spanC)[(k : Int).toNat]? = some (spanC x) := by rw [show (k : Int).toNat = k by omega, List.getElem?_map, ht]; rfl
      have hS := mrgK_succ ht
      generalize hM : mrgK d k = M at hS hml ⊢
      generalize hM' : mrgK d (k + 1) = M' at hS
      have hMl : ((M.map spanC).length : Int) = M.length := by rw [List.length_map]
      have hmb : (M.map spanC).length ≤ 100000 := by rw [List.length_map]; omega
      rcases List.eq_nil_or_concat M with hM0 | ⟨m, z, hMz⟩
      · subst hM0
        have d1 : decide ((0 : Int) < (([] : List (List AV)).length : Int)) = false := rfl
        have hj : ([] : List (List AV)) ++ [spanC x] = M'.map spanC := by rw [hS]; rfl
        repeat' (first
         | ((with_reducible refine is_un ?_); (first | refine awpL_ev (ev_el_agg (f := spanC x) rfl rfl rfl rfl hel rfl rfl) rfl ?_ | refine awpL_ev2 (ev_app (es' := M'.map spanC) rfl rfl rfl rfl rfl rfl rfl rfl rfl rfl rfl rfl rfl (by simp only [List.length_map, List.length_cons, List.length_nil, List.length_append, List.length_take]; omega) hj rfl) rfl ?_))
         | refine st [] ?_
         | ((with_reducible refine is_gd ?_); refine awpL_split rfl rfl (fun h => ?_) (fun h => ?_))
         | ((with_reducible refine isD_gd ?_); ((fail_if_success (refine isD_kn (c := true) rfl (by first | with_reducible rfl | with_reducible assumption) ?_)); (fail_if_success (refine isD_kn (c := false) rfl (by first | with_reducible rfl | with_reducible assumption) ?_)); refine awpD_split rfl (fun h => ?_) (fun h => ?_)))
         | ((with_reducible refine is_awp ?_); refine awp_cond rfl (fun h => ?_) (fun h => ?_))
         | fail)
        exact ⟨k + 1, by rw [hM']; exact ⟨(.cons rfl rfl (.cons rfl rfl (.cons rfl rfl (.cons rfl rfl .nil)))), rfl, rfl, rfl⟩, by omega, by omega⟩
      · rw [List.concat_eq_append] at hMz
        subst hMz
        have hn1 : (((m ++ [z]).map spanC).length : Int) - 1 = m.length := by rw [List.length_map, List.length_append]; simp
        have d1 : decide ((0 : Int) < ((m ++ [z]).map spanC).length) = true := decide_eq_true (by omega)
        have hb2 : 0 ≤ (((m ++ [z]).map spanC).length : Int) - 1 ∧ (((m ++ [z]).map spanC).length : Int) - 1 < ((m ++ [z]).map spanC).length := ⟨by omega, by omega⟩
        have hel2 : ((m ++ [z]).map spanC)[((((m ++ [z]).map spanC).length : Int) - 1).toNat]? = some (spanC z) := by
          rw [hn1, show (m.length : Int).toNat = m.length by omega, List.getElem?_map, List.getElem?_append_right (Nat.le_refl _), Nat.sub_self]; rfl
        have hms : M' = if x.fro ≤ z.til then m ++ [⟨z.fro, max z.til x.til⟩] else (m ++ [z]) ++ [x] := by
          rw [hS]; unfold mergeS
          simp only [List.getLast?_append, List.getLast?_singleton, Option.some_or, List.dropLast_concat]
        by_cases hle : x.fro ≤ z.til
        · have d2 : decide (x.fro ≤ z.til) = true := decide_eq_true hle
          rw [if_pos hle] at hms
          have hset : ((m ++ [z]).map spanC).set ((((m ++ [z]).map spanC).length : Int) - 1).toNat (spanC ⟨z.fro, max z.til x.til⟩) = M'.map spanC := by
            rw [hn1, show (m.length : Int).toNat = m.length by omega, hms]; exact set_last
          repeat' (first
           | refine awp_drawT2 12 (by simp only [List.take_succ_cons, List.take_zero, List.take_nil]; rfl) (by simp only [List.drop_succ_cons, List.drop_zero, List.drop_nil]; rfl) (by kernel_rfl) rfl rfl rfl rfl (by repeat' (first | exact Strip.nil | apply Strip.keep rfl | apply Strip.drop rfl)) ?_
           | ((with_reducible refine is_un ?_); (first | refine awpL_ev (ev_el_agg (f := spanC x) rfl rfl rfl rfl hel rfl rfl) rfl ?_ | refine awpL_evS (ev_st_ep (el' := spanC ⟨z.fro, max z.til x.til⟩) (L' := [.own 0 63 2 (d.map spanC), .own 0 63 2 (M'.map spanC), .dead]) rfl rfl rfl rfl rfl rfl rfl rfl hel2 rfl (by rw [← hset]; rfl)) ?_))
           | refine st [] ?_
           | ((with_reducible refine is_gd ?_); refine awpL_split rfl rfl (fun h => ?_) (fun h => ?_))
           | ((with_reducible refine isD_gd ?_); ((fail_if_success (refine isD_kn (c := true) rfl (by first | with_reducible rfl | with_reducible assumption) ?_)); (fail_if_success (refine isD_kn (c := false) rfl (by first | with_reducible rfl | with_reducible assumption) ?_)); refine awpD_split rfl (fun h => ?_) (fun h => ?_)))
           | ((with_reducible refine is_awp ?_); refine awp_cond rfl (fun h => ?_) (fun h => ?_))
           | fail)
          exact ⟨k + 1, by rw [hM']; exact ⟨(.cons rfl rfl (.cons rfl rfl (.cons rfl rfl (.cons rfl rfl .nil)))), rfl, rfl, rfl⟩, by omega, by omega⟩
        · have d2 : decide (x.fro ≤ z.til) = false := decide_eq_false hle
          rw [if_neg hle] at hms
          have hj : (m ++ [z]).map spanC ++ [spanC x] = M'.map spanC := by rw [hms]; simp
          repeat' (first
           | ((with_reducible refine is_un ?_); (first | refine awpL_ev (ev_el_agg (f := spanC x) rfl rfl rfl rfl hel rfl rfl) rfl ?_ | refine awpL_ev2 (ev_app (es' := M'.map spanC) rfl rfl rfl rfl rfl rfl rfl rfl rfl rfl rfl rfl rfl (by simp only [List.length_map, List.length_cons, List.length_nil, List.length_append, List.length_take]; omega) hj rfl) rfl ?_))
           | refine st [] ?_
           | ((with_reducible refine is_gd ?_); refine awpL_split rfl rfl (fun h => ?_) (fun h => ?_))
           | ((with_reducible refine isD_gd ?_); ((fail_if_success (refine isD_kn (c := true) rfl (by first | with_reducible rfl | with_reducible assumption) ?_)); (fail_if_success (refine isD_kn (c := false) rfl (by first | with_reducible rfl | with_reducible assumption) ?_)); refine awpD_split rfl (fun h => ?_) (fun h => ?_)))
           | ((with_reducible refine is_awp ?_); refine awp_cond rfl (fun h => ?_) (fun h => ?_))
           | fail)
          exact ⟨k + 1, by rw [hM']; exact ⟨(.cons rfl rfl (.cons rfl rfl (.cons rfl rfl (.cons rfl rfl .nil)))), rfl, rfl, rfl⟩, by omega, by omega⟩
set_option maxHeartbeats 2000000 in
theorem Covers_S (l : List Span) (s : Span) (hl : l.length ≤ 100000) : PCalls Tryz.prog g 57 [encSpans l, .agg (spanC s)] (vb (covB l s)) := by
  have hR := spanR_spec (g := g) s
  have hU := Union_spec (g := g) l hl
  have hul : (unionS l).length ≤ 1000000 := by
    have h1 := merge_len (sortedS (l.filter spanRight)) []
    have h2 := (sortedS_perm (l.filter spanRight)).length_eq
    have h3 := List.length_filter_le spanRight l
    unfold unionS
    simp only [List.length_nil] at h1
    omega
  have hN := ContainsS1_spec (g := g) (around s) 88 (spanC s) (fun x => CoversC_spec s x) (unionS l) hul
  refine pcalls' Tryz.func57 Tryz.ntmps57 rfl rfl rfl ?_
  cases hs : spanRight s with
  | false =>
    rw [hs] at hR
    rw [show covB l s = false by unfold covB; rw [hs]; rfl]
    repeat' (first
     | refine stn [] ?_
     | ((with_reducible refine is_gd ?_); refine awpL_split rfl rfl (fun h => ?_) (fun h => ?_))
     | ((with_reducible refine is_awp ?_); refine awp_cond rfl (fun h => ?_) (fun h => ?_))
     | fail)
    exact retP rfl rfl
  | true =>
    rw [hs] at hR
    rw [unionS_cov hs] at hN
    repeat' (first
     | refine stn [] ?_
     | ((with_reducible refine is_gd ?_); refine awpL_split rfl rfl (fun h => ?_) (fun h => ?_))
     | ((with_reducible refine is_awp ?_); refine awp_cond rfl (fun h => ?_) (fun h => ?_))
     | fail)
    exact retP rfl rfl
end Go.Proofs.YtnacjdaoiepbhaaGreatDoor
end
section
namespace Go.Ac
section
variable {P : Program} {td : TDs} [T : TOK P td] {G : Glo} {N : Nat} {S : SL} {L : List LB} {ty : TypeId} {x : AV}
end
end Go.Ac
end
section
namespace Go.Proofs.YtnacjdaoiepbhaaGreatDoor
open Go.Ac
attribute [local irreducible] awp awpL Ev Ev2 EvS thenQ blockQ retQ PCalls OCalls YieldOk IterC ICalls
variable {g : List (Nat × List AV)}
abbrev woK (l : List Span) (b : Span) (k : Nat) : List Span := withoutL (l.take k) b
abbrev minK (s : Span) (l : List Span) (k : Nat) : List Span := minusL s (l.take k)
end Go.Proofs.YtnacjdaoiepbhaaGreatDoor
end
