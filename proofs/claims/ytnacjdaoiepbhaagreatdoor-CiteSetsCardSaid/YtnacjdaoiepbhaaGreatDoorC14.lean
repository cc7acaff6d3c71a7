/- A logic of trees over the model's steps, and the contracts of the functions that the laws reach: part 14 of 15. -/
import Derived.Test.YtnacjdaoiepbhaaGreatDoorC13
set_option linter.unusedVariables false
set_option linter.unusedSimpArgs false
set_option linter.unusedSectionVars false
section
namespace Go.Proofs.YtnacjdaoiepbhaaGreatDoor
open Go.Ac Go.MapKept
attribute [local irreducible] awp awpL Ev Ev2 EvS thenQ blockQ retQ PCalls OCalls YieldOk IterC ICalls
variable {g : List (Nat × List AV)}
def makeR (l : List Op) (note : Int) : Option Cite × Int := match addedO l note with
  | none => (none, 9)
  | some o => match cell l note with
    | none => (none, 26)
    | some c => (some ⟨o.rec_, note, (c.text.getLast?.getD zeroVal).at_⟩, 0)
def histL (l : List Op) (note : Int) : List Cite := (l.filter fun o => writes o note 0).map fun o => ⟨o.rec_, note, o.at_⟩
def namedBy (c : Cite) (o : Op) : Bool := writes o c.note 0 && decide ((⟨o.rec_, c.note, o.at_⟩ : Cite) = c)
def resR (l : List Op) (c : Cite) : ByteArray × Int := match l.find? (namedBy c) with
  | none => (.empty, 9)
  | some o => if (cell l c.note).isSome then ((valueOf o 0).text, 0) else (.empty, 26)
def citeEq : List Value → List Value → Option Bool
  | [.int .i64 a, .int .i64 b, .int .i64 c, .int .i64 d], [.int .i64 a', .int .i64 b', .int .i64 c', .int .i64 d'] => some (a == a' && (b == b' && (c == c' && d == d')))
  | _, _ => none
theorem citeEq_T : EqT Tryz.prog 25 citeEq := by
  intro xs ys b w h
  unfold citeEq at h
  split at h
  · rename_i a b c d a' b' c' d'
    have h := Option.some.inj h
    subst h
    have u3 := Tryz.underlying3
    have a3 := Tryz.isAgg3
    have z3 := Tryz.sizeOf3
    have a7 := Tryz.isAgg23
    have z7 := Tryz.sizeOf23
    have hS : Tryz.prog.underlying 25 = some (.struct (Tryz.prog.fieldsOf 25)) := by kernel_rfl
    have hsp : ∀ w, (Op.equalIn 9999 23 (.agg #[.int .i64 c, .int .i64 d]) (.agg #[.int .i64 c', .int .i64 d'])).run Tryz.prog w = .ok (c == c' && d == d') w := by
      intro w
      rw [show (9999 : Nat) = 9998 + 1 from rfl, run_equalIn_agg w 9998 _ _ _ (show Tryz.prog.underlying 23 = some (.struct (Tryz.prog.fieldsOf 23)) by kernel_rfl) (by kernel_rfl)]
      simp only [Program.fieldsOf, Tryz.underlying23]
      go_simp
      by_cases h1 : c = c' <;> by_cases h2 : d = d' <;> simp [h1, h2]
    rw [show (10000 : Nat) = 9999 + 1 from rfl, run_equalIn_agg w 9999 _ _ _ hS (by kernel_rfl)]
    simp only [Program.fieldsOf, Tryz.underlying25]
    go_simp
    by_cases h1 : a = a' <;> by_cases h2 : b = b' <;> by_cases h3 : c = c' <;> by_cases h4 : d = d' <;> simp [h1, h2, h3, h4]
  · cases h
theorem cite_eqb (a b : Cite) : (a.rec_ == b.rec_ && (a.note == b.note && (a.at_.count == b.at_.count && a.at_.dev == b.at_.dev))) = decide (a = b) := by
  obtain ⟨r, n, ⟨c, d⟩⟩ := a
  obtain ⟨r', n', ⟨c', d'⟩⟩ := b
  simp only [Cite.mk.injEq, Stamp.mk.injEq]
  by_cases h1 : r = r' <;> by_cases h2 : n = n' <;> by_cases h3 : c = c' <;> by_cases h4 : d = d' <;> simp [h1, h2, h3, h4]
set_option maxHeartbeats 1000000 in
theorem CAdded_spec (r : Replica) (n : Int) (hl : r.ops.length ≤ 1000000) : PCalls Tryz.prog g 45 [.agg (repC r), vi n] (addedV (addedO r.ops n)) := by
  refine pcalls' Tryz.func45 Tryz.ntmps45 rfl rfl rfl ?_
  repeat' (first
   | refine stn [4] ?_
   | ((with_reducible refine is_gd ?_); refine awpL_split rfl rfl (fun h => ?_) (fun h => ?_))
   | ((with_reducible refine is_awp ?_); refine awp_cond rfl (fun h => ?_) (fun h => ?_))
   | fail)
  refine awp_for (α := Nat) 1 (fun k => [(1, vi n), (4, .lp 0 0), (9, encOps r.ops), (10, vi r.ops.length), (11, vi k)]) (fun k => [.box zeroOpC]) (fun k => k ≤ r.ops.length ∧ addedO r.ops n = (r.ops.drop k).find? fun o => decide (o.kind = 0) && decide (o.note.id = n)) (fun k => r.ops.length - k) 0
    ⟨(.cons rfl rfl (.cons rfl rfl (.cons rfl rfl (.cons rfl rfl (.cons rfl rfl .nil))))), rfl, rfl, rfl⟩ ⟨Nat.zero_le _, rfl⟩ ?_
  rintro k ⟨hk, hf⟩
  cases ht : r.ops[k]? with
  | none =>
    have hge : r.ops.length ≤ k := by simpa using ht
    have c1 : decide ((k : Int) < r.ops.length) = false := decide_eq_false (by omega)
    rw [List.drop_of_length_le hge] at hf
    repeat' (first
     | refine stn [4] ?_
     | ((with_reducible refine is_gd ?_); refine awpL_split rfl rfl (fun h => ?_) (fun h => ?_))
     | ((with_reducible refine is_awp ?_); refine awp_cond rfl (fun h => ?_) (fun h => ?_))
     | fail)
    refine retLe rfl ?_
    rw [hf]
    exact Le.tup (.cons (Le.agg le_zeroOp) (.cons (Le.rfl' _) .nil))
  | some x =>
    have hlt : k < r.ops.length := (List.getElem?_eq_some_iff.1 ht).1
    have c1 : decide ((k : Int) < r.ops.length) = true := decide_eq_true (by omega)
    have h1 := op_get ht
    rw [find_drop _ r.ops k x ht] at hf
    by_cases hk0 : x.kind = 0
    · have d1 : decide (x.kind = 0) = true := decide_eq_true hk0
      by_cases hid : x.note.id = n
      · have d2 : decide (x.note.id = n) = true := decide_eq_true hid
        rw [d1, d2] at hf
        repeat' (first
         | refine stn [4] ?_
         | ((with_reducible refine is_gd ?_); refine awpL_split rfl rfl (fun h => ?_) (fun h => ?_))
         | ((with_reducible refine is_awp ?_); refine awp_cond rfl (fun h => ?_) (fun h => ?_))
         | fail)
        refine retP rfl ?_
        rw [hf]; rfl
      · have d2 : decide (x.note.id = n) = false := decide_eq_false hid
        rw [d1, d2] at hf
        repeat' (first
         | refine stn [4] ?_
         | ((with_reducible refine is_gd ?_); refine awpL_split rfl rfl (fun h => ?_) (fun h => ?_))
         | ((with_reducible refine is_awp ?_); refine awp_cond rfl (fun h => ?_) (fun h => ?_))
         | fail)
        exact ⟨k + 1, ⟨(.cons rfl rfl (.cons rfl rfl (.cons rfl rfl (.cons rfl rfl (.cons rfl rfl .nil))))), rfl, rfl, rfl⟩, ⟨by omega, hf⟩, by omega⟩
    · have d1 : decide (x.kind = 0) = false := decide_eq_false hk0
      rw [d1] at hf
      repeat' (first
       | refine stn [4] ?_
       | ((with_reducible refine is_gd ?_); refine awpL_split rfl rfl (fun h => ?_) (fun h => ?_))
       | ((with_reducible refine is_awp ?_); refine awp_cond rfl (fun h => ?_) (fun h => ?_))
       | fail)
      exact ⟨k + 1, ⟨(.cons rfl rfl (.cons rfl rfl (.cons rfl rfl (.cons rfl rfl (.cons rfl rfl .nil))))), rfl, rfl, rfl⟩, ⟨by omega, hf⟩, by omega⟩
abbrev makeV (p : Option Cite × Int) : AV := .tup [.agg (citeC (p.1.getD zeroCite)), vi p.2]
theorem last_some {l : List Val} (h : l.length ≠ 0) : ∃ v, l.getLast? = some v := by
  cases hl : l.getLast? with
  | some v => exact ⟨v, rfl⟩
  | none => exact absurd (last_nil hl) h
set_option maxHeartbeats 2000000 in
theorem Make_spec (r : Replica) (n : Int) (h : FitG r) : PCalls Tryz.prog g 19 [.agg (repC r), vi n] (makeV (makeR r.ops n)) := by
  have hl := h.l
  have hA := CAdded_spec (g := g) r n (by omega)
  have hC := Cell_spec (g := g) r n hl h.o.2 h.g
  have n1 : (!true) = false := rfl
  have n2 : (!false) = true := rfl
  refine pcalls' Tryz.func19 Tryz.ntmps19 rfl rfl rfl ?_
  unfold makeR
  cases ha : addedO r.ops n with
  | none =>
    rw [ha] at hA
    rw [addedV] at hA
    simp only [Option.getD_none, Option.isSome_none, Option.getD_some, Option.isSome_some] at hA
    repeat' (first
     | refine stn [4] ?_
     | ((with_reducible refine is_gd ?_); refine awpL_split rfl rfl (fun h => ?_) (fun h => ?_))
     | ((with_reducible refine is_awp ?_); refine awp_cond rfl (fun h => ?_) (fun h => ?_))
     | fail)
    exact retP rfl rfl
  | some o =>
    rw [ha] at hA
    rw [addedV] at hA
    simp only [Option.getD_none, Option.isSome_none, Option.getD_some, Option.isSome_some] at hA
    simp only
    cases hc : cell r.ops n with
    | none =>
      rw [cellV, hc] at hC
      simp only [Option.getD_none, Option.isSome_none] at hC
      repeat' (first
       | refine st [4] ?_
       | ((with_reducible refine is_gd ?_); refine awpL_split rfl rfl (fun h => ?_) (fun h => ?_))
       | ((with_reducible refine isD_gd ?_); ((fail_if_success (refine isD_kn (c := true) rfl (by first | with_reducible rfl | with_reducible assumption) ?_)); (fail_if_success (refine isD_kn (c := false) rfl (by first | with_reducible rfl | with_reducible assumption) ?_)); refine awpD_split rfl (fun h => ?_) (fun h => ?_)))
       | ((with_reducible refine is_awp ?_); refine awp_cond rfl (fun h => ?_) (fun h => ?_))
       | fail)
      exact retP rfl rfl
    | some c =>
      rw [cellV, hc] at hC
      simp only [Option.getD_some, Option.isSome_some] at hC
      obtain ⟨m1, _, _⟩ := cell_ne h.g hc
      obtain ⟨v, hv⟩ := last_some m1
      obtain ⟨v1, v2, v3⟩ := last_val hv
      have hcl := (cell_fit hl hc).1
      have d1 : decide ((c.text.length : Int) = 0) = false := decide_eq_false (by omega)
      have i1 : 0 ≤ (c.text.length : Int) - 1 ∧ (c.text.map valC)[((c.text.length : Int) - 1).toNat]? = some (valC v) := ⟨v2, v3⟩
      obtain ⟨a, ha', _, _, hr⟩ := cell_inv hc
      rw [ha] at ha'
      cases ha'
      simp only
      rw [hv]
      skip
      repeat' (first
       | refine st [4] ?_
       | ((with_reducible refine is_gd ?_); refine awpL_split rfl rfl (fun h => ?_) (fun h => ?_))
       | ((with_reducible refine isD_gd ?_); ((fail_if_success (refine isD_kn (c := true) rfl (by first | with_reducible rfl | with_reducible assumption) ?_)); (fail_if_success (refine isD_kn (c := false) rfl (by first | with_reducible rfl | with_reducible assumption) ?_)); refine awpD_split rfl (fun h => ?_) (fun h => ?_)))
       | ((with_reducible refine is_awp ?_); refine awp_cond rfl (fun h => ?_) (fun h => ?_))
       | fail)
      refine retP rfl ?_
      rfl
abbrev encCites (l : List Cite) : AV := .fs 4 l.length (l.map citeC)
theorem cite_get {l : List Cite} {k : Nat} {x : Cite} (h : l[k]? = some x) : 0 ≤ (k : Int) ∧ (l.map citeC)[(k : Int).toNat]? = some (citeC x) := ⟨by omega, by simp [h]⟩
def histK (l : List Op) (note : Int) (k : Nat) : List Cite := histL (l.take k) note
theorem histK_succ {l : List Op} {note : Int} {k : Nat} {o : Op} (h : l[k]? = some o) : histK l note (k + 1) = histK l note k ++ (if writes o note 0 then [⟨o.rec_, note, o.at_⟩] else []) := by
  unfold histK histL
  rw [List.take_add_one, h, List.filter_append, List.map_append]
  congr 1
  by_cases hw : writes o note 0 = true
  · simp [hw]
  · simp [hw]
theorem histK_len (l : List Op) (note : Int) (k : Nat) : (histK l note k).length ≤ l.length := by
  unfold histK histL
  rw [List.length_map]
  exact Nat.le_trans (List.length_filter_le ..) (by rw [List.length_take]; omega)
set_option maxHeartbeats 2000000 in
theorem History_spec (r : Replica) (n : Int) (hl : r.ops.length ≤ 100000) : PCalls Tryz.prog g 23 [.agg (repC r), vi n] (encCites (histL r.ops n)) := by
  refine pcalls' Tryz.func23 Tryz.ntmps23 rfl rfl rfl ?_
  repeat' (first
   | refine stn [] ?_
   | ((with_reducible refine is_gd ?_); refine awpL_split rfl rfl (fun h => ?_) (fun h => ?_))
   | ((with_reducible refine is_awp ?_); refine awp_cond rfl (fun h => ?_) (fun h => ?_))
   | fail)
  refine awp_adopt (t := 5) (E := 25) (sz := 4) rfl rfl rfl ?_
  refine awp_for (α := Nat) 1 (fun k => [(1, vi n), (2, .fp (repC r)), (5, .os 0 0), (9, encOps r.ops), (10, vi r.ops.length), (11, vi k)]) (fun k => [.own 0 25 4 ((histK r.ops n k).map citeC)]) (fun k => k ≤ r.ops.length) (fun k => r.ops.length - k) 0
    ⟨(.cons rfl rfl (.cons rfl rfl (.cons rfl rfl (.cons rfl rfl (.cons rfl rfl (.cons rfl rfl .nil)))))), rfl, rfl, rfl⟩ (Nat.zero_le _) ?_
  rintro k hk
  have hcl := histK_len r.ops n k
  cases ht : r.ops[k]? with
  | none =>
    have hge : r.ops.length ≤ k := by simpa using ht
    have c1 : decide ((k : Int) < r.ops.length) = false := decide_eq_false (by omega)
    have hD : histK r.ops n k = histL r.ops n := by unfold histK; rw [List.take_of_length_le hge]
    rw [hD]
    repeat' (first
     | refine stn [] ?_
     | ((with_reducible refine is_gd ?_); refine awpL_split rfl rfl (fun h => ?_) (fun h => ?_))
     | ((with_reducible refine is_awp ?_); refine awp_cond rfl (fun h => ?_) (fun h => ?_))
     | fail)
    refine retP rfl ?_
    simp [ex]
  | some x =>
    have hlt : k < r.ops.length := (List.getElem?_eq_some_iff.1 ht).1
    have c1 : decide ((k : Int) < r.ops.length) = true := decide_eq_true (by omega)
    have h1 := op_get ht
    have hW := Writes_spec (g := g) x n 0
    have hS := histK_succ (note := n) ht
    generalize hM : histK r.ops n k = M at hS hcl ⊢
    generalize hM' : histK r.ops n (k + 1) = M' at hS
    have hmb : (M.map citeC).length ≤ 100000 := by rw [List.length_map]; omega
    cases hw : writes x n 0 with
    | true =>
      rw [hw] at hW hS
      have hj : M.map citeC ++ [citeC ⟨x.rec_, n, x.at_⟩] = M'.map citeC := by rw [hS]; simp
      repeat' (first
       | ((with_reducible refine is_un ?_); refine awpL_ev2 (ev_app (es' := M'.map citeC) rfl rfl rfl rfl rfl rfl rfl rfl rfl rfl rfl rfl rfl (by simp only [List.length_map, List.length_cons, List.length_nil, List.length_append, List.length_take]; omega) hj rfl) rfl ?_)
       | refine stn [] ?_
       | ((with_reducible refine is_gd ?_); refine awpL_split rfl rfl (fun h => ?_) (fun h => ?_))
       | ((with_reducible refine is_awp ?_); refine awp_cond rfl (fun h => ?_) (fun h => ?_))
       | fail)
      exact ⟨k + 1, by rw [hM']; exact ⟨(.cons rfl rfl (.cons rfl rfl (.cons rfl rfl (.cons rfl rfl (.cons rfl rfl (.cons rfl rfl .nil)))))), rfl, rfl, rfl⟩, by omega, by omega⟩
    | false =>
      rw [hw] at hW hS
      have hS : M' = M := by rw [hS]; simp
      subst hS
      repeat' (first
       | refine stn [] ?_
       | ((with_reducible refine is_gd ?_); refine awpL_split rfl rfl (fun h => ?_) (fun h => ?_))
       | ((with_reducible refine is_awp ?_); refine awp_cond rfl (fun h => ?_) (fun h => ?_))
       | fail)
      exact ⟨k + 1, by rw [hM']; exact ⟨(.cons rfl rfl (.cons rfl rfl (.cons rfl rfl (.cons rfl rfl (.cons rfl rfl (.cons rfl rfl .nil)))))), rfl, rfl, rfl⟩, by omega, by omega⟩
theorem find_drop2 {l : List Op} {f : Op → Bool} {k : Nat} {x : Op} (h : l[k]? = some x) : (l.drop k).find? f = if f x then some x else (l.drop (k + 1)).find? f := by
  have := find_drop f l k x h
  rw [this]
abbrev resV (p : ByteArray × Int) : AV := .tup [.v (.string p.1), vi p.2]
set_option maxHeartbeats 2000000 in
theorem Resolve_spec (r : Replica) (c : Cite) (h : FitG r) : PCalls Tryz.prog g 25 [.agg (repC r), .agg (citeC c)] (resV (resR r.ops c)) := by
  have hl := h.l
  have hC := Cell_spec (g := g) r c.note hl h.o.2 h.g
  have n1 : (!true) = false := rfl
  have n2 : (!false) = true := rfl
  refine pcalls' Tryz.func25 Tryz.ntmps25 rfl rfl rfl ?_
  repeat' (first
   | refine stn [] ?_
   | ((with_reducible refine is_gd ?_); refine awpL_split rfl rfl (fun h => ?_) (fun h => ?_))
   | ((with_reducible refine is_awp ?_); refine awp_cond rfl (fun h => ?_) (fun h => ?_))
   | fail)
  refine awp_for (α := Nat) 0 (fun k => [(2, .fp (repC r)), (3, .fp (citeC c)), (11, encOps r.ops), (12, vi r.ops.length), (13, vi k)]) (fun k => []) (fun k => k ≤ r.ops.length ∧ r.ops.find? (namedBy c) = (r.ops.drop k).find? (namedBy c)) (fun k => r.ops.length - k) 0
    ⟨(.cons rfl rfl (.cons rfl rfl (.cons rfl rfl (.cons rfl rfl (.cons rfl rfl .nil))))), rfl, rfl, rfl⟩ ⟨Nat.zero_le _, rfl⟩ ?_
  rintro k ⟨hk, hf⟩
  cases ht : r.ops[k]? with
  | none =>
    have hge : r.ops.length ≤ k := by simpa using ht
    have c1 : decide ((k : Int) < r.ops.length) = false := decide_eq_false (by omega)
    rw [List.drop_of_length_le hge] at hf
    have hR : resR r.ops c = (.empty, 9) := by unfold resR; rw [hf]; rfl
    rw [hR]
    repeat' (first
     | refine stn [] ?_
     | ((with_reducible refine is_gd ?_); refine awpL_split rfl rfl (fun h => ?_) (fun h => ?_))
     | ((with_reducible refine is_awp ?_); refine awp_cond rfl (fun h => ?_) (fun h => ?_))
     | fail)
    exact retP rfl rfl
  | some x =>
    have hlt : k < r.ops.length := (List.getElem?_eq_some_iff.1 ht).1
    have c1 : decide ((k : Int) < r.ops.length) = true := decide_eq_true (by omega)
    have h1 := op_get ht
    have hW := Writes_spec (g := g) x c.note 0
    rw [find_drop2 ht] at hf
    have q := cite_eqb ⟨x.rec_, c.note, x.at_⟩ c
    cases hw : writes x c.note 0 with
    | false =>
      rw [hw] at hW
      have hn : namedBy c x = false := by simp [namedBy, hw]
      rw [hn] at hf
      repeat' (first
       | refine stn [] ?_
       | ((with_reducible refine is_gd ?_); refine awpL_split rfl rfl (fun h => ?_) (fun h => ?_))
       | ((with_reducible refine is_awp ?_); refine awp_cond rfl (fun h => ?_) (fun h => ?_))
       | fail)
      exact ⟨k + 1, ⟨(.cons rfl rfl (.cons rfl rfl (.cons rfl rfl (.cons rfl rfl (.cons rfl rfl .nil))))), rfl, rfl, rfl⟩, ⟨by omega, hf⟩, by omega⟩
    | true =>
      rw [hw] at hW
      by_cases he : (⟨x.rec_, c.note, x.at_⟩ : Cite) = c
      · have hn : namedBy c x = true := by simp [namedBy, hw, he]
        rw [hn] at hf
        rw [decide_eq_true he] at q
        have hR : resR r.ops c = if (cell r.ops c.note).isSome then ((valueOf x 0).text, 0) else (.empty, 26) := by unfold resR; rw [hf]; rfl
        have hV := Value_spec (g := g) x 0
        cases hc : cell r.ops c.note with
        | none =>
          rw [cellV, hc] at hC
          simp only [Option.getD_none, Option.isSome_none] at hC
          rw [hR, hc]
          repeat' (first
           | ((with_reducible refine is_un ?_); (first | refine awpL_ev (ev_fld_one rfl rfl rfl rfl rfl rfl rfl) rfl ?_ | refine awpL_ev (ev_neA (b := true) citeEq_T (by kernel_rfl) rfl rfl rfl rfl (by rw [← q]; rfl)) rfl ?_))
           | refine stn [] ?_
           | ((with_reducible refine is_gd ?_); refine awpL_split rfl rfl (fun h => ?_) (fun h => ?_))
           | ((with_reducible refine is_awp ?_); refine awp_cond rfl (fun h => ?_) (fun h => ?_))
           | fail)
          exact retP rfl rfl
        | some d =>
          rw [cellV, hc] at hC
          simp only [Option.getD_some, Option.isSome_some] at hC
          rw [hR, hc]
          generalize valueOf x 0 = v at *
          repeat' (first
           | ((with_reducible refine is_un ?_); (first | refine awpL_ev (ev_fld_one rfl rfl rfl rfl rfl rfl rfl) rfl ?_ | refine awpL_ev (ev_neA (b := true) citeEq_T (by kernel_rfl) rfl rfl rfl rfl (by rw [← q]; rfl)) rfl ?_))
           | refine stn [] ?_
           | ((with_reducible refine is_gd ?_); refine awpL_split rfl rfl (fun h => ?_) (fun h => ?_))
           | ((with_reducible refine is_awp ?_); refine awp_cond rfl (fun h => ?_) (fun h => ?_))
           | fail)
          exact retP rfl rfl
      · have hn : namedBy c x = false := by simp [namedBy, hw, he]
        rw [hn] at hf
        rw [decide_eq_false he] at q
        repeat' (first
         | ((with_reducible refine is_un ?_); refine awpL_ev (ev_neA (b := false) citeEq_T (by kernel_rfl) rfl rfl rfl rfl (by rw [← q]; rfl)) rfl ?_)
         | refine stn [] ?_
         | ((with_reducible refine is_gd ?_); refine awpL_split rfl rfl (fun h => ?_) (fun h => ?_))
         | ((with_reducible refine is_awp ?_); refine awp_cond rfl (fun h => ?_) (fun h => ?_))
         | fail)
        exact ⟨k + 1, ⟨(.cons rfl rfl (.cons rfl rfl (.cons rfl rfl (.cons rfl rfl (.cons rfl rfl .nil))))), rfl, rfl, rfl⟩, ⟨by omega, hf⟩, by omega⟩
set_option maxHeartbeats 2000000 in
theorem CSame_spec (a b : List Cite) (hl : a.length ≤ 1000000) (hb : b.length ≤ 1000000) : PCalls Tryz.prog g 22 [encCites a, encCites b] (vb (decide (a = b))) := by
  have n1 : (!true) = false := rfl
  have n2 : (!false) = true := rfl
  refine pcalls' Tryz.func22 Tryz.ntmps22 rfl rfl rfl ?_
  by_cases hn : a.length = b.length
  · have c0 : (!decide ((a.length : Int) = b.length)) = false := by simp [hn]
    repeat' (first
     | refine stn [] ?_
     | ((with_reducible refine is_gd ?_); refine awpL_split rfl rfl (fun h => ?_) (fun h => ?_))
     | ((with_reducible refine is_awp ?_); refine awp_cond rfl (fun h => ?_) (fun h => ?_))
     | fail)
    refine awp_for (α := Nat) 0 (fun k => [(0, encCites a), (1, encCites b), (5, vi k)]) (fun _ => []) (fun k => k ≤ a.length ∧ a.take k = b.take k) (fun k => a.length - k) 0
      ⟨(.cons rfl rfl (.cons rfl rfl (.cons rfl rfl .nil))), rfl, rfl, rfl⟩ ⟨Nat.zero_le _, rfl⟩ ?_
    rintro k ⟨hk, hf⟩
    cases ht : a[k]? with
    | none =>
      have hge : a.length ≤ k := by simpa using ht
      have c1 : decide ((k : Int) < a.length) = false := decide_eq_false (by omega)
      rw [List.take_of_length_le hge, List.take_of_length_le (by omega)] at hf
      rw [decide_eq_true hf]
      repeat' (first
       | refine stn [] ?_
       | ((with_reducible refine is_gd ?_); refine awpL_split rfl rfl (fun h => ?_) (fun h => ?_))
       | ((with_reducible refine is_awp ?_); refine awp_cond rfl (fun h => ?_) (fun h => ?_))
       | fail)
      exact retP rfl rfl
    | some x =>
      have hlt : k < a.length := (List.getElem?_eq_some_iff.1 ht).1
      have c1 : decide ((k : Int) < a.length) = true := decide_eq_true (by omega)
      obtain ⟨y, hy⟩ : ∃ y, b[k]? = some y := ⟨_, List.getElem?_eq_getElem (by omega)⟩
      have h1 := cite_get ht
      have h2 := cite_get hy
      have q := cite_eqb x y
      by_cases he : x = y
      · rw [decide_eq_true he] at q
        repeat' (first
         | ((with_reducible refine isD_un ?_); refine awpD_un (as_ev (fun _ => ev_neA (b := true) citeEq_T (by kernel_rfl) rfl rfl rfl rfl (by rw [← q]; rfl)) rfl rfl) (by (try simp only [List.nil_append, List.cons_append]); (try rfl)) ?_)
         | ((with_reducible refine isD_gd ?_); refine awpD_gd rfl rfl (by first | with_reducible rfl | with_reducible assumption) (as_ev (fun _ => ev_neA (b := true) citeEq_T (by kernel_rfl) rfl rfl rfl rfl (by rw [← q]; rfl)) rfl rfl) (by (try simp only [List.nil_append, List.cons_append]); (try rfl)) ?_)
         | refine st [] ?_
         | ((with_reducible refine is_gd ?_); refine awpL_split rfl rfl (fun h => ?_) (fun h => ?_))
         | ((with_reducible refine isD_gd ?_); ((fail_if_success (refine isD_kn (c := true) rfl (by first | with_reducible rfl | with_reducible assumption) ?_)); (fail_if_success (refine isD_kn (c := false) rfl (by first | with_reducible rfl | with_reducible assumption) ?_)); refine awpD_split rfl (fun h => ?_) (fun h => ?_)))
         | ((with_reducible refine is_awp ?_); refine awp_cond rfl (fun h => ?_) (fun h => ?_))
         | fail)
        refine ⟨k + 1, ⟨(.cons rfl rfl (.cons rfl rfl (.cons rfl rfl .nil))), rfl, rfl, rfl⟩, ⟨by omega, ?_⟩, by omega⟩
        rw [List.take_add_one, List.take_add_one, hf, ht, hy, he]
      · rw [decide_eq_false he] at q
        have hne : ¬ a = b := fun e => he (by rw [e, hy] at ht; exact (Option.some.inj ht).symm)
        rw [decide_eq_false hne]
        repeat' (first
         | ((with_reducible refine isD_un ?_); refine awpD_un (as_ev (fun _ => ev_neA (b := false) citeEq_T (by kernel_rfl) rfl rfl rfl rfl (by rw [← q]; rfl)) rfl rfl) (by (try simp only [List.nil_append, List.cons_append]); (try rfl)) ?_)
         | ((with_reducible refine isD_gd ?_); refine awpD_gd rfl rfl (by first | with_reducible rfl | with_reducible assumption) (as_ev (fun _ => ev_neA (b := false) citeEq_T (by kernel_rfl) rfl rfl rfl rfl (by rw [← q]; rfl)) rfl rfl) (by (try simp only [List.nil_append, List.cons_append]); (try rfl)) ?_)
         | refine st [] ?_
         | ((with_reducible refine is_gd ?_); refine awpL_split rfl rfl (fun h => ?_) (fun h => ?_))
         | ((with_reducible refine isD_gd ?_); ((fail_if_success (refine isD_kn (c := true) rfl (by first | with_reducible rfl | with_reducible assumption) ?_)); (fail_if_success (refine isD_kn (c := false) rfl (by first | with_reducible rfl | with_reducible assumption) ?_)); refine awpD_split rfl (fun h => ?_) (fun h => ?_)))
         | ((with_reducible refine is_awp ?_); refine awp_cond rfl (fun h => ?_) (fun h => ?_))
         | fail)
        exact retP rfl rfl
  · have c0 : (!decide ((a.length : Int) = b.length)) = true := by simp; omega
    have hne : ¬ a = b := fun e => hn (by rw [e])
    rw [decide_eq_false hne]
    repeat' (first
     | refine stn [] ?_
     | ((with_reducible refine is_gd ?_); refine awpL_split rfl rfl (fun h => ?_) (fun h => ?_))
     | ((with_reducible refine is_awp ?_); refine awp_cond rfl (fun h => ?_) (fun h => ?_))
     | fail)
    exact retP rfl rfl
end Go.Proofs.YtnacjdaoiepbhaaGreatDoor
end
section
namespace Go.Proofs.YtnacjdaoiepbhaaGreatDoor
open Go.Ac
attribute [local irreducible] awp awpL Ev Ev2 EvS thenQ blockQ retQ PCalls OCalls YieldOk IterC ICalls
variable {g : List (Nat × List AV)}
def seenB (spans : List Span) (x : Option Span) : Bool := match x with
  | some s => covB spans s
  | none => false
structure FitD (d : Doc) : Prop where
  n : d.notes.length ≤ 1000000
  t : d.tiers.length ≤ 10000
set_option maxHeartbeats 1000000 in
theorem SeenD_spec (d : Doc) (spans : List Span) (id : Int) (x : Option Span) (hw : whereF d (d.tiers.length + 1) id = some x) (hd : FitD d) (hl : spans.length ≤ 20) : PCalls Tryz.prog g 31 [.agg (docC d), encSpans spans, vi id] (vb (seenB spans x)) := by
  have hW := Where_spec (g := g) d id (d.tiers.length + 1) x hw hd.n (by have := hd.t; omega)
  refine pcalls' Tryz.func31 Tryz.ntmps31 rfl rfl rfl ?_
  cases x with
  | none =>
    have hW : PCalls Tryz.prog g _ [.agg (docC d), vi id] (.tup [.agg (spanC ⟨0, 0⟩), vb false]) := hW
    repeat' (first
     | refine stn [] ?_
     | ((with_reducible refine is_gd ?_); refine awpL_split rfl rfl (fun h => ?_) (fun h => ?_))
     | ((with_reducible refine is_awp ?_); refine awp_cond rfl (fun h => ?_) (fun h => ?_))
     | fail)
    exact retP rfl rfl
  | some s =>
    have hW : PCalls Tryz.prog g _ [.agg (docC d), vi id] (.tup [.agg (spanC s), vb true]) := hW
    have hC := Covers_S (g := g) spans s (by omega)
    repeat' (first
     | refine stn [] ?_
     | ((with_reducible refine is_gd ?_); refine awpL_split rfl rfl (fun h => ?_) (fun h => ?_))
     | ((with_reducible refine is_awp ?_); refine awp_cond rfl (fun h => ?_) (fun h => ?_))
     | fail)
    exact retP rfl rfl
def openR (l : List Op) (d : Doc) (spans : List Span) (c : Cite) (x : Option Span) : ByteArray × Int :=
  if (resR l c).2 = 0 then
    (if (getN d.notes c.note).isSome = true ∧ d.rec_.id = c.rec_ then (if seenB spans x then ((resR l c).1, 0) else (.empty, 25)) else (.empty, 9))
  else (.empty, (resR l c).2)
set_option maxHeartbeats 2000000 in
theorem Open_spec (r : Replica) (d : Doc) (spans : List Span) (c : Cite) (x : Option Span) (hr : FitG r) (hw : whereF d (d.tiers.length + 1) c.note = some x) (hd : FitD d) (hl : spans.length ≤ 20) :
    PCalls Tryz.prog g 28 [.agg (repC r), .agg (docC d), encSpans spans, .agg (citeC c)] (resV (openR r.ops d spans c x)) := by
  have hR := Resolve_spec (g := g) r c hr
  have hG := Get_spec (g := g) d c.note hd.n
  have hS := SeenD_spec (g := g) d spans c.note x hw hd hl
  have n1 : (!true) = false := rfl
  have n2 : (!false) = true := rfl
  refine pcalls' Tryz.func28 Tryz.ntmps28 rfl rfl rfl ?_
  unfold openR
  rw [resV] at hR
  generalize resR r.ops c = p at *
  obtain ⟨p1, p2⟩ := p
  simp only at hR ⊢
  by_cases h0 : p2 = 0
  · have c0 : (!decide (p2 = 0)) = false := by simp [h0]
    rw [if_pos h0]
    cases hg : getN d.notes c.note with
    | none =>
      rw [getV, hg] at hG
      simp only [Option.getD_none, Option.isSome_none] at hG
      rw [if_neg (by simp)]
      repeat' (first
       | refine stn [] ?_
       | ((with_reducible refine is_gd ?_); refine awpL_split rfl rfl (fun h => ?_) (fun h => ?_))
       | ((with_reducible refine is_awp ?_); refine awp_cond rfl (fun h => ?_) (fun h => ?_))
       | fail)
      exact retP rfl rfl
    | some n =>
      rw [getV, hg] at hG
      simp only [Option.getD_some, Option.isSome_some] at hG
      by_cases he : d.rec_.id = c.rec_
      · have c1 : (!decide (d.rec_.id = c.rec_)) = false := by simp [he]
        have c1' : (!decide (c.rec_ = d.rec_.id)) = false := by simp [he]
        rw [if_pos ⟨rfl, he⟩]
        cases hs : seenB spans x with
        | true =>
          rw [hs] at hS
          repeat' (first
           | refine stn [] ?_
           | ((with_reducible refine is_gd ?_); refine awpL_split rfl rfl (fun h => ?_) (fun h => ?_))
           | ((with_reducible refine is_awp ?_); refine awp_cond rfl (fun h => ?_) (fun h => ?_))
           | fail)
          exact retP rfl rfl
        | false =>
          rw [hs] at hS
          repeat' (first
           | refine stn [] ?_
           | ((with_reducible refine is_gd ?_); refine awpL_split rfl rfl (fun h => ?_) (fun h => ?_))
           | ((with_reducible refine is_awp ?_); refine awp_cond rfl (fun h => ?_) (fun h => ?_))
           | fail)
          exact retP rfl rfl
      · have c1 : (!decide (d.rec_.id = c.rec_)) = true := by simp [he]
        have c1' : (!decide (c.rec_ = d.rec_.id)) = true := by simp; exact fun h => he h.symm
        rw [if_neg (fun h => he h.2)]
        repeat' (first
         | refine stn [] ?_
         | ((with_reducible refine is_gd ?_); refine awpL_split rfl rfl (fun h => ?_) (fun h => ?_))
         | ((with_reducible refine is_awp ?_); refine awp_cond rfl (fun h => ?_) (fun h => ?_))
         | fail)
        exact retP rfl rfl
  · have c0 : (!decide (p2 = 0)) = true := by simp [h0]
    rw [if_neg h0]
    repeat' (first
     | refine stn [] ?_
     | ((with_reducible refine is_gd ?_); refine awpL_split rfl rfl (fun h => ?_) (fun h => ?_))
     | ((with_reducible refine is_awp ?_); refine awp_cond rfl (fun h => ?_) (fun h => ?_))
     | fail)
    exact retP rfl rfl
end Go.Proofs.YtnacjdaoiepbhaaGreatDoor
end
section
namespace Go.Ac
inductive LeE : List (List AV) → List (List AV) → Prop
  | nil : LeE [] []
  | cons {a b : List AV} {asv bs : List (List AV)} : LeA a b → LeE asv bs → LeE (a :: asv) (b :: bs)
theorem LeA.len {asv bs : List AV} (h : LeA asv bs) : asv.length = bs.length := by
  induction h with
  | nil => rfl
  | cons _ _ ih => simp [ih]
theorem LeE.len {asv bs : List (List AV)} (h : LeE asv bs) : asv.length = bs.length := by
  induction h with
  | nil => rfl
  | cons _ _ ih => simp [ih]
theorem LeA.MF {asv bs : List AV} (h : LeA asv bs) {F : Nat → Prop} {w : World} : ∀ {b off : Nat}, MF F w asv b off → MF F w bs b off := by
  induction h with
  | nil => intro b off h; exact h
  | cons h1 _ ih =>
    intro b off h
    simp only [Ac.MF] at h ⊢
    obtain ⟨⟨u, e, hx, h2⟩, h⟩ := h
    exact ⟨⟨u, e, h1 F w u hx, h2⟩, ih h⟩
theorem LeE.EF {asv bs : List (List AV)} (h : LeE asv bs) {F : Nat → Prop} {w : World} {sz : Nat} : ∀ {b off : Nat}, EF F w sz asv b off → EF F w sz bs b off := by
  induction h with
  | nil => intro b off h; exact h
  | cons h1 _ ih =>
    intro b off h
    simp only [Ac.EF] at h ⊢
    obtain ⟨h2, h3, h⟩ := h
    exact ⟨h1.len ▸ h2, h1.MF h3, ih h⟩
theorem Le.fs {sz n : Nat} {asv bs : List (List AV)} (h : LeE asv bs) : Le (.fs sz n asv) (.fs sz n bs) := fun F w y hy => by
  simp only [RF] at hy ⊢
  obtain ⟨h1, a, cap, h2, h3, h4⟩ := hy
  refine ⟨h.len ▸ h1, a, cap, h2, h3, fun hn => ?_⟩
  obtain ⟨b, off, h5, h6, h7⟩ := h4 hn
  exact ⟨b, off, h5, h6, h.EF h7⟩
end Go.Ac
end
section
namespace Go.Proofs.YtnacjdaoiepbhaaGreatDoor
open Go.Ac Go.MapKept Go.Lib
attribute [local irreducible] awp awpL Ev Ev2 EvS thenQ blockQ retQ PCalls OCalls YieldOk IterC ICalls
variable {g : List (Nat × List AV)}
theorem repC_FitG {r : Replica} (hs : r.seen.length ≤ 1000000) (hl : r.ops.length ≤ 10000) (ho : ∀ o ∈ r.ops, o.over.length ≤ 100000) (hi : Ids r.ops) (h0 : repE r = 0) : FitG r := ⟨⟨hl, ho⟩, hs, hi, good_of h0⟩
def sO1 : Op := ⟨⟨1, 1⟩, 0, 3, ⟨17, 0, 0, ⟨0, 0⟩, 0, ⟨#[98, 97]⟩⟩, 0, 0, .empty, []⟩
def sO2 : Op := ⟨⟨2, 1⟩, 1, 3, ⟨17, 0, 0, ⟨0, 0⟩, 0, .empty⟩, 0, 0, ⟨#[112, 97]⟩, [⟨1, 1⟩]⟩
def sRep : Replica := ⟨1, [2, 0, 0, 0, 0, 0, 0, 0, 0, 0, 0, 0, 0, 0, 0], [sO1, sO2]⟩
def sWant : Cite := ⟨3, 17, ⟨2, 1⟩⟩
def sOld : Cite := ⟨3, 17, ⟨1, 1⟩⟩
def sDoc : Doc := ⟨⟨3, .empty, 9, 0, []⟩, [⟨⟨#[97]⟩, 0, 0, -1⟩], [⟨17, 0, 0, ⟨0, 5⟩, 0, .empty⟩]⟩
theorem sGood : FitG sRep := repC_FitG (by decide) (by decide) (by decide) (fun o ho => by simp only [sRep, List.mem_cons, List.not_mem_nil, or_false] at ho; rcases ho with rfl | rfl <;> (unfold I64; decide)) (by kernel_rfl)
def sRepA : List AV := [vi 1, .fs 1 15 (sRep.seen.map intC), .fs 15 2 [(opC sO1).dropLast ++ [nilS], opC sO2]]
theorem leOp {cs : List AV} : ∀ {ds : List AV}, LeA cs ds → ∀ {ps : List AV}, LeA (ps ++ cs) (ps ++ ds) := by
  intro ds h ps
  induction ps with
  | nil => exact h
  | cons p ps ih => exact .cons (Le.rfl' _) ih
theorem leRep : Le (.agg sRepA) (.agg (repC sRep)) := Le.agg (.cons (Le.rfl' _) (.cons (Le.rfl' _) (.cons (Le.fs (.cons (leOp (cs := [nilS]) (ds := [.fs 2 0 []]) (.cons (Le.nil 2) .nil) (ps := (opC sO1).dropLast)) (.cons (LeA.refl _) .nil))) .nil)))
set_option maxHeartbeats 2000000 in
theorem sample_spec : PCalls Tryz.prog g 41 [] (.agg (repC sRep)) := by
  refine pcalls' Tryz.func41 Tryz.ntmps41 rfl rfl rfl ?_
  have hm : (0 : Int) ≤ 15 ∧ (8 : Nat) * (15 : Int) ≤ 281474976710656 ∧ (15 : Int) ≤ 9223372036854775807 := by omega
  have hc : 0 ≤ (0 : Int) ∧ (0 : Int) < (((List.replicate 15 0).map intC).length : Int) := by decide
  have hel : ((List.replicate 15 0).map intC)[(0 : Int).toNat]? = some (intC 0) := rfl
  repeat' (first
   | ((with_reducible refine is_un ?_); (first | refine awpL_ev2 (ev_make (n := 15) (es := (List.replicate 15 0).map intC) rfl rfl rfl rfl rfl rfl rfl rfl hm rfl rfl rfl) rfl ?_ | refine awpL_evS (ev_st_ep (el' := intC 2) rfl rfl rfl rfl rfl rfl rfl rfl hel rfl rfl) ?_))
   | refine stn [0] ?_
   | ((with_reducible refine is_gd ?_); refine awpL_split rfl rfl (fun h => ?_) (fun h => ?_))
   | ((with_reducible refine is_awp ?_); refine awp_cond rfl (fun h => ?_) (fun h => ?_))
   | fail)
  refine retLe rfl ?_
  exact leRep
theorem i2 : itoa 2 = [50] := by unfold itoa; rw [if_neg (by omega), decDigits, dif_pos (by decide)]; rfl
theorem i1 : itoa 1 = [49] := by unfold itoa; rw [if_neg (by omega), decDigits, dif_pos (by decide)]; rfl
theorem i3 : itoa 3 = [51] := by unfold itoa; rw [if_neg (by omega), decDigits, dif_pos (by decide)]; rfl
theorem i17 : itoa 17 = [49, 55] := by unfold itoa; rw [if_neg (by omega), decDigits, dif_neg (by decide), decDigits, dif_pos (by decide)]; rfl
def sT : ByteArray := ⟨#[51, 46, 49, 55, 64, 50, 46, 49]⟩
def sT1 : ByteArray := ⟨#[51, 46, 49, 55, 64, 50]⟩
def sT2 : ByteArray := ⟨#[48, 51, 46, 49, 55, 64, 50, 46, 49]⟩
theorem sPrint : printB sWant = sT := by
  unfold printB citeT pairT sWant
  simp only [i1, i2, i3, i17]
  rfl
theorem sParse : citeP sT = some sWant := by
  rw [← sPrint]
  exact citeP_in (by unfold citeIn inNum sWant; decide)
theorem sParse1 : citeP sT1 = none := by
  have h1 : cutB sT1 64 = some (toB [51, 46, 49, 55], toB [50]) := by kernel_rfl
  have h2 : cutB (toB [50]) 46 = none := by kernel_rfl
  unfold citeP
  rw [h1]
  simp only [pairV, h2, Bool.and_false]
  rfl
theorem sParse2 : citeP sT2 = none := by
  cases h : citeP sT2 with
  | none => rfl
  | some c =>
    exfalso
    obtain ⟨h1, h2⟩ := citeP_back h
    have h3 : citeT c = sT2.data.toList := by rw [← toB_list (citeT c)]; exact congrArg (fun s => s.data.toList) h1
    have h4 : sT2.data.toList = [48, 51] ++ 46 :: [49, 55] ++ 64 :: [50, 46, 49] := rfl
    rw [h4] at h3
    obtain ⟨h5, _⟩ := append_cut (no64 _ _) (by decide) h3
    obtain ⟨h6, _⟩ := append_cut (no46 _) (by decide) h5
    have h7 := atoi_itoa c.rec_ (by have := h2.1; unfold inNum at this; omega) (by have := h2.1; unfold inNum at this; omega)
    rw [h6] at h7
    have h8 : atoiAll [48, 51] = .ok 3 := by kernel_rfl
    rw [h8] at h7
    have h9 : c.rec_ = 3 := by injection h7 with h7; exact h7.symm
    rw [h9, i3] at h6
    cases h6
theorem sMake : makeR sRep.ops 17 = (some sWant, 0) := by kernel_rfl
theorem sMake1 : makeR sRep.ops 18 = (none, 9) := by kernel_rfl
theorem sRes : resR sRep.ops sWant = (⟨#[112, 97]⟩, 0) := by kernel_rfl
theorem sRes1 : resR sRep.ops sOld = (⟨#[98, 97]⟩, 0) := by kernel_rfl
theorem sHist : histL sRep.ops 17 = [sOld, sWant] := by kernel_rfl
theorem sWhere : whereF sDoc (sDoc.tiers.length + 1) 17 = some (some ⟨0, 5⟩) := by kernel_rfl
theorem sOpen : openR sRep.ops sDoc [⟨0, 5⟩] sOld (some ⟨0, 5⟩) = (⟨#[98, 97]⟩, 0) := by kernel_rfl
theorem sOpen1 : openR sRep.ops sDoc [⟨0, 4⟩] sOld (some ⟨0, 5⟩) = (.empty, 25) := by kernel_rfl
def sDocA : List AV := [vi 3, vs .empty, vi 9, vi 0, nilS, encTiers sDoc.tiers, encNotes sDoc.notes]
theorem leDoc : Le (.agg sDocA) (.agg (docC sDoc)) := Le.agg (.cons (Le.rfl' _) (.cons (Le.rfl' _) (.cons (Le.rfl' _) (.cons (Le.rfl' _) (.cons (Le.nil 1) (.cons (Le.rfl' _) (.cons (Le.rfl' _) .nil)))))))
set_option maxRecDepth 8000 in
set_option maxHeartbeats 8000000 in
theorem awake_C (hN : NumG g) : PCalls Tryz.prog g 16 [] (vb true) := by
  have hSm := sample_spec (g := g)
  have hM := Make_spec (g := g) sRep 17 sGood
  rw [sMake, makeV] at hM
  have hM1 := Make_spec (g := g) sRep 18 sGood
  rw [sMake1, makeV] at hM1
  have hR := Resolve_spec (g := g) sRep sWant sGood
  rw [sRes, resV] at hR
  have hR1 := Resolve_spec (g := g) sRep sOld sGood
  rw [sRes1, resV] at hR1
  have hP := CParse_spec hN sT (by decide)
  rw [sParse, citeV] at hP
  have hP1 := CParse_spec hN sT1 (by decide)
  rw [sParse1, citeV] at hP1
  have hP2 := CParse_spec hN sT2 (by decide)
  rw [sParse2, citeV] at hP2
  simp only [Option.getD_some, Option.isSome_some, Option.getD_none, Option.isSome_none, if_true, Bool.false_eq_true, if_false] at hP hP1 hP2 hM hM1
  simp only at hR hR1
  have hO := (Open_spec (g := g) sRep sDoc [⟨0, 5⟩] sOld (some ⟨0, 5⟩) sGood sWhere ⟨by decide, by decide⟩ (by decide)).args (.cons (Le.rfl' _) (.cons leDoc (.cons (Le.rfl' _) (.cons (Le.rfl' _) .nil))))
  rw [sOpen, resV] at hO
  have hO1 := (Open_spec (g := g) sRep sDoc [⟨0, 4⟩] sOld (some ⟨0, 5⟩) sGood sWhere ⟨by decide, by decide⟩ (by decide)).args (.cons (Le.rfl' _) (.cons leDoc (.cons (Le.rfl' _) (.cons (Le.rfl' _) .nil))))
  rw [sOpen1, resV] at hO1
  simp only at hO hO1
  have hT := CPrint_spec hN sWant (by unfold CiteI I6 sWant; decide)
  rw [sPrint] at hT
  have hH := History_spec (g := g) sRep 17 (by decide)
  rw [sHist] at hH
  have hS := CSame_spec (g := g) [sOld, sWant] [sOld, sWant] (by decide) (by decide)
  rw [decide_eq_true rfl] at hS
  have e4 : decide True = true := rfl
  have e1 : decide ((⟨#[112, 97]⟩ : ByteArray) = (⟨#[112, 97]⟩ : ByteArray)) = true := by kernel_rfl
  have e2 : decide ((⟨#[98, 97]⟩ : ByteArray) = (⟨#[98, 97]⟩ : ByteArray)) = true := by kernel_rfl
  have e3 : decide (sT = (⟨#[51, 46, 49, 55, 64, 50, 46, 49]⟩ : ByteArray)) = true := by kernel_rfl
  refine pcalls' Tryz.func16 Tryz.ntmps16 rfl rfl rfl ?_
  repeat' (first
   | ((with_reducible refine is_un ?_); refine awpL_ev (ev_eqA citeEq_T rfl rfl rfl rfl rfl rfl) rfl ?_)
   | refine st [] ?_
   | ((with_reducible refine is_gd ?_); refine awpL_split rfl rfl (fun h => ?_) (fun h => ?_))
   | ((with_reducible refine isD_gd ?_); ((fail_if_success (refine isD_kn (c := true) rfl (by first | with_reducible rfl | with_reducible assumption) ?_)); (fail_if_success (refine isD_kn (c := false) rfl (by first | with_reducible rfl | with_reducible assumption) ?_)); refine awpD_split rfl (fun h => ?_) (fun h => ?_)))
   | ((with_reducible refine is_awp ?_); refine awp_cond rfl (fun h => ?_) (fun h => ?_))
   | fail)
  repeat' (first
   | ((with_reducible refine is_un ?_); refine awpL_ev (ev_eqA citeEq_T rfl rfl rfl rfl rfl rfl) rfl ?_)
   | refine st [] ?_
   | ((with_reducible refine is_gd ?_); refine awpL_split rfl rfl (fun h => ?_) (fun h => ?_))
   | ((with_reducible refine isD_gd ?_); ((fail_if_success (refine isD_kn (c := true) rfl (by first | with_reducible rfl | with_reducible assumption) ?_)); (fail_if_success (refine isD_kn (c := false) rfl (by first | with_reducible rfl | with_reducible assumption) ?_)); refine awpD_split rfl (fun h => ?_) (fun h => ?_)))
   | ((with_reducible refine is_awp ?_); refine awp_cond rfl (fun h => ?_) (fun h => ?_))
   | fail)
  simp only [List.append_eq, List.cons_append, List.nil_append]
  repeat' (first
   | ((with_reducible refine isD_un ?_); refine awpD_un (as_ev (fun _ => ev_eqA (b := true) citeEq_T (by kernel_rfl) rfl rfl rfl rfl rfl) rfl rfl) (by (try simp only [List.nil_append, List.cons_append]); (try rfl)) ?_)
   | ((with_reducible refine isD_gd ?_); refine awpD_gd rfl rfl (by first | with_reducible rfl | with_reducible assumption) (as_ev (fun _ => ev_eqA (b := true) citeEq_T (by kernel_rfl) rfl rfl rfl rfl rfl) rfl rfl) (by (try simp only [List.nil_append, List.cons_append]); (try rfl)) ?_)
   | refine st [] ?_
   | ((with_reducible refine is_gd ?_); refine awpL_split rfl rfl (fun h => ?_) (fun h => ?_))
   | ((with_reducible refine isD_gd ?_); ((fail_if_success (refine isD_kn (c := true) rfl (by first | with_reducible rfl | with_reducible assumption) ?_)); (fail_if_success (refine isD_kn (c := false) rfl (by first | with_reducible rfl | with_reducible assumption) ?_)); refine awpD_split rfl (fun h => ?_) (fun h => ?_)))
   | ((with_reducible refine is_awp ?_); refine awp_cond rfl (fun h => ?_) (fun h => ?_))
   | fail)
  exact retP rfl rfl
end Go.Proofs.YtnacjdaoiepbhaaGreatDoor
end
