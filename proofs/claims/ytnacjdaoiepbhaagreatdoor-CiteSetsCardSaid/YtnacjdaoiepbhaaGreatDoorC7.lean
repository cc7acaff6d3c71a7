/- A logic of trees over the model's steps, and the contracts of the functions that the laws reach: part 7 of 15. -/
import Derived.Test.YtnacjdaoiepbhaaGreatDoorC6
import Derived.KernelRfl
import Derived.Lib.AtoiAll
import Derived.Lib.ItoaNum
import Derived.Lib.ItoaMem
import Derived.WideLaws
import Derived.Shelf.Strconv.Itoa3
import Derived.Shelf.Strconv.AtoiAll
set_option linter.unusedVariables false
set_option linter.unusedSimpArgs false
set_option linter.unusedSectionVars false
section
namespace Go.Proofs.YtnacjdaoiepbhaaGreatDoor
open Go.Ac
attribute [local irreducible] awp awpL Ev Ev2 EvS thenQ blockQ retQ PCalls OCalls YieldOk IterC
variable {g : List (Nat × List AV)}
def zeroOp : Op := ⟨⟨0, 0⟩, 0, 0, ⟨0, 0, 0, ⟨0, 0⟩, 0, .empty⟩, 0, 0, .empty, []⟩
abbrev zeroOpC : List AV := [.v (.int .i64 0), .v (.int .i64 0), .v (.int .i64 0), .v (.int .i64 0), .v (.int .i64 0), .v (.int .i64 0), .v (.int .i64 0), .v (.int .i64 0), .v (.int .i64 0), .v (.int .i64 0), .v (.string .empty), .v (.int .i64 0), .v (.int .i64 0), .v (.string .empty), nilS]
theorem le_zeroOp : LeA zeroOpC (opC zeroOp) :=
  .cons (Le.rfl' _) (.cons (Le.rfl' _) (.cons (Le.rfl' _) (.cons (Le.rfl' _) (.cons (Le.rfl' _) (.cons (Le.rfl' _) (.cons (Le.rfl' _) (.cons (Le.rfl' _) (.cons (Le.rfl' _) (.cons (Le.rfl' _) (.cons (Le.rfl' _) (.cons (Le.rfl' _) (.cons (Le.rfl' _) (.cons (Le.rfl' _) (.cons (Le.nil 2) .nil))))))))))))))
def addedV (o : Option Op) : AV := .tup [.agg (opC (o.getD zeroOp)), vb o.isSome]
theorem find_drop {α : Type} (f : α → Bool) (l : List α) (k : Nat) (x : α) (h : l[k]? = some x) : (l.drop k).find? f = if f x then some x else (l.drop (k + 1)).find? f := by
  obtain ⟨hlt, rfl⟩ := List.getElem?_eq_some_iff.1 h
  rw [List.drop_eq_getElem_cons hlt, List.find?_cons]
  cases f l[k] <;> rfl
set_option maxHeartbeats 1000000 in
theorem rAdded_spec (l : List Op) (n : Int) (hl : l.length ≤ 1000000) : PCalls Tryz.prog g 77 [encOps l, vi n] (addedV (addedO l n)) := by
  refine pcalls' Tryz.func77 Tryz.ntmps77 rfl rfl rfl ?_
  repeat' (first
   | refine stn [4] ?_
   | ((with_reducible refine is_awp ?_); refine awp_cond rfl (fun h => ?_) (fun h => ?_))
   | fail)
  refine awp_for (α := Nat) 1 (fun k => [(0, encOps l), (1, vi n), (4, .lp 0 0), (6, vi k)]) (fun k => [.box zeroOpC]) (fun k => k ≤ l.length ∧ addedO l n = (l.drop k).find? fun o => decide (o.kind = 0) && decide (o.note.id = n)) (fun k => l.length - k) 0
    ⟨(.cons rfl rfl (.cons rfl rfl (.cons rfl rfl (.cons rfl rfl .nil)))), rfl, rfl, rfl⟩ ⟨Nat.zero_le _, rfl⟩ ?_
  rintro k ⟨hk, hf⟩
  cases ht : l[k]? with
  | none =>
    have hge : l.length ≤ k := by simpa using ht
    have c1 : decide ((k : Int) < l.length) = false := decide_eq_false (by omega)
    rw [List.drop_of_length_le hge] at hf
    refine runn [4] ?_
    refine retLe rfl ?_
    rw [hf]
    exact Le.tup (.cons (Le.agg le_zeroOp) (.cons (Le.rfl' _) .nil))
  | some x =>
    have hlt : k < l.length := (List.getElem?_eq_some_iff.1 ht).1
    have c1 : decide ((k : Int) < l.length) = true := decide_eq_true (by omega)
    have h1 := op_get ht
    rw [find_drop _ l k x ht] at hf
    by_cases hk0 : x.kind = 0
    · have d1 : decide (x.kind = 0) = true := decide_eq_true hk0
      by_cases hid : x.note.id = n
      · have d2 : decide (x.note.id = n) = true := decide_eq_true hid
        rw [d1, d2] at hf
        refine runn [4] ?_
        refine retP rfl ?_
        rw [hf]; rfl
      · have d2 : decide (x.note.id = n) = false := decide_eq_false hid
        rw [d1, d2] at hf
        refine runn [4] ?_
        exact ⟨k + 1, ⟨(.cons rfl rfl (.cons rfl rfl (.cons rfl rfl (.cons rfl rfl .nil)))), rfl, rfl, rfl⟩, ⟨by omega, hf⟩, by omega⟩
    · have d1 : decide (x.kind = 0) = false := decide_eq_false hk0
      rw [d1] at hf
      refine runn [4] ?_
      exact ⟨k + 1, ⟨(.cons rfl rfl (.cons rfl rfl (.cons rfl rfl (.cons rfl rfl .nil)))), rfl, rfl, rfl⟩, ⟨by omega, hf⟩, by omega⟩
set_option maxHeartbeats 1000000 in
theorem rWriter_spec (l : List Op) (s : Stamp) (n f : Int) (hl : l.length ≤ 1000000) : PCalls Tryz.prog g 107 [encOps l, .agg (stampC s), vi n, vi f] (vb (writer l s n f)) := by
  refine pcalls' Tryz.func107 Tryz.ntmps107 rfl rfl rfl ?_
  repeat' (first
   | refine stn [] ?_
   | ((with_reducible refine is_awp ?_); refine awp_cond rfl (fun h => ?_) (fun h => ?_))
   | fail)
  refine awp_for (α := Nat) 0 (fun k => [(0, encOps l), (2, vi n), (3, vi f), (5, .fp (stampC s)), (9, vi k)]) (fun _ => []) (fun k => k ≤ l.length ∧ writer l s n f = (l.drop k).any fun o => decide (o.at_ = s) && writes o n f) (fun k => l.length - k) 0
    ⟨(.cons rfl rfl (.cons rfl rfl (.cons rfl rfl (.cons rfl rfl (.cons rfl rfl .nil))))), rfl, rfl, rfl⟩ ⟨Nat.zero_le _, rfl⟩ ?_
  rintro k ⟨hk, hf⟩
  cases ht : l[k]? with
  | none =>
    have hge : l.length ≤ k := by simpa using ht
    have c1 : decide ((k : Int) < l.length) = false := decide_eq_false (by omega)
    rw [List.drop_of_length_le hge] at hf
    refine runn [] ?_
    refine retP rfl ?_
    rw [hf]; rfl
  | some x =>
    have hlt : k < l.length := (List.getElem?_eq_some_iff.1 ht).1
    have c1 : decide ((k : Int) < l.length) = true := decide_eq_true (by omega)
    have h1 := op_get ht
    have h2 := rWrites_spec (g := g) x n f
    rw [any_drop _ l k x ht] at hf
    by_cases he : x.at_ = s
    · have e1 : (x.at_.count == s.count && x.at_.dev == s.dev) = true := by rw [he]; simp
      have e2 : decide (x.at_ = s) = true := decide_eq_true he
      rw [e2, Bool.true_and] at hf
      repeat' (first
       | ((with_reducible refine isD_un ?_); refine awpD_un (as_ev (fun _ => ev_eqA (b := true) stampEq_T (by kernel_rfl) rfl rfl rfl rfl (by rw [← e1]; rfl)) rfl rfl) (by (try simp only [List.nil_append, List.cons_append]); (try rfl)) ?_)
       | refine st [] ?_
       | ((with_reducible refine is_awp ?_); refine awp_cond rfl (fun h => ?_) (fun h => ?_))
       | fail)
      · refine retP rfl ?_
        rw [hf, h]; rfl
      · exact ⟨k + 1, ⟨(.cons rfl rfl (.cons rfl rfl (.cons rfl rfl (.cons rfl rfl (.cons rfl rfl .nil))))), rfl, rfl, rfl⟩, ⟨by omega, by rw [hf, h]; rfl⟩, by omega⟩
    · have e1 : (x.at_.count == s.count && x.at_.dev == s.dev) = false := by
        cases hq : (x.at_.count == s.count && x.at_.dev == s.dev) with
        | false => rfl
        | true => exact absurd (stamp_ext (by simpa using hq)) he
      have e2 : decide (x.at_ = s) = false := decide_eq_false he
      rw [e2, Bool.false_and, Bool.false_or] at hf
      repeat' (first
       | ((with_reducible refine isD_un ?_); refine awpD_un (as_ev (fun _ => ev_eqA (b := false) stampEq_T (by kernel_rfl) rfl rfl rfl rfl (by rw [← e1]; rfl)) rfl rfl) (by (try simp only [List.nil_append, List.cons_append]); (try rfl)) ?_)
       | refine st [] ?_
       | fail)
      exact ⟨k + 1, ⟨(.cons rfl rfl (.cons rfl rfl (.cons rfl rfl (.cons rfl rfl (.cons rfl rfl .nil))))), rfl, rfl, rfl⟩, ⟨by omega, hf⟩, by omega⟩
set_option maxHeartbeats 1000000 in
theorem rSeen_spec (l : List Op) (hl : l.length ≤ 1000000) (hr : ∀ o ∈ l, right o.at_ = true) : OCalls Tryz.prog g 75 [encOps l] 3 1 ((seenL l).map intC) := by
  refine ocalls' Tryz.func75 Tryz.ntmps75 rfl rfl rfl ?_
  have hm : (0 : Int) ≤ 15 ∧ (8 : Nat) * (15 : Int) ≤ 281474976710656 ∧ (15 : Int) ≤ 9223372036854775807 := by omega
  repeat' (first
   | ((with_reducible refine is_un ?_); refine awpL_ev2 (ev_make (n := 15) (es := (seenL []).map intC) rfl rfl rfl rfl rfl rfl rfl rfl hm (by rw [seenL_nil]; rfl) (by simp only [List.length_nil]; rfl) (by simp only [List.nil_append]; rfl)) rfl ?_)
   | refine stn [] ?_
   | ((with_reducible refine is_awp ?_); refine awp_cond rfl (fun h => ?_) (fun h => ?_))
   | fail)
  refine awp_for (α := Nat) 1 (fun k => [(0, encOps l), (3, .os 0 0), (4, vi k)]) (fun k => [.own 0 3 1 ((seenL (l.take k)).map intC)]) (fun k => k ≤ l.length) (fun k => l.length - k) 0
    ⟨(.cons rfl rfl (.cons rfl rfl (.cons rfl rfl .nil))), rfl, rfl, rfl⟩ (Nat.zero_le _) ?_
  rintro k hk
  cases ht : l[k]? with
  | none =>
    have hge : l.length ≤ k := by simpa using ht
    have c1 : decide ((k : Int) < l.length) = false := decide_eq_false (by omega)
    refine runn [] ?_
    exact retO rfl (by rw [List.take_of_length_le hge]; rfl)
  | some x =>
    have hlt : k < l.length := (List.getElem?_eq_some_iff.1 ht).1
    have c1 : decide ((k : Int) < l.length) = true := decide_eq_true (by omega)
    have h1 := op_get ht
    have hx := hr x (List.mem_of_getElem? ht)
    have hd := right_dev hx
    have hS : seenL (l.take (k + 1)) = (seenL (l.take k)).set (x.at_.dev - 1).toNat (max (num (seenL (l.take k)) (x.at_.dev - 1).toNat) x.at_.count) := by
      rw [List.take_add_one, ht]; exact seenL_step hx
    have hn := seenL_nonneg (l.take k)
    have hlen := seenL_len (l.take k)
    have hlt15 : (x.at_.dev - 1).toNat < (seenL (l.take k)).length := by omega
    obtain ⟨y, hy⟩ : ∃ y, (seenL (l.take k))[(x.at_.dev - 1).toNat]? = some y := ⟨_, List.getElem?_eq_getElem hlt15⟩
    have hy0 : 0 ≤ y := hn y (List.mem_of_getElem? hy)
    have hnum : num (seenL (l.take k)) (x.at_.dev - 1).toNat = y := by rw [num, hy]; simp; omega
    rw [hnum] at hS
    have hc : 0 ≤ x.at_.dev - 1 ∧ x.at_.dev - 1 < ((seenL (l.take k)).map intC).length := by rw [List.length_map, hlen]; omega
    have hel : ((seenL (l.take k)).map intC)[(x.at_.dev - 1).toNat]? = some (intC y) := by rw [List.getElem?_map, hy]; rfl
    repeat' (first
     | refine awpD_sS rfl rfl (ev_st_ep (el' := intC (max y x.at_.count)) (L' := [.own 0 3 1 ((seenL (l.take (k + 1))).map intC)]) rfl rfl rfl rfl rfl rfl rfl rfl hel rfl (by rw [hS, ← set_map_int]; rfl)) rfl rfl ?_
     | refine st [] ?_
     | fail)
    exact ⟨k + 1, ⟨(.cons rfl rfl (.cons rfl rfl (.cons rfl rfl .nil))), rfl, rfl, rfl⟩, by omega, by omega⟩
end Go.Proofs.YtnacjdaoiepbhaaGreatDoor
end
section
namespace Go.Proofs.YtnacjdaoiepbhaaGreatDoor
open Go.Ac
attribute [local irreducible] awp awpL Ev Ev2 EvS thenQ blockQ retQ PCalls OCalls YieldOk IterC
variable {g : List (Nat × List AV)}
def Ids (l : List Op) : Prop := ∀ o ∈ l, I64 o.note.id
set_option maxRecDepth 4000 in
set_option maxHeartbeats 4000000 in
theorem rOne_spec (l : List Op) (i : Nat) (o : Op) (hl : l.length ≤ 1000000) (hi : l[i]? = some o) (hid : I64 o.note.id) : PCalls Tryz.prog g 73 [encOps l, vi i] (vi (oneE (l.take i) o)) := by
  have hlt : i < l.length := (List.getElem?_eq_some_iff.1 hi).1
  have g1 := op_get hi
  have hC := rOp_spec (g := g) o hid
  refine pcalls' Tryz.func73 Tryz.ntmps73 rfl rfl rfl ?_
  have n1 : (!true) = false := rfl
  have n2 : (!false) = true := rfl
  by_cases hE : opE o = 0
  case neg =>
    have c0 : (!decide (opE o = 0)) = true := by simp [hE]
    rw [oneE_bad hE]
    refine runn [] ?_
    exact retP rfl rfl
  case pos =>
  have c0 : (!decide (opE o = 0)) = false := by simp [hE]
  have rest : ∀ b, (match (l.take i).getLast? with | some p => less p.at_ o.at_ | none => true) = b → ∃ q, ((i = 0 ∧ b = true) ∨ (0 < i ∧ l[i - 1]? = some q ∧ less q.at_ o.at_ = b)) := by
    intro b hb
    by_cases h0 : i = 0
    · subst h0
      exact ⟨o, .inl ⟨rfl, by simpa using hb.symm⟩⟩
    · have hpos : 0 < i := by omega
      rw [last_take hpos (by omega)] at hb
      obtain ⟨q, hq⟩ : ∃ q, l[i - 1]? = some q := ⟨_, List.getElem?_eq_getElem (by omega)⟩
      rw [hq] at hb
      exact ⟨q, .inr ⟨hpos, hq, hb⟩⟩
  have hidx : 0 < i → ∀ q, l[i - 1]? = some q → 0 ≤ (i : Int) - 1 ∧ (l.map opC)[((i : Int) - 1).toNat]? = some (opC q) := fun h q hq => ⟨by omega, by rw [show ((i : Int) - 1).toNat = i - 1 by omega]; simp [hq]⟩
  cases ha : (match (l.take i).getLast? with | some p => less p.at_ o.at_ | none => true) with
  | false =>
    obtain ⟨q, h | ⟨hpos, hq, hL⟩⟩ := rest _ ha
    · cases h.2
    have c1 : decide ((0 : Int) < (i : Int)) = true := decide_eq_true (by omega)
    have hLs := rLess_spec (g := g) q.at_ o.at_
    rw [hL] at hLs
    have g2 := hidx hpos q hq
    rw [oneE_10 hE ha]
    refine run [] ?_
    exact retP rfl rfl
  | true =>
  have b0 : (0 : Int) ≤ 0 ∧ (0 : Int) ≤ (i : Int) ∧ (i : Int) ≤ (l.length : Nat) := by omega
  have m0 : ((i : Int) - 0).toNat = (l.take i).length := by rw [List.length_take]; omega
  have f0 : ((l.map opC).drop (0 : Int).toNat).take (l.take i).length = (l.take i).map opC := by simp [List.map_take]
  have hA := rAdded_spec (g := g) (l.take i) o.note.id (by rw [List.length_take]; omega)
  have hpl : (l.take i).length ≤ 1000000 := by rw [List.length_take]; omega
  repeat' (first
   | refine stn [] ?_
   | ((with_reducible refine is_awp ?_); refine awp_cond rfl (fun h => ?_) (fun h => ?_))
   | fail)
  refine awp_cut 0 [(0, encOps l), (1, vi i), (5, .fp (opC o)), (34, vb false)] [] ?_ ?_
  · obtain ⟨q, h | ⟨hpos, hq, hL⟩⟩ := rest _ ha
    · have c1 : decide ((0 : Int) < (i : Int)) = false := decide_eq_false (by omega)
      refine run [] ?_
      exact ⟨(.cons rfl rfl (.cons rfl rfl (.cons rfl rfl (.cons rfl rfl .nil)))), rfl, rfl, rfl⟩
    · have c1 : decide ((0 : Int) < (i : Int)) = true := decide_eq_true (by omega)
      have hLs := rLess_spec (g := g) q.at_ o.at_
      rw [hL] at hLs
      have g2 := hidx hpos q hq
      refine run [] ?_
      exact ⟨(.cons rfl rfl (.cons rfl rfl (.cons rfl rfl (.cons rfl rfl .nil)))), rfl, rfl, rfl⟩
  generalize hpre : l.take i = pre at *
  by_cases hk : o.kind = 0
  · have d0 : decide (o.kind = 0) = true := decide_eq_true hk
    rw [oneE_add hE ha hk]
    refine runn [] ?_
    exact retP rfl rfl
  have d0 : decide (o.kind = 0) = false := decide_eq_false hk
  cases hb : (match addedO pre o.note.id with | some a => decide (a.rec_ = o.rec_) | none => false) with
  | false =>
    rw [oneE_9 hE ha hk hb]
    cases hf : addedO pre o.note.id with
    | none =>
      rw [hf] at hA
      replace hA : PCalls Tryz.prog g 77 [encOps pre, vi o.note.id] (.tup [.agg (opC zeroOp), vb false]) := hA
      repeat' (first
       | ((with_reducible refine isD_un ?_); refine awpD_un (as_ev (fun _ => ev_slice_fs rfl rfl rfl rfl rfl rfl rfl b0 m0 f0) rfl rfl) (by (try simp only [List.nil_append, List.cons_append]); (try rfl)) ?_)
       | refine st [] ?_
       | fail)
      exact retP rfl rfl
    | some a =>
      rw [hf] at hA hb
      replace hA : PCalls Tryz.prog g 77 [encOps pre, vi o.note.id] (.tup [.agg (opC a), vb true]) := hA
      have hr : (!decide (a.rec_ = o.rec_)) = true := by simpa using hb
      repeat' (first
       | ((with_reducible refine isD_un ?_); refine awpD_un (as_ev (fun _ => ev_slice_fs rfl rfl rfl rfl rfl rfl rfl b0 m0 f0) rfl rfl) (by (try simp only [List.nil_append, List.cons_append]); (try rfl)) ?_)
       | refine st [] ?_
       | fail)
      exact retP rfl rfl
  | true =>
  obtain ⟨a, hf, hrec⟩ : ∃ a, addedO pre o.note.id = some a ∧ a.rec_ = o.rec_ := by
    cases hf : addedO pre o.note.id with
    | none => rw [hf] at hb; cases hb
    | some a => rw [hf] at hb; exact ⟨a, rfl, by simpa using hb⟩
  rw [hf] at hA
  replace hA : PCalls Tryz.prog g 77 [encOps pre, vi o.note.id] (.tup [.agg (opC a), vb true]) := hA
  have hr : (!decide (a.rec_ = o.rec_)) = false := by simp [hrec]
  repeat' (first
   | ((with_reducible refine isD_un ?_); refine awpD_un (as_ev (fun _ => ev_slice_fs rfl rfl rfl rfl rfl rfl rfl b0 m0 f0) rfl rfl) (by (try simp only [List.nil_append, List.cons_append]); (try rfl)) ?_)
   | refine st [] ?_
   | ((with_reducible refine is_awp ?_); refine awp_cond rfl (fun h => ?_) (fun h => ?_))
   | fail)
  refine awp_for (α := Nat) 0 (fun k => [(0, encOps l), (1, vi i), (5, .fp (opC o)), (9, vi k)]) (fun _ => []) (fun k => k ≤ o.over.length ∧ o.over.all (overOk pre o) = (o.over.drop k).all (overOk pre o)) (fun k => o.over.length - k) 0
    ⟨(.cons rfl rfl (.cons rfl rfl (.cons rfl rfl (.cons rfl rfl .nil)))), rfl, rfl, rfl⟩ ⟨Nat.zero_le _, rfl⟩ ?_
  rintro k ⟨hkl, hall⟩
  cases ht : o.over[k]? with
  | none =>
    have hge : o.over.length ≤ k := by simpa using ht
    have c1 : decide ((k : Int) < o.over.length) = false := decide_eq_false (by omega)
    rw [List.drop_of_length_le hge] at hall
    rw [oneE_0 hE ha hk hb hall]
    refine runn [] ?_
    exact retP rfl rfl
  | some t =>
    have hltk : k < o.over.length := (List.getElem?_eq_some_iff.1 ht).1
    have c1 : decide ((k : Int) < o.over.length) = true := decide_eq_true (by omega)
    have g3 := stamp_get ht
    have h16 := opE_over hE
    rw [all_drop _ _ k t ht] at hall
    repeat' (first
     | refine stn [] ?_
     | ((with_reducible refine is_awp ?_); refine awp_cond rfl (fun h => ?_) (fun h => ?_))
     | fail)
    refine awp_cutB 0 [(0, encOps l), (1, vi i), (5, .fp (opC o)), (9, vi k), (10, vb (overOk pre o t))] [] ?_ ?_
    · refine awp_for (α := Nat) 0 (fun j => [(0, encOps l), (1, vi i), (5, .fp (opC o)), (9, vi k), (10, vb (anyK (okF pre o t) j)), (11, vi j)]) (fun _ => []) (fun j => j ≤ 3) (fun j => 3 - j) 0
        ⟨(.cons rfl rfl (.cons rfl rfl (.cons rfl rfl (.cons rfl rfl (.cons rfl rfl (.cons rfl rfl .nil)))))), rfl, rfl, rfl⟩ (by omega) ?_
      intro j hj
      by_cases hj3 : j = 3
      · subst hj3
        have c2 : decide (((3 : Nat) : Int) ≤ 2) = false := rfl
        refine runn [] ?_
        exact ⟨(.cons rfl rfl (.cons rfl rfl (.cons rfl rfl (.cons rfl rfl (.cons rfl rfl .nil))))), rfl, rfl, rfl⟩
      · have c2 : decide ((j : Int) ≤ 2) = true := decide_eq_true (by omega)
        have hS := anyK_succ (okF pre o t) (j := j) (by omega)
        have hw := rWriter_spec (g := g) pre t o.note.id j hpl
        cases hacc : anyK (okF pre o t) j with
        | true =>
          rw [hacc, Bool.true_or] at hS
          repeat' (first
           | ((with_reducible refine is_draw ?_); refine awp_drawT 27 (by simp only [List.take_succ_cons, List.take_zero, List.take_nil]; rfl) (by simp only [List.drop_succ_cons, List.drop_zero, List.drop_nil]; rfl) (by kernel_rfl) rfl rfl rfl rfl (by repeat' (first | exact Strip.nil | apply Strip.keep rfl | apply Strip.drop rfl)) ?_)
           | refine st [] ?_
           | fail)
          exact ⟨j + 1, ⟨(.cons rfl rfl (.cons rfl rfl (.cons rfl rfl (.cons rfl rfl (.cons rfl (by rw [hS]; rfl) (.cons rfl rfl .nil)))))), rfl, rfl, rfl⟩, by omega, by omega⟩
        | false =>
          rw [hacc, Bool.false_or] at hS
          by_cases k2 : o.kind = 2
          · have e1 : decide (o.kind = 2) = true := decide_eq_true k2
            rw [okF, e1, Bool.true_or, Bool.true_and] at hS
            repeat' (first
             | ((with_reducible refine isD_un ?_); refine awpD_un (as_ev (fun _ => ev_slice_fs rfl rfl rfl rfl rfl rfl rfl b0 m0 f0) rfl rfl) (by (try simp only [List.nil_append, List.cons_append]); (try rfl)) ?_)
             | ((with_reducible refine isD_gd ?_); refine awpD_gd rfl rfl (by first | with_reducible rfl | with_reducible assumption) (as_ev (fun _ => ev_slice_fs rfl rfl rfl rfl rfl rfl rfl b0 m0 f0) rfl rfl) (by (try simp only [List.nil_append, List.cons_append]); (try rfl)) ?_)
             | ((with_reducible refine is_draw ?_); refine awp_drawT 27 (by simp only [List.take_succ_cons, List.take_zero, List.take_nil]; rfl) (by simp only [List.drop_succ_cons, List.drop_zero, List.drop_nil]; rfl) (by kernel_rfl) rfl rfl rfl rfl (by repeat' (first | exact Strip.nil | apply Strip.keep rfl | apply Strip.drop rfl)) ?_)
             | refine st [] ?_
             | fail)
            exact ⟨j + 1, ⟨(.cons rfl rfl (.cons rfl rfl (.cons rfl rfl (.cons rfl rfl (.cons rfl (by rw [hS]; rfl) (.cons rfl rfl .nil)))))), rfl, rfl, rfl⟩, by omega, by omega⟩
          · have e1 : decide (o.kind = 2) = false := decide_eq_false k2
            by_cases k3 : (j : Int) = o.set
            · have e2 : decide ((j : Int) = o.set) = true := decide_eq_true k3
              rw [okF, e1, e2, Bool.false_or, Bool.true_and] at hS
              repeat' (first
               | ((with_reducible refine isD_un ?_); refine awpD_un (as_ev (fun _ => ev_slice_fs rfl rfl rfl rfl rfl rfl rfl b0 m0 f0) rfl rfl) (by (try simp only [List.nil_append, List.cons_append]); (try rfl)) ?_)
               | ((with_reducible refine isD_gd ?_); refine awpD_gd rfl rfl (by first | with_reducible rfl | with_reducible assumption) (as_ev (fun _ => ev_slice_fs rfl rfl rfl rfl rfl rfl rfl b0 m0 f0) rfl rfl) (by (try simp only [List.nil_append, List.cons_append]); (try rfl)) ?_)
               | ((with_reducible refine is_draw ?_); refine awp_drawT 27 (by simp only [List.take_succ_cons, List.take_zero, List.take_nil]; rfl) (by simp only [List.drop_succ_cons, List.drop_zero, List.drop_nil]; rfl) (by kernel_rfl) rfl rfl rfl rfl (by repeat' (first | exact Strip.nil | apply Strip.keep rfl | apply Strip.drop rfl)) ?_)
               | refine st [] ?_
               | fail)
              exact ⟨j + 1, ⟨(.cons rfl rfl (.cons rfl rfl (.cons rfl rfl (.cons rfl rfl (.cons rfl (by rw [hS]; rfl) (.cons rfl rfl .nil)))))), rfl, rfl, rfl⟩, by omega, by omega⟩
            · have e2 : decide ((j : Int) = o.set) = false := decide_eq_false k3
              rw [okF, e1, e2, Bool.false_or, Bool.false_and] at hS
              repeat' (first
               | ((with_reducible refine is_draw ?_); refine awp_drawT 27 (by simp only [List.take_succ_cons, List.take_zero, List.take_nil]; rfl) (by simp only [List.drop_succ_cons, List.drop_zero, List.drop_nil]; rfl) (by kernel_rfl) rfl rfl rfl rfl (by repeat' (first | exact Strip.nil | apply Strip.keep rfl | apply Strip.drop rfl)) ?_)
               | refine st [] ?_
               | fail)
              exact ⟨j + 1, ⟨(.cons rfl rfl (.cons rfl rfl (.cons rfl rfl (.cons rfl rfl (.cons rfl (by rw [hS]; rfl) (.cons rfl rfl .nil)))))), rfl, rfl, rfl⟩, by omega, by omega⟩
    · cases hov : overOk pre o t with
      | true =>
        rw [hov, Bool.true_and] at hall
        refine runn [] ?_
        exact ⟨k + 1, ⟨(.cons rfl rfl (.cons rfl rfl (.cons rfl rfl (.cons rfl rfl .nil)))), rfl, rfl, rfl⟩, ⟨by omega, hall⟩, by omega⟩
      | false =>
        rw [hov, Bool.false_and] at hall
        rw [oneE_27 hE ha hk hb hall]
        refine runn [] ?_
        exact retP rfl rfl
end Go.Proofs.YtnacjdaoiepbhaaGreatDoor
end
section
namespace Go.Proofs.YtnacjdaoiepbhaaGreatDoor
open Go.Ac
attribute [local irreducible] awp awpL Ev Ev2 EvS thenQ blockQ retQ PCalls OCalls YieldOk IterC
variable {g : List (Nat × List AV)}
theorem allE_nil (pre : List Op) : allE pre [] = 0 := by rw [allE]
theorem allE_bad {pre r : List Op} {o : Op} (h : oneE pre o ≠ 0) : allE pre (o :: r) = oneE pre o := by rw [allE, if_pos h]
theorem allE_ok {pre r : List Op} {o : Op} (h : oneE pre o = 0) : allE pre (o :: r) = allE (pre ++ [o]) r := by rw [allE, if_neg (by simpa using h)]
theorem take_snoc {α : Type} {l : List α} {k : Nat} {x : α} (h : l[k]? = some x) : l.take (k + 1) = l.take k ++ [x] := by rw [List.take_add_one, h]; rfl
theorem drop_get {α : Type} {l : List α} {k : Nat} {x : α} (h : l[k]? = some x) : l.drop k = x :: l.drop (k + 1) := by
  obtain ⟨_, rfl⟩ := List.getElem?_eq_some_iff.1 h
  exact List.drop_eq_getElem_cons (List.getElem?_eq_some_iff.1 h).1
theorem all_right {l : List Op} (h : allE [] l = 0) : ∀ o ∈ l, right o.at_ = true := by
  intro o ho
  obtain ⟨k, hk⟩ := List.getElem?_of_mem ho
  exact opE_right (oneE_opE (allE_split l [] h k o hk))
set_option maxRecDepth 4000 in
set_option maxHeartbeats 2000000 in
theorem rCheck_spec (r : Replica) (hs : r.seen.length ≤ 1000000) (hid : Ids r.ops) : PCalls Tryz.prog g 44 [.agg (repC r)] (vi (repE r)) := by
  refine pcalls' Tryz.func44 Tryz.ntmps44 rfl rfl rfl ?_
  have n1 : (!true) = false := rfl
  have n2 : (!false) = true := rfl
  by_cases h1 : r.dev < 1
  · have c1 : decide (r.dev < 1) = true := decide_eq_true h1
    refine runn [] ?_
    refine retP rfl ?_
    rw [repE, if_pos (by simp [within]; omega)]; rfl
  have c1 : decide (r.dev < 1) = false := decide_eq_false h1
  by_cases h2 : 15 < r.dev
  · have c2 : decide (15 < r.dev) = true := decide_eq_true h2
    refine runn [] ?_
    refine retP rfl ?_
    rw [repE, if_pos (by simp [within]; omega)]; rfl
  have c2 : decide (15 < r.dev) = false := decide_eq_false h2
  have hw : ¬ within r.dev 1 15 = false := by simp [within]; omega
  by_cases h4 : 400 < r.ops.length
  · have c3 : decide ((400 : Int) < r.ops.length) = true := decide_eq_true (by omega)
    refine runn [] ?_
    refine retP rfl ?_
    rw [repE, if_neg hw, if_pos h4]; rfl
  have c3 : decide ((400 : Int) < r.ops.length) = false := decide_eq_false (by omega)
  have hE : repE r = if allE [] r.ops ≠ 0 then allE [] r.ops else if r.seen ≠ seenL r.ops then 1 else 0 := by rw [repE, if_neg hw, if_neg h4]
  rw [hE]
  repeat' (first
   | refine stn [] ?_
   | ((with_reducible refine is_awp ?_); refine awp_cond rfl (fun h => ?_) (fun h => ?_))
   | fail)
  refine awp_for (α := Nat) 0 (fun k => [(1, .fp (repC r)), (3, vi k)]) (fun _ => []) (fun k => k ≤ r.ops.length ∧ allE [] r.ops = allE (r.ops.take k) (r.ops.drop k)) (fun k => r.ops.length - k) 0
    ⟨(.cons rfl rfl (.cons rfl rfl .nil)), rfl, rfl, rfl⟩ ⟨Nat.zero_le _, rfl⟩ ?_
  rintro k ⟨hk, hf⟩
  cases ht : r.ops[k]? with
  | none =>
    have hge : r.ops.length ≤ k := by simpa using ht
    have c4 : decide ((k : Int) < r.ops.length) = false := decide_eq_false (by omega)
    rw [List.drop_of_length_le hge, allE_nil] at hf
    have hS := (rSeen_spec (g := g) r.ops (by omega) (all_right hf)).toP
    rw [List.length_map] at hS
    have hQ := rSameInts_spec (g := g) r.seen (seenL r.ops) hs (by rw [seenL_len]; omega)
    rw [hf, if_neg (by simp)]
    by_cases he : r.seen = seenL r.ops
    · rw [decide_eq_true he] at hQ
      rw [if_neg (by simpa using he)]
      refine run [] ?_
      exact retP rfl rfl
    · rw [decide_eq_false he] at hQ
      rw [if_pos he]
      refine run [] ?_
      exact retP rfl rfl
  | some o =>
    have hlt : k < r.ops.length := (List.getElem?_eq_some_iff.1 ht).1
    have c4 : decide ((k : Int) < r.ops.length) = true := decide_eq_true (by omega)
    have hO := rOne_spec (g := g) r.ops k o (by omega) ht (hid o (List.mem_of_getElem? ht))
    rw [drop_get ht] at hf
    by_cases he : oneE (r.ops.take k) o = 0
    · have c5 : (!decide (oneE (r.ops.take k) o = 0)) = false := by simp [he]
      rw [allE_ok he, ← take_snoc ht] at hf
      refine runn [] ?_
      exact ⟨k + 1, ⟨(.cons rfl rfl (.cons rfl rfl .nil)), rfl, rfl, rfl⟩, ⟨by omega, hf⟩, by omega⟩
    · have c5 : (!decide (oneE (r.ops.take k) o = 0)) = true := by simp [he]
      rw [allE_bad he] at hf
      refine runn [] ?_
      refine retP rfl ?_
      rw [hf, if_pos he]; rfl
def light (r : Replica) : Bool := decide (r.ops.length ≤ 16) && (decide (r.seen.length ≤ 100) && decide (repE r = 0))
theorem Light_spec (r : Replica) (hid : Ids r.ops) : PCalls Tryz.prog g 18 [.agg (repC r)] (vb (light r)) := by
  refine pcalls' Tryz.func18 Tryz.ntmps18 rfl rfl rfl ?_
  by_cases h1 : r.ops.length ≤ 16
  · have c1 : decide ((r.ops.length : Int) ≤ 16) = true := decide_eq_true (by omega)
    by_cases h2 : r.seen.length ≤ 100
    · have c2 : decide ((r.seen.length : Int) ≤ 100) = true := decide_eq_true (by omega)
      have hC := rCheck_spec (g := g) r (by omega) hid
      refine runn [] ?_
      refine retP rfl ?_
      simp [ex, light, h1, h2]
    · have c2 : decide ((r.seen.length : Int) ≤ 100) = false := decide_eq_false (by omega)
      refine runn [] ?_
      refine retP rfl ?_
      simp [ex, light, h2]
  · have c1 : decide ((r.ops.length : Int) ≤ 16) = false := decide_eq_false (by omega)
    refine runn [] ?_
    refine retP rfl ?_
    simp [ex, light, h1]
end Go.Proofs.YtnacjdaoiepbhaaGreatDoor
end
section
namespace Go.Proofs.YtnacjdaoiepbhaaGreatDoor
open Go.Lib
def numT (n : Int) : ByteArray := ⟨(itoa n).toArray⟩
theorem numT_list (n : Int) : (numT n).data.toList = itoa n := by simp [numT]
def isDg (b : UInt8) : Bool := decide (48 ≤ b.toNat) && decide (b.toNat ≤ 57)
def dgs (acc : Nat) (l : List UInt8) : Nat := l.foldl (fun a b => a * 10 + (b.toNat - 48)) acc
theorem dgs_le : ∀ (l : List UInt8) (acc : Nat), acc ≤ dgs acc l
  | [], acc => Nat.le_refl _
  | b :: r, acc => by
    have := dgs_le r (acc * 10 + (b.toNat - 48))
    simp only [dgs, List.foldl_cons] at this ⊢
    omega
theorem dgs_append (a b : List UInt8) (acc : Nat) : dgs acc (a ++ b) = dgs (dgs acc a) b := by simp [dgs]
theorem decDigits_dg (u : Nat) : (∀ b ∈ decDigits u, isDg b = true) ∧ dgs 0 (decDigits u) = u ∧ decDigits u ≠ [] := by
  induction u using Nat.strongRecOn with
  | _ u ih =>
    by_cases h : u < 10
    · rw [decDigits, dif_pos h]
      have hm : (48 + u) % 256 = 48 + u := Nat.mod_eq_of_lt (by omega)
      refine ⟨fun b hb => ?_, ?_, by simp⟩
      · simp only [List.mem_singleton] at hb
        subst hb
        simp [isDg, UInt8.toNat_ofNat', hm]; omega
      · simp [dgs, UInt8.toNat_ofNat', hm]
    · rw [decDigits, dif_neg h]
      obtain ⟨h1, h2, h3⟩ := ih (u / 10) (by omega)
      have hm : (48 + u % 10) % 256 = 48 + u % 10 := Nat.mod_eq_of_lt (by omega)
      refine ⟨fun b hb => ?_, ?_, by simp⟩
      · rcases List.mem_append.1 hb with hb | hb
        · exact h1 b hb
        · simp only [List.mem_singleton] at hb
          subst hb
          simp [isDg, UInt8.toNat_ofNat', hm]; omega
      · rw [dgs_append, h2]
        simp [dgs, UInt8.toNat_ofNat', hm]; omega
theorem parse_dgs : ∀ (l : List UInt8) (acc : Nat), (∀ b ∈ l, isDg b = true) → dgs acc l < 18446744073709551616 → parseUint10 acc l = .ok (dgs acc l)
  | [], acc, _, _ => rfl
  | b :: r, acc, h, hb => by
    have h1 := h b (by simp)
    simp only [isDg, Bool.and_eq_true, decide_eq_true_eq] at h1
    have hr : dgs acc (b :: r) = dgs (acc * 10 + (b.toNat - 48)) r := rfl
    have := dgs_le r (acc * 10 + (b.toNat - 48))
    rw [hr] at hb ⊢
    simp only [parseUint10]
    rw [if_pos h1, if_neg (by omega), if_neg (by omega)]
    exact parse_dgs r _ (fun x hx => h x (by simp [hx])) hb
theorem head_dg {l : List UInt8} {b : UInt8} {r : List UInt8} (h : ∀ x ∈ l, isDg x = true) (hl : l = b :: r) : ¬ (b.toNat = 43 ∨ b.toNat = 45) := by
  have := h b (by simp [hl])
  simp only [isDg, Bool.and_eq_true, decide_eq_true_eq] at this
  omega
theorem atoi_itoa (n : Int) (h0 : -9223372036854775808 ≤ n) (h1 : n ≤ 9223372036854775807) : atoiAll (itoa n) = .ok n := by
  by_cases hn : n < 0
  · obtain ⟨d1, d2, d3⟩ := decDigits_dg n.natAbs
    have e : itoa n = 45 :: decDigits n.natAbs := by unfold itoa; rw [if_pos hn]
    rw [e]
    have hp : parseMag (decDigits n.natAbs) = .ok n.natAbs := by
      unfold parseMag
      rw [if_neg d3, parse_dgs _ _ d1 (by rw [d2]; omega), d2]
    have h45 : (45 : UInt8).toNat = 45 := rfl
    simp only [atoiAll, h45, or_true, if_true, hp, not_true, false_and, if_false, true_and]
    rw [if_neg (by omega)]
    congr 1
    omega
  · obtain ⟨d1, d2, d3⟩ := decDigits_dg n.toNat
    have e : itoa n = decDigits n.toNat := by unfold itoa; rw [if_neg hn]
    rw [e]
    obtain ⟨b, r, hl⟩ : ∃ b r, decDigits n.toNat = b :: r := by
      cases hh : decDigits n.toNat with
      | nil => exact absurd hh d3
      | cons b r => exact ⟨b, r, rfl⟩
    have hb := head_dg d1 hl
    have hp : parseMag (decDigits n.toNat) = .ok n.toNat := by
      unfold parseMag
      rw [if_neg d3, parse_dgs _ _ d1 (by rw [d2]; omega), d2]
    rw [hl] at hp ⊢
    simp only [atoiAll]
    rw [if_neg hb, hp]
    have hb2 : ¬ b.toNat = 45 := fun h => hb (.inr h)
    simp only [hb2, not_false_eq_true, true_and, false_and, if_false]
    rw [if_neg (by omega)]
    congr 1
    omega
abbrev inNum (n : Int) : Prop := -1099511627776 ≤ n ∧ n ≤ 1099511627776
def numP (s : ByteArray) : Option Int := match atoiAll s.data.toList with
  | .ok n => if numT n = s ∧ inNum n then some n else none
  | _ => none
theorem numP_some {s : ByteArray} {n : Int} : numP s = some n ↔ numT n = s ∧ inNum n := by
  unfold numP
  constructor
  · intro h
    split at h
    · split at h
      · rename_i hc
        cases h
        exact hc
      · cases h
    · cases h
  · rintro ⟨h1, h2⟩
    have : atoiAll s.data.toList = .ok n := by rw [← h1, numT_list]; exact atoi_itoa n (by omega) (by omega)
    rw [this]
    simp only
    rw [if_pos ⟨h1, h2⟩]
theorem numP_numT {n : Int} (h : inNum n) : numP (numT n) = some n := numP_some.2 ⟨rfl, h⟩
theorem itoa_no (n : Int) (c : UInt8) (h1 : isDg c = false) (h2 : c ≠ 45) : c ∉ itoa n := by
  intro h
  unfold itoa at h
  split at h
  · rcases List.mem_cons.1 h with h | h
    · exact h2 h
    · rw [(decDigits_dg _).1 c h] at h1; cases h1
  · rw [(decDigits_dg _).1 c h] at h1; cases h1
def runN (l : List UInt8) (acc : Nat) : Option Nat := match l with
  | [] => some acc
  | b :: r => if isDg b then (if 1099511627776 < acc * 10 + (b.toNat - 48) then none else runN r (acc * 10 + (b.toNat - 48))) else none
def sgn (s : ByteArray) : Nat := if s.data.toList.head? = some 45 then 1 else 0
def rawP (s : ByteArray) : Option Int := (runN (s.data.toList.drop (sgn s)) 0).map fun n => if sgn s = 1 then -(n : Int) else n
end Go.Proofs.YtnacjdaoiepbhaaGreatDoor
end
section
namespace Go.Ac
open Go.RowKit
section
variable {P : Program} {G : Glo} {N : Nat} {S : SL} {L : List LB} {ty : TypeId} {u : Operand}
theorem iface_desc {td : TDs} [T : TOK P td] {t : Nat} {d : TD} (ht : lk td t = some d) (hs : d.k = .iface) : P.underlying t = some (.interface (P.methodsAt t)) := by
  obtain ⟨i, u, z, h1, h2, h3, h4, h5, h6, h7⟩ := tok_parts (P := P) ht
  rw [hs] at h4
  unfold Program.methodsAt
  rw [h2]
  cases u <;> simp_all [tk]
theorem ev_ifc_nn {td : TDs} [T : TOK P td] {t yt : Nat} {d : TD} (h1 : val G S u = some (.v .nilIface)) (ht : lk td t = some d) (hs : d.k = .iface) :
    Ev P G N (.binOp .neq t u (.const .nilIface) yt) ty S L (.v (.bool false)) := by
  intro o ho _ cx a hc
  have e1 := val_R hc h1
  simp only [R] at e1
  refine ⟨.bool false, ?_, by simp only [R]⟩
  have := run_neq_nil_nil (P := P) cx.w t (iface_desc (P := P) ht hs)
  have e2 : a.eval (.const .nilIface) = .nilIface := rfl
  simp only [execOp, ho, e1, e2, Sem.run_bind]
  simp [eqGuard, Result.andThen_ok, Sem.run_pure, this]
theorem ev_ifc_ne {td : TDs} [T : TOK P td] {t yt : Nat} {d : TD} {k : TypeId} {x : AV} (h1 : val G S u = some (.ifc k x)) (ht : lk td t = some d) (hs : d.k = .iface) :
    Ev P G N (.binOp .neq t u (.const .nilIface) yt) ty S L (.v (.bool true)) := by
  intro o ho _ cx a hc
  have e1 := val_R hc h1
  simp only [R] at e1
  obtain ⟨y, e1, _⟩ := e1
  refine ⟨.bool true, ?_, by simp only [R]⟩
  have := run_neq_held_nil (P := P) cx.w t k y (iface_desc (P := P) ht hs)
  have e2 : a.eval (.const .nilIface) = .nilIface := rfl
  simp only [execOp, ho, e1, e2, Sem.run_bind]
  simp [eqGuard, Result.andThen_ok, Sem.run_pure, this]
end
theorem PCalls.ofBelowQ {P : Program} {g : List (Nat × List AV)} {f : FuncId} {args : List AV} {r : AV} (hc : Callable P f)
    (h : ∀ (F : Nat → Prop) (w : World) (vs : Array Value), St (Glo.of g) (Cx.bare F w) [] → TF F w args vs.toList → Calls P f vs w fun e w' => ∃ v, e = .returned v ∧ Below w.heap.size w w' ∧ RF F w' r v) : PCalls P g f args r := by
  refine ⟨hc, fun F w vs st ha => (callsIn_wide.2 (h F w vs st ha)).mono ?_⟩
  rintro e w' ⟨v, rfl, hb, hv⟩
  have hF : ∀ b, F b → b < w.heap.size := st.inF
  have hk : ∀ b, F b → w'.heap[b]? = w.heap[b]? := fun b h => hb.block b (hF b h)
  refine ⟨v, F, rfl, hv, ⟨fun k h => h.elim, fun k x h => by simp at h, fun b h => Nat.lt_of_lt_of_le (hF b h) hb.size, fun k b h => by simp [Cx.bare] at h, fun k k' b h => by simp [Cx.bare] at h, fun k x h => by simp at h,
    fun p hp => ?_, fun b h => h.elim, List.nodup_nil, .inl rfl, fun r h => by simp [Cx.bare] at h, .inl rfl⟩,
    ⟨hb.os, hb.tape, hb.output, hb.size, fun b h => .inl h, fun b ⟨j, h⟩ => by simp [Cx.bare] at h, fun b h => h.elim, fun r h => by simp [Cx.bare] at h, fun b h1 _ _ => hb.block b h1, rfl, ?_⟩⟩
  · obtain ⟨h1, h2, h3⟩ := st.glob p hp
    exact ⟨h1, MF.mono (F := F) (w := w) (fun b h => h) hk p.2 p.1 0 (hk p.1 h1) h2, h3.keep (hk p.1 h1)⟩
  · refine ⟨fun b h => h, fun b h => hk b h, fun k h => h.elim, fun k h => h.elim, fun k h => h.elim, fun k h => h.elim, fun k h => h.elim, fun k b arr T h => h.elim⟩
end Go.Ac
end
section
namespace Go.Ac
open Go.RowKit
def powCs : List AV := Go.Lib.pow10Tab.map fun z => .v (.int .u64 z)
theorem tab_of {P : Program} {g : List (Nat × List AV)} {F : Nat → Prop} {w : World} {b : Nat} {name : String} {k : IntKind} {zs : List Int} (st : St (Glo.of g) (Cx.bare F w) []) (h : (b, zs.map fun z => AV.v (.int k z)) ∈ g) (hn : P.globalNamed name = some b) : Go.Lib.TabIs P w name k zs := by
  obtain ⟨_, m, arr, T, z, e1, e2⟩ := st.glob _ h
  have e1 : w.heap[b]? = some (.cells arr T z) := e1
  have e2 : arr.size = (zs.map fun z => AV.v (.int k z)).length := e2
  unfold Go.Lib.TabIs World.var?
  rw [hn]
  simp only [Option.bind_some, e1]
  congr 1
  apply Array.ext
  · simpa using e2
  · intro i h1 h2
    have hi : i < zs.length := by simpa [e2] using h1
    obtain ⟨u, q1, q2, _⟩ := m.get (i := i) (x := AV.v (.int k zs[i])) (by rw [List.getElem?_map, List.getElem?_eq_getElem hi]; rfl)
    simp only [RF] at q2
    subst q2
    have q1 : w.cell? ⟨b, i, none⟩ = some (.int k zs[i]) := by simpa [Cx.bare] using q1
    simp only [World.cell?, e1] at q1
    have : arr[i]? = some (.int k zs[i]) := by simpa using q1
    rw [Array.getElem?_eq_getElem h1] at this
    rw [Option.some.inj this]
    simp
theorem one_arg {F : Nat → Prop} {w : World} {x : Value} {vs : Array Value} (h : TF F w [.v x] vs.toList) : vs = #[x] := by
  simp only [TF, RF] at h
  obtain ⟨y, t, e, rfl, rfl⟩ := h
  cases vs; simp_all
theorem below_grown (w : World) (k : Nat) (os : Array Obj) : Below w.heap.size w (Go.Sort.grow (w.drewN k) os) := by
  refine ⟨rfl, rfl, rfl, by simp [Go.Sort.grow, World.drewN], fun j hj => ?_⟩
  simp [Go.Sort.grow, World.drewN, Array.getElem?_append_left hj]
theorem itoa_P {P : Program} {ρ : Go.Shelf.Ren} {g : List (Nat × List AV)} (L : Go.Proofs.LaysM.n171 P ρ) (hc : Callable P (ρ.f 171)) {b : Nat} (hn : P.globalNamed "internal/strconv.uint64pow10" = some b) (h : (b, powCs) ∈ g) (n : Int) (h0 : -9223372036854775808 ≤ n ∧ n ≤ 9223372036854775807) :
    PCalls P g (ρ.f 171) [.v (.int .i64 n)] (.v (.string ⟨(Go.Lib.itoa n).toArray⟩)) := by
  refine PCalls.ofBelow hc fun F w vs st ha => ?_
  obtain rfl := one_arg ha
  refine (Go.Proofs.Any.strconv_Itoa L n h0.1 h0.2 w (tab_of st h hn)).mono ?_
  rintro e w' ⟨rfl, k, os, rfl⟩
  exact ⟨rfl, below_grown w k os⟩
theorem err_of {g : List (Nat × List AV)} {F : Nat → Prop} {w : World} {b : Nat} {t : TypeId} (st : St (Glo.of g) (Cx.bare F w) []) (h : (b, [AV.ifc t .any]) ∈ g) : ∃ ev, w.cell? ⟨b, 0, none⟩ = some ev ∧ (ev = .nilIface ∨ ∃ te pe, ev = .iface te pe) := by
  obtain ⟨_, m, _⟩ := st.glob _ h
  obtain ⟨u, q1, q2, _⟩ := m.get (i := 0) (x := .ifc t .any) rfl
  simp only [RF] at q2
  obtain ⟨y, rfl, _⟩ := q2
  exact ⟨_, by simpa [Cx.bare] using q1, .inr ⟨_, _, rfl⟩⟩
def atoiV (t : TypeId) (s : ByteArray) : AV := match Go.Lib.atoiAll s.data.toList with
  | .ok n => .tup [.v (.int .i64 n), .v .nilIface]
  | .range => .tup [.v (.int .i64 (Go.Lib.atoiSat s.data.toList)), .ifc t .any]
  | _ => .tup [.v (.int .i64 0), .ifc t .any]
theorem atoi_P {P : Program} {ρ : Go.Shelf.Ren} {g : List (Nat × List AV)} (L : Go.Proofs.LaysC.n172 P ρ) (hc : Callable P (ρ.f 172)) {t1 t2 : TypeId} (h1 : (ρ.g 15, [AV.ifc t1 .any]) ∈ g) (h2 : (ρ.g 16, [AV.ifc t2 .any]) ∈ g) (s : ByteArray) (hs : s.size ≤ 281474976710656) :
    PCalls P g (ρ.f 172) [.v (.string s)] (atoiV (ρ.t 168) s) := by
  refine PCalls.ofBelowQ hc fun F w vs st ha => ?_
  obtain rfl := one_arg ha
  unfold atoiV
  cases h : Go.Lib.atoiAll s.data.toList
  · rename_i n
    refine (Go.Proofs.Any.strconv_Atoi_ok L s (by omega) n h w).mono ?_
    rintro e w' ⟨rfl, hw⟩
    refine ⟨_, rfl, ?_, by simp [RF, TF]⟩
    rcases hw with rfl | ⟨t, rfl⟩
    · exact Below.refl _ _
    · exact ⟨rfl, rfl, rfl, by rw [Go.Lib.bytesWorld_size]; omega, fun k hk => Go.Lib.bytesWorld_at_old w _ _ k hk⟩
  · obtain ⟨ev, q1, q2⟩ := err_of st h1
    refine (Go.Proofs.Any.strconv_Atoi_syntax L s hs h ev w q1 q2).mono ?_
    rintro e w' ⟨N, rfl, _, _, hb⟩
    refine ⟨_, rfl, hb, ?_⟩
    simp only [RF, TF]
    exact ⟨_, rfl, _, _, rfl, rfl, _, _, rfl, ⟨_, rfl, trivial⟩, rfl⟩
  · obtain ⟨ev, q1, q2⟩ := err_of st h2
    refine (Go.Proofs.Any.strconv_Atoi_range L s hs h ev w q1 q2).mono ?_
    rintro e w' ⟨N, rfl, _, _, hb⟩
    refine ⟨_, rfl, hb, ?_⟩
    simp only [RF, TF]
    exact ⟨_, rfl, _, _, rfl, rfl, _, _, rfl, ⟨_, rfl, trivial⟩, rfl⟩
end Go.Ac
end
section
namespace Go.Proofs.YtnacjdaoiepbhaaGreatDoor
open Go.Ac
attribute [local irreducible] awp awpL Ev Ev2 EvS thenQ blockQ retQ PCalls OCalls
def laysItoa_ren : Go.Shelf.Ren := ⟨fun | 171 => 70 | 243 => 103 | 246 => 131 | 283 => 177 | 284 => 178 | 285 => 179 | 286 => 180 | 129 => 162 | 317 => 212 | 318 => 213 | 319 => 214 | 320 => 215 | 337 => 226 | 338 => 227 | n => n, fun | 3 => 3 | 9 => 9 | 2 => 2 | 4 => 4 | 171 => 203 | 0 => 0 | 53 => 195 | 37 => 116 | 5 => 5 | 173 => 205 | 212 => 233 | 51 => 193 | 20 => 20 | 213 => 234 | 46 => 167 | 232 => 257 | 233 => 258 | n => n, fun | 17 => 2 | 18 => 5 | 19 => 6 | n => n⟩
theorem laysItoa : Go.Proofs.LaysM.n171 Tryz.prog laysItoa_ren := {
  mixed := by kernel_rfl
  f129 := Tryz.func162.trans (congrArg some (by kernel_rfl))
  f171 := Tryz.func70.trans (congrArg some (by kernel_rfl))
  f243 := Tryz.func103.trans (congrArg some (by kernel_rfl))
  f246 := Tryz.func131.trans (congrArg some (by kernel_rfl))
  f283 := Tryz.func177.trans (congrArg some (by kernel_rfl))
  f284 := Tryz.func178.trans (congrArg some (by kernel_rfl))
  f285 := Tryz.func179.trans (congrArg some (by kernel_rfl))
  f286 := Tryz.func180.trans (congrArg some (by kernel_rfl))
  f317 := Tryz.func212.trans (congrArg some (by kernel_rfl))
  f318 := Tryz.func213.trans (congrArg some (by kernel_rfl))
  f319 := Tryz.func214.trans (congrArg some (by kernel_rfl))
  f320 := Tryz.func215.trans (congrArg some (by kernel_rfl))
  f337 := Tryz.func226.trans (congrArg some (by kernel_rfl))
  f338 := Tryz.func227.trans (congrArg some (by kernel_rfl))
  t0 := Tryz.underlying0
  a0 := Tryz.isAgg0
  z0 := Tryz.sizeOf0
  v0 := Tryz.zeroValue0
  t2 := Tryz.underlying2
  a2 := Tryz.isAgg2
  z2 := Tryz.sizeOf2
  v2 := Tryz.zeroValue2
  t3 := Tryz.underlying3
  a3 := Tryz.isAgg3
  z3 := Tryz.sizeOf3
  v3 := Tryz.zeroValue3
  t4 := Tryz.underlying4
  a4 := Tryz.isAgg4
  z4 := Tryz.sizeOf4
  v4 := Tryz.zeroValue4
  t5 := Tryz.underlying5
  a5 := Tryz.isAgg5
  z5 := Tryz.sizeOf5
  v5 := Tryz.zeroValue5
  t9 := Tryz.underlying9
  a9 := Tryz.isAgg9
  z9 := Tryz.sizeOf9
  v9 := Tryz.zeroValue9
  t20 := Tryz.underlying20
  a20 := Tryz.isAgg20
  z20 := Tryz.sizeOf20
  v20 := Tryz.zeroValue20
  t37 := Tryz.underlying116
  a37 := Tryz.isAgg116
  z37 := Tryz.sizeOf116
  v37 := Tryz.zeroValue116
  t46 := Tryz.underlying167
  a46 := Tryz.isAgg167
  z46 := Tryz.sizeOf167
  v46 := Tryz.zeroValue167
  t51 := Tryz.underlying193
  a51 := Tryz.isAgg193
  z51 := Tryz.sizeOf193
  v51 := Tryz.zeroValue193
  t53 := Tryz.underlying195
  a53 := Tryz.isAgg195
  z53 := Tryz.sizeOf195
  v53 := Tryz.zeroValue195
  t171 := Tryz.underlying203
  a171 := Tryz.isAgg203
  z171 := Tryz.sizeOf203
  v171 := Tryz.zeroValue203
  t173 := Tryz.underlying205
  a173 := Tryz.isAgg205
  z173 := Tryz.sizeOf205
  v173 := Tryz.zeroValue205
  t212 := Tryz.underlying233
  a212 := Tryz.isAgg233
  z212 := Tryz.sizeOf233
  v212 := Tryz.zeroValue233
  t213 := Tryz.underlying234
  a213 := Tryz.isAgg234
  z213 := Tryz.sizeOf234
  t232 := Tryz.underlying257
  a232 := Tryz.isAgg257
  z232 := Tryz.sizeOf257
  v232 := Tryz.zeroValue257
  t233 := Tryz.underlying258
  a233 := Tryz.isAgg258
  z233 := Tryz.sizeOf258
  v233 := Tryz.zeroValue258
  g17 := by kernel_rfl
  g18 := by kernel_rfl
  g19 := by kernel_rfl
  i0 := by kernel_rfl
  i2 := by kernel_rfl
  i3 := by kernel_rfl
  i4 := by kernel_rfl
  i5 := by kernel_rfl
  i9 := by kernel_rfl
  i20 := by kernel_rfl
  i37 := by kernel_rfl
  i46 := by kernel_rfl
  i51 := by kernel_rfl
  i53 := by kernel_rfl
  i171 := by kernel_rfl
  i173 := by kernel_rfl
  i212 := by kernel_rfl
  i232 := by kernel_rfl
  i233 := by kernel_rfl
  m17 := by kernel_rfl
  m18 := by kernel_rfl
  m19 := by kernel_rfl }
def laysAtoi_ren : Go.Shelf.Ren := ⟨fun | 172 => 104 | 244 => 132 | 245 => 133 | 247 => 181 | 279 => 182 | 280 => 183 | 281 => 184 | 282 => 185 | 287 => 216 | 316 => 217 | 171 => 70 | 205 => 218 | 321 => 228 | 322 => 229 | 243 => 103 | 246 => 131 | 283 => 177 | 284 => 178 | 285 => 179 | 286 => 180 | 129 => 162 | 317 => 212 | 318 => 213 | 319 => 214 | 320 => 215 | 337 => 226 | 338 => 227 | n => n, fun | 9 => 9 | 3 => 3 | 75 => 148 | 76 => 149 | 4 => 4 | 5 => 5 | 167 => 207 | 37 => 116 | 0 => 0 | 85 => 208 | 2 => 2 | 168 => 210 | 53 => 195 | 175 => 235 | 46 => 167 | 210 => 239 | 127 => 249 | 145 => 252 | 143 => 250 | 21 => 21 | 171 => 203 | 173 => 205 | 212 => 233 | 51 => 193 | 20 => 20 | 213 => 234 | 232 => 257 | 233 => 258 | 80 => 265 | n => n, fun | 15 => 3 | 16 => 4 | 17 => 2 | 18 => 5 | 19 => 6 | n => n⟩
theorem laysAtoi : Go.Proofs.LaysC.n172 Tryz.prog laysAtoi_ren := {
  mixed := by kernel_rfl
  f129 := Tryz.func162.trans (congrArg some (by kernel_rfl))
  f171 := Tryz.func70.trans (congrArg some (by kernel_rfl))
  f172 := Tryz.func104.trans (congrArg some (by kernel_rfl))
  f205 := Tryz.func218.trans (congrArg some (by kernel_rfl))
  f243 := Tryz.func103.trans (congrArg some (by kernel_rfl))
  f244 := Tryz.func132.trans (congrArg some (by kernel_rfl))
  f245 := Tryz.func133.trans (congrArg some (by kernel_rfl))
  f246 := Tryz.func131.trans (congrArg some (by kernel_rfl))
  f247 := Tryz.func181.trans (congrArg some (by kernel_rfl))
  f279 := Tryz.func182.trans (congrArg some (by kernel_rfl))
  f280 := Tryz.func183.trans (congrArg some (by kernel_rfl))
  f281 := Tryz.func184.trans (congrArg some (by kernel_rfl))
  f282 := Tryz.func185.trans (congrArg some (by kernel_rfl))
  f283 := Tryz.func177.trans (congrArg some (by kernel_rfl))
  f284 := Tryz.func178.trans (congrArg some (by kernel_rfl))
  f285 := Tryz.func179.trans (congrArg some (by kernel_rfl))
  f286 := Tryz.func180.trans (congrArg some (by kernel_rfl))
  f287 := Tryz.func216.trans (congrArg some (by kernel_rfl))
  f316 := Tryz.func217.trans (congrArg some (by kernel_rfl))
  f317 := Tryz.func212.trans (congrArg some (by kernel_rfl))
  f318 := Tryz.func213.trans (congrArg some (by kernel_rfl))
  f319 := Tryz.func214.trans (congrArg some (by kernel_rfl))
  f320 := Tryz.func215.trans (congrArg some (by kernel_rfl))
  f321 := Tryz.func228.trans (congrArg some (by kernel_rfl))
  f322 := Tryz.func229.trans (congrArg some (by kernel_rfl))
  f337 := Tryz.func226.trans (congrArg some (by kernel_rfl))
  f338 := Tryz.func227.trans (congrArg some (by kernel_rfl))
  t0 := Tryz.underlying0
  a0 := Tryz.isAgg0
  z0 := Tryz.sizeOf0
  v0 := Tryz.zeroValue0
  t2 := Tryz.underlying2
  a2 := Tryz.isAgg2
  z2 := Tryz.sizeOf2
  v2 := Tryz.zeroValue2
  t3 := Tryz.underlying3
  a3 := Tryz.isAgg3
  z3 := Tryz.sizeOf3
  v3 := Tryz.zeroValue3
  t4 := Tryz.underlying4
  a4 := Tryz.isAgg4
  z4 := Tryz.sizeOf4
  v4 := Tryz.zeroValue4
  t5 := Tryz.underlying5
  a5 := Tryz.isAgg5
  z5 := Tryz.sizeOf5
  v5 := Tryz.zeroValue5
  t9 := Tryz.underlying9
  a9 := Tryz.isAgg9
  z9 := Tryz.sizeOf9
  v9 := Tryz.zeroValue9
  t20 := Tryz.underlying20
  a20 := Tryz.isAgg20
  z20 := Tryz.sizeOf20
  v20 := Tryz.zeroValue20
  t21 := Tryz.underlying21
  a21 := Tryz.isAgg21
  z21 := Tryz.sizeOf21
  v21 := Tryz.zeroValue21
  t37 := Tryz.underlying116
  a37 := Tryz.isAgg116
  z37 := Tryz.sizeOf116
  v37 := Tryz.zeroValue116
  t46 := Tryz.underlying167
  a46 := Tryz.isAgg167
  z46 := Tryz.sizeOf167
  v46 := Tryz.zeroValue167
  t51 := Tryz.underlying193
  a51 := Tryz.isAgg193
  z51 := Tryz.sizeOf193
  v51 := Tryz.zeroValue193
  t53 := Tryz.underlying195
  a53 := Tryz.isAgg195
  z53 := Tryz.sizeOf195
  v53 := Tryz.zeroValue195
  t75 := Tryz.underlying148
  a75 := Tryz.isAgg148
  z75 := Tryz.sizeOf148
  v75 := Tryz.zeroValue148
  t76 := Tryz.underlying149
  a76 := Tryz.isAgg149
  z76 := Tryz.sizeOf149
  v76 := Tryz.zeroValue149
  t85 := Tryz.underlying208
  a85 := Tryz.isAgg208
  z85 := Tryz.sizeOf208
  v85 := Tryz.zeroValue208
  t127 := Tryz.underlying249
  a127 := Tryz.isAgg249
  z127 := Tryz.sizeOf249
  v127 := Tryz.zeroValue249
  t143 := Tryz.underlying250
  a143 := Tryz.isAgg250
  z143 := Tryz.sizeOf250
  v143 := Tryz.zeroValue250
  t145 := Tryz.underlying252
  a145 := Tryz.isAgg252
  z145 := Tryz.sizeOf252
  v145 := Tryz.zeroValue252
  t167 := Tryz.underlying207
  a167 := Tryz.isAgg207
  z167 := Tryz.sizeOf207
  v167 := Tryz.zeroValue207
  t168 := Tryz.underlying210
  a168 := Tryz.isAgg210
  z168 := Tryz.sizeOf210
  v168 := Tryz.zeroValue210
  t171 := Tryz.underlying203
  a171 := Tryz.isAgg203
  z171 := Tryz.sizeOf203
  v171 := Tryz.zeroValue203
  t173 := Tryz.underlying205
  a173 := Tryz.isAgg205
  z173 := Tryz.sizeOf205
  v173 := Tryz.zeroValue205
  t175 := Tryz.underlying235
  a175 := Tryz.isAgg235
  z175 := Tryz.sizeOf235
  v175 := Tryz.zeroValue235
  t210 := Tryz.underlying239
  a210 := Tryz.isAgg239
  z210 := Tryz.sizeOf239
  v210 := Tryz.zeroValue239
  t212 := Tryz.underlying233
  a212 := Tryz.isAgg233
  z212 := Tryz.sizeOf233
  v212 := Tryz.zeroValue233
  t213 := Tryz.underlying234
  a213 := Tryz.isAgg234
  z213 := Tryz.sizeOf234
  t232 := Tryz.underlying257
  a232 := Tryz.isAgg257
  z232 := Tryz.sizeOf257
  v232 := Tryz.zeroValue257
  t233 := Tryz.underlying258
  a233 := Tryz.isAgg258
  z233 := Tryz.sizeOf258
  v233 := Tryz.zeroValue258
  g15 := by kernel_rfl
  g16 := by kernel_rfl
  g17 := by kernel_rfl
  g18 := by kernel_rfl
  g19 := by kernel_rfl
  t80 := Tryz.underlying265
  a80 := Tryz.isAgg265
  z80 := Tryz.sizeOf265
  v80 := Tryz.zeroValue265
  i0 := by kernel_rfl
  i2 := by kernel_rfl
  i3 := by kernel_rfl
  i4 := by kernel_rfl
  i5 := by kernel_rfl
  i9 := by kernel_rfl
  i20 := by kernel_rfl
  i21 := by kernel_rfl
  i37 := by kernel_rfl
  i46 := by kernel_rfl
  i51 := by kernel_rfl
  i53 := by kernel_rfl
  i75 := by kernel_rfl
  i76 := by kernel_rfl
  i80 := by kernel_rfl
  i85 := by kernel_rfl
  i127 := by kernel_rfl
  i143 := by kernel_rfl
  i145 := by kernel_rfl
  i167 := by kernel_rfl
  i168 := by kernel_rfl
  i171 := by kernel_rfl
  i173 := by kernel_rfl
  i175 := by kernel_rfl
  i210 := by kernel_rfl
  i212 := by kernel_rfl
  i232 := by kernel_rfl
  i233 := by kernel_rfl
  m15 := by kernel_rfl
  m16 := by kernel_rfl
  m17 := by kernel_rfl
  m18 := by kernel_rfl
  m19 := by kernel_rfl
  c0 := by kernel_rfl
  c2 := by kernel_rfl
  c3 := by kernel_rfl
  c4 := by kernel_rfl
  c5 := by kernel_rfl
  c9 := by kernel_rfl
  c20 := by kernel_rfl
  c21 := by kernel_rfl
  c37 := by kernel_rfl
  c46 := by kernel_rfl
  c51 := by kernel_rfl
  c53 := by kernel_rfl
  c75 := by kernel_rfl
  c76 := by kernel_rfl
  c80 := by kernel_rfl
  c85 := by kernel_rfl
  c127 := by kernel_rfl
  c143 := by kernel_rfl
  c145 := by kernel_rfl
  c167 := by kernel_rfl
  c168 := by kernel_rfl
  c171 := by kernel_rfl
  c173 := by kernel_rfl
  c175 := by kernel_rfl
  c210 := by kernel_rfl
  c212 := by kernel_rfl
  c213 := by kernel_rfl
  c232 := by kernel_rfl
  c233 := by kernel_rfl }
abbrev limCs : List AV := [.v (.int .i64 (-1099511627776)), .v (.int .i64 1099511627776)]
abbrev errCs : List AV := [.ifc 250 .any]
structure NumG (g : List (Nat × List AV)) : Prop where
  lim : (0, limCs) ∈ g
  pow : (2, powCs) ∈ g
  syn : (3, errCs) ∈ g
  rng : (4, errCs) ∈ g
variable {g : List (Nat × List AV)}
theorem Itoa_spec (hg : NumG g) (n : Int) (h : -9223372036854775808 ≤ n ∧ n ≤ 9223372036854775807) : PCalls Tryz.prog g 70 [vi n] (.v (.string (numT n))) :=
  itoa_P laysItoa (callable Tryz.func70 rfl (by kernel_rfl)) (by kernel_rfl) hg.pow n h
theorem Atoi_spec (hg : NumG g) (s : ByteArray) (h : s.size ≤ 281474976710656) : PCalls Tryz.prog g 104 [.v (.string s)] (atoiV 210 s) :=
  atoi_P laysAtoi (callable Tryz.func104 rfl (by kernel_rfl)) hg.syn hg.rng s h
theorem NText_spec (hg : NumG g) (n : Int) (h : -9223372036854775808 ≤ n ∧ n ≤ 9223372036854775807) : PCalls Tryz.prog g 37 [vi n] (.v (.string (numT n))) := by
  have h1 := Itoa_spec hg n h
  refine pcalls' Tryz.func37 Tryz.ntmps37 rfl rfl rfl ?_
  repeat' (first
   | refine stn [] ?_
   | ((with_reducible refine is_gd ?_); refine awpL_split rfl rfl (fun h => ?_) (fun h => ?_))
   | ((with_reducible refine is_awp ?_); refine awp_cond rfl (fun h => ?_) (fun h => ?_))
   | fail)
  exact retP rfl rfl
end Go.Proofs.YtnacjdaoiepbhaaGreatDoor
end
