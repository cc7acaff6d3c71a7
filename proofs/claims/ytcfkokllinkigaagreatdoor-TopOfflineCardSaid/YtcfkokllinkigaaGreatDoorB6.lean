/- A logic of trees over the model's steps, and the contracts of the functions that the laws reach: part 6 of 29. -/
import Derived.Test.YtcfkokllinkigaaGreatDoorB5
import Derived.Lib.TrimUEq
set_option linter.unusedVariables false
set_option linter.unusedSimpArgs false
set_option linter.unusedSectionVars false
set_option linter.unnecessarySimpa false
namespace Go.Proofs.YtcfkokllinkigaaGreatDoor
section
open Go.Ac
attribute [local irreducible] awp awpL Ev Ev2 EvS thenQ blockQ retQ PCalls OCalls YieldOk IterC
variable {g : List (Nat × List AV)}
theorem wX (b : Bool) : PCalls Tryz.prog g 120 [vb b] (vi (wanted b)) := by
 refine pcalls' Tryz.func120 Tryz.ntmps120 rfl rfl rfl ?_
 cases b with
 | false =>
  have n1 : (!false) = true := rfl
  refine runn [] ?_
  exact retP rfl rfl
 | true =>
  have n1 : (!true) = false := rfl
  refine runn [] ?_
  exact retP rfl rfl
theorem ZD (a b c : Int) : PCalls Tryz.prog g 90 [vi a, vi b, vi c] (vb (within a b c)) := by
 refine pcalls' Tryz.func90 Tryz.ntmps90 rfl rfl rfl ?_
 repeat' (first
  | refine stn [] ?_
  | ((with_reducible refine zr ?_); refine zf rfl rfl (fun h => ?_) (fun h => ?_))
  | fail)
 all_goals refine retP rfl ?_
 all_goals simp_all [ex, within]
 all_goals (intros; omega)
theorem ident_spec (a : Int) : PCalls Tryz.prog g 91 [vi a] (vb (within a 1 1099511627776)) := by
 refine pcalls' Tryz.func91 Tryz.ntmps91 rfl rfl rfl ?_
 repeat' (first
  | refine stn [] ?_
  | ((with_reducible refine zr ?_); refine zf rfl rfl (fun h => ?_) (fun h => ?_))
  | fail)
 all_goals refine retP rfl ?_
 all_goals simp_all [ex, within]
 all_goals (intros; omega)
abbrev spanC (s : Span) : List AV := [.v (.int .i64 s.fro), .v (.int .i64 s.til)]
theorem W7 (s : Span) : PCalls Tryz.prog g 142 [.agg (spanC s)] (vb (spanRight s)) := by
 refine pcalls' Tryz.func142 Tryz.ntmps142 rfl rfl rfl ?_
 repeat' (first
  | refine stn [] ?_
  | ((with_reducible refine zr ?_); refine zf rfl rfl (fun h => ?_) (fun h => ?_))
  | fail)
 all_goals refine retP rfl ?_
 all_goals simp_all [ex, spanRight]
 all_goals omega
theorem ZF (s : Span) : PCalls Tryz.prog g 105 [.agg (spanC s)] (vb (spanRight s)) := by
 refine pcalls' Tryz.func105 Tryz.ntmps105 rfl rfl rfl ?_
 repeat' (first
  | refine stn [] ?_
  | ((with_reducible refine zr ?_); refine zf rfl rfl (fun h => ?_) (fun h => ?_))
  | fail)
 all_goals refine retP rfl ?_
 all_goals simp_all [ex, spanRight]
 all_goals omega
set_option maxHeartbeats 400000 in
theorem yW (l : List Int) (hl : l.length ≤ 1000000) : PCalls Tryz.prog g 121 [encIs l] (vi (firstE l)) := by
 refine pcalls' Tryz.func121 Tryz.ntmps121 rfl rfl rfl ?_
 repeat' (first
  | refine stn [] ?_
  | ((with_reducible refine zl ?_); refine ze rfl (fun h => ?_) (fun h => ?_))
  | fail)
 refine zi (α := Nat) 0 (fun k => [(5, encIs l), (6, vi l.length), (7, vi k)]) (fun _ => []) (fun k => k ≤ l.length ∧ l.find? (fun x => decide (x ≠ 0)) = (l.drop k).find? (fun x => decide (x ≠ 0))) (fun k => l.length - k) 0
  qw ⟨Nat.zero_le _, rfl⟩ ?_
 rintro k ⟨hk, hf⟩
 cases ht : l[k]? with
 | none =>
  have hge : l.length ≤ k := by simpa using ht
  have c1 : decide ((k : Int) < l.length) = false := by simp; omega
  rw [List.drop_of_length_le hge] at hf
  refine runn [] ?_
  refine retP rfl ?_
  rw [firstE, hf]; rfl
 | some t =>
  have hlt : k < l.length := (List.getElem?_eq_some_iff.1 ht).1
  have c1 : decide ((k : Int) < l.length) = true := by simp; omega
  have h1 := qI ht
  have hd : l.drop k = t :: l.drop (k + 1) := by
   obtain ⟨_, rfl⟩ := List.getElem?_eq_some_iff.1 ht
   exact List.drop_eq_getElem_cons hlt
  rw [hd] at hf
  repeat' (first
   | refine stn [] ?_
   | ((with_reducible refine zl ?_); refine ze rfl (fun h => ?_) (fun h => ?_))
   | fail)
  ·refine retP rfl ?_
   rw [firstE, hf]
   have : t ≠ 0 := by simpa using h
   simp [this, ex]
  ·refine ⟨k + 1, qw, ⟨by omega, ?_⟩, by omega⟩
   rw [hf]
   have : t = 0 := by simpa using h
   simp [this]
theorem wr_spec (o : Op) (f : Int) : PCalls Tryz.prog g 126 [.agg (opC o), vi f] (vb (wrt o f)) := by
 refine pcalls' Tryz.func126 Tryz.ntmps126 rfl rfl rfl ?_
 repeat' (first
  | refine stn [] ?_
  | ((with_reducible refine zr ?_); refine zf rfl rfl (fun h => ?_) (fun h => ?_))
  | ((with_reducible refine zl ?_); refine ze rfl (fun h => ?_) (fun h => ?_))
  | fail)
 all_goals refine retP rfl ?_
 all_goals simp_all [ex, wrt, within]
 all_goals omega
theorem rwr_spec (o : Op) (f : Int) : PCalls Tryz.prog g 118 [.agg (opC o), vi f] (vb (wrt o f)) := by
 have h1 := ZD (g := g) f 0 2
 refine pcalls' Tryz.func118 Tryz.ntmps118 rfl rfl rfl ?_
 cases hw : within f 0 2 with
 | false =>
  rw [hw] at h1
  refine runn [] ?_
  all_goals refine retP rfl ?_
  all_goals clear h1
  all_goals simp_all [ex, wrt]
 | true =>
  rw [hw] at h1
  repeat' (first
   | refine stn [] ?_
   | ((with_reducible refine zr ?_); refine zf rfl rfl (fun h => ?_) (fun h => ?_))
   | fail)
  all_goals refine retP rfl ?_
  all_goals clear h1
  all_goals simp_all [ex, wrt]
theorem Wq (o : Op) (n f : Int) : PCalls Tryz.prog g 99 [.agg (opC o), vi n, vi f] (vb (writes o n f)) := by
 have h1 := wr_spec (g := g) o f
 refine pcalls' Tryz.func99 Tryz.ntmps99 rfl rfl rfl ?_
 repeat' (first
  | refine stn [] ?_
  | ((with_reducible refine zr ?_); refine zf rfl rfl (fun h => ?_) (fun h => ?_))
  | fail)
 all_goals refine retP rfl ?_
 all_goals clear h1
 all_goals simp_all [ex, writes]
theorem JK (o : Op) (n f : Int) : PCalls Tryz.prog g 95 [.agg (opC o), vi n, vi f] (vb (writes o n f)) := by
 have h1 := rwr_spec (g := g) o f
 refine pcalls' Tryz.func95 Tryz.ntmps95 rfl rfl rfl ?_
 repeat' (first
  | refine stn [] ?_
  | ((with_reducible refine zr ?_); refine zf rfl rfl (fun h => ?_) (fun h => ?_))
  | fail)
 all_goals refine retP rfl ?_
 all_goals clear h1
 all_goals simp_all [ex, writes]
end
section
open Go.Ac
attribute [local irreducible] awp awpL Ev Ev2 EvS thenQ blockQ retQ PCalls OCalls YieldOk IterC
variable {g : List (Nat × List AV)}
theorem overK_nil (a : Stamp) (p : Option Stamp) : overK a p [] = 0 := by cases p <;> rfl
theorem jO {a s : Stamp} {p : Option Stamp} {r : List Stamp} (h : right s = false ∨ less s a = false) : overK a p (s :: r) = 27 := by cases p <;> rw [overK, if_pos h]
theorem Wf {a s : Stamp} {r : List Stamp} (h1 : right s = true) (h2 : less s a = true) : overK a none (s :: r) = overK a (some s) r := by rw [overK, if_neg (by simp [h1, h2])]
theorem overK_ord {a s q : Stamp} {r : List Stamp} (h1 : right s = true) (h2 : less s a = true) (h3 : less q s = false) : overK a (some q) (s :: r) = 10 := by rw [overK, if_neg (by simp [h1, h2])]; simp [h3]
theorem yx {a s q : Stamp} {r : List Stamp} (h1 : right s = true) (h2 : less s a = true) (h3 : less q s = true) : overK a (some q) (s :: r) = overK a (some s) r := by rw [overK, if_neg (by simp [h1, h2])]; simp [h3]
abbrev prevS (l : List Stamp) (k : Nat) : Option Stamp := if k = 0 then none else l[k - 1]?
theorem QO {l : List Stamp} {k : Nat} {t : Stamp} (h : l[k]? = some t) : prevS l (k + 1) = some t := by simp [prevS, h]
theorem prevS_pos {l : List Stamp} {k : Nat} (h : k ≠ 0) : prevS l k = l[k - 1]? := by simp [prevS, h]
theorem yu {l : List Stamp} {k : Nat} (h : k = 0) : prevS l k = none := by simp [prevS, h]
set_option maxHeartbeats 1000000 in
theorem over_spec (o : Op) : PCalls Tryz.prog g 125 [.agg (opC o)] (vi (overE o)) := by
 refine pcalls' Tryz.func125 Tryz.ntmps125 rfl rfl rfl ?_
 by_cases h0 : o.over.length = 0
 ·have c0 : decide ((o.over.length : Int) = 0) = true := by simpa using h0
  refine runn [] ?_
  refine retP rfl ?_
  rw [overE, if_pos h0]; rfl
 have c0 : decide ((o.over.length : Int) = 0) = false := by simpa using h0
 by_cases h16 : 16 < o.over.length
 ·have c1 : decide ((16 : Int) < o.over.length) = true := by simp; omega
  refine runn [] ?_
  refine retP rfl ?_
  rw [overE, if_neg h0, if_pos h16]; rfl
 have c1 : decide ((16 : Int) < o.over.length) = false := by simp; omega
 have hE : overE o = overK o.at_ none o.over := by rw [overE, if_neg h0, if_neg h16]
 rw [hE]
 repeat' (first
  | refine stn [] ?_
  | ((with_reducible refine zl ?_); refine ze rfl (fun h => ?_) (fun h => ?_))
  | fail)
 refine zi (α := Nat) 0 (fun k => [(14, encStamps o.over), (15, vi o.over.length), (16, vi k), (1, .fp (opC o))]) (fun _ => []) (fun k => k ≤ o.over.length ∧ overK o.at_ none o.over = overK o.at_ (prevS o.over k) (o.over.drop k)) (fun k => o.over.length - k) 0
  qw ⟨Nat.zero_le _, rfl⟩ ?_
 rintro k ⟨hk, hf⟩
 cases ht : o.over[k]? with
 | none =>
  have hge : o.over.length ≤ k := by simpa using ht
  have c1 : decide ((k : Int) < o.over.length) = false := by simp; omega
  rw [List.drop_of_length_le hge, overK_nil] at hf
  refine runn [] ?_
  refine retP rfl ?_
  rw [hf]; rfl
 | some t =>
  have hlt : k < o.over.length := (List.getElem?_eq_some_iff.1 ht).1
  have c2 : decide ((k : Int) < o.over.length) = true := by simp; omega
  have h1 := Ze ht
  have hd : o.over.drop k = t :: o.over.drop (k + 1) := by
   obtain ⟨_, rfl⟩ := List.getElem?_eq_some_iff.1 ht
   exact List.drop_eq_getElem_cons hlt
  rw [hd] at hf
  have hR := ZY (g := g) t
  have hL := QH (g := g) t o.at_
  have n1 : (!true) = false := rfl
  have n2 : (!false) = true := rfl
  cases hr : right t with
  | false =>
   rw [hr] at hR
   rw [jO (.inl hr)] at hf
   refine runn [] ?_
   refine retP rfl ?_
   rw [hf]; rfl
  | true =>
   rw [hr] at hR
   cases hl : less t o.at_ with
   | false =>
    rw [hl] at hL
    rw [jO (.inr hl)] at hf
    refine runn [] ?_
    refine retP rfl ?_
    rw [hf]; rfl
   | true =>
    rw [hl] at hL
    by_cases hk0 : k = 0
    ·have c3 : decide ((0 : Int) < (k : Int)) = false := by simp; omega
     rw [yu hk0, Wf hr hl] at hf
     refine run [] ?_
     exact ⟨k + 1, qw, ⟨by omega, by rw [QO ht]; exact hf⟩, by omega⟩
    ·have c3 : decide ((0 : Int) < (k : Int)) = true := by simp; omega
     obtain ⟨q, hq⟩ : ∃ q, o.over[k - 1]? = some q := ⟨_, List.getElem?_eq_getElem (by omega)⟩
     rw [prevS_pos hk0, hq] at hf
     have h2 : 0 ≤ (k : Int) - 1 ∧ (o.over.map stampC)[((k : Int) - 1).toNat]? = some (stampC q) := ⟨by omega, by rw [show ((k : Int) - 1).toNat = k - 1 by omega]; simp [hq]⟩
     have hP := QH (g := g) q t
     cases hp : less q t with
     | false =>
      rw [hp] at hP
      rw [overK_ord hr hl hp] at hf
      refine run [] ?_
      refine retP rfl ?_
      rw [hf]; rfl
     | true =>
      rw [hp] at hP
      rw [yx hr hl hp] at hf
      refine run [] ?_
      exact ⟨k + 1, qw, ⟨by omega, by rw [QO ht]; exact hf⟩, by omega⟩
end
section
open Go.Ac
attribute [local irreducible] awp awpL Ev Ev2 EvS thenQ blockQ retQ PCalls OCalls YieldOk IterC
variable {g : List (Nat × List AV)}
def rOverE (o : Op) : Int := if o.kind = 0 then wanted (decide (o.over.length = 0)) else overE o
set_option maxHeartbeats 1000000 in
theorem rOver_spec (o : Op) : PCalls Tryz.prog g 94 [.agg (opC o)] (vi (rOverE o)) := by
 refine pcalls' Tryz.func94 Tryz.ntmps94 rfl rfl rfl ?_
 by_cases hk0 : o.kind = 0
 ·have d0 : decide (o.kind = 0) = true := by simpa using hk0
  by_cases h0 : o.over.length = 0
  ·have c0 : decide ((0 : Int) < o.over.length) = false := decide_eq_false (by omega)
   refine runn [] ?_
   refine retP rfl ?_
   rw [rOverE, if_pos hk0, decide_eq_true h0]; rfl
  ·have c0 : decide ((0 : Int) < o.over.length) = true := decide_eq_true (by omega)
   refine runn [] ?_
   refine retP rfl ?_
   rw [rOverE, if_pos hk0, decide_eq_false h0]; rfl
 have d0 : decide (o.kind = 0) = false := by simpa using hk0
 have hE0 : rOverE o = overE o := by rw [rOverE, if_neg hk0]
 rw [hE0]
 by_cases h0 : o.over.length = 0
 ·have c0 : decide ((o.over.length : Int) = 0) = true := by simpa using h0
  refine runn [] ?_
  refine retP rfl ?_
  rw [overE, if_pos h0]; rfl
 have c0 : decide ((o.over.length : Int) = 0) = false := by simpa using h0
 by_cases h16 : 16 < o.over.length
 ·have c1 : decide ((16 : Int) < o.over.length) = true := by simp; omega
  refine runn [] ?_
  refine retP rfl ?_
  rw [overE, if_neg h0, if_pos h16]; rfl
 have c1 : decide ((16 : Int) < o.over.length) = false := by simp; omega
 have hE : overE o = overK o.at_ none o.over := by rw [overE, if_neg h0, if_neg h16]
 rw [hE]
 repeat' (first
  | refine stn [] ?_
  | ((with_reducible refine zl ?_); refine ze rfl (fun h => ?_) (fun h => ?_))
  | fail)
 refine zi (α := Nat) 0 (fun k => [(21, vi o.over.length), (22, vi k), (1, .fp (opC o))]) (fun _ => []) (fun k => k ≤ o.over.length ∧ overK o.at_ none o.over = overK o.at_ (prevS o.over k) (o.over.drop k)) (fun k => o.over.length - k) 0
  qw ⟨Nat.zero_le _, rfl⟩ ?_
 rintro k ⟨hk, hf⟩
 cases ht : o.over[k]? with
 | none =>
  have hge : o.over.length ≤ k := by simpa using ht
  have c1 : decide ((k : Int) < o.over.length) = false := by simp; omega
  rw [List.drop_of_length_le hge, overK_nil] at hf
  refine runn [] ?_
  refine retP rfl ?_
  rw [hf]; rfl
 | some t =>
  have hlt : k < o.over.length := (List.getElem?_eq_some_iff.1 ht).1
  have c2 : decide ((k : Int) < o.over.length) = true := by simp; omega
  have h1 := Ze ht
  have hd : o.over.drop k = t :: o.over.drop (k + 1) := by
   obtain ⟨_, rfl⟩ := List.getElem?_eq_some_iff.1 ht
   exact List.drop_eq_getElem_cons hlt
  rw [hd] at hf
  have hR := Qg (g := g) t
  have hL := qT (g := g) t o.at_
  have n1 : (!true) = false := rfl
  have n2 : (!false) = true := rfl
  cases hr : right t with
  | false =>
   rw [hr] at hR
   rw [jO (.inl hr)] at hf
   refine run [] ?_
   refine retP rfl ?_
   rw [hf]; rfl
  | true =>
   rw [hr] at hR
   cases hl : less t o.at_ with
   | false =>
    rw [hl] at hL
    rw [jO (.inr hl)] at hf
    refine run [] ?_
    refine retP rfl ?_
    rw [hf]; rfl
   | true =>
    rw [hl] at hL
    by_cases hk0 : k = 0
    ·have c3 : decide ((0 : Int) < (k : Int)) = false := by simp; omega
     rw [yu hk0, Wf hr hl] at hf
     refine run [] ?_
     exact ⟨k + 1, qw, ⟨by omega, by rw [QO ht]; exact hf⟩, by omega⟩
    ·have c3 : decide ((0 : Int) < (k : Int)) = true := by simp; omega
     obtain ⟨q, hq⟩ : ∃ q, o.over[k - 1]? = some q := ⟨_, List.getElem?_eq_getElem (by omega)⟩
     rw [prevS_pos hk0, hq] at hf
     have h2 : 0 ≤ (k : Int) - 1 ∧ (o.over.map stampC)[((k : Int) - 1).toNat]? = some (stampC q) := ⟨by omega, by rw [show ((k : Int) - 1).toNat = k - 1 by omega]; simp [hq]⟩
     have hP := qT (g := g) q t
     cases hp : less q t with
     | false =>
      rw [hp] at hP
      rw [overK_ord hr hl hp] at hf
      refine run [] ?_
      refine retP rfl ?_
      rw [hf]; rfl
     | true =>
      rw [hp] at hP
      rw [yx hr hl hp] at hf
      refine run [] ?_
      exact ⟨k + 1, qw, ⟨by omega, by rw [QO ht]; exact hf⟩, by omega⟩
end
section
open Go.Ac
attribute [local irreducible] awp awpL Ev Ev2 EvS thenQ blockQ retQ PCalls OCalls YieldOk IterC
variable {g : List (Nat × List AV)}
def rSetE (o : Op) : Int := if o.kind = 1 then setE o else plainE o
set_option maxHeartbeats 1000000 in
theorem set_spec (hT : ∀ s, PCalls Tryz.prog g 143 [vs s] (vi (textE s))) (o : Op) : PCalls Tryz.prog g 123 [.agg (opC o)] (vi (setE o)) := by
 have h1 := hT o.text
 refine pcalls' Tryz.func123 Tryz.ntmps123 rfl rfl rfl ?_
 repeat' (first
  | refine stn [] ?_
  | ((with_reducible refine zr ?_); refine zf rfl rfl (fun h => ?_) (fun h => ?_))
  | ((with_reducible refine zl ?_); refine ze rfl (fun h => ?_) (fun h => ?_))
  | fail)
 all_goals refine retP rfl ?_
 all_goals clear h1 hT
 all_goals simp_all [ex, setE, within, emptyB]
 all_goals first | omega | (intros; omega) | (rw [if_pos (by omega)])
set_option maxHeartbeats 2000000 in
theorem rSet_spec (hT : ∀ s, PCalls Tryz.prog g 73 [vs s] (vi (textE s))) (o : Op) : PCalls Tryz.prog g 93 [.agg (opC o)] (vi (rSetE o)) := by
 have h1 := hT o.text
 have h2 := ZD (g := g) o.set 0 2
 have h3 := ZD (g := g) o.n 0 86400000
 refine pcalls' Tryz.func93 Tryz.ntmps93 rfl rfl rfl ?_
 repeat' (first
  | refine stn [] ?_
  | ((with_reducible refine zr ?_); refine zf rfl rfl (fun h => ?_) (fun h => ?_))
  | ((with_reducible refine zl ?_); refine ze rfl (fun h => ?_) (fun h => ?_))
  | fail)
 all_goals refine retP rfl ?_
 all_goals clear h1 hT h2 h3
 all_goals simp_all [ex, rSetE, setE, within, plainE, wanted, emptyB]
 all_goals first | omega | (intros; omega) | (rw [if_pos (by omega)])
def spanEq : List Value → List Value → Option Bool
 | [.int .i64 a, .int .i64 b], [.int .i64 a', .int .i64 b'] => some (a == a' && b == b')
 | _, _ => none
theorem Qu : EqT Tryz.prog 54 spanEq := by
 intro xs ys b w h
 unfold spanEq at h
 split at h
 ·rename_i a b a' b'
  have h := Option.some.inj h
  subst h
  have u3 := Tryz.underlying3
  have a3 := Tryz.isAgg3
  have z3 := Tryz.sizeOf3
  have hS : Tryz.prog.underlying 54 = some (.struct (Tryz.prog.fieldsOf 54)) := by kernel_rfl
  rw [show (10000 : Nat) = 9999 + 1 from rfl, run_equalIn_agg w 9999 _ _ _ hS (by kernel_rfl)]
  simp only [Program.fieldsOf, Tryz.underlying54]
  go_simp
  by_cases h1 : a = a' <;> by_cases h2 : b = b' <;> simp [h1, h2]
 ·cases h
theorem note_ext_bare (n : Note) : n = bareNote n.id ↔ n.tier = 0 ∧ n.parent = 0 ∧ n.span.fro = 0 ∧ n.span.til = 0 ∧ n.rank = 0 ∧ n.text = .empty := by
 rcases n with ⟨a, b, c, ⟨d, e⟩, f, s⟩
 simp [bareNote, and_assoc]
theorem span_zero (s : Span) : s = ⟨0, 0⟩ ↔ s.fro = 0 ∧ s.til = 0 := by
 rcases s with ⟨a, b⟩; simp
theorem textEmpty (s : ByteArray) : (s.toList == ByteArray.empty.toList) = decide (s = .empty) := j9 s .empty
theorem bare_eq (n : Note) : (n.id == n.id && (n.tier == 0 && (n.parent == 0 && ((n.span.fro == 0 && n.span.til == 0) && (n.rank == 0 && n.text.toList == ByteArray.empty.toList))))) = decide (n = bareNote n.id) := by
 rw [textEmpty, Bool.eq_iff_iff]
 simp only [Bool.and_eq_true, beq_iff_eq, decide_eq_true_eq, note_ext_bare]
 constructor
 ·rintro ⟨_, a, b, ⟨c, d⟩, e, f⟩; exact ⟨a, b, c, d, e, f⟩
 ·rintro ⟨a, b, c, d, e, f⟩; exact ⟨trivial, a, b, ⟨c, d⟩, e, f⟩
set_option maxHeartbeats 2000000 in
theorem named_spec (o : Op) (hid : -9223372036854775808 ≤ o.note.id ∧ o.note.id ≤ 9223372036854775807) : PCalls Tryz.prog g 124 [.agg (opC o)] (vi (namedE o)) := by
 have h1 := Of_spec (g := g) o.note.id hid
 have h2 := QH (g := g) (stampOf o.note.id) o.at_
 have hb := bare_eq o.note
 refine pcalls' Tryz.func124 Tryz.ntmps124 rfl rfl rfl ?_
 have n1 : (!true) = false := rfl
 have n2 : (!false) = true := rfl
 cases hr : right (stampOf o.note.id) with
 | false =>
  rw [ofR, hr] at h1
  refine runn [] ?_
  refine retP rfl ?_
  simp [ex, namedE, hr]
 | true =>
  rw [ofR, hr, if_pos rfl] at h1
  cases hl : less (stampOf o.note.id) o.at_ with
  | false =>
   rw [hl] at h2
   refine runn [] ?_
   refine retP rfl ?_
   simp [ex, namedE, hl]
  | true =>
   rw [hl] at h2
   cases hq : decide (o.note = bareNote o.note.id) with
   | false =>
    rw [hq] at hb
    repeat' (first
     | ((with_reducible refine zg ?_); refine zb (Zc (b := false) ZS (by kernel_rfl) rfl rfl rfl rfl (by rw [← hb]; rfl)) rfl ?_)
     | refine stn [] ?_
     | fail)
    refine retP rfl ?_
    have : o.note ≠ bareNote o.note.id := of_decide_eq_false hq
    simp [ex, namedE, this]
   | true =>
    rw [hq] at hb
    repeat' (first
     | ((with_reducible refine zg ?_); refine zb (Zc (b := true) ZS (by kernel_rfl) rfl rfl rfl rfl (by rw [← hb]; rfl)) rfl ?_)
     | refine stn [] ?_
     | fail)
    refine retP rfl ?_
    have : o.note = bareNote o.note.id := of_decide_eq_true hq
    rw [namedE, if_neg (by rw [hr, hl]; rintro (h | h | h) <;> first | cases h | exact h this)]
    rfl
end
section
open Go.Ac
attribute [local irreducible] awp awpL Ev Ev2 EvS thenQ blockQ retQ PCalls OCalls YieldOk IterC
variable {g : List (Nat × List AV)}
theorem W6 (s : Span) : (s.fro == 0 && s.til == 0) = decide (s = ⟨0, 0⟩) := by
 rw [Bool.eq_iff_iff]; simp [span_zero]
set_option maxHeartbeats 2000000 in
theorem added_spec (hT : ∀ s, PCalls Tryz.prog g 143 [vs s] (vi (textE s))) (o : Op) : PCalls Tryz.prog g 122 [.agg (opC o)] (vi (addedE o)) := by
 have h1 := hT o.note.text
 have h2 := Id_spec (g := g) o.at_
 have h3 := W7 (g := g) o.note.span
 have hs := W6 o.note.span
 refine pcalls' Tryz.func122 Tryz.ntmps122 rfl rfl rfl ?_
 by_cases hi : o.note.id = idOf o.at_
 ·have c0 : (!decide (o.note.id = idOf o.at_)) = false := by simp [hi]
  have n1 : (!true) = false := rfl
  have n2 : (!false) = true := rfl
  cases hz : decide (o.note.span = ⟨0, 0⟩) with
  | true =>
   rw [hz] at hs
   repeat' (first
    | ((with_reducible refine zg ?_); refine zb (Zc (b := true) Qu (by kernel_rfl) rfl rfl rfl rfl (by rw [← hs]; rfl)) rfl ?_)
    | refine st [] ?_
    | ((with_reducible refine zr ?_); refine zf rfl rfl (fun h => ?_) (fun h => ?_))
    | ((with_reducible refine zl ?_); refine ze rfl (fun h => ?_) (fun h => ?_))
    | fail)
   all_goals refine retP rfl ?_
   all_goals clear h1 hT h2 h3 hs
   all_goals simp_all [ex, addedE, noteOk, within]
   all_goals first | omega | (intros; omega) | (rw [if_neg (by omega)])
  | false =>
   rw [hz] at hs
   repeat' (first
    | ((with_reducible refine zg ?_); refine zb (Zc (b := false) Qu (by kernel_rfl) rfl rfl rfl rfl (by rw [← hs]; rfl)) rfl ?_)
    | refine st [] ?_
    | ((with_reducible refine zr ?_); refine zf rfl rfl (fun h => ?_) (fun h => ?_))
    | ((with_reducible refine zl ?_); refine ze rfl (fun h => ?_) (fun h => ?_))
    | fail)
   all_goals refine retP rfl ?_
   all_goals clear h1 hT h2 h3 hs
   all_goals simp_all [ex, addedE, noteOk, within]
   all_goals first | omega | (intros; omega) | (rw [if_neg (by omega)])
 ·have c0 : (!decide (o.note.id = idOf o.at_)) = true := by simp [hi]
  refine run [] ?_
  refine retP rfl ?_
  simp [ex, addedE, hi]
end
section
open Go.Ac
attribute [local irreducible] awp awpL Ev Ev2 EvS thenQ blockQ retQ PCalls OCalls YieldOk IterC
variable {g : List (Nat × List AV)}
def rNoteE (o : Op) : Int := if o.kind = 0 then addedE o else namedE o
set_option maxRecDepth 8000 in
set_option maxHeartbeats 4000000 in
theorem rNote_spec (hT : ∀ s, PCalls Tryz.prog g 73 [vs s] (vi (textE s))) (o : Op) (hid : -9223372036854775808 ≤ o.note.id ∧ o.note.id ≤ 9223372036854775807) : PCalls Tryz.prog g 92 [.agg (opC o)] (vi (rNoteE o)) := by
 refine pcalls' Tryz.func92 Tryz.ntmps92 rfl rfl rfl ?_
 have n1 : (!true) = false := rfl
 have n2 : (!false) = true := rfl
 by_cases hk : o.kind = 0
 ·have d0 : (!decide (o.kind = 0)) = false := by simp [hk]
  have hE : rNoteE o = addedE o := by rw [rNoteE, if_pos hk]
  rw [hE]
  have h1 := hT o.note.text
  have h2 := rId_spec (g := g) o.at_
  have h3 := ZF (g := g) o.note.span
  have w1 := ZD (g := g) o.note.tier 0 11
  have w2 := ZD (g := g) o.note.parent 0 1099511627776
  have w3 := ZD (g := g) o.note.rank 0 300
  have hs := W6 o.note.span
  by_cases hi : o.note.id = idOf o.at_
  ·have c0 : (!decide (o.note.id = idOf o.at_)) = false := by simp [hi]
   cases hz : decide (o.note.span = ⟨0, 0⟩) with
   | true =>
    rw [hz] at hs
    repeat' (first
     | ((with_reducible refine zg ?_); refine zb (Zc (b := true) Qu (by kernel_rfl) rfl rfl rfl rfl (by rw [← hs]; rfl)) rfl ?_)
     | refine st [] ?_
     | ((with_reducible refine zr ?_); refine zf rfl rfl (fun h => ?_) (fun h => ?_))
     | ((with_reducible refine zl ?_); refine ze rfl (fun h => ?_) (fun h => ?_))
     | fail)
    all_goals refine retP rfl ?_
    all_goals clear h1 hT h2 h3 hs w1 w2 w3
    all_goals simp_all [ex, addedE, noteOk]
   | false =>
    rw [hz] at hs
    repeat' (first
     | ((with_reducible refine zg ?_); refine zb (Zc (b := false) Qu (by kernel_rfl) rfl rfl rfl rfl (by rw [← hs]; rfl)) rfl ?_)
     | refine st [] ?_
     | ((with_reducible refine zr ?_); refine zf rfl rfl (fun h => ?_) (fun h => ?_))
     | ((with_reducible refine zl ?_); refine ze rfl (fun h => ?_) (fun h => ?_))
     | fail)
    all_goals refine retP rfl ?_
    all_goals clear h1 hT h2 h3 hs w1 w2 w3
    all_goals simp_all [ex, addedE, noteOk]
  ·have c0 : (!decide (o.note.id = idOf o.at_)) = true := by simp [hi]
   refine run [] ?_
   refine retP rfl ?_
   simp [ex, addedE, hi]
 ·have d0 : (!decide (o.kind = 0)) = true := by simp [hk]
  have hE : rNoteE o = namedE o := by rw [rNoteE, if_neg hk]
  rw [hE]
  have h1 := rOf_spec (g := g) o.note.id hid
  have h2 := qT (g := g) (stampOf o.note.id) o.at_
  have hb := bare_eq o.note
  cases hr : right (stampOf o.note.id) with
  | false =>
   rw [ofR, hr] at h1
   refine runn [] ?_
   refine retP rfl ?_
   simp [ex, namedE, hr]
  | true =>
   rw [ofR, hr, if_pos rfl] at h1
   cases hl : less (stampOf o.note.id) o.at_ with
   | false =>
    rw [hl] at h2
    refine runn [] ?_
    refine retP rfl ?_
    simp [ex, namedE, hl]
   | true =>
    rw [hl] at h2
    cases hq : decide (o.note = bareNote o.note.id) with
    | false =>
     rw [hq] at hb
     repeat' (first
      | ((with_reducible refine zg ?_); refine zb (Zc (b := false) ZS (by kernel_rfl) rfl rfl rfl rfl (by rw [← hb]; rfl)) rfl ?_)
      | refine stn [] ?_
      | fail)
     refine retP rfl ?_
     have : o.note ≠ bareNote o.note.id := of_decide_eq_false hq
     simp [ex, namedE, this]
    | true =>
     rw [hq] at hb
     repeat' (first
      | ((with_reducible refine zg ?_); refine zb (Zc (b := true) ZS (by kernel_rfl) rfl rfl rfl rfl (by rw [← hb]; rfl)) rfl ?_)
      | refine stn [] ?_
      | fail)
     refine retP rfl ?_
     have : o.note = bareNote o.note.id := of_decide_eq_true hq
     rw [namedE, if_neg (by rw [hr, hl]; rintro (h | h | h) <;> first | cases h | exact h this)]
     rfl
def I64 (n : Int) : Prop := -9223372036854775808 ≤ n ∧ n ≤ 9223372036854775807
theorem firstE3 (a b c : Int) : firstE [a, b, c] = if a ≠ 0 then a else if b ≠ 0 then b else c := by
 unfold firstE
 by_cases h1 : a = 0 <;> by_cases h2 : b = 0 <;> by_cases h3 : c = 0 <;> simp [h1, h2, h3]
theorem opE_eq (o : Op) : opE o = if right o.at_ = false then 27 else if within o.kind 0 2 = false then 14 else if within o.rec_ 1 1099511627776 = false then 2
  else if rNoteE o ≠ 0 then rNoteE o else if rSetE o ≠ 0 then rSetE o else rOverE o := by
 unfold opE
 simp only [firstE3, rNoteE, rSetE, rOverE]
 by_cases hr : right o.at_ = false
 ·simp [hr]
 simp only [if_neg hr]
 by_cases h0 : o.kind = 0
 ·simp [h0, within]
 by_cases h1 : o.kind = 1
 ·simp [h1, within]
 by_cases h2 : o.kind = 2
 ·simp [h2, within]
 have : within o.kind 0 2 = false := by simp [within]; omega
 simp [h0, h1, h2, this]
set_option maxRecDepth 8000 in
set_option maxHeartbeats 4000000 in
theorem rOpCheck_spec (hT : ∀ s, PCalls Tryz.prog g 73 [vs s] (vi (textE s))) (o : Op) (hid : I64 o.note.id) : PCalls Tryz.prog g 57 [.agg (opC o)] (vi (opE o)) := by
 have h1 := Qg (g := g) o.at_
 have h2 := ZD (g := g) o.kind 0 2
 have h3 := ident_spec (g := g) o.rec_
 have h4 := rNote_spec (g := g) hT o hid
 have h5 := rSet_spec (g := g) hT o
 have h6 := rOver_spec (g := g) o
 rw [opE_eq]
 refine pcalls' Tryz.func57 Tryz.ntmps57 rfl rfl rfl ?_
 repeat' (first
  | refine stn [] ?_
  | ((with_reducible refine zl ?_); refine ze rfl (fun h => ?_) (fun h => ?_))
  | fail)
 all_goals refine retP rfl ?_
 all_goals clear h1 h2 h3 h4 h5 h6 hT hid
 all_goals simp_all [ex]
end
section
open Go.Ac
attribute [local irreducible] awp awpL Ev Ev2 EvS thenQ blockQ retQ PCalls OCalls YieldOk IterC
variable {g : List (Nat × List AV)}
theorem first3_spec (a b c : Int) : PCalls Tryz.prog g 121 [.fs 1 3 [[vi a], [vi b], [vi c]]] (vi (firstE [a, b, c])) := yW [a, b, c] (by simp)
set_option maxRecDepth 8000 in
set_option maxHeartbeats 4000000 in
theorem OpCheck_spec (hT : ∀ s, PCalls Tryz.prog g 143 [vs s] (vi (textE s))) (o : Op) (hid : I64 o.note.id) : PCalls Tryz.prog g 98 [.agg (opC o)] (vi (opE o)) := by
 have h1 := ZY (g := g) o.at_
 have h2 := added_spec (g := g) hT o
 have h3 := named_spec (g := g) o hid
 have h4 := set_spec (g := g) hT o
 have h5 := over_spec (g := g) o
 have n1 : (!true) = false := rfl
 have n2 : (!false) = true := rfl
 refine pcalls' Tryz.func98 Tryz.ntmps98 rfl rfl rfl ?_
 repeat' (first
  | ((with_reducible refine zg ?_); refine qn rfl rfl (wX _) rfl ?_)
  | ((with_reducible refine zu ?_); (first | refine zc (Qn rfl rfl (wX _) rfl) qb0 ?_ | refine zc (Qn rfl rfl (first3_spec _ _ _) rfl) qb0 ?_))
  | refine st [] ?_
  | ((with_reducible refine zr ?_); refine zf rfl rfl (fun h => ?_) (fun h => ?_))
  | ((with_reducible refine zl ?_); refine ze rfl (fun h => ?_) (fun h => ?_))
  | fail)
 all_goals refine retP rfl ?_
 all_goals clear h1 h2 h3 h4 h5 hT hid
 all_goals simp only [decide_eq_true_eq, decide_eq_false_iff_not, Bool.not_eq_eq_eq_not, Bool.not_true, Bool.not_false] at *
 all_goals simp only [ex, opE, plainE, within, emptyB, firstE3]
 all_goals simp_all [wanted]
 all_goals first | omega | (intros; omega)
end
section
def encN (p : Nat) : List Nat :=
 if p < 128 then [p] else if p < 2048 then [192 + p / 64, 128 + p % 64] else if p < 65536 then [224 + p / 4096, 128 + p / 64 % 64, 128 + p % 64]
 else [240 + p / 262144, 128 + p / 4096 % 64, 128 + p / 64 % 64, 128 + p % 64]
def encS (p : Nat) : ByteArray := ⟨((encN p).map UInt8.ofNat).toArray⟩
def scal (p : Nat) : Bool := decide (p ≤ 1114111) && (decide (p < 55296) || decide (57343 < p))
def wid (b : Nat) : Nat := if 240 ≤ b then 4 else if 224 ≤ b then 3 else if 192 ≤ b then 2 else 1
def base (b : Nat) : Nat := if 240 ≤ b then b - 240 else if 224 ≤ b then b - 224 else if 192 ≤ b then b - 192 else b
abbrev byt (s : ByteArray) (i : Nat) : Nat := (s.get! i).toNat
def pv (s : ByteArray) (i : Nat) : Nat → Nat
 | 0 => base (byt s i)
 | k + 1 => pv s i k * 64 + byt s (i + (k + 1)) % 64
def rfirst (s : ByteArray) (i : Nat) : Option (Nat × Nat) :=
 if s.size < i + wid (byt s i) then none
 else if scal (pv s i (wid (byt s i) - 1)) = true ∧ encS (pv s i (wid (byt s i) - 1)) = s.extract i (i + wid (byt s i)) then some (pv s i (wid (byt s i) - 1), wid (byt s i)) else none
theorem Zd (s : ByteArray) (i : Nat) : byt s i < 256 := (s.get! i).toNat_lt
theorem yT (s : ByteArray) (i : Nat) (h : i < s.size) : s.data.toList[i]? = some (s.get! i) := by
 have : s.get! i = s.data[i]! := rfl
 rw [this, Array.getElem?_toList]
 have h' : i < s.data.size := h
 rw [getElem!_pos s.data i h', Array.getElem?_eq_getElem h']
theorem ba_ext {a b : ByteArray} (h : a.data.toList = b.data.toList) : a = b := by
 cases a; cases b; congr 1; exact Array.ext' h
theorem extract_list (s : ByteArray) (i n : Nat) (h : i + n ≤ s.size) : (s.extract i (i + n)).data.toList = (List.range n).map fun k => s.get! (i + k) := by
 rw [ByteArray.data_extract, Array.toList_extract]
 apply List.ext_getElem?
 intro k
 rw [List.extract_eq_take_drop, List.getElem?_take, List.getElem?_drop]
 by_cases hk : k < n
 ·rw [if_pos (by omega), yT s (i + k) (by omega)]
  simp [hk]
 ·rw [if_neg (by omega)]
  simp [hk]
theorem enc_cmp (p : Nat) (g : List UInt8) : (encN p).map UInt8.ofNat = g ↔ (encN p).map (· % 256) = g.map UInt8.toNat := by
 constructor
 ·rintro rfl
  simp [List.map_map, Function.comp_def]
 ·intro h
  have := congrArg (List.map UInt8.ofNat) h
  have hm : ∀ x, UInt8.ofNat (x % 256) = UInt8.ofNat x := fun x => UInt8.toNat_inj.1 (by simp)
  simpa [List.map_map, Function.comp_def, UInt8.ofNat_toNat, hm] using this
theorem encS_cmp (s : ByteArray) (i n p : Nat) (h : i + n ≤ s.size) : encS p = s.extract i (i + n) ↔ (encN p).map (· % 256) = (List.range n).map fun k => byt s (i + k) := by
 have h2 := enc_cmp p ((List.range n).map fun k => s.get! (i + k))
 rw [List.map_map] at h2
 refine Iff.trans ?_ h2
 rw [← extract_list s i n h]
 constructor
 ·intro e; rw [← e]; rfl
 ·intro e; refine ba_ext ?_; rw [← e]; rfl
theorem cls1 (m b0 b1 b2 b3 : Nat) (h0 : b0 < 192) :
  ((scal b0 = true ∧ (encN b0).map (· % 256) = [b0]) → Go.Lib.decodeN m b0 b1 b2 b3 = (b0, 1) ∧ b0 < 128) ∧ (¬ (scal b0 = true ∧ (encN b0).map (· % 256) = [b0]) → Go.Lib.decodeN m b0 b1 b2 b3 = (65533, 1)) := by
 by_cases h : b0 < 128
 ·have hs : scal b0 = true := by simp [scal]; omega
  have he : (encN b0).map (· % 256) = [b0] := by simp [encN, h]; omega
  exact ⟨fun _ => ⟨by simp [Go.Lib.decodeN, h], h⟩, fun g => absurd ⟨hs, he⟩ g⟩
 ·have he : (encN b0).map (· % 256) ≠ [b0] := by
   unfold encN
   rw [if_neg h, if_pos (by omega)]
   simp
  refine ⟨fun g => absurd g.2 he, fun _ => ?_⟩
  unfold Go.Lib.decodeN
  rw [if_neg h, if_neg (by omega), if_neg (by omega), if_neg (by omega)]
theorem cls2 (m b0 b1 b2 b3 p : Nat) (h0 : 192 ≤ b0) (h0' : b0 < 224) (h1 : b1 < 256) (hp : p = (b0 - 192) * 64 + b1 % 64) :
  ((2 ≤ m ∧ scal p = true ∧ (encN p).map (· % 256) = [b0, b1]) → Go.Lib.decodeN m b0 b1 b2 b3 = (p, 2)) ∧ (¬ (2 ≤ m ∧ scal p = true ∧ (encN p).map (· % 256) = [b0, b1]) → Go.Lib.decodeN m b0 b1 b2 b3 = (65533, 1)) := by
 have hs : scal p = true := by simp [scal]; omega
 by_cases h : p < 128
 ·have he : (encN p).map (· % 256) ≠ [b0, b1] := by
   unfold encN; rw [if_pos h]; simp
  refine ⟨fun g => absurd g.2.2 he, fun _ => ?_⟩
  unfold Go.Lib.decodeN
  rw [if_neg (by omega)]
  split
  ·rw [if_neg (by omega)]
  ·rw [if_neg (by omega), if_neg (by omega)]
 ·have he : (encN p).map (· % 256) = [b0, b1] ↔ b1 / 64 = 2 := by
   unfold encN
   rw [if_neg h, if_pos (by omega)]
   simp only [List.map_cons, List.map_nil, List.cons.injEq, and_true]
   omega
  rw [he]
  unfold Go.Lib.decodeN
  refine ⟨fun g => ?_, fun g => ?_⟩
  ·rw [if_neg (by omega), if_pos (by omega), if_pos (by omega)]
   apply Prod.ext <;> simp only <;> omega
  ·rw [if_neg (by omega), if_neg (fun q => g ⟨by omega, hs, q.2.2⟩), if_neg (by omega), if_neg (by omega)]
theorem cls3 (m b0 b1 b2 b3 p : Nat) (h0 : 224 ≤ b0) (h0' : b0 < 240) (h1 : b1 < 256) (h2 : b2 < 256) (hp : p = ((b0 - 224) * 64 + b1 % 64) * 64 + b2 % 64) :
  ((3 ≤ m ∧ scal p = true ∧ (encN p).map (· % 256) = [b0, b1, b2]) → Go.Lib.decodeN m b0 b1 b2 b3 = (p, 3)) ∧ (¬ (3 ≤ m ∧ scal p = true ∧ (encN p).map (· % 256) = [b0, b1, b2]) → Go.Lib.decodeN m b0 b1 b2 b3 = (65533, 1)) := by
 by_cases h : p < 2048
 ·have he : (encN p).map (· % 256) ≠ [b0, b1, b2] := by
   unfold encN
   split
   ·simp
   ·simp
  refine ⟨fun g => absurd g.2.2 he, fun _ => ?_⟩
  unfold Go.Lib.decodeN
  rw [if_neg (by omega), if_neg (by omega)]
  split
  ·rw [if_neg (by omega)]
  ·rw [if_neg (by omega)]
 ·have he : (encN p).map (· % 256) = [b0, b1, b2] ↔ b1 / 64 = 2 ∧ b2 / 64 = 2 := by
   unfold encN
   rw [if_neg (by omega), if_neg h, if_pos (by omega)]
   simp only [List.map_cons, List.map_nil, List.cons.injEq, and_true]
   omega
  have hs : scal p = true ↔ p < 55296 ∨ 57343 < p := by simp [scal]; omega
  rw [he, hs]
  unfold Go.Lib.decodeN
  refine ⟨fun g => ?_, fun g => ?_⟩
  ·rw [if_neg (by omega), if_neg (by omega), if_pos (by omega), if_pos (by omega)]
   apply Prod.ext <;> simp only <;> omega
  ·rw [if_neg (by omega), if_neg (by omega)]
   split
   ·rename_i q
    rw [if_neg (fun q2 => g ⟨by omega, by omega, q.2.1.2, q.2.2.2⟩)]
   ·rw [if_neg (by omega)]
set_option maxHeartbeats 1000000 in
theorem cls4 (m b0 b1 b2 b3 p : Nat) (h0 : 240 ≤ b0) (h0' : b0 < 256) (h1 : b1 < 256) (h2 : b2 < 256) (h3 : b3 < 256) (hp : p = (((b0 - 240) * 64 + b1 % 64) * 64 + b2 % 64) * 64 + b3 % 64) :
  ((4 ≤ m ∧ scal p = true ∧ (encN p).map (· % 256) = [b0, b1, b2, b3]) → Go.Lib.decodeN m b0 b1 b2 b3 = (p, 4)) ∧ (¬ (4 ≤ m ∧ scal p = true ∧ (encN p).map (· % 256) = [b0, b1, b2, b3]) → Go.Lib.decodeN m b0 b1 b2 b3 = (65533, 1)) := by
 by_cases h : p < 65536
 ·have he : (encN p).map (· % 256) ≠ [b0, b1, b2, b3] := by
   unfold encN
   split
   ·simp
   ·split
    ·simp
    ·simp
  refine ⟨fun g => absurd g.2.2 he, fun _ => ?_⟩
  unfold Go.Lib.decodeN
  rw [if_neg (by omega), if_neg (by omega), if_neg (by omega)]
  split
  ·rw [if_neg (by omega)]
  ·rfl
 ·by_cases hb : p ≤ 1114111
  ·have he : (encN p).map (· % 256) = [b0, b1, b2, b3] ↔ b1 / 64 = 2 ∧ b2 / 64 = 2 ∧ b3 / 64 = 2 := by
    unfold encN
    rw [if_neg (by omega), if_neg (by omega), if_neg h]
    simp only [List.map_cons, List.map_nil, List.cons.injEq, and_true]
    omega
   have hs : scal p = true := by simp [scal]; omega
   rw [he]
   unfold Go.Lib.decodeN
   refine ⟨fun g => ?_, fun g => ?_⟩
   ·rw [if_neg (by omega), if_neg (by omega), if_neg (by omega), if_pos (by omega), if_pos (by omega)]
    apply Prod.ext <;> simp only <;> omega
   ·rw [if_neg (by omega), if_neg (by omega), if_neg (by omega), if_neg (fun q => g ⟨by omega, hs, q.2.1.2, q.2.2.1.2, q.2.2.2.2⟩)]
  ·have hs : scal p = false := by simp [scal]; omega
   rw [hs]
   refine ⟨fun g => absurd g.2.1 (by simp), fun _ => ?_⟩
   unfold Go.Lib.decodeN
   rw [if_neg (by omega), if_neg (by omega), if_neg (by omega)]
   split
   ·rw [if_neg (by omega)]
   ·rfl
theorem rfirst_eq (s : ByteArray) (i : Nat) (hi : i < s.size) : rfirst s i = if Utf8.decode s i = (65533, 1) then none else some (Utf8.decode s i) := by
 have h0 := Zd s i
 have h1 := Zd s (i + 1)
 have h2 := Zd s (i + 2)
 have h3 := Zd s (i + 3)
 rw [Go.Lib.decode_at]
 have key : ∀ (n p : Nat) (D : Nat × Nat), wid (byt s i) = n → pv s i (n - 1) = p →
   ((n ≤ s.size - i ∧ scal p = true ∧ (encN p).map (· % 256) = (List.range n).map fun k => byt s (i + k)) → D = (p, n) ∧ D ≠ (65533, 1)) →
   (¬ (n ≤ s.size - i ∧ scal p = true ∧ (encN p).map (· % 256) = (List.range n).map fun k => byt s (i + k)) → D = (65533, 1)) → rfirst s i = if D = (65533, 1) then none else some D := by
  intro n p D hn hp hA hB
  unfold rfirst
  rw [hn, hp]
  by_cases hl : s.size < i + n
  ·rw [if_pos hl, if_pos (hB (fun h => by omega))]
  ·rw [if_neg hl]
   by_cases hc : scal p = true ∧ encS p = s.extract i (i + n)
   ·have h := hA ⟨by omega, hc.1, (encS_cmp s i n p (by omega)).1 hc.2⟩
    rw [if_pos hc, if_neg h.2, h.1]
   ·rw [if_neg hc, if_pos (hB (fun h => hc ⟨h.2.1, (encS_cmp s i n p (by omega)).2 h.2.2⟩))]
 have hne : ∀ {x n : Nat}, 2 ≤ n → ((x, n) : Nat × Nat) ≠ (65533, 1) := fun h e => by cases e; omega
 by_cases w4 : 240 ≤ byt s i
 ·have c := cls4 (s.size - i) (byt s i) (byt s (i + 1)) (byt s (i + 2)) (byt s (i + 3)) _ w4 h0 h1 h2 h3 rfl
  refine key 4 _ _ (by simp [wid, w4]) (by simp [pv, base, w4]) (fun h => ?_) (fun h => c.2 h)
  have := c.1 h
  exact ⟨this, by rw [this]; exact hne (by omega)⟩
 by_cases w3 : 224 ≤ byt s i
 ·have c := cls3 (s.size - i) (byt s i) (byt s (i + 1)) (byt s (i + 2)) (byt s (i + 3)) _ w3 (by omega) h1 h2 rfl
  refine key 3 _ _ (by simp [wid, w4, w3]) (by simp [pv, base, w4, w3]) (fun h => ?_) (fun h => c.2 h)
  have := c.1 h
  exact ⟨this, by rw [this]; exact hne (by omega)⟩
 by_cases w2 : 192 ≤ byt s i
 ·have c := cls2 (s.size - i) (byt s i) (byt s (i + 1)) (byt s (i + 2)) (byt s (i + 3)) _ w2 (by omega) h1 rfl
  refine key 2 _ _ (by simp [wid, w4, w3, w2]) (by simp [pv, base, w4, w3, w2]) (fun h => ?_) (fun h => c.2 h)
  have := c.1 h
  exact ⟨this, by rw [this]; exact hne (by omega)⟩
 ·have c := cls1 (s.size - i) (byt s i) (byt s (i + 1)) (byt s (i + 2)) (byt s (i + 3)) (by omega)
  refine key 1 _ _ (by simp [wid, w4, w3, w2]) (by simp [pv, base, w4, w3, w2]) (fun h => ?_) (fun h => c.2 (fun q => h ⟨by omega, q⟩))
  have := c.1 h.2
  exact ⟨this.1, by rw [this.1]; intro e; have := congrArg Prod.fst e; simp only at this; omega⟩
end
section
def runesK (s : ByteArray) : Nat → Nat → List (Nat × Nat)
 | 0, _ => []
 | n + 1, p => if p < s.size then (p, (Utf8.decode s p).1) :: runesK s n (p + (Utf8.decode s p).2) else []
def runes (s : ByteArray) : List (Nat × Nat) := runesK s s.size 0
theorem q9 (s : ByteArray) (p : Nat) : 1 ≤ (Utf8.decode s p).2 := by
 rw [← Go.Lib.decodeL_drop]; exact Go.Lib.decodeL_width _
theorem decode_rune (s : ByteArray) (p : Nat) : (Utf8.decode s p).1 ≤ 1114111 := by
 rw [← Go.Lib.decodeL_drop]; exact Go.Lib.decodeL_rune _
theorem qh (s : ByteArray) (n p : Nat) (h : s.size ≤ p) : runesK s n p = [] := by
 cases n with
 | zero => rfl
 | succ n => rw [runesK, if_neg (by omega)]
theorem Wa (s : ByteArray) : ∀ (n m p : Nat), s.size - p ≤ n → s.size - p ≤ m → runesK s n p = runesK s m p
 | 0, m, p, h, _ => by rw [qh s m p (by omega), qh s 0 p (by omega)]
 | n + 1, 0, p, _, h => by rw [qh s _ p (by omega), qh s 0 p (by omega)]
 | n + 1, m + 1, p, h1, h2 => by
  rw [runesK, runesK]
  split
  ·have := q9 s p
   rw [Wa s n m _ (by omega) (by omega)]
  ·rfl
theorem w9 {s : ByteArray} {p : Nat} (h : p < s.size) : runesK s (s.size - p) p = (p, (Utf8.decode s p).1) :: runesK s (s.size - (p + (Utf8.decode s p).2)) (p + (Utf8.decode s p).2) := by
 obtain ⟨n, hn⟩ : ∃ n, s.size - p = n + 1 := ⟨s.size - p - 1, by omega⟩
 have := q9 s p
 rw [hn, runesK, if_pos h, Wa s n _ _ (by omega) (Nat.le_refl _)]
theorem yi (s : ByteArray) : ∀ (n p : Nat), (runesK s n p).length ≤ n
 | 0, _ => Nat.le_refl _
 | n + 1, p => by
  rw [runesK]
  split
  ·have := yi s n (p + (Utf8.decode s p).2); simp; omega
  ·simp
theorem runes_len (s : ByteArray) : (runes s).length ≤ s.size := yi s _ _
def runeL (s : ByteArray) : List Int := (runes s).map fun p => (p.2 : Int)
theorem wm (s : ByteArray) : (runeL s).length ≤ s.size := by rw [runeL, List.length_map]; exact runes_len s
def validP (s : ByteArray) (p : Nat) : Bool := Go.Lib.validD (s.data.toList.drop p)
theorem wY {s : ByteArray} {p : Nat} (h : p < s.size) : validP s p = if Utf8.decode s p = (65533, 1) then false else validP s (p + (Utf8.decode s p).2) := by
 unfold validP
 have hne : s.data.toList.drop p ≠ [] := by
  intro e
  have := congrArg List.length e
  have h' : p < s.data.size := h
  simp at this; omega
 rw [Go.Lib.validD_step _ hne, Go.Lib.decodeL_drop, List.drop_drop]
 have e : ((Utf8.decode s p).1 = 65533 ∧ (Utf8.decode s p).2 = 1) ↔ Utf8.decode s p = (65533, 1) := by
  constructor
  ·rintro ⟨a, b⟩; exact Prod.ext a b
  ·intro h; rw [h]; exact ⟨rfl, rfl⟩
 by_cases hc : Utf8.decode s p = (65533, 1)
 ·rw [if_pos (e.2 hc), if_pos hc]
 ·rw [if_neg (fun h => hc (e.1 h)), if_neg hc]
theorem validP_end {s : ByteArray} {p : Nat} (h : s.size ≤ p) : validP s p = true := by
 unfold validP
 have h' : s.data.size ≤ p := h
 rw [List.drop_of_length_le (by simpa using h')]
 exact Go.Lib.validD_nil
def lowN (n : Nat) : Bool := decide (n < 32) || decide (n = 127)
theorem dec_low (m b0 b1 b2 b3 : Nat) (h0 : b0 < 256) (hm : 1 ≤ m) (hg : Go.Lib.decodeN m b0 b1 b2 b3 ≠ (65533, 1)) :
  (b0 < 128 ∧ Go.Lib.decodeN m b0 b1 b2 b3 = (b0, 1)) ∨ ∃ c w, Go.Lib.decodeN m b0 b1 b2 b3 = (c, w) ∧ w ≤ m ∧ w ≤ 4 ∧ 128 ≤ c ∧ 128 ≤ b0 ∧ (2 ≤ w → 128 ≤ b1) ∧ (3 ≤ w → 128 ≤ b2) ∧ (4 ≤ w → 128 ≤ b3) := by
 unfold Go.Lib.decodeN at hg ⊢
 by_cases ha : b0 < 128
 ·rw [if_pos ha]; exact .inl ⟨ha, rfl⟩
 rw [if_neg ha] at hg ⊢
 refine .inr ?_
 split
 ·rename_i q
  rw [if_pos q] at hg
  split at hg
  ·rename_i q2
   rw [if_pos q2]
   exact ⟨_, _, rfl, by omega, by omega, by omega, by omega, by omega, by omega, by omega⟩
  ·exact absurd rfl hg
 ·rename_i q
  rw [if_neg q] at hg
  split
  ·rename_i q
   rw [if_pos q] at hg
   split at hg
   ·rename_i q2
    rw [if_pos q2]
    exact ⟨_, _, rfl, by omega, by omega, by omega, by omega, by omega, by omega, by omega⟩
   ·exact absurd rfl hg
  ·rename_i q
   rw [if_neg q] at hg
   split
   ·rename_i q
    rw [if_pos q] at hg
    split at hg
    ·rename_i q2
     rw [if_pos q2]
     exact ⟨_, _, rfl, by omega, by omega, by omega, by omega, by omega, by omega, by omega⟩
    ·exact absurd rfl hg
   ·rename_i q
    rw [if_neg q] at hg
    exact absurd rfl hg
theorem y7 {s : ByteArray} {p : Nat} (h : p < s.size) (hg : Utf8.decode s p ≠ (65533, 1)) : p + (Utf8.decode s p).2 ≤ s.size ∧
  lowN (Utf8.decode s p).1 = (((s.data.toList.drop p).take (Utf8.decode s p).2).any fun b => lowN b.toNat) := by
 have hb : ∀ k, p + k < s.size → (s.data.toList.drop p)[k]? = some (s.get! (p + k)) := fun k hk => by rw [List.getElem?_drop]; exact yT s _ hk
 have hany : ∀ w, p + w ≤ s.size → (∀ k, k < w → 128 ≤ byt s (p + k)) → (((s.data.toList.drop p).take w).any fun b => lowN b.toNat) = false := by
  intro w hw hk
  rw [List.any_eq_false]
  intro b hbm
  obtain ⟨k, hkk⟩ := List.getElem?_of_mem hbm
  rw [List.getElem?_take] at hkk
  split at hkk
  ·rename_i hlt
   rw [hb k (by omega)] at hkk
   cases hkk
   have := hk k hlt
   simp only [byt] at this
   simp [lowN]; omega
  ·cases hkk
 rw [Go.Lib.decode_at] at hg ⊢
 rcases dec_low _ _ _ _ _ (Zd s p) (by omega) hg with ⟨ha, e⟩ | ⟨c, w, e, hw, hw4, hc, g0, g1, g2, g3⟩
 ·rw [e]
  refine ⟨by simp only; omega, ?_⟩
  have : (s.data.toList.drop p).take 1 = [s.get! p] := by
   have := hb 0 (by omega)
   cases hd : s.data.toList.drop p with
   | nil => rw [hd] at this; cases this
   | cons x r => rw [hd] at this; simp at this; simp [this]
  simp only [this, List.any_cons, List.any_nil, Bool.or_false]
 ·rw [e]
  simp only
  refine ⟨by omega, ?_⟩
  rw [hany w (by omega) (fun k hk => by
   have : k = 0 ∨ k = 1 ∨ k = 2 ∨ k = 3 := by omega
   rcases this with rfl | rfl | rfl | rfl
   ·exact g0
   ·exact g1 (by omega)
   ·exact g2 (by omega)
   ·exact g3 (by omega))]
  simp [lowN]; omega
theorem low_runes (s : ByteArray) : ∀ (n p : Nat), s.size - p ≤ n → validP s p = true → ((runesK s n p).any fun q => lowN q.2) = ((s.data.toList.drop p).any fun b => lowN b.toNat)
 | 0, p, h, _ => by
  have h' : s.data.size ≤ p := by have : s.size = s.data.size := rfl; omega
  rw [List.drop_of_length_le (by simpa using h')]; rfl
 | n + 1, p, h, hv => by
  by_cases hp : p < s.size
  ·rw [wY hp] at hv
   split at hv
   ·cases hv
   ·rename_i hg
    obtain ⟨hle, hl⟩ := y7 hp hg
    have hw := q9 s p
    rw [runesK, if_pos hp, List.any_cons, low_runes s n _ (by omega) hv]
    conv => rhs; rw [← List.take_append_drop (Utf8.decode s p).2 (s.data.toList.drop p), List.any_append, List.drop_drop]
    rw [← hl]
  ·have h' : s.data.size ≤ p := by have : s.size = s.data.size := rfl; omega
   rw [runesK, if_neg hp, List.drop_of_length_le (by simpa using h')]; rfl
theorem low_eq {s : ByteArray} (h : Go.Lib.validD s.data.toList = true) : ((runeL s).any fun x => decide (x < 32) || decide (x = 127)) = lowB s := by
 have := low_runes s s.size 0 (by omega) (by simpa [validP] using h)
 rw [List.drop_zero] at this
 unfold lowB runeL runes
 rw [List.any_map]
 refine Eq.trans ?_ this
 congr 1
 funext q
 simp only [Function.comp, lowN]
 congr 1 <;> exact decide_eq_decide.2 (by omega)
end
end Go.Proofs.YtcfkokllinkigaaGreatDoor
