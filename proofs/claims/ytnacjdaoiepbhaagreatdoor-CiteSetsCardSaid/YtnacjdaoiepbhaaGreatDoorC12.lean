/- A logic of trees over the model's steps, and the contracts of the functions that the laws reach: part 12 of 15. -/
import Derived.Test.YtnacjdaoiepbhaaGreatDoorC11
import Derived.Lib.AtoiAllCases
set_option linter.unusedVariables false
set_option linter.unusedSimpArgs false
set_option linter.unusedSectionVars false
section
namespace Go.Proofs.YtnacjdaoiepbhaaGreatDoor
open Go.Ac
attribute [local irreducible] awp awpL Ev Ev2 EvS thenQ blockQ retQ PCalls OCalls
variable {g : List (Nat × List AV)}
def tierC (t : Tier) : List AV := [.v (.string t.name), .v (.int .i64 t.kind), .v (.int .i64 t.role), .v (.int .i64 t.parent)]
abbrev encTiers (l : List Tier) : AV := .fs 4 l.length (l.map tierC)
abbrev encNotes (l : List Note) : AV := .fs 7 l.length (l.map noteC)
def docC (d : Doc) : List AV := [.v (.int .i64 d.rec_.id), .v (.string d.rec_.name), .v (.int .i64 d.rec_.length), .v (.int .i64 d.rec_.day), encIs d.rec_.speakers, encTiers d.tiers, encNotes d.notes]
theorem note_get {l : List Note} {k : Nat} {x : Note} (h : l[k]? = some x) : 0 ≤ (k : Int) ∧ (l.map noteC)[(k : Int).toNat]? = some (noteC x) := ⟨by omega, by simp [h]⟩
theorem tier_get {l : List Tier} {i : Int} {x : Tier} (h : tierAt l i = some x) : 0 ≤ i ∧ i < l.length ∧ (0 ≤ i ∧ (l.map tierC)[i.toNat]? = some (tierC x)) := by
  unfold tierAt at h
  split at h
  · rename_i h0
    have := (List.getElem?_eq_some_iff.1 h).1
    exact ⟨h0, by omega, h0, by rw [List.getElem?_map, h]; rfl⟩
  · cases h
theorem tier_none {l : List Tier} {i : Int} (h : tierAt l i = none) : i < 0 ∨ 0 ≤ i ∧ (l.length : Int) ≤ i := by
  unfold tierAt at h
  split at h
  · rename_i h0
    have := List.getElem?_eq_none_iff.1 h
    exact .inr ⟨h0, by omega⟩
  · exact .inl (by omega)
def zeroNote : Note := ⟨0, 0, 0, ⟨0, 0⟩, 0, .empty⟩
abbrev getV (o : Option Note) : AV := .tup [.agg (noteC (o.getD zeroNote)), vb o.isSome]
set_option maxHeartbeats 1000000 in
theorem Get_spec (d : Doc) (n : Int) (hl : d.notes.length ≤ 1000000) : PCalls Tryz.prog g 53 [.agg (docC d), vi n] (getV (getN d.notes n)) := by
  refine pcalls' Tryz.func53 Tryz.ntmps53 rfl rfl rfl ?_
  repeat' (first
   | refine stn [4] ?_
   | ((with_reducible refine is_gd ?_); refine awpL_split rfl rfl (fun h => ?_) (fun h => ?_))
   | ((with_reducible refine is_awp ?_); refine awp_cond rfl (fun h => ?_) (fun h => ?_))
   | fail)
  refine awp_for (α := Nat) 1 (fun k => [(1, vi n), (4, .lp 0 0), (9, encNotes d.notes), (10, vi d.notes.length), (11, vi k)]) (fun k => [.box (noteC zeroNote)]) (fun k => k ≤ d.notes.length ∧ getN d.notes n = (d.notes.drop k).find? fun o => decide (o.id = n)) (fun k => d.notes.length - k) 0
    ⟨(.cons rfl rfl (.cons rfl rfl (.cons rfl rfl (.cons rfl rfl (.cons rfl rfl .nil))))), rfl, rfl, rfl⟩ ⟨Nat.zero_le _, rfl⟩ ?_
  rintro k ⟨hk, hf⟩
  cases ht : d.notes[k]? with
  | none =>
    have hge : d.notes.length ≤ k := by simpa using ht
    have c1 : decide ((k : Int) < d.notes.length) = false := decide_eq_false (by omega)
    rw [List.drop_of_length_le hge] at hf
    rw [hf]
    repeat' (first
     | refine stn [4] ?_
     | ((with_reducible refine is_gd ?_); refine awpL_split rfl rfl (fun h => ?_) (fun h => ?_))
     | ((with_reducible refine is_awp ?_); refine awp_cond rfl (fun h => ?_) (fun h => ?_))
     | fail)
    refine retP rfl ?_
    rfl
  | some x =>
    have hlt : k < d.notes.length := (List.getElem?_eq_some_iff.1 ht).1
    have c1 : decide ((k : Int) < d.notes.length) = true := decide_eq_true (by omega)
    have h1 := note_get ht
    rw [find_dropN ht] at hf
    by_cases hid : x.id = n
    · have d2 : decide (x.id = n) = true := decide_eq_true hid
      rw [d2] at hf
      rw [hf]
      repeat' (first
       | refine stn [4] ?_
       | ((with_reducible refine is_gd ?_); refine awpL_split rfl rfl (fun h => ?_) (fun h => ?_))
       | ((with_reducible refine is_awp ?_); refine awp_cond rfl (fun h => ?_) (fun h => ?_))
       | fail)
      refine retP rfl ?_
      rfl
    · have d2 : decide (x.id = n) = false := decide_eq_false hid
      rw [d2] at hf
      repeat' (first
       | refine stn [4] ?_
       | ((with_reducible refine is_gd ?_); refine awpL_split rfl rfl (fun h => ?_) (fun h => ?_))
       | ((with_reducible refine is_awp ?_); refine awp_cond rfl (fun h => ?_) (fun h => ?_))
       | fail)
      exact ⟨k + 1, ⟨(.cons rfl rfl (.cons rfl rfl (.cons rfl rfl (.cons rfl rfl (.cons rfl rfl .nil))))), rfl, rfl, rfl⟩, ⟨by omega, hf⟩, by omega⟩
set_option maxHeartbeats 1000000 in
theorem al_spec (k : Int) : PCalls Tryz.prog g 117 [vi k] (vb (timed k)) := by
  refine pcalls' Tryz.func117 Tryz.ntmps117 rfl rfl rfl ?_
  unfold timed
  by_cases h0 : k = 0
  · have d0 : decide (k = 0) = true := decide_eq_true h0
    rw [d0]
    repeat' (first
     | refine stn [] ?_
     | ((with_reducible refine is_gd ?_); refine awpL_split rfl rfl (fun h => ?_) (fun h => ?_))
     | ((with_reducible refine is_awp ?_); refine awp_cond rfl (fun h => ?_) (fun h => ?_))
     | fail)
    exact retP rfl rfl
  have d0 : decide (k = 0) = false := decide_eq_false h0
  by_cases h1 : k = 1
  · have d1 : decide (k = 1) = true := decide_eq_true h1
    rw [d0, d1]
    repeat' (first
     | refine stn [] ?_
     | ((with_reducible refine is_gd ?_); refine awpL_split rfl rfl (fun h => ?_) (fun h => ?_))
     | ((with_reducible refine is_awp ?_); refine awp_cond rfl (fun h => ?_) (fun h => ?_))
     | fail)
    exact retP rfl rfl
  have d1 : decide (k = 1) = false := decide_eq_false h1
  by_cases h2 : k = 2
  · have d2 : decide (k = 2) = true := decide_eq_true h2
    rw [d0, d1, d2]
    repeat' (first
     | refine stn [] ?_
     | ((with_reducible refine is_gd ?_); refine awpL_split rfl rfl (fun h => ?_) (fun h => ?_))
     | ((with_reducible refine is_awp ?_); refine awp_cond rfl (fun h => ?_) (fun h => ?_))
     | fail)
    refine retP rfl ?_
    simp [ex, d2]
  have d2 : decide (k = 2) = false := decide_eq_false h2
  rw [d0, d1, d2]
  repeat' (first
   | refine stn [] ?_
   | ((with_reducible refine is_gd ?_); refine awpL_split rfl rfl (fun h => ?_) (fun h => ?_))
   | ((with_reducible refine is_awp ?_); refine awp_cond rfl (fun h => ?_) (fun h => ?_))
   | fail)
  refine retP rfl ?_
  simp [ex, d2]
set_option maxHeartbeats 1000000 in
theorem Aligned_spec (l : List Tier) (i : Int) (hl : l.length ≤ 1000000) : PCalls Tryz.prog g 84 [encTiers l, vi i] (vb (alignedT l i)) := by
  refine pcalls' Tryz.func84 Tryz.ntmps84 rfl rfl rfl ?_
  unfold alignedT
  cases ht : tierAt l i with
  | some t =>
    obtain ⟨h0, h1, h2⟩ := tier_get ht
    have d0 : decide (0 ≤ i) = true := decide_eq_true h0
    have d1 : decide (i < l.length) = true := decide_eq_true h1
    have hT := al_spec (g := g) t.kind
    repeat' (first
     | refine stn [] ?_
     | ((with_reducible refine is_gd ?_); refine awpL_split rfl rfl (fun h => ?_) (fun h => ?_))
     | ((with_reducible refine is_awp ?_); refine awp_cond rfl (fun h => ?_) (fun h => ?_))
     | fail)
    exact retP rfl rfl
  | none =>
    rcases tier_none ht with h | ⟨h, h'⟩
    · have d0 : decide (0 ≤ i) = false := decide_eq_false (by omega)
      repeat' (first
       | refine stn [] ?_
       | ((with_reducible refine is_gd ?_); refine awpL_split rfl rfl (fun h => ?_) (fun h => ?_))
       | ((with_reducible refine is_awp ?_); refine awp_cond rfl (fun h => ?_) (fun h => ?_))
       | fail)
      exact retP rfl rfl
    · have d0 : decide (0 ≤ i) = true := decide_eq_true h
      have d1 : decide (i < l.length) = false := decide_eq_false (by omega)
      repeat' (first
       | refine stn [] ?_
       | ((with_reducible refine is_gd ?_); refine awpL_split rfl rfl (fun h => ?_) (fun h => ?_))
       | ((with_reducible refine is_awp ?_); refine awp_cond rfl (fun h => ?_) (fun h => ?_))
       | fail)
      exact retP rfl rfl
abbrev whereV (o : Option Span) : AV := .tup [.agg (spanC (o.getD ⟨0, 0⟩)), vb o.isSome]
set_option maxHeartbeats 2000000 in
theorem Where_spec (d : Doc) (id : Int) (m : Nat) (x : Option Span) (hw : whereF d m id = some x) (hl : d.notes.length ≤ 1000000) (ht : d.tiers.length ≤ 1000000) : PCalls Tryz.prog g 56 [.agg (docC d), vi id] (whereV x) := by
  have hG := fun n => Get_spec (g := g) d n hl
  have hA := fun i => Aligned_spec (g := g) d.tiers i ht
  have hG0 := hG id
  have n1 : (!true) = false := rfl
  have n2 : (!false) = true := rfl
  refine pcalls' Tryz.func56 Tryz.ntmps56 rfl rfl rfl ?_
  repeat' (first
   | refine stn [4, 6] ?_
   | ((with_reducible refine is_gd ?_); refine awpL_split rfl rfl (fun h => ?_) (fun h => ?_))
   | ((with_reducible refine is_awp ?_); refine awp_cond rfl (fun h => ?_) (fun h => ?_))
   | fail)
  refine awp_for2 (α := Nat) (β := Option Note) 2 (fun m o => [(1, vi id), (2, .fp (docC d)), (4, .lp 0 0), (6, .lp 1 0), (7, vb o.isSome)]) (fun m o => [.box (spanC ⟨0, 0⟩), .box (noteC (o.getD zeroNote))]) (fun m o => (match o with | none => x = none | some n => if alignedT d.tiers n.tier then x = some n.span else whereF d m n.parent = some x)) (fun m _ => m) (m - 1) (getN d.notes id)
    ⟨(.cons rfl rfl (.cons rfl rfl (.cons rfl rfl (.cons rfl rfl (.cons rfl rfl .nil))))), rfl, rfl, rfl⟩ ?_ ?_
  · cases m with
    | zero => cases hw
    | succ m =>
      simp only [whereF] at hw
      cases hg : getN d.notes id with
      | none => rw [hg] at hw; cases hw; rfl
      | some n =>
        rw [hg] at hw
        simp only [Nat.add_sub_cancel] at hw ⊢
        split
        · rename_i e; rw [if_pos e] at hw; cases hw; rfl
        · rename_i e; rw [if_neg e] at hw; exact hw
  rintro k o hi
  cases o with
  | none =>
    simp only at hi
    subst hi
    show awp _ _ _ _ _ [(1, vi id), (2, .fp (docC d)), (4, .lp 0 0), (6, .lp 1 0), (7, vb false)] [.box (spanC ⟨0, 0⟩), .box (noteC zeroNote)]
    repeat' (first
     | refine stn [4, 6] ?_
     | ((with_reducible refine is_gd ?_); refine awpL_split rfl rfl (fun h => ?_) (fun h => ?_))
     | ((with_reducible refine is_awp ?_); refine awp_cond rfl (fun h => ?_) (fun h => ?_))
     | fail)
    refine retP rfl ?_
    rfl
  | some n =>
    simp only at hi
    show awp _ _ _ _ _ [(1, vi id), (2, .fp (docC d)), (4, .lp 0 0), (6, .lp 1 0), (7, vb true)] [.box (spanC ⟨0, 0⟩), .box (noteC n)]
    have hAn := hA n.tier
    cases ha : alignedT d.tiers n.tier with
    | true =>
      rw [ha] at hi hAn
      simp only [if_true] at hi
      subst hi
      repeat' (first
       | refine stn [4, 6] ?_
       | ((with_reducible refine is_gd ?_); refine awpL_split rfl rfl (fun h => ?_) (fun h => ?_))
       | ((with_reducible refine is_awp ?_); refine awp_cond rfl (fun h => ?_) (fun h => ?_))
       | fail)
      refine retP rfl ?_
      rfl
    | false =>
      rw [ha] at hi hAn
      have hi : whereF d k n.parent = some x := hi
      have hGn := hG n.parent
      repeat' (first
       | refine stn [4, 6] ?_
       | ((with_reducible refine is_gd ?_); refine awpL_split rfl rfl (fun h => ?_) (fun h => ?_))
       | ((with_reducible refine is_awp ?_); refine awp_cond rfl (fun h => ?_) (fun h => ?_))
       | fail)
      cases k with
      | zero => cases hi
      | succ k =>
        refine ⟨k, getN d.notes n.parent, ⟨(.cons rfl rfl (.cons rfl rfl (.cons rfl rfl (.cons rfl rfl (.cons rfl rfl .nil))))), rfl, rfl, rfl⟩, ?_, by omega⟩
        simp only [whereF] at hi
        cases hg : getN d.notes n.parent with
        | none => rw [hg] at hi; cases hi; rfl
        | some p =>
          rw [hg] at hi
          simp only at hi ⊢
          split
          · rename_i e; rw [if_pos e] at hi; cases hi; rfl
          · rename_i e; rw [if_neg e] at hi; exact hi
end Go.Proofs.YtnacjdaoiepbhaaGreatDoor
end
section
namespace Go.Proofs.YtnacjdaoiepbhaaGreatDoor
open Go.Ac
attribute [local irreducible] awp awpL Ev Ev2 EvS thenQ blockQ retQ PCalls OCalls
variable {g : List (Nat × List AV)}
def restC (d : Doc) : Nat → Option Note → List Int
  | _, none => []
  | 0, some _ => []
  | m + 1, some n => n.id :: chainK d m n.parent
end Go.Proofs.YtnacjdaoiepbhaaGreatDoor
end
section
namespace Go.Ac
theorem PCalls.sub {P : Program} {g g' : List (Nat × List AV)} {f : FuncId} {args : List AV} {r : AV} (h : PCalls P g f args r) (hs : ∀ p ∈ g, p ∈ g') : PCalls P g' f args r := by
  refine ⟨h.1, fun F w vs st ha => ?_⟩
  have st0 : St (Glo.of g) (Cx.bare F w) [] :=
    ⟨st.n, st.dm, st.inF, st.loc, st.inj, fun k x h => by simp at h, fun p hp => st.glob p (hs p hp), st.envd, st.mkd, st.mkE, st.mks, st.pin⟩
  refine (h.2 F w vs st0 ha).mono ?_
  rintro e w' ⟨y, F', he, hr, st', hx⟩
  refine ⟨y, F', he, hr, ⟨st'.n, st'.dm, st'.inF, st'.loc, st'.inj, fun k x h => by simp at h, fun q hq => ?_, st'.envd, st'.mkd, st'.mkE, st'.mks, st'.pin⟩, hx⟩
  have hp := hx.pin
  exact ⟨hp.F _ (st.glob q hq).1, MF.mono hp.F hp.heap _ _ _ (hp.heap _ (st.glob q hq).1) (st.glob q hq).2.1, (st.glob q hq).2.2.keep (hp.heap _ (st.glob q hq).1)⟩
end Go.Ac
end
section
namespace Go.Proofs.YtnacjdaoiepbhaaGreatDoor
open Go.Lib
def sgnd (n : Int) (m : Nat) : Int := if n < 0 then -(m : Int) else m
def lastD (m : Nat) : UInt8 := UInt8.ofNat (48 + m % 10)
def restD (m : Nat) (l : List UInt8) : List UInt8 := (if m = 0 then [] else decDigits m) ++ l
theorem nDigits_20 (u : Nat) (h : u < 18446744073709551616) : nDigits u ≤ 20 := by
  rcases Nat.eq_zero_or_pos u with h0 | h0
  · subst h0; rw [nDigits_small (by omega)]; omega
  · have := numDigits_eq u h0 h
    split at this <;> omega
theorem itoa_len (n : Int) (h : -9223372036854775808 ≤ n ∧ n ≤ 9223372036854775807) : 1 ≤ (itoa n).length ∧ (itoa n).length ≤ 21 := by
  unfold itoa
  split
  · rw [List.length_cons, decDigits_length]
    have := nDigits_20 n.natAbs (by omega)
    omega
  · rw [decDigits_length]
    have := nDigits_20 n.toNat (by omega)
    have := nDigits_pos n.toNat
    omega
theorem numT_len (n : Int) (h : -9223372036854775808 ≤ n ∧ n ≤ 9223372036854775807) : 1 ≤ (numT n).size ∧ (numT n).size ≤ 21 := by
  have := itoa_len n h
  simpa [numT, ByteArray.size] using this
theorem bytes_cat (a b : List UInt8) : (⟨a.toArray⟩ : ByteArray) ++ ⟨b.toArray⟩ = ⟨(a ++ b).toArray⟩ := by
  apply ByteArray.ext
  simp [ByteArray.data_append]
end Go.Proofs.YtnacjdaoiepbhaaGreatDoor
end
section
namespace Go.Proofs.YtnacjdaoiepbhaaGreatDoor
open Go.Ac
attribute [local irreducible] awp awpL Ev Ev2 EvS thenQ blockQ retQ PCalls OCalls
variable {g : List (Nat × List AV)}
end Go.Proofs.YtnacjdaoiepbhaaGreatDoor
end
section
namespace Go.Proofs.YtnacjdaoiepbhaaGreatDoor
open Go.Ac
attribute [local irreducible] awp awpL Ev Ev2 EvS thenQ blockQ retQ PCalls OCalls
variable {g : List (Nat × List AV)}
theorem GL_num : NumG GL := ⟨by simp [GL], by simp [GL], by simp [GL], by simp [GL]⟩
abbrev parseV (o : Option Int) : AV := .tup [vi (o.getD 0), vb o.isSome]
def GN : List (Nat × List AV) := [(0, limCs), (2, powCs), (3, errCs), (4, errCs)]
theorem GN_num : NumG GN := ⟨by simp [GN], by simp [GN], by simp [GN], by simp [GN]⟩
theorem NumG.sub (h : NumG g) : ∀ p ∈ GN, p ∈ g := by
  intro p hp
  simp only [GN, List.mem_cons, List.not_mem_nil, or_false] at hp
  rcases hp with rfl | rfl | rfl | rfl
  · exact h.lim
  · exact h.pow
  · exact h.syn
  · exact h.rng
set_option maxHeartbeats 1000000 in
theorem NParse_N (s : ByteArray) (hs : s.size ≤ 281474976710656) : PCalls Tryz.prog GN 71 [.v (.string s)] (parseV (numP s)) := by
  have hA := Atoi_spec GN_num s hs
  refine pcalls' Tryz.func71 Tryz.ntmps71 rfl rfl rfl ?_
  unfold atoiV at hA
  cases h : Go.Lib.atoiAll s.data.toList
  · rename_i n
    rw [h] at hA
    simp only at hA
    obtain ⟨b0, b1⟩ := Go.Lib.atoiAll_bounds h
    have hT := NText_spec GN_num n ⟨b0, b1⟩
    have hP : numP s = if numT n = s ∧ inNum n then some n else none := by unfold numP; rw [h]
    have d1 : decide (n < -1099511627776) = true ∨ decide (n < -1099511627776) = false := by cases decide (n < -1099511627776) <;> simp
    by_cases e1 : numT n = s
    · have c1 : (!decide (numT n = s)) = false := by simp [e1]
      by_cases e2 : n < -1099511627776
      · have c2 : decide (n < -1099511627776) = true := decide_eq_true e2
        rw [hP, if_neg (by omega)]
        repeat' (first
         | ((with_reducible refine is_un ?_); (first | refine awpL_ev (ev_ia_fp rfl rfl rfl rfl rfl (by decide)) rfl ?_ | refine awpL_ev (ev_ifc_nn rfl rfl rfl) rfl ?_))
         | refine stn [] ?_
         | ((with_reducible refine is_gd ?_); refine awpL_split rfl rfl (fun h => ?_) (fun h => ?_))
         | ((with_reducible refine is_awp ?_); refine awp_cond rfl (fun h => ?_) (fun h => ?_))
         | fail)
        exact retP rfl rfl
      have c2 : decide (n < -1099511627776) = false := decide_eq_false e2
      by_cases e3 : 1099511627776 < n
      · have c3 : decide (1099511627776 < n) = true := decide_eq_true e3
        rw [hP, if_neg (by omega)]
        repeat' (first
         | ((with_reducible refine is_un ?_); (first | refine awpL_ev (ev_ia_fp rfl rfl rfl rfl rfl (by decide)) rfl ?_ | refine awpL_ev (ev_ifc_nn rfl rfl rfl) rfl ?_))
         | refine stn [] ?_
         | ((with_reducible refine is_gd ?_); refine awpL_split rfl rfl (fun h => ?_) (fun h => ?_))
         | ((with_reducible refine is_awp ?_); refine awp_cond rfl (fun h => ?_) (fun h => ?_))
         | fail)
        exact retP rfl rfl
      have c3 : decide (1099511627776 < n) = false := decide_eq_false e3
      rw [hP, if_pos ⟨e1, by omega, by omega⟩]
      repeat' (first
       | ((with_reducible refine is_un ?_); (first | refine awpL_ev (ev_ia_fp rfl rfl rfl rfl rfl (by decide)) rfl ?_ | refine awpL_ev (ev_ifc_nn rfl rfl rfl) rfl ?_))
       | refine stn [] ?_
       | ((with_reducible refine is_gd ?_); refine awpL_split rfl rfl (fun h => ?_) (fun h => ?_))
       | ((with_reducible refine is_awp ?_); refine awp_cond rfl (fun h => ?_) (fun h => ?_))
       | fail)
      exact retP rfl rfl
    · have c1 : (!decide (numT n = s)) = true := by simp [e1]
      rw [hP, if_neg (fun q => e1 q.1)]
      repeat' (first
       | ((with_reducible refine is_un ?_); (first | refine awpL_ev (ev_ia_fp rfl rfl rfl rfl rfl (by decide)) rfl ?_ | refine awpL_ev (ev_ifc_nn rfl rfl rfl) rfl ?_))
       | refine stn [] ?_
       | ((with_reducible refine is_gd ?_); refine awpL_split rfl rfl (fun h => ?_) (fun h => ?_))
       | ((with_reducible refine is_awp ?_); refine awp_cond rfl (fun h => ?_) (fun h => ?_))
       | fail)
      exact retP rfl rfl
  · rw [h] at hA
    simp only at hA
    have hP : numP s = none := by unfold numP; rw [h]
    rw [hP]
    repeat' (first
     | ((with_reducible refine is_un ?_); refine awpL_ev (ev_ifc_ne rfl rfl rfl) rfl ?_)
     | refine stn [] ?_
     | ((with_reducible refine is_gd ?_); refine awpL_split rfl rfl (fun h => ?_) (fun h => ?_))
     | ((with_reducible refine is_awp ?_); refine awp_cond rfl (fun h => ?_) (fun h => ?_))
     | fail)
    exact retP rfl rfl
  · rw [h] at hA
    simp only at hA
    have hP : numP s = none := by unfold numP; rw [h]
    rw [hP]
    repeat' (first
     | ((with_reducible refine is_un ?_); refine awpL_ev (ev_ifc_ne rfl rfl rfl) rfl ?_)
     | refine stn [] ?_
     | ((with_reducible refine is_gd ?_); refine awpL_split rfl rfl (fun h => ?_) (fun h => ?_))
     | ((with_reducible refine is_awp ?_); refine awp_cond rfl (fun h => ?_) (fun h => ?_))
     | fail)
    exact retP rfl rfl
theorem NParse_spec (hN : NumG g) (s : ByteArray) (hs : s.size ≤ 281474976710656) : PCalls Tryz.prog g 71 [.v (.string s)] (parseV (numP s)) := (NParse_N s hs).sub hN.sub
theorem dropB_cons {l : List UInt8} {k : Nat} {c : UInt8} (h : l[k]? = some c) : l.drop k = c :: l.drop (k + 1) := by
  obtain ⟨h1, h2⟩ := List.getElem?_eq_some_iff.1 h
  rw [List.drop_eq_getElem_cons h1, h2]
theorem size_list (s : ByteArray) : s.data.toList.length = s.size := by rw [Array.length_toList]; rfl
theorem byteL_get {s : ByteArray} {k : Nat} {c : UInt8} (h : s.data.toList[k]? = some c) : 0 ≤ (k : Int) ∧ s.data[(k : Int).toNat]? = some c := ⟨by omega, by simpa using h⟩
end Go.Proofs.YtnacjdaoiepbhaaGreatDoor
end
section
namespace Go.Proofs.YtnacjdaoiepbhaaGreatDoor
open Go.Lib
structure Cite where
  rec_ : Int
  note : Int
  at_ : Stamp
  deriving Inhabited, DecidableEq
abbrev I6 (n : Int) : Prop := -9223372036854775808 ≤ n ∧ n ≤ 9223372036854775807
def CiteI (c : Cite) : Prop := I6 c.rec_ ∧ I6 c.note ∧ I6 c.at_.count ∧ I6 c.at_.dev
def zeroCite : Cite := ⟨0, 0, ⟨0, 0⟩⟩
def cutL (c : UInt8) : List UInt8 → Option (List UInt8 × List UInt8)
  | [] => none
  | b :: r => if b = c then some ([], r) else (cutL c r).map fun p => (b :: p.1, p.2)
theorem cutL_some {c : UInt8} : ∀ {l x y : List UInt8}, cutL c l = some (x, y) → l = x ++ c :: y ∧ c ∉ x
  | [], _, _, h => by cases h
  | b :: r, x, y, h => by
    simp only [cutL] at h
    split at h
    · rename_i e
      simp only [Option.some.injEq, Prod.mk.injEq] at h
      obtain ⟨rfl, rfl⟩ := h
      exact ⟨by rw [e]; rfl, by simp⟩
    · rename_i e
      cases hr : cutL c r with
      | none => rw [hr] at h; cases h
      | some p =>
        rw [hr] at h
        have h : some (b :: p.1, p.2) = some (x, y) := h
        simp only [Option.some.injEq, Prod.mk.injEq] at h
        obtain ⟨rfl, rfl⟩ := h
        obtain ⟨h1, h2⟩ := cutL_some (x := p.1) (y := p.2) hr
        exact ⟨by rw [h1]; rfl, by simp only [List.mem_cons, not_or]; exact ⟨fun q => e q.symm, h2⟩⟩
theorem cutL_of {c : UInt8} : ∀ {x y : List UInt8}, c ∉ x → cutL c (x ++ c :: y) = some (x, y)
  | [], y, _ => by simp [cutL]
  | b :: r, y, h => by
    simp only [List.mem_cons, not_or] at h
    simp only [List.cons_append, cutL]
    rw [if_neg (fun e => h.1 e.symm), cutL_of h.2]
    rfl
theorem cutL_skip {c : UInt8} {l : List UInt8} : ∀ {k : Nat}, (∀ (j : Nat) (b : UInt8), j < k → l[j]? = some b → b ≠ c) → cutL c l = (cutL c (l.drop k)).map fun p => (l.take k ++ p.1, p.2) := by
  induction l with
  | nil => intro k _; simp [cutL]
  | cons b r ih =>
    intro k h
    cases k with
    | zero => simp
    | succ k =>
      have hb : b ≠ c := h 0 b (by omega) rfl
      simp only [List.drop_succ_cons, List.take_succ_cons, cutL]
      rw [if_neg hb, ih (k := k) (fun j x hj hx => h (j + 1) x (by omega) (by simpa using hx))]
      cases cutL c (r.drop k) <;> rfl
def toB (l : List UInt8) : ByteArray := ⟨l.toArray⟩
theorem toB_list (l : List UInt8) : (toB l).data.toList = l := by simp [toB]
theorem toB_of (s : ByteArray) : toB s.data.toList = s := by simp [toB]
theorem toB_cat (a b : List UInt8) : toB a ++ toB b = toB (a ++ b) := bytes_cat a b
theorem toB_size (l : List UInt8) : (toB l).size = l.length := by rw [show (toB l).size = (toB l).data.toList.length by rw [Array.length_toList]; rfl, toB_list]
theorem numT_toB (n : Int) : numT n = toB (itoa n) := rfl
def cutB (s : ByteArray) (c : UInt8) : Option (ByteArray × ByteArray) := (cutL c s.data.toList).map fun p => (toB p.1, toB p.2)
theorem cutB_some {s x y : ByteArray} {c : UInt8} (h : cutB s c = some (x, y)) : s = toB (x.data.toList ++ c :: y.data.toList) ∧ c ∉ x.data.toList := by
  unfold cutB at h
  cases hr : cutL c s.data.toList with
  | none => rw [hr] at h; cases h
  | some p =>
    rw [hr] at h
    have h : some (toB p.1, toB p.2) = some (x, y) := h
    simp only [Option.some.injEq, Prod.mk.injEq] at h
    obtain ⟨rfl, rfl⟩ := h
    obtain ⟨h1, h2⟩ := cutL_some (x := p.1) (y := p.2) hr
    rw [toB_list, toB_list, ← h1, toB_of]
    exact ⟨rfl, h2⟩
theorem cutB_of {x y : List UInt8} {c : UInt8} (h : c ∉ x) : cutB (toB (x ++ c :: y)) c = some (toB x, toB y) := by
  unfold cutB
  rw [toB_list, cutL_of h]
  rfl
def pairV (s : ByteArray) : Int × Int × Bool := match cutB s 46 with
  | none => (0, 0, false)
  | some (x, y) => ((numP x).getD 0, (numP y).getD 0, (numP x).isSome && (numP y).isSome)
def citeP (s : ByteArray) : Option Cite := match cutB s 64 with
  | none => none
  | some (a, b) => if (pairV a).2.2 && (pairV b).2.2 then some ⟨(pairV a).1, (pairV a).2.1, ⟨(pairV b).1, (pairV b).2.1⟩⟩ else none
def pairT (n m : Int) : List UInt8 := itoa n ++ 46 :: itoa m
def citeT (c : Cite) : List UInt8 := pairT c.rec_ c.note ++ 64 :: pairT c.at_.count c.at_.dev
def printB (c : Cite) : ByteArray := toB (citeT c)
theorem no46 (n : Int) : (46 : UInt8) ∉ itoa n := itoa_no n 46 rfl (by decide)
theorem no64 (n m : Int) : (64 : UInt8) ∉ pairT n m := by
  unfold pairT
  simp only [List.mem_append, List.mem_cons, not_or]
  exact ⟨itoa_no n 64 rfl (by decide), by decide, itoa_no m 64 rfl (by decide)⟩
theorem pairV_T (n m : Int) : pairV (toB (pairT n m)) = ((numP (numT n)).getD 0, (numP (numT m)).getD 0, (numP (numT n)).isSome && (numP (numT m)).isSome) := by
  unfold pairV pairT
  rw [cutB_of (no46 n)]
  rfl
def citeIn (c : Cite) : Prop := inNum c.rec_ ∧ inNum c.note ∧ inNum c.at_.count ∧ inNum c.at_.dev
theorem citeP_in {c : Cite} (h : citeIn c) : citeP (printB c) = some c := by
  obtain ⟨h1, h2, h3, h4⟩ := h
  unfold citeP printB citeT
  rw [cutB_of (no64 _ _)]
  simp only
  rw [pairV_T, pairV_T, numP_numT h1, numP_numT h2, numP_numT h3, numP_numT h4]
  rfl
theorem append_cut {c : UInt8} {a b x y : List UInt8} (ha : c ∉ a) (hx : c ∉ x) (h : a ++ c :: b = x ++ c :: y) : a = x ∧ b = y := by
  have h1 := cutL_of (y := b) ha
  rw [h, cutL_of hx] at h1
  simp only [Option.some.injEq, Prod.mk.injEq] at h1
  exact ⟨h1.1.symm, h1.2.symm⟩
theorem pairV_back {s : ByteArray} (h : (pairV s).2.2 = true) : s = toB (pairT (pairV s).1 (pairV s).2.1) ∧ inNum (pairV s).1 ∧ inNum (pairV s).2.1 := by
  unfold pairV at h ⊢
  cases hc : cutB s 46 with
  | none => rw [hc] at h; cases h
  | some p =>
    obtain ⟨x, y⟩ := p
    rw [hc] at h
    simp only [Bool.and_eq_true, Option.isSome_iff_exists] at h
    obtain ⟨⟨n, hn⟩, m, hm⟩ := h
    obtain ⟨h1, _⟩ := cutB_some hc
    simp only [hn, hm, Option.getD_some]
    obtain ⟨e1, q1⟩ := numP_some.1 hn
    obtain ⟨e2, q2⟩ := numP_some.1 hm
    refine ⟨?_, q1, q2⟩
    rw [h1, ← e1, ← e2, numT_list, numT_list]
    rfl
theorem citeP_back {s : ByteArray} {c : Cite} (h : citeP s = some c) : printB c = s ∧ citeIn c := by
  unfold citeP at h
  cases hc : cutB s 64 with
  | none => rw [hc] at h; cases h
  | some p =>
    obtain ⟨x, y⟩ := p
    rw [hc] at h
    simp only at h
    split at h
    · rename_i q
      rw [Bool.and_eq_true] at q
      cases h
      obtain ⟨h1, _⟩ := cutB_some hc
      obtain ⟨a1, a2, a3⟩ := pairV_back q.1
      obtain ⟨b1, b2, b3⟩ := pairV_back q.2
      refine ⟨?_, a2, a3, b2, b3⟩
      rw [h1, printB, citeT]
      simp only
      congr 1
      have ea : x.data.toList = pairT (pairV x).1 (pairV x).2.1 := by conv => lhs; rw [a1, toB_list]
      have eb : y.data.toList = pairT (pairV y).1 (pairV y).2.1 := by conv => lhs; rw [b1, toB_list]
      rw [ea, eb]
    · cases h
end Go.Proofs.YtnacjdaoiepbhaaGreatDoor
end
section
namespace Go.Proofs.YtnacjdaoiepbhaaGreatDoor
open Go.Ac
attribute [local irreducible] awp awpL Ev Ev2 EvS thenQ blockQ retQ PCalls OCalls
variable {g : List (Nat × List AV)}
def citeC (c : Cite) : List AV := [.v (.int .i64 c.rec_), .v (.int .i64 c.note), .v (.int .i64 c.at_.count), .v (.int .i64 c.at_.dev)]
theorem ext_toB (s : ByteArray) (a b : Nat) : s.extract a b = toB ((s.data.toList.take b).drop a) := by
  apply ByteArray.ext
  rw [ByteArray.data_extract]
  apply Array.ext'
  simp [List.drop_take, toB]
abbrev cutV (d : ByteArray) (o : Option (ByteArray × ByteArray)) : AV := .tup [.v (.string (o.getD (d, .empty)).1), .v (.string (o.getD (d, .empty)).2), vb o.isSome]
set_option maxHeartbeats 1000000 in
theorem cut_spec (s : ByteArray) (c : UInt8) (n : Int) (hn : (c.toNat : Int) = n) (hs : s.size ≤ 281474976710656) : PCalls Tryz.prog g 39 [.v (.string s), .v (.int .u8 n)] (cutV s (cutB s c)) := by
  have hlen := size_list s
  refine pcalls' Tryz.func39 Tryz.ntmps39 rfl rfl rfl ?_
  repeat' (first
   | refine stn [] ?_
   | ((with_reducible refine is_gd ?_); refine awpL_split rfl rfl (fun h => ?_) (fun h => ?_))
   | ((with_reducible refine is_awp ?_); refine awp_cond rfl (fun h => ?_) (fun h => ?_))
   | fail)
  refine awp_for (α := Nat) 0 (fun k => [(0, .v (.string s)), (1, .v (.int .u8 n)), (7, vi k)]) (fun _ => []) (fun k => k ≤ s.size ∧ ∀ (j : Nat) (b : UInt8), j < k → s.data.toList[j]? = some b → b ≠ c) (fun k => s.size - k) 0
    ⟨(.cons rfl rfl (.cons rfl rfl (.cons rfl rfl .nil))), rfl, rfl, rfl⟩ ⟨by omega, fun j b h => absurd h (Nat.not_lt_zero _)⟩ ?_
  rintro k ⟨hk, hf⟩
  have hsk := cutL_skip hf
  cases ht : s.data.toList[k]? with
  | none =>
    have hge : s.size ≤ k := by have := List.getElem?_eq_none_iff.1 ht; omega
    have c1 : decide ((k : Int) < s.size) = false := decide_eq_false (by omega)
    have hc : cutB s c = none := by unfold cutB; rw [hsk, List.drop_of_length_le (by omega)]; rfl
    rw [hc]
    repeat' (first
     | refine stn [] ?_
     | ((with_reducible refine is_gd ?_); refine awpL_split rfl rfl (fun h => ?_) (fun h => ?_))
     | ((with_reducible refine is_awp ?_); refine awp_cond rfl (fun h => ?_) (fun h => ?_))
     | fail)
    exact retP rfl rfl
  | some b =>
    have hlt : k < s.size := by have := (List.getElem?_eq_some_iff.1 ht).1; omega
    have c1 : decide ((k : Int) < s.size) = true := decide_eq_true (by omega)
    have ik := byteL_get ht
    by_cases e : b = c
    · have c2 : decide ((b.toNat : Int) = n) = true := decide_eq_true (by rw [e, hn])
      have x1 : s.extract (0 : Int).toNat (k : Int).toNat = toB (s.data.toList.take k) := by rw [ext_toB]; simp
      have x2 : s.extract ((k : Int) + 1).toNat (s.size : Int).toNat = toB (s.data.toList.drop (k + 1)) := by
        rw [ext_toB, show ((k : Int) + 1).toNat = k + 1 by omega, show (s.size : Int).toNat = s.size by omega, List.take_of_length_le (by omega)]
      have hc : cutB s c = some (toB (s.data.toList.take k), toB (s.data.toList.drop (k + 1))) := by
        unfold cutB
        rw [hsk, dropB_cons ht, e]
        simp [cutL]
      rw [hc]
      repeat' (first
       | ((with_reducible refine isD_un ?_); (first | refine awpD_un (as_ev (fun _ => ev_slice_str rfl rfl rfl rfl rfl (by omega) x1) rfl rfl) (by (try simp only [List.nil_append, List.cons_append]); (try rfl)) ?_ | refine awpD_un (as_ev (fun _ => ev_slice_str rfl rfl rfl rfl rfl (by omega) x2) rfl rfl) (by (try simp only [List.nil_append, List.cons_append]); (try rfl)) ?_))
       | ((with_reducible refine isD_gd ?_); (first | refine awpD_gd rfl rfl (by first | with_reducible rfl | with_reducible assumption) (as_ev (fun _ => ev_slice_str rfl rfl rfl rfl rfl (by omega) x1) rfl rfl) (by (try simp only [List.nil_append, List.cons_append]); (try rfl)) ?_ | refine awpD_gd rfl rfl (by first | with_reducible rfl | with_reducible assumption) (as_ev (fun _ => ev_slice_str rfl rfl rfl rfl rfl (by omega) x2) rfl rfl) (by (try simp only [List.nil_append, List.cons_append]); (try rfl)) ?_))
       | refine st [] ?_
       | ((with_reducible refine is_gd ?_); refine awpL_split rfl rfl (fun h => ?_) (fun h => ?_))
       | ((with_reducible refine isD_gd ?_); ((fail_if_success (refine isD_kn (c := true) rfl (by first | with_reducible rfl | with_reducible assumption) ?_)); (fail_if_success (refine isD_kn (c := false) rfl (by first | with_reducible rfl | with_reducible assumption) ?_)); refine awpD_split rfl (fun h => ?_) (fun h => ?_)))
       | ((with_reducible refine is_awp ?_); refine awp_cond rfl (fun h => ?_) (fun h => ?_))
       | fail)
      exact retP rfl rfl
    · have c2 : decide ((b.toNat : Int) = n) = false := decide_eq_false (fun q => e (UInt8.toNat_inj.1 (by omega)))
      repeat' (first
       | refine stn [] ?_
       | ((with_reducible refine is_gd ?_); refine awpL_split rfl rfl (fun h => ?_) (fun h => ?_))
       | ((with_reducible refine is_awp ?_); refine awp_cond rfl (fun h => ?_) (fun h => ?_))
       | fail)
      refine ⟨k + 1, ⟨(.cons rfl rfl (.cons rfl rfl (.cons rfl rfl .nil))), rfl, rfl, rfl⟩, ⟨by omega, fun j x hj hx => ?_⟩, by omega⟩
      rcases Nat.lt_or_ge j k with h | h
      · exact hf j x h hx
      · obtain rfl : j = k := by omega
        rw [ht] at hx
        rw [← Option.some.inj hx]
        exact e
theorem cutB_size {s x y : ByteArray} {c : UInt8} (h : cutB s c = some (x, y)) : x.size + y.size < s.size := by
  obtain ⟨h1, _⟩ := cutB_some h
  have := congrArg ByteArray.size h1
  rw [toB_size, List.length_append, List.length_cons, size_list, size_list] at this
  omega
abbrev pairR (p : Int × Int × Bool) : AV := .tup [vi p.1, vi p.2.1, vb p.2.2]
set_option maxHeartbeats 1000000 in
theorem pair_spec (hN : NumG g) (s : ByteArray) (hs : s.size ≤ 281474976710656) : PCalls Tryz.prog g 40 [.v (.string s)] (pairR (pairV s)) := by
  have hC := cut_spec (g := g) s 46 46 rfl hs
  have n1 : (!true) = false := rfl
  have n2 : (!false) = true := rfl
  refine pcalls' Tryz.func40 Tryz.ntmps40 rfl rfl rfl ?_
  unfold pairV
  cases hc : cutB s 46 with
  | none =>
    rw [cutV, hc] at hC
    simp only [Option.getD_none, Option.isSome_none] at hC
    repeat' (first
     | refine stn [] ?_
     | ((with_reducible refine is_gd ?_); refine awpL_split rfl rfl (fun h => ?_) (fun h => ?_))
     | ((with_reducible refine is_awp ?_); refine awp_cond rfl (fun h => ?_) (fun h => ?_))
     | fail)
    exact retP rfl rfl
  | some p =>
    obtain ⟨x, y⟩ := p
    have hsz := cutB_size hc
    rw [cutV, hc] at hC
    simp only [Option.getD_some, Option.isSome_some] at hC
    have hx := NParse_spec hN x (by omega)
    have hy := NParse_spec hN y (by omega)
    rw [parseV] at hx hy
    simp only
    cases hp : (numP x).isSome with
    | true =>
      rw [hp] at hx
      repeat' (first
       | refine stn [] ?_
       | ((with_reducible refine is_gd ?_); refine awpL_split rfl rfl (fun h => ?_) (fun h => ?_))
       | ((with_reducible refine is_awp ?_); refine awp_cond rfl (fun h => ?_) (fun h => ?_))
       | fail)
      exact retP rfl rfl
    | false =>
      rw [hp] at hx
      repeat' (first
       | refine stn [] ?_
       | ((with_reducible refine is_gd ?_); refine awpL_split rfl rfl (fun h => ?_) (fun h => ?_))
       | ((with_reducible refine is_awp ?_); refine awp_cond rfl (fun h => ?_) (fun h => ?_))
       | fail)
      exact retP rfl rfl
abbrev citeV (o : Option Cite) : AV := .tup [.agg (citeC (o.getD zeroCite)), vi (if o.isSome then 0 else 3)]
theorem cut_nil : pairV .empty = (0, 0, false) := by unfold pairV; rw [show cutB .empty 46 = none from rfl]
set_option maxHeartbeats 1000000 in
theorem CParse_spec (hN : NumG g) (s : ByteArray) (hs : s.size ≤ 281474976710656) : PCalls Tryz.prog g 15 [.v (.string s)] (citeV (citeP s)) := by
  have hC := cut_spec (g := g) s 64 64 rfl (by omega)
  have n1 : (!true) = false := rfl
  have n2 : (!false) = true := rfl
  refine pcalls' Tryz.func15 Tryz.ntmps15 rfl rfl rfl ?_
  unfold citeP
  cases hc : cutB s 64 with
  | none =>
    rw [cutV, hc] at hC
    simp only [Option.getD_none, Option.isSome_none] at hC
    have hx := pair_spec hN s (by first | exact hs | decide)
    have hy := pair_spec hN ByteArray.empty (by decide)
    rw [cut_nil] at hy
    generalize pairV s = q at *
    obtain ⟨q1, q2, q3⟩ := q
    repeat' (first
     | refine stn [2] ?_
     | ((with_reducible refine is_gd ?_); refine awpL_split rfl rfl (fun h => ?_) (fun h => ?_))
     | ((with_reducible refine is_awp ?_); refine awp_cond rfl (fun h => ?_) (fun h => ?_))
     | fail)
    refine retP rfl ?_
    rfl
  | some p =>
    obtain ⟨x, y⟩ := p
    have hsz := cutB_size hc
    rw [cutV, hc] at hC
    simp only [Option.getD_some, Option.isSome_some] at hC
    have hx := pair_spec hN x (by omega)
    have hy := pair_spec hN y (by omega)
    simp only
    generalize pairV x = q at *
    generalize pairV y = r at *
    obtain ⟨q1, q2, q3⟩ := q
    obtain ⟨r1, r2, r3⟩ := r
    cases q3 <;> cases r3
    all_goals
      repeat' (first
       | refine stn [2] ?_
       | ((with_reducible refine is_gd ?_); refine awpL_split rfl rfl (fun h => ?_) (fun h => ?_))
       | ((with_reducible refine is_awp ?_); refine awp_cond rfl (fun h => ?_) (fun h => ?_))
       | fail)
      refine retP rfl ?_
      rfl
theorem printB_cat (c : Cite) : ((((((numT c.rec_ ++ ⟨#[46]⟩) ++ numT c.note) ++ ⟨#[64]⟩) ++ numT c.at_.count) ++ ⟨#[46]⟩) ++ numT c.at_.dev) = printB c := by
  have e46 : (⟨#[46]⟩ : ByteArray) = toB [46] := rfl
  have e64 : (⟨#[64]⟩ : ByteArray) = toB [64] := rfl
  rw [e46, e64]
  simp only [numT_toB, toB_cat]
  unfold printB citeT pairT
  simp
theorem NText_GL (hN : NumG g) (n : Int) (h : I6 n) : PCalls Tryz.prog g 37 [vi n] (.v (.string (numT n))) := NText_spec hN n h
set_option maxHeartbeats 2000000 in
theorem CPrint_spec (hN : NumG g) (c : Cite) (hc : CiteI c) : PCalls Tryz.prog g 13 [.agg (citeC c)] (.v (.string (printB c))) := by
  obtain ⟨i1, i2, i3, i4⟩ := hc
  have h1 := NText_GL hN c.rec_ i1
  have h2 := NText_GL hN c.note i2
  have h3 := NText_GL hN c.at_.count i3
  have h4 := NText_GL hN c.at_.dev i4
  have l1 := (numT_len _ i1).2
  have l2 := (numT_len _ i2).2
  have l3 := (numT_len _ i3).2
  have l4 := (numT_len _ i4).2
  have z1 : (⟨#[46]⟩ : ByteArray).size = 1 := rfl
  have z2 : (⟨#[64]⟩ : ByteArray).size = 1 := rfl
  have hE := printB_cat c
  refine pcalls' Tryz.func13 Tryz.ntmps13 rfl rfl rfl ?_
  rw [← hE]
  clear hE
  generalize numT c.rec_ = t1 at *
  generalize numT c.note = t2 at *
  generalize numT c.at_.count = t3 at *
  generalize numT c.at_.dev = t4 at *
  repeat' (first
   | ((with_reducible refine isD_un ?_); refine awpD_un (as_ev (fun _ => ev_cat rfl rfl (by (try simp only [ByteArray.size_append]); omega)) rfl rfl) (by (try simp only [List.nil_append, List.cons_append]); (try rfl)) ?_)
   | ((with_reducible refine isD_gd ?_); refine awpD_gd rfl rfl (by first | with_reducible rfl | with_reducible assumption) (as_ev (fun _ => ev_cat rfl rfl (by (try simp only [ByteArray.size_append]); omega)) rfl rfl) (by (try simp only [List.nil_append, List.cons_append]); (try rfl)) ?_)
   | refine st [] ?_
   | ((with_reducible refine is_gd ?_); refine awpL_split rfl rfl (fun h => ?_) (fun h => ?_))
   | ((with_reducible refine isD_gd ?_); ((fail_if_success (refine isD_kn (c := true) rfl (by first | with_reducible rfl | with_reducible assumption) ?_)); (fail_if_success (refine isD_kn (c := false) rfl (by first | with_reducible rfl | with_reducible assumption) ?_)); refine awpD_split rfl (fun h => ?_) (fun h => ?_)))
   | ((with_reducible refine is_awp ?_); refine awp_cond rfl (fun h => ?_) (fun h => ?_))
   | fail)
  exact retP rfl rfl
end Go.Proofs.YtnacjdaoiepbhaaGreatDoor
end
section
namespace Go.Proofs.YtnacjdaoiepbhaaGreatDoor
open Go.Ac
attribute [local irreducible] awp awpL Ev Ev2 EvS thenQ blockQ retQ PCalls OCalls
variable {g : List (Nat × List AV)}
abbrev nextP (o : Option Stamp) : AV := .tup [.agg (stampC (o.getD ⟨0, 0⟩)), vb o.isSome]
set_option maxHeartbeats 1000000 in
theorem Next_spec (v : List Int) (dev : Int) (hv : v.length ≤ 1000000) : PCalls Tryz.prog g 98 [encIs v, vi dev] (nextP (nextS v dev)) := by
  have h0 := (topV_le v).1
  have hR := Right_spec (g := g) ⟨min (topV v) 1048576 + 1, dev⟩
  rw [next_right] at hR
  have n1 : (!true) = false := rfl
  have n2 : (!false) = true := rfl
  refine pcalls' Tryz.func98 Tryz.ntmps98 rfl rfl rfl ?_
  repeat' (first
   | refine stn [4] ?_
   | ((with_reducible refine is_gd ?_); refine awpL_split rfl rfl (fun h => ?_) (fun h => ?_))
   | ((with_reducible refine is_awp ?_); refine awp_cond rfl (fun h => ?_) (fun h => ?_))
   | fail)
  refine awp_for (α := Nat) 1 (fun k => [(0, encIs v), (1, vi dev), (4, .lp 0 0), (6, vi (topK v k)), (9, vi k)]) (fun _ => [.box [vi 0, vi 0]]) (fun k => k ≤ 15) (fun k => 15 - k) 0
    ⟨(.cons rfl rfl (.cons rfl rfl (.cons rfl rfl (.cons rfl rfl (.cons rfl rfl .nil))))), rfl, rfl, rfl⟩ (Nat.zero_le _) ?_
  rintro k hk
  by_cases hlt : k < 15
  · have c1 : decide ((k : Int) < 15) = true := decide_eq_true (by omega)
    have h1 := number_spec (g := g) v k hv
    have hT := topK_succ v k
    repeat' (first
     | refine stn [4] ?_
     | ((with_reducible refine is_gd ?_); refine awpL_split rfl rfl (fun h => ?_) (fun h => ?_))
     | ((with_reducible refine is_awp ?_); refine awp_cond rfl (fun h => ?_) (fun h => ?_))
     | fail)
    exact ⟨k + 1, by rw [hT]; exact ⟨(.cons rfl rfl (.cons rfl rfl (.cons rfl rfl (.cons rfl rfl (.cons rfl rfl .nil))))), rfl, rfl, rfl⟩, by omega, by omega⟩
  · have c1 : decide ((k : Int) < 15) = false := decide_eq_false (by omega)
    have hk15 : k = 15 := by omega
    subst hk15
    rw [topK_all]
    cases hs : (nextS v dev).isSome with
    | false =>
      rw [hs] at hR
      have hn : nextS v dev = none := by simpa using hs
      repeat' (first
       | refine stn [4] ?_
       | ((with_reducible refine is_gd ?_); refine awpL_split rfl rfl (fun h => ?_) (fun h => ?_))
       | ((with_reducible refine is_awp ?_); refine awp_cond rfl (fun h => ?_) (fun h => ?_))
       | fail)
      refine retP rfl ?_
      rw [nextP, hn]; rfl
    | true =>
      rw [hs] at hR
      have hn := next_get hs
      repeat' (first
       | refine stn [4] ?_
       | ((with_reducible refine is_gd ?_); refine awpL_split rfl rfl (fun h => ?_) (fun h => ?_))
       | ((with_reducible refine is_awp ?_); refine awp_cond rfl (fun h => ?_) (fun h => ?_))
       | fail)
      refine retP rfl ?_
      rw [nextP, hn]; rfl
end Go.Proofs.YtnacjdaoiepbhaaGreatDoor
end
section
namespace Go.Proofs.YtnacjdaoiepbhaaGreatDoor
open Go.Ac Go.MapKept
attribute [local irreducible] awp awpL Ev Ev2 EvS thenQ blockQ retQ PCalls OCalls YieldOk IterC ICalls
def addV (p : Replica × Int × Int) : AV := .tup [.agg (repC p.1), vi p.2.1, vi p.2.2]
abbrev addC (s : Stamp) (rc : Int) (n : Note) : List AV := [vi s.count, vi s.dev, vi 0, vi rc, vi (idOf s), vi n.tier, vi n.parent, vi n.span.fro, vi n.span.til, vi n.rank, vs n.text, vi 0, vi 0, .v (.string .empty), nilS]
end Go.Proofs.YtnacjdaoiepbhaaGreatDoor
end
section
namespace Go.Proofs.YtnacjdaoiepbhaaGreatDoor
open Go.Ac Go.MapKept
attribute [local irreducible] awp awpL Ev Ev2 EvS thenQ blockQ retQ PCalls OCalls YieldOk IterC
variable {g : List (Nat × List AV)}
def FitO (l : List Op) : Prop := l.length ≤ 10000 ∧ ∀ o ∈ l, o.over.length ≤ 100000
end Go.Proofs.YtnacjdaoiepbhaaGreatDoor
end
section
namespace Go.Proofs.YtnacjdaoiepbhaaGreatDoor
open Go.Ac Go.MapKept
attribute [local irreducible] awp awpL Ev Ev2 EvS thenQ blockQ retQ PCalls OCalls YieldOk IterC
variable {g : List (Nat × List AV)}
theorem lives_cell {l : List Op} {note : Int} (h : lives l note = true) : ∃ a, addedO l note = some a ∧ cell l note = some (cellOf l note a) := by
  have := cell_lives (l := l) (note := note)
  rw [h] at this
  obtain ⟨c, hc⟩ := Option.isSome_iff_exists.1 this
  obtain ⟨a, h1, h2, _⟩ := cell_inv hc
  exact ⟨a, h1, by rw [hc, h2]⟩
theorem lives_cellN {l : List Op} {note : Int} (h : lives l note = false) : cell l note = none := by
  have := cell_lives (l := l) (note := note)
  rw [h] at this
  simpa using this
end Go.Proofs.YtnacjdaoiepbhaaGreatDoor
end
