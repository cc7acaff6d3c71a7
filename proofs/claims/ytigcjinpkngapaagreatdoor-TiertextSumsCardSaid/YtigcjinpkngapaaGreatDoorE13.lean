/- A logic of trees over the model's steps, and the contracts of the functions that the laws reach: part 13 of 18. -/
import Derived.Test.YtigcjinpkngapaaGreatDoorE12
import Derived.MapKept
set_option linter.unusedVariables false
set_option linter.unusedSimpArgs false
set_option linter.unusedSectionVars false
section
namespace Go.Proofs.YtigcjinpkngapaaGreatDoor
open Go.Ac
attribute [local irreducible] awp awpL Ev Ev2 EvS thenQ blockQ retQ PCalls OCalls
variable {g : List (Nat × List AV)}
def hAnd (p q : Int) : Int := IntKind.u64.wrap (BitVec.ofInt IntKind.u64.bits p &&& BitVec.ofInt IntKind.u64.bits q).toNat
def hXor (p q : Int) : Int := IntKind.u64.wrap (BitVec.ofInt IntKind.u64.bits p ^^^ BitVec.ofInt IntKind.u64.bits q).toNat
def hMul (p q : Int) : Int := IntKind.u64.wrap (p * q)
def hCon (n : Int) : Int := IntKind.u64.wrap n
def hStep (h : Int) (c : UInt8) : Int := hAnd (hMul (hXor h (hCon c.toNat)) 1099511628211) 4611686018427387903
def hFrom (h : Int) (l : List UInt8) : Int := l.foldl hStep (hAnd (hCon h) 4611686018427387903)
def hMore (h : Int) (l : List UInt8) : Int := IntKind.i64.wrap (hFrom h l)
def hashL (l : List UInt8) : Int := hMore 860922984064492325 l
theorem hFrom_take {h : Int} {l : List UInt8} {k : Nat} {c : UInt8} (e : l[k]? = some c) : hFrom h (l.take (k + 1)) = hStep (hFrom h (l.take k)) c := by
  unfold hFrom
  rw [List.take_add_one, e]
  simp
set_option maxRecDepth 4000 in
set_option maxHeartbeats 2000000 in
theorem wMore_spec (h : Int) (s : ByteArray) (hb : s.size ≤ 90000000) : PCalls Tryz.prog g 82 [vi h, .fs 1 s.size (bytesA s)] (vi (hMore h (lst s))) := by
  have hlen : (lst s).length = s.size := size_list s
  refine pcalls' Tryz.func82 Tryz.ntmps82 rfl rfl rfl ?_
  repeat' (first
   | ((with_reducible refine is_un ?_); (first | refine awpL_ev (ev_conv_int (m := hCon h) rfl rfl rfl rfl rfl) rfl ?_ | refine awpL_ev (ev_andK (r := hAnd (hCon h) 4611686018427387903) rfl rfl rfl) rfl ?_))
   | refine stn [] ?_
   | ((with_reducible refine is_gd ?_); refine awpL_split rfl rfl (fun h => ?_) (fun h => ?_))
   | ((with_reducible refine is_awp ?_); refine awp_cond rfl (fun h => ?_) (fun h => ?_))
   | fail)
  refine awp_for (α := Nat) 0 (fun k => [(5, .v (.int .u64 (hFrom h ((lst s).take k)))), (11, .fs 1 s.size (bytesA s)), (12, vi s.size), (13, vi k)]) (fun _ => []) (fun k => k ≤ s.size) (fun k => s.size - k) 0
    ⟨(.cons rfl rfl (.cons rfl rfl (.cons rfl rfl (.cons rfl rfl .nil)))), rfl, rfl, rfl⟩ (Nat.zero_le _) ?_
  intro k hk
  cases ht : (lst s)[k]? with
  | none =>
    have hge : (lst s).length ≤ k := by simpa using ht
    have c1 : decide ((k : Int) < s.size) = false := decide_eq_false (by omega)
    rw [List.take_of_length_le hge]
    repeat' (first
     | ((with_reducible refine is_un ?_); refine awpL_ev (ev_conv_int (m := hMore h (lst s)) rfl rfl rfl rfl rfl) rfl ?_)
     | refine stn [] ?_
     | ((with_reducible refine is_gd ?_); refine awpL_split rfl rfl (fun h => ?_) (fun h => ?_))
     | ((with_reducible refine is_awp ?_); refine awp_cond rfl (fun h => ?_) (fun h => ?_))
     | fail)
    exact retP rfl rfl
  | some c =>
    have hlt : k < (lst s).length := (List.getElem?_eq_some_iff.1 ht).1
    have c1 : decide ((k : Int) < s.size) = true := decide_eq_true (by omega)
    have g1 := mbytesA_get ht
    have hs := hFrom_take (h := h) ht
    generalize hFrom h ((lst s).take k) = a at hs ⊢
    generalize hM : hFrom h ((lst s).take (k + 1)) = b at hs
    have hs : b = hAnd (hMul (hXor a (hCon c.toNat)) 1099511628211) 4611686018427387903 := hs
    subst hs
    repeat' (first
     | ((with_reducible refine is_un ?_); (first | refine awpL_ev (ev_conv_int (m := hCon c.toNat) rfl rfl rfl rfl rfl) rfl ?_ | refine awpL_ev (ev_xorK (r := hXor a (hCon c.toNat)) rfl rfl rfl) rfl ?_ | refine awpL_ev (ev_mulKW (r := hMul (hXor a (hCon c.toNat)) 1099511628211) rfl rfl rfl) rfl ?_ | refine awpL_ev (ev_andK (r := hAnd (hMul (hXor a (hCon c.toNat)) 1099511628211) 4611686018427387903) rfl rfl rfl) rfl ?_))
     | refine stn [] ?_
     | ((with_reducible refine is_gd ?_); refine awpL_split rfl rfl (fun h => ?_) (fun h => ?_))
     | ((with_reducible refine is_awp ?_); refine awp_cond rfl (fun h => ?_) (fun h => ?_))
     | fail)
    exact ⟨k + 1, by rw [hM]; exact ⟨(.cons rfl rfl (.cons rfl rfl (.cons rfl rfl (.cons rfl rfl .nil)))), rfl, rfl, rfl⟩, by omega, by omega⟩
set_option maxRecDepth 4000 in
set_option maxHeartbeats 2000000 in
theorem r5More_spec (h : Int) (s : ByteArray) (hb : s.size ≤ 90000000) : PCalls Tryz.prog g 83 [vi h, .fs 1 s.size (bytesA s)] (vi (hMore h (lst s))) := by
  have hlen : (lst s).length = s.size := size_list s
  refine pcalls' Tryz.func83 Tryz.ntmps83 rfl rfl rfl ?_
  repeat' (first
   | ((with_reducible refine is_un ?_); (first | refine awpL_ev (ev_conv_int (m := hCon h) rfl rfl rfl rfl rfl) rfl ?_ | refine awpL_ev (ev_andK (r := hAnd (hCon h) 4611686018427387903) rfl rfl rfl) rfl ?_))
   | refine stn [] ?_
   | ((with_reducible refine is_gd ?_); refine awpL_split rfl rfl (fun h => ?_) (fun h => ?_))
   | ((with_reducible refine is_awp ?_); refine awp_cond rfl (fun h => ?_) (fun h => ?_))
   | fail)
  refine awp_for (α := Nat) 0 (fun k => [(1, .fs 1 s.size (bytesA s)), (5, .v (.int .u64 (hFrom h ((lst s).take k)))), (6, vi k)]) (fun _ => []) (fun k => k ≤ s.size) (fun k => s.size - k) 0
    ⟨(.cons rfl rfl (.cons rfl rfl (.cons rfl rfl .nil))), rfl, rfl, rfl⟩ (Nat.zero_le _) ?_
  intro k hk
  cases ht : (lst s)[k]? with
  | none =>
    have hge : (lst s).length ≤ k := by simpa using ht
    have c1 : decide ((k : Int) < s.size) = false := decide_eq_false (by omega)
    rw [List.take_of_length_le hge]
    repeat' (first
     | ((with_reducible refine is_un ?_); refine awpL_ev (ev_conv_int (m := hMore h (lst s)) rfl rfl rfl rfl rfl) rfl ?_)
     | refine stn [] ?_
     | ((with_reducible refine is_gd ?_); refine awpL_split rfl rfl (fun h => ?_) (fun h => ?_))
     | ((with_reducible refine is_awp ?_); refine awp_cond rfl (fun h => ?_) (fun h => ?_))
     | fail)
    exact retP rfl rfl
  | some c =>
    have hlt : k < (lst s).length := (List.getElem?_eq_some_iff.1 ht).1
    have c1 : decide ((k : Int) < s.size) = true := decide_eq_true (by omega)
    have g1 := mbytesA_get ht
    have hs := hFrom_take (h := h) ht
    generalize hFrom h ((lst s).take k) = a at hs ⊢
    generalize hM : hFrom h ((lst s).take (k + 1)) = b at hs
    have hs : b = hAnd (hMul (hXor a (hCon c.toNat)) 1099511628211) 4611686018427387903 := hs
    subst hs
    repeat' (first
     | ((with_reducible refine is_un ?_); (first | refine awpL_ev (ev_conv_int (m := hCon c.toNat) rfl rfl rfl rfl rfl) rfl ?_ | refine awpL_ev (ev_xorK (r := hXor a (hCon c.toNat)) rfl rfl rfl) rfl ?_ | refine awpL_ev (ev_mulKW (r := hMul (hXor a (hCon c.toNat)) 1099511628211) rfl rfl rfl) rfl ?_ | refine awpL_ev (ev_andK (r := hAnd (hMul (hXor a (hCon c.toNat)) 1099511628211) 4611686018427387903) rfl rfl rfl) rfl ?_))
     | refine stn [] ?_
     | ((with_reducible refine is_gd ?_); refine awpL_split rfl rfl (fun h => ?_) (fun h => ?_))
     | ((with_reducible refine is_awp ?_); refine awp_cond rfl (fun h => ?_) (fun h => ?_))
     | fail)
    exact ⟨k + 1, by rw [hM]; exact ⟨(.cons rfl rfl (.cons rfl rfl (.cons rfl rfl .nil))), rfl, rfl, rfl⟩, by omega, by omega⟩
theorem wHash_spec (s : ByteArray) (hb : s.size ≤ 90000000) : PCalls Tryz.prog g 48 [.fs 1 s.size (bytesA s)] (vi (hashL (lst s))) := by
  have h := wMore_spec (g := g) 860922984064492325 s hb
  refine pcalls' Tryz.func48 Tryz.ntmps48 rfl rfl rfl ?_
  repeat' (first
   | refine stn [] ?_
   | ((with_reducible refine is_gd ?_); refine awpL_split rfl rfl (fun h => ?_) (fun h => ?_))
   | ((with_reducible refine is_awp ?_); refine awp_cond rfl (fun h => ?_) (fun h => ?_))
   | fail)
  exact retP rfl rfl
theorem r5Hash_spec (s : ByteArray) (hb : s.size ≤ 90000000) : PCalls Tryz.prog g 49 [.fs 1 s.size (bytesA s)] (vi (hashL (lst s))) := by
  have h := r5More_spec (g := g) 860922984064492325 s hb
  refine pcalls' Tryz.func49 Tryz.ntmps49 rfl rfl rfl ?_
  repeat' (first
   | refine stn [] ?_
   | ((with_reducible refine is_gd ?_); refine awpL_split rfl rfl (fun h => ?_) (fun h => ?_))
   | ((with_reducible refine is_awp ?_); refine awp_cond rfl (fun h => ?_) (fun h => ?_))
   | fail)
  exact retP rfl rfl
def sumD (d : Doc) : Int := if printE d = 0 then hashL (printD d) else 0
theorem printD_size {d : Doc} (hd : FitP d) (h : printE d = 0) : (toB (printD d)).size ≤ 90000000 := by
  have hl := docL_fit hd (docW hd h) (printE_zero h).2
  have := textW_len hl.2
  rw [toB_size]
  show (textW ((docL d).map lst)).length ≤ _
  have := hl.1
  omega
theorem wSum_spec (d : Doc) (hd : FitP d) (hP : PCalls Tryz.prog g 14 [.agg (docC d)] (printV d)) : PCalls Tryz.prog g 24 [.agg (docC d)] (vi (sumD d)) := by
  unfold sumD
  refine pcalls' Tryz.func24 Tryz.ntmps24 rfl rfl rfl ?_
  by_cases he : printE d = 0
  · rw [show printV d = .tup [.v (.string (toB (printD d))), vi (printE d)] by unfold printV; rw [if_pos he], he] at hP
    rw [if_pos he]
    have hH := wHash_spec (g := g) (toB (printD d)) (printD_size hd he)
    rw [show lst (toB (printD d)) = printD d from toB_list _] at hH
    generalize toB (printD d) = out at *
    have c0 : (!decide ((0 : Int) = 0)) = false := rfl
    repeat' (first
     | ((with_reducible refine is_un ?_); refine awpL_ev2 (ev_stb rfl rfl rfl rfl rfl rfl rfl) rfl ?_)
     | refine stn [] ?_
     | ((with_reducible refine is_gd ?_); refine awpL_split rfl rfl (fun h => ?_) (fun h => ?_))
     | ((with_reducible refine is_awp ?_); refine awp_cond rfl (fun h => ?_) (fun h => ?_))
     | fail)
    exact retP rfl rfl
  · rw [show printV d = .tup [.v (.string ⟨#[]⟩), vi (printE d)] by unfold printV; rw [if_neg he]] at hP
    rw [if_neg he]
    have c0 : (!decide (printE d = 0)) = true := by rw [decide_eq_false he]; rfl
    repeat' (first
     | refine stn [] ?_
     | ((with_reducible refine is_gd ?_); refine awpL_split rfl rfl (fun h => ?_) (fun h => ?_))
     | ((with_reducible refine is_awp ?_); refine awp_cond rfl (fun h => ?_) (fun h => ?_))
     | fail)
    exact retP rfl rfl
theorem r15Sum_spec (d : Doc) (hd : FitP d) (hP : PCalls Tryz.prog g 16 [.agg (docC d)] (printV d)) : PCalls Tryz.prog g 25 [.agg (docC d)] (vi (sumD d)) := by
  unfold sumD
  refine pcalls' Tryz.func25 Tryz.ntmps25 rfl rfl rfl ?_
  by_cases he : printE d = 0
  · rw [show printV d = .tup [.v (.string (toB (printD d))), vi (printE d)] by unfold printV; rw [if_pos he], he] at hP
    rw [if_pos he]
    have hH := r5Hash_spec (g := g) (toB (printD d)) (printD_size hd he)
    rw [show lst (toB (printD d)) = printD d from toB_list _] at hH
    generalize toB (printD d) = out at *
    have c0 : (!decide ((0 : Int) = 0)) = false := rfl
    repeat' (first
     | ((with_reducible refine is_un ?_); refine awpL_ev2 (ev_stb rfl rfl rfl rfl rfl rfl rfl) rfl ?_)
     | refine stn [] ?_
     | ((with_reducible refine is_gd ?_); refine awpL_split rfl rfl (fun h => ?_) (fun h => ?_))
     | ((with_reducible refine is_awp ?_); refine awp_cond rfl (fun h => ?_) (fun h => ?_))
     | fail)
    exact retP rfl rfl
  · rw [show printV d = .tup [.v (.string ⟨#[]⟩), vi (printE d)] by unfold printV; rw [if_neg he]] at hP
    rw [if_neg he]
    have c0 : (!decide (printE d = 0)) = true := by rw [decide_eq_false he]; rfl
    repeat' (first
     | refine stn [] ?_
     | ((with_reducible refine is_gd ?_); refine awpL_split rfl rfl (fun h => ?_) (fun h => ?_))
     | ((with_reducible refine is_awp ?_); refine awp_cond rfl (fun h => ?_) (fun h => ?_))
     | fail)
    exact retP rfl rfl
end Go.Proofs.YtigcjinpkngapaaGreatDoor
end
section
namespace Go.Proofs.YtigcjinpkngapaaGreatDoor
open Go.Ac
attribute [local irreducible] awp awpL Ev Ev2 EvS thenQ blockQ retQ PCalls OCalls
variable {g : List (Nat × List AV)}
def someD (d : Doc) : Bool := decide ((d.notes.length : Int) ≤ 100) && (decide ((d.tiers.length : Int) ≤ 20) && decide ((d.rec_.speakers.length : Int) ≤ 100))
theorem some_spec (d : Doc) : PCalls Tryz.prog g 12 [.agg (docC d)] (vb (someD d)) := by
  refine pcalls' Tryz.func12 Tryz.ntmps12 rfl rfl rfl ?_
  unfold someD
  cases c1 : decide ((d.notes.length : Int) ≤ 100) <;> cases c2 : decide ((d.tiers.length : Int) ≤ 20)
  all_goals
    repeat' (first
     | refine stn [] ?_
     | ((with_reducible refine is_gd ?_); refine awpL_split rfl rfl (fun h => ?_) (fun h => ?_))
     | ((with_reducible refine is_awp ?_); refine awp_cond rfl (fun h => ?_) (fun h => ?_))
     | fail)
    exact retP rfl rfl
theorem someD_fit {d : Doc} (h : someD d = true) : d.notes.length ≤ 100 ∧ d.tiers.length ≤ 20 ∧ d.rec_.speakers.length ≤ 100 := by
  simp only [someD, Bool.and_eq_true, decide_eq_true_eq] at h
  omega
theorem someD_ln {d : Doc} (h : someD d = true) : d.notes.length ≤ 100000 := by have := someD_fit h; omega
theorem someD_lt {d : Doc} (h : someD d = true) : d.tiers.length ≤ 100000 := by have := someD_fit h; omega
theorem someD_ls {d : Doc} (h : someD d = true) : d.rec_.speakers.length ≤ 100000 := by have := someD_fit h; omega
def sampleD : Doc := ⟨⟨3, ⟨#[116, 97, 112, 101]⟩, 900, 5, [1, 4]⟩, [⟨⟨#[116, 101, 120, 116]⟩, 0, 1, -1⟩], [⟨7, 0, 0, ⟨0, 400⟩, 0, ⟨#[98, 97, 32, 109, 105]⟩⟩, ⟨9, 0, 0, ⟨400, 900⟩, 0, .empty⟩]⟩
set_option maxRecDepth 4000 in
set_option maxHeartbeats 2000000 in
theorem sampleT_spec : PCalls Tryz.prog g 27 [] (.agg (docC sampleD)) := by
  refine pcalls' Tryz.func27 Tryz.ntmps27 rfl rfl rfl ?_
  repeat' (first
   | refine stn [0] ?_
   | ((with_reducible refine is_gd ?_); refine awpL_split rfl rfl (fun h => ?_) (fun h => ?_))
   | ((with_reducible refine is_awp ?_); refine awp_cond rfl (fun h => ?_) (fun h => ?_))
   | fail)
  exact retP rfl rfl
end Go.Proofs.YtigcjinpkngapaaGreatDoor
end
section
namespace Go.Proofs.YtigcjinpkngapaaGreatDoor
open Go.Ac
attribute [local irreducible] awp awpL Ev Ev2 EvS thenQ blockQ retQ PCalls OCalls
variable {g : List (Nat × List AV)}
end Go.Proofs.YtigcjinpkngapaaGreatDoor
end
section
namespace Go.Proofs.YtigcjinpkngapaaGreatDoor
open Go.Ac
attribute [local irreducible] awp awpL Ev Ev2 EvS thenQ blockQ retQ PCalls OCalls
variable {g : List (Nat × List AV)}
structure FitI (d : Doc) : Prop where
  r1 : InI d.rec_.id
  r2 : InI d.rec_.length
  r3 : InI d.rec_.day
  r4 : ∀ n ∈ d.rec_.speakers, InI n
  t : ∀ t ∈ d.tiers, InTier t
  n : ∀ n ∈ d.notes, InNote n
  rs : d.rec_.name.size ≤ 9223372036854775807
  ts : ∀ t ∈ d.tiers, t.name.size ≤ 9223372036854775807
theorem FitI.fit {d : Doc} (h : FitI d) (hs : someD d = true) : FitP d := by
  obtain ⟨a, b, c⟩ := someD_fit hs
  exact ⟨⟨h.r1, h.r2, h.r3, by omega, h.r4⟩, h.t, h.n, by omega, fun hr => line_size (recW_words ⟨h.r1, h.r2, h.r3, by omega, h.r4⟩ (by omega) (recOk_name hr)) (by simp [recW]; omega), by omega, by omega, h.rs, h.ts⟩
set_option maxRecDepth 4000 in
set_option maxHeartbeats 2000000 in
theorem lawPrintsT (hN : NumG g) (d : Doc) (hd : FitI d) (hC : someD d = true → PCalls Tryz.prog g 20 [.agg (docC d)] (vi (docE d))) (hAw : PCalls Tryz.prog g 13 [] (vb true)) : PCalls Tryz.prog g 3 [.agg (docC d)] (vb true) := by
  have hS := some_spec (g := g) d
  have n1 : (!true) = false := rfl
  have n2 : (!false) = true := rfl
  have zT : decide True = true := rfl
  have zF : decide False = false := rfl
  have zNT : (!decide True) = false := rfl
  have zNF : (!decide False) = true := rfl
  have z1 : (true == true) = true := rfl
  have z2 : (false == false) = true := rfl
  have z3 : decide (true = true) = true := rfl
  have z4 : decide (false = false) = true := rfl
  have z5 : (decide True == true) = true := rfl
  have z6 : (decide False == false) = true := rfl
  refine pcalls' Tryz.func3 Tryz.ntmps3 rfl rfl rfl ?_
  cases hs : someD d with
  | false =>
    rw [hs] at hS
    repeat' (first
     | refine stn [] ?_
     | ((with_reducible refine is_gd ?_); refine awpL_split rfl rfl (fun h => ?_) (fun h => ?_))
     | ((with_reducible refine is_awp ?_); refine awp_cond rfl (fun h => ?_) (fun h => ?_))
     | fail)
    exact retP rfl rfl
  | true =>
    rw [hs] at hS
    have hp := hd.fit hs
    have h1 := wPrint_spec hN d hp (hC hs)
    have h2 := r15Print_spec (g := g) d hp (any_cov d (by have := hp.ln; omega))
    have hCo := rCopyD_spec (g := g) d (someD_ln hs) (someD_lt hs) (someD_ls hs)
    unfold printV at h1 h2
    generalize (if printE d = 0 then toB (printD d) else ⟨#[]⟩) = out at h1 h2
    generalize printE d = e at h1 h2
    have c1 : decide (out = out) = true := by simp
    have c2 : decide (e = e) = true := by simp
    repeat' (first
     | refine stn [] ?_
     | ((with_reducible refine is_gd ?_); refine awpL_split rfl rfl (fun h => ?_) (fun h => ?_))
     | ((with_reducible refine is_awp ?_); refine awp_cond rfl (fun h => ?_) (fun h => ?_))
     | fail)
    exact retP rfl rfl
set_option maxRecDepth 4000 in
set_option maxHeartbeats 2000000 in
theorem lawSumsT (hN : NumG g) (d : Doc) (hd : FitI d) (hC : someD d = true → PCalls Tryz.prog g 20 [.agg (docC d)] (vi (docE d))) (hAw : PCalls Tryz.prog g 13 [] (vb true)) : PCalls Tryz.prog g 9 [.agg (docC d)] (vb true) := by
  have hS := some_spec (g := g) d
  have n1 : (!true) = false := rfl
  have n2 : (!false) = true := rfl
  have zT : decide True = true := rfl
  have zF : decide False = false := rfl
  have zNT : (!decide True) = false := rfl
  have zNF : (!decide False) = true := rfl
  have z1 : (true == true) = true := rfl
  have z2 : (false == false) = true := rfl
  have z3 : decide (true = true) = true := rfl
  have z4 : decide (false = false) = true := rfl
  have z5 : (decide True == true) = true := rfl
  have z6 : (decide False == false) = true := rfl
  refine pcalls' Tryz.func9 Tryz.ntmps9 rfl rfl rfl ?_
  cases hs : someD d with
  | false =>
    rw [hs] at hS
    repeat' (first
     | refine st [] ?_
     | ((with_reducible refine is_gd ?_); refine awpL_split rfl rfl (fun h => ?_) (fun h => ?_))
     | ((with_reducible refine isD_gd ?_); ((fail_if_success (refine isD_kn (c := true) rfl qa0 ?_)); (fail_if_success (refine isD_kn (c := false) rfl qa0 ?_)); refine awpD_split rfl (fun h => ?_) (fun h => ?_)))
     | ((with_reducible refine is_awp ?_); refine awp_cond rfl (fun h => ?_) (fun h => ?_))
     | fail)
    exact retP rfl rfl
  | true =>
    rw [hs] at hS
    have hp := hd.fit hs
    have h1 := wSum_spec (g := g) d hp (wPrint_spec hN d hp (hC hs))
    have h2 := r15Sum_spec (g := g) d hp (r15Print_spec (g := g) d hp (any_cov d (by have := hp.ln; omega)))
    have hCo := rCopyD_spec (g := g) d (someD_ln hs) (someD_lt hs) (someD_ls hs)
    generalize sumD d = e at h1 h2
    have c2 : decide (e = e) = true := by simp
    repeat' (first
     | refine st [] ?_
     | ((with_reducible refine is_gd ?_); refine awpL_split rfl rfl (fun h => ?_) (fun h => ?_))
     | ((with_reducible refine isD_gd ?_); ((fail_if_success (refine isD_kn (c := true) rfl qa0 ?_)); (fail_if_success (refine isD_kn (c := false) rfl qa0 ?_)); refine awpD_split rfl (fun h => ?_) (fun h => ?_)))
     | ((with_reducible refine is_awp ?_); refine awp_cond rfl (fun h => ?_) (fun h => ?_))
     | fail)
    exact retP rfl rfl
end Go.Proofs.YtigcjinpkngapaaGreatDoor
end
section
namespace Go.Proofs.YtigcjinpkngapaaGreatDoor
open Go.Ac
attribute [local irreducible] awp awpL Ev Ev2 EvS thenQ blockQ retQ PCalls OCalls
variable {g : List (Nat × List AV)}
set_option maxRecDepth 4000 in
set_option maxHeartbeats 2000000 in
theorem r12Ints_spec (a b : List Int) (ha : a.length ≤ 1000000) (hb : b.length ≤ 1000000) : PCalls Tryz.prog g 42 [encIs a, encIs b] (vb (decide (a = b))) := by
  refine pcalls' Tryz.func42 Tryz.ntmps42 rfl rfl rfl ?_
  by_cases hl : a.length = b.length
  · have c0 : (!decide ((a.length : Int) = b.length)) = false := by rw [hl]; simp
    repeat' (first
     | refine stn [] ?_
     | ((with_reducible refine is_gd ?_); refine awpL_split rfl rfl (fun h => ?_) (fun h => ?_))
     | ((with_reducible refine is_awp ?_); refine awp_cond rfl (fun h => ?_) (fun h => ?_))
     | fail)
    refine awp_for (α := Nat) 0 (fun k => [(0, encIs a), (1, encIs b), (5, vi k)]) (fun _ => []) (fun k => k ≤ a.length ∧ a.take k = b.take k) (fun k => a.length - k) 0
      ⟨(.cons rfl rfl (.cons rfl rfl (.cons rfl rfl .nil))), rfl, rfl, rfl⟩ ⟨Nat.zero_le _, by simp⟩ ?_
    rintro k ⟨hk, hf⟩
    cases ht : a[k]? with
    | none =>
      have hge : a.length ≤ k := by simpa using ht
      have c1 : decide ((k : Int) < a.length) = false := decide_eq_false (by omega)
      rw [List.take_of_length_le hge, List.take_of_length_le (by omega)] at hf
      rw [decide_eq_true hf]
      repeat' (first
       | refine stn [] ?_
       | ((with_reducible refine is_gd ?_); refine awpL_split rfl rfl (fun h => ?_) (fun h => ?_))
       | ((with_reducible refine is_awp ?_); refine awp_cond rfl (fun h => ?_) (fun h => ?_))
       | fail)
      exact retP rfl rfl
    | some n =>
      have hlt : k < a.length := (List.getElem?_eq_some_iff.1 ht).1
      have c1 : decide ((k : Int) < a.length) = true := decide_eq_true (by omega)
      obtain ⟨m, hm⟩ : ∃ m, b[k]? = some m := ⟨_, List.getElem?_eq_getElem (by omega)⟩
      have ik : 0 ≤ (k : Int) ∧ (a.map intC)[(k : Int).toNat]? = some (intC n) := ⟨by omega, by simp [ht]⟩
      have im : 0 ≤ (k : Int) ∧ (b.map intC)[(k : Int).toNat]? = some (intC m) := ⟨by omega, by simp [hm]⟩
      by_cases e : n = m
      · have c2 : (!decide (n = m)) = false := by rw [decide_eq_true e]; rfl
        repeat' (first
         | refine st [] ?_
         | ((with_reducible refine is_gd ?_); refine awpL_split rfl rfl (fun h => ?_) (fun h => ?_))
         | ((with_reducible refine isD_gd ?_); ((fail_if_success (refine isD_kn (c := true) rfl qa0 ?_)); (fail_if_success (refine isD_kn (c := false) rfl qa0 ?_)); refine awpD_split rfl (fun h => ?_) (fun h => ?_)))
         | ((with_reducible refine is_awp ?_); refine awp_cond rfl (fun h => ?_) (fun h => ?_))
         | fail)
        refine ⟨k + 1, ⟨(.cons rfl rfl (.cons rfl rfl (.cons rfl rfl .nil))), rfl, rfl, rfl⟩, ⟨by omega, ?_⟩, by omega⟩
        rw [List.take_add_one, List.take_add_one, hf, ht, hm, e]
      · have c2 : (!decide (n = m)) = true := by rw [decide_eq_false e]; rfl
        have hne : a ≠ b := fun q => by rw [q, hm] at ht; exact e (Option.some.inj ht).symm
        rw [decide_eq_false hne]
        repeat' (first
         | refine st [] ?_
         | ((with_reducible refine is_gd ?_); refine awpL_split rfl rfl (fun h => ?_) (fun h => ?_))
         | ((with_reducible refine isD_gd ?_); ((fail_if_success (refine isD_kn (c := true) rfl qa0 ?_)); (fail_if_success (refine isD_kn (c := false) rfl qa0 ?_)); refine awpD_split rfl (fun h => ?_) (fun h => ?_)))
         | ((with_reducible refine is_awp ?_); refine awp_cond rfl (fun h => ?_) (fun h => ?_))
         | fail)
        exact retP rfl rfl
  · have c0 : (!decide ((a.length : Int) = b.length)) = true := by
      rw [decide_eq_false (by omega)]; rfl
    have hne : a ≠ b := fun q => hl (by rw [q])
    rw [decide_eq_false hne]
    repeat' (first
     | refine stn [] ?_
     | ((with_reducible refine is_gd ?_); refine awpL_split rfl rfl (fun h => ?_) (fun h => ?_))
     | ((with_reducible refine is_awp ?_); refine awp_cond rfl (fun h => ?_) (fun h => ?_))
     | fail)
    exact retP rfl rfl
end Go.Proofs.YtigcjinpkngapaaGreatDoor
end
section
namespace Go.Proofs.YtigcjinpkngapaaGreatDoor
open Go.Ac
attribute [local irreducible] awp awpL Ev Ev2 EvS thenQ blockQ retQ PCalls OCalls
variable {g : List (Nat × List AV)}
def tierEqV : List Value → List Value → Option Bool
  | [.string s, .int .i64 a, .int .i64 b, .int .i64 c], [.string s', .int .i64 a', .int .i64 b', .int .i64 c'] => some (s.toList == s'.toList && (a == a' && (b == b' && c == c')))
  | _, _ => none
theorem tierEqV_T : EqT Tryz.prog 51 tierEqV := by
  intro xs ys b w h
  unfold tierEqV at h
  split at h
  · rename_i s a b c s' a' b' c'
    have h := Option.some.inj h
    subst h
    have u3 := Tryz.underlying3
    have a3 := Tryz.isAgg3
    have z3 := Tryz.sizeOf3
    have u9 := Tryz.underlying9
    have a9 := Tryz.isAgg9
    have z9 := Tryz.sizeOf9
    have hS : Tryz.prog.underlying 51 = some (.struct (Tryz.prog.fieldsOf 51)) := by kernel_rfl
    rw [show (10000 : Nat) = 9999 + 1 from rfl, run_equalIn_agg w 9999 _ _ _ hS (by kernel_rfl)]
    simp only [Program.fieldsOf, Tryz.underlying51]
    go_simp
    by_cases h1 : a = a' <;> by_cases h2 : b = b' <;> by_cases h3 : c = c' <;> by_cases h7 : s.toList = s'.toList <;> simp [h1, h2, h3, h7]
  · cases h
end Go.Proofs.YtigcjinpkngapaaGreatDoor
end
section
namespace Go.Proofs.YtigcjinpkngapaaGreatDoor
open Go.Ac
attribute [local irreducible] awp awpL Ev Ev2 EvS thenQ blockQ retQ PCalls OCalls
variable {g : List (Nat × List AV)}
set_option maxHeartbeats 400000 in
theorem wFind_spec (l : List Tier) (name : ByteArray) (hl : l.length ≤ 1000000) : PCalls Tryz.prog g 103 [encTiers l, vs name] (vi (findT l name)) := by
  refine pcalls' Tryz.func103 Tryz.ntmps103 rfl rfl rfl ?_
  repeat' (first
   | refine stn [] ?_
   | ((with_reducible refine is_gd ?_); refine awpL_split rfl rfl (fun h => ?_) (fun h => ?_))
   | ((with_reducible refine is_awp ?_); refine awp_cond rfl (fun h => ?_) (fun h => ?_))
   | fail)
  refine awp_for (α := Nat) 0 (fun k => [(7, encTiers l), (8, vi l.length), (9, vi k), (1, vs name)]) (fun _ => []) (fun k => k ≤ l.length ∧ findT l name = findTF name k (l.drop k)) (fun k => l.length - k) 0
    ⟨(.cons rfl rfl (.cons rfl rfl (.cons rfl rfl (.cons rfl rfl .nil)))), rfl, rfl, rfl⟩ ⟨Nat.zero_le _, rfl⟩ ?_
  rintro k ⟨hk, hf⟩
  cases ht : l[k]? with
  | none =>
    have hge : l.length ≤ k := by simpa using ht
    have c1 : decide ((k : Int) < l.length) = false := decide_eq_false (by omega)
    rw [List.drop_of_length_le hge] at hf
    rw [hf]
    repeat' (first
     | refine stn [] ?_
     | ((with_reducible refine is_gd ?_); refine awpL_split rfl rfl (fun h => ?_) (fun h => ?_))
     | ((with_reducible refine is_awp ?_); refine awp_cond rfl (fun h => ?_) (fun h => ?_))
     | fail)
    exact retP rfl rfl
  | some t =>
    have hlt : k < l.length := (List.getElem?_eq_some_iff.1 ht).1
    have c1 : decide ((k : Int) < l.length) = true := decide_eq_true (by omega)
    have h1 := tierC_get ht
    have hd := findTF_drop name l k t ht
    by_cases e : t.name = name
    · have c2 : decide (t.name = name) = true := decide_eq_true e
      rw [hf, hd, if_pos e]
      repeat' (first
       | refine stn [] ?_
       | ((with_reducible refine is_gd ?_); refine awpL_split rfl rfl (fun h => ?_) (fun h => ?_))
       | ((with_reducible refine is_awp ?_); refine awp_cond rfl (fun h => ?_) (fun h => ?_))
       | fail)
      exact retP rfl rfl
    · have c2 : decide (t.name = name) = false := decide_eq_false e
      rw [if_neg e] at hd
      repeat' (first
       | refine stn [] ?_
       | ((with_reducible refine is_gd ?_); refine awpL_split rfl rfl (fun h => ?_) (fun h => ?_))
       | ((with_reducible refine is_awp ?_); refine awp_cond rfl (fun h => ?_) (fun h => ?_))
       | fail)
      exact ⟨k + 1, ⟨(.cons rfl rfl (.cons rfl rfl (.cons rfl rfl (.cons rfl rfl .nil)))), rfl, rfl, rfl⟩, ⟨by omega, by rw [hf, hd]⟩, by omega⟩
set_option maxHeartbeats 400000 in
theorem wRole_spec (l : List Tier) (role : Int) (hl : l.length ≤ 1000000) : PCalls Tryz.prog g 104 [encTiers l, vi role] (vi (roleT l role)) := by
  refine pcalls' Tryz.func104 Tryz.ntmps104 rfl rfl rfl ?_
  repeat' (first
   | refine stn [] ?_
   | ((with_reducible refine is_gd ?_); refine awpL_split rfl rfl (fun h => ?_) (fun h => ?_))
   | ((with_reducible refine is_awp ?_); refine awp_cond rfl (fun h => ?_) (fun h => ?_))
   | fail)
  refine awp_for (α := Nat) 0 (fun k => [(7, encTiers l), (8, vi l.length), (9, vi k), (1, vi role)]) (fun _ => []) (fun k => k ≤ l.length ∧ roleT l role = roleTF role k (l.drop k)) (fun k => l.length - k) 0
    ⟨(.cons rfl rfl (.cons rfl rfl (.cons rfl rfl (.cons rfl rfl .nil)))), rfl, rfl, rfl⟩ ⟨Nat.zero_le _, rfl⟩ ?_
  rintro k ⟨hk, hf⟩
  cases ht : l[k]? with
  | none =>
    have hge : l.length ≤ k := by simpa using ht
    have c1 : decide ((k : Int) < l.length) = false := decide_eq_false (by omega)
    rw [List.drop_of_length_le hge] at hf
    rw [hf]
    repeat' (first
     | refine stn [] ?_
     | ((with_reducible refine is_gd ?_); refine awpL_split rfl rfl (fun h => ?_) (fun h => ?_))
     | ((with_reducible refine is_awp ?_); refine awp_cond rfl (fun h => ?_) (fun h => ?_))
     | fail)
    exact retP rfl rfl
  | some t =>
    have hlt : k < l.length := (List.getElem?_eq_some_iff.1 ht).1
    have c1 : decide ((k : Int) < l.length) = true := decide_eq_true (by omega)
    have h1 := tierC_get ht
    have hd := roleTF_drop role l k t ht
    by_cases e0 : role = 0
    · have c2 : (!decide (role = 0)) = false := by rw [decide_eq_true e0]; rfl
      rw [if_neg (by simp [e0])] at hd
      repeat' (first
       | refine stn [] ?_
       | ((with_reducible refine is_gd ?_); refine awpL_split rfl rfl (fun h => ?_) (fun h => ?_))
       | ((with_reducible refine is_awp ?_); refine awp_cond rfl (fun h => ?_) (fun h => ?_))
       | fail)
      exact ⟨k + 1, ⟨(.cons rfl rfl (.cons rfl rfl (.cons rfl rfl (.cons rfl rfl .nil)))), rfl, rfl, rfl⟩, ⟨by omega, by rw [hf, hd]⟩, by omega⟩
    have c2 : (!decide (role = 0)) = true := by rw [decide_eq_false e0]; rfl
    by_cases e : t.role = role
    · have c3 : decide (t.role = role) = true := decide_eq_true e
      rw [hf, hd, if_pos ⟨e0, e⟩]
      repeat' (first
       | refine stn [] ?_
       | ((with_reducible refine is_gd ?_); refine awpL_split rfl rfl (fun h => ?_) (fun h => ?_))
       | ((with_reducible refine is_awp ?_); refine awp_cond rfl (fun h => ?_) (fun h => ?_))
       | fail)
      exact retP rfl rfl
    · have c3 : decide (t.role = role) = false := decide_eq_false e
      rw [if_neg (fun h => e h.2)] at hd
      repeat' (first
       | refine stn [] ?_
       | ((with_reducible refine is_gd ?_); refine awpL_split rfl rfl (fun h => ?_) (fun h => ?_))
       | ((with_reducible refine is_awp ?_); refine awp_cond rfl (fun h => ?_) (fun h => ?_))
       | fail)
      exact ⟨k + 1, ⟨(.cons rfl rfl (.cons rfl rfl (.cons rfl rfl (.cons rfl rfl .nil)))), rfl, rfl, rfl⟩, ⟨by omega, by rw [hf, hd]⟩, by omega⟩
set_option maxHeartbeats 1000000 in
theorem wRoles_spec (p t : Tier) : PCalls Tryz.prog g 105 [.agg (tierC p), .agg (tierC t)] (vi (rolesE p.role t)) := by
  refine pcalls' Tryz.func105 Tryz.ntmps105 rfl rfl rfl ?_
  repeat' (first
   | refine st [] ?_
   | ((with_reducible refine is_gd ?_); refine awpL_split rfl rfl (fun h => ?_) (fun h => ?_))
   | ((with_reducible refine isD_gd ?_); ((fail_if_success (refine isD_kn (c := true) rfl qa0 ?_)); (fail_if_success (refine isD_kn (c := false) rfl qa0 ?_)); refine awpD_split rfl (fun h => ?_) (fun h => ?_)))
   | ((with_reducible refine is_awp ?_); refine awp_cond rfl (fun h => ?_) (fun h => ?_))
   | fail)
  all_goals refine retP rfl ?_
  all_goals simp_all [ex, rolesE]
set_option maxHeartbeats 4000000 in
theorem wOne_spec (l : List Tier) (t : Tier) (hl : l.length ≤ 1000000) : PCalls Tryz.prog g 77 [encTiers l, .agg (tierC t)] (vi (tierOne l t)) := by
  refine pcalls' Tryz.func77 Tryz.ntmps77 rfl rfl rfl ?_
  have hN := mName_spec (g := g) t.name
  have hF := wFind_spec (g := g) l t.name hl
  have hR := wRole_spec (g := g) l t.role hl
  have hA := al_spec (g := g) t.kind
  have hr0 := wRoles_spec (g := g) ⟨⟨#[]⟩, 0, -1, 0⟩ t
  have n1 : (!true) = false := rfl
  have n2 : (!false) = true := rfl
  unfold tierOne
  cases hn : nameOk t.name with
  | false =>
    rw [hn] at hN
    rw [if_pos rfl]
    repeat' (first
     | refine stn [] ?_
     | ((with_reducible refine is_gd ?_); refine awpL_split rfl rfl (fun h => ?_) (fun h => ?_))
     | ((with_reducible refine is_awp ?_); refine awp_cond rfl (fun h => ?_) (fun h => ?_))
     | fail)
    exact retP rfl rfl
  | true =>
  rw [hn] at hN
  rw [if_neg (by simp)]
  by_cases f0 : 0 ≤ findT l t.name
  · have c1 : decide (0 ≤ findT l t.name) = true := decide_eq_true f0
    rw [if_pos f0]
    repeat' (first
     | refine stn [] ?_
     | ((with_reducible refine is_gd ?_); refine awpL_split rfl rfl (fun h => ?_) (fun h => ?_))
     | ((with_reducible refine is_awp ?_); refine awp_cond rfl (fun h => ?_) (fun h => ?_))
     | fail)
    exact retP rfl rfl
  have c1 : decide (0 ≤ findT l t.name) = false := decide_eq_false f0
  rw [if_neg f0]
  by_cases k0 : t.kind < 0
  · have c2 : decide (t.kind < 0) = true := decide_eq_true k0
    rw [if_pos (.inl k0)]
    repeat' (first
     | refine stn [] ?_
     | ((with_reducible refine is_gd ?_); refine awpL_split rfl rfl (fun h => ?_) (fun h => ?_))
     | ((with_reducible refine is_awp ?_); refine awp_cond rfl (fun h => ?_) (fun h => ?_))
     | fail)
    exact retP rfl rfl
  have c2 : decide (t.kind < 0) = false := decide_eq_false k0
  by_cases k4 : 4 < t.kind
  · have c3 : decide (4 < t.kind) = true := decide_eq_true k4
    rw [if_pos (.inr k4)]
    repeat' (first
     | refine stn [] ?_
     | ((with_reducible refine is_gd ?_); refine awpL_split rfl rfl (fun h => ?_) (fun h => ?_))
     | ((with_reducible refine is_awp ?_); refine awp_cond rfl (fun h => ?_) (fun h => ?_))
     | fail)
    exact retP rfl rfl
  have c3 : decide (4 < t.kind) = false := decide_eq_false k4
  rw [if_neg (by omega)]
  by_cases r0 : t.role < 0
  · have c4 : decide (t.role < 0) = true := decide_eq_true r0
    rw [if_pos (.inl r0)]
    repeat' (first
     | refine stn [] ?_
     | ((with_reducible refine is_gd ?_); refine awpL_split rfl rfl (fun h => ?_) (fun h => ?_))
     | ((with_reducible refine is_awp ?_); refine awp_cond rfl (fun h => ?_) (fun h => ?_))
     | fail)
    exact retP rfl rfl
  have c4 : decide (t.role < 0) = false := decide_eq_false r0
  by_cases r5 : 5 < t.role
  · have c5 : decide (5 < t.role) = true := decide_eq_true r5
    rw [if_pos (.inr r5)]
    repeat' (first
     | refine stn [] ?_
     | ((with_reducible refine is_gd ?_); refine awpL_split rfl rfl (fun h => ?_) (fun h => ?_))
     | ((with_reducible refine is_awp ?_); refine awp_cond rfl (fun h => ?_) (fun h => ?_))
     | fail)
    exact retP rfl rfl
  have c5 : decide (5 < t.role) = false := decide_eq_false r5
  rw [if_neg (by omega)]
  by_cases g0 : 0 ≤ roleT l t.role
  · have c6 : decide (0 ≤ roleT l t.role) = true := decide_eq_true g0
    rw [if_pos g0]
    repeat' (first
     | refine stn [] ?_
     | ((with_reducible refine is_gd ?_); refine awpL_split rfl rfl (fun h => ?_) (fun h => ?_))
     | ((with_reducible refine is_awp ?_); refine awp_cond rfl (fun h => ?_) (fun h => ?_))
     | fail)
    exact retP rfl rfl
  have c6 : decide (0 ≤ roleT l t.role) = false := decide_eq_false g0
  rw [if_neg g0]
  by_cases kr : t.kind = 0
  · have c7 : decide (t.kind = 0) = true := decide_eq_true kr
    rw [if_pos kr]
    by_cases pp : t.parent = -1
    · have c8 : (!decide (t.parent = -1)) = false := by rw [decide_eq_true pp]; rfl
      rw [if_neg (by simpa using pp)]
      repeat' (first
       | refine st [] ?_
       | ((with_reducible refine is_gd ?_); refine awpL_split rfl rfl (fun h => ?_) (fun h => ?_))
       | ((with_reducible refine isD_gd ?_); ((fail_if_success (refine isD_kn (c := true) rfl qa0 ?_)); (fail_if_success (refine isD_kn (c := false) rfl qa0 ?_)); refine awpD_split rfl (fun h => ?_) (fun h => ?_)))
       | ((with_reducible refine is_awp ?_); refine awp_cond rfl (fun h => ?_) (fun h => ?_))
       | fail)
      exact retP rfl rfl
    · have c8 : (!decide (t.parent = -1)) = true := by rw [decide_eq_false pp]; rfl
      rw [if_pos pp]
      repeat' (first
       | refine stn [] ?_
       | ((with_reducible refine is_gd ?_); refine awpL_split rfl rfl (fun h => ?_) (fun h => ?_))
       | ((with_reducible refine is_awp ?_); refine awp_cond rfl (fun h => ?_) (fun h => ?_))
       | fail)
      exact retP rfl rfl
  have c7 : decide (t.kind = 0) = false := decide_eq_false kr
  rw [if_neg kr]
  by_cases p0 : t.parent < 0
  · have c8 : decide (t.parent < 0) = true := decide_eq_true p0
    rw [if_pos (.inl p0)]
    repeat' (first
     | refine stn [] ?_
     | ((with_reducible refine is_gd ?_); refine awpL_split rfl rfl (fun h => ?_) (fun h => ?_))
     | ((with_reducible refine is_awp ?_); refine awp_cond rfl (fun h => ?_) (fun h => ?_))
     | fail)
    exact retP rfl rfl
  have c8 : decide (t.parent < 0) = false := decide_eq_false p0
  by_cases p1 : (l.length : Int) ≤ t.parent
  · have c9 : decide ((l.length : Int) ≤ t.parent) = true := decide_eq_true p1
    rw [if_pos (.inr p1)]
    repeat' (first
     | refine stn [] ?_
     | ((with_reducible refine is_gd ?_); refine awpL_split rfl rfl (fun h => ?_) (fun h => ?_))
     | ((with_reducible refine is_awp ?_); refine awp_cond rfl (fun h => ?_) (fun h => ?_))
     | fail)
    exact retP rfl rfl
  have c9 : decide ((l.length : Int) ≤ t.parent) = false := decide_eq_false p1
  rw [if_neg (by omega)]
  obtain ⟨p, ht⟩ : ∃ p, l[t.parent.toNat]? = some p := ⟨l[t.parent.toNat]'(by omega), by simp⟩
  have h1 : 0 ≤ t.parent ∧ (l.map tierC)[t.parent.toNat]? = some (tierC p) := ⟨by omega, by simp [ht]⟩
  have hA2 := al_spec (g := g) p.kind
  have hr := wRoles_spec (g := g) p t
  rw [ht]
  simp only
  generalize hv : rolesE p.role t = v at *
  cases b1 : timed t.kind <;> cases b2 : timed p.kind <;> rw [b1] at hA <;> rw [b2] at hA2
  · rw [if_neg (by simp)]
    repeat' (first
     | refine st [] ?_
     | ((with_reducible refine is_gd ?_); refine awpL_split rfl rfl (fun h => ?_) (fun h => ?_))
     | ((with_reducible refine isD_gd ?_); ((fail_if_success (refine isD_kn (c := true) rfl qa0 ?_)); (fail_if_success (refine isD_kn (c := false) rfl qa0 ?_)); refine awpD_split rfl (fun h => ?_) (fun h => ?_)))
     | ((with_reducible refine is_awp ?_); refine awp_cond rfl (fun h => ?_) (fun h => ?_))
     | fail)
    exact retP rfl rfl
  · rw [if_neg (by simp)]
    repeat' (first
     | refine st [] ?_
     | ((with_reducible refine is_gd ?_); refine awpL_split rfl rfl (fun h => ?_) (fun h => ?_))
     | ((with_reducible refine isD_gd ?_); ((fail_if_success (refine isD_kn (c := true) rfl qa0 ?_)); (fail_if_success (refine isD_kn (c := false) rfl qa0 ?_)); refine awpD_split rfl (fun h => ?_) (fun h => ?_)))
     | ((with_reducible refine is_awp ?_); refine awp_cond rfl (fun h => ?_) (fun h => ?_))
     | fail)
    exact retP rfl rfl
  · rw [if_pos (by simp)]
    repeat' (first
     | refine st [] ?_
     | ((with_reducible refine is_gd ?_); refine awpL_split rfl rfl (fun h => ?_) (fun h => ?_))
     | ((with_reducible refine isD_gd ?_); ((fail_if_success (refine isD_kn (c := true) rfl qa0 ?_)); (fail_if_success (refine isD_kn (c := false) rfl qa0 ?_)); refine awpD_split rfl (fun h => ?_) (fun h => ?_)))
     | ((with_reducible refine is_awp ?_); refine awp_cond rfl (fun h => ?_) (fun h => ?_))
     | fail)
    exact retP rfl rfl
  · rw [if_neg (by simp)]
    repeat' (first
     | refine st [] ?_
     | ((with_reducible refine is_gd ?_); refine awpL_split rfl rfl (fun h => ?_) (fun h => ?_))
     | ((with_reducible refine isD_gd ?_); ((fail_if_success (refine isD_kn (c := true) rfl qa0 ?_)); (fail_if_success (refine isD_kn (c := false) rfl qa0 ?_)); refine awpD_split rfl (fun h => ?_) (fun h => ?_)))
     | ((with_reducible refine is_awp ?_); refine awp_cond rfl (fun h => ?_) (fun h => ?_))
     | fail)
    exact retP rfl rfl
set_option maxHeartbeats 1000000 in
theorem wTiers_spec (l : List Tier) : PCalls Tryz.prog g 43 [encTiers l] (vi (tiersE l)) := by
  refine pcalls' Tryz.func43 Tryz.ntmps43 rfl rfl rfl ?_
  by_cases hl : (12 : Int) < l.length
  · have c0 : decide ((12 : Int) < l.length) = true := decide_eq_true hl
    have : tiersE l = 11 := by unfold tiersE; rw [if_pos (by omega)]
    rw [this]
    repeat' (first
     | refine stn [] ?_
     | ((with_reducible refine is_gd ?_); refine awpL_split rfl rfl (fun h => ?_) (fun h => ?_))
     | ((with_reducible refine is_awp ?_); refine awp_cond rfl (fun h => ?_) (fun h => ?_))
     | fail)
    exact retP rfl rfl
  have c0 : decide ((12 : Int) < l.length) = false := decide_eq_false hl
  have hc : tiersE l = tiersEF l l.length 0 := by unfold tiersE; rw [if_neg (by omega)]
  rw [hc]
  repeat' (first
   | refine stn [] ?_
   | ((with_reducible refine is_gd ?_); refine awpL_split rfl rfl (fun h => ?_) (fun h => ?_))
   | ((with_reducible refine is_awp ?_); refine awp_cond rfl (fun h => ?_) (fun h => ?_))
   | fail)
  refine awp_for (α := Nat) 0 (fun k => [(0, encTiers l), (9, vi l.length), (10, vi k)]) (fun _ => []) (fun k => k ≤ l.length ∧ tiersEF l l.length 0 = tiersEF l (l.length - k) k) (fun k => l.length - k) 0
    ⟨(.cons rfl rfl (.cons rfl rfl (.cons rfl rfl .nil))), rfl, rfl, rfl⟩ ⟨Nat.zero_le _, rfl⟩ ?_
  rintro k ⟨hk, hf⟩
  cases ht : l[k]? with
  | none =>
    have hge : l.length ≤ k := by simpa using ht
    have c1 : decide ((k : Int) < l.length) = false := decide_eq_false (by omega)
    rw [hf, show l.length - k = 0 by omega]
    repeat' (first
     | refine stn [] ?_
     | ((with_reducible refine is_gd ?_); refine awpL_split rfl rfl (fun h => ?_) (fun h => ?_))
     | ((with_reducible refine is_awp ?_); refine awp_cond rfl (fun h => ?_) (fun h => ?_))
     | fail)
    exact retP rfl rfl
  | some t =>
    have hlt : k < l.length := (List.getElem?_eq_some_iff.1 ht).1
    have c1 : decide ((k : Int) < l.length) = true := decide_eq_true (by omega)
    have h1 := tierC_get ht
    have hd : tiersEF l (l.length - k) k = if tierOne (l.take k) t ≠ 0 then tierOne (l.take k) t else tiersEF l (l.length - (k + 1)) (k + 1) := by
      rw [show l.length - k = (l.length - (k + 1)) + 1 by omega]; exact tiersEF_step ht
    have ho : PCalls Tryz.prog g 77 [.fs 4 k ((l.map tierC).take k), .agg (tierC t)] (vi (tierOne (l.take k) t)) := by
      have := wOne_spec (g := g) (l.take k) t (by simp; omega)
      rw [encTiers, List.map_take, List.length_take, Nat.min_eq_left (by omega)] at this
      exact this
    have b0 : (0 : Int) ≤ 0 ∧ (0 : Int) ≤ (k : Int) ∧ (k : Int) ≤ (l.length : Nat) := by omega
    have m0 : ((k : Int) - 0).toNat = k := by omega
    have f0 : ((l.map tierC).drop (0 : Int).toNat).take k = (l.map tierC).take k := rfl
    generalize tierOne (l.take k) t = e at *
    by_cases e0 : e = 0
    · have c2 : (!decide (e = 0)) = false := by rw [decide_eq_true e0]; rfl
      rw [if_neg (by simpa using e0)] at hd
      repeat' (first
       | ((with_reducible refine isD_un ?_); refine awpD_un (as_ev (fun _ => ev_slice_fs rfl rfl rfl rfl rfl rfl rfl b0 m0 f0) rfl rfl) qb0 ?_)
       | ((with_reducible refine isD_gd ?_); refine awpD_gd rfl rfl qa0 (as_ev (fun _ => ev_slice_fs rfl rfl rfl rfl rfl rfl rfl b0 m0 f0) rfl rfl) qb0 ?_)
       | refine st [] ?_
       | ((with_reducible refine is_gd ?_); refine awpL_split rfl rfl (fun h => ?_) (fun h => ?_))
       | ((with_reducible refine isD_gd ?_); ((fail_if_success (refine isD_kn (c := true) rfl qa0 ?_)); (fail_if_success (refine isD_kn (c := false) rfl qa0 ?_)); refine awpD_split rfl (fun h => ?_) (fun h => ?_)))
       | ((with_reducible refine is_awp ?_); refine awp_cond rfl (fun h => ?_) (fun h => ?_))
       | fail)
      exact ⟨k + 1, ⟨(.cons rfl rfl (.cons rfl rfl (.cons rfl rfl .nil))), rfl, rfl, rfl⟩, ⟨by omega, by rw [hf, hd]⟩, by omega⟩
    · have c2 : (!decide (e = 0)) = true := by rw [decide_eq_false e0]; rfl
      rw [if_pos e0] at hd
      rw [hf, hd]
      repeat' (first
       | ((with_reducible refine isD_un ?_); refine awpD_un (as_ev (fun _ => ev_slice_fs rfl rfl rfl rfl rfl rfl rfl b0 m0 f0) rfl rfl) qb0 ?_)
       | ((with_reducible refine isD_gd ?_); refine awpD_gd rfl rfl qa0 (as_ev (fun _ => ev_slice_fs rfl rfl rfl rfl rfl rfl rfl b0 m0 f0) rfl rfl) qb0 ?_)
       | refine st [] ?_
       | ((with_reducible refine is_gd ?_); refine awpL_split rfl rfl (fun h => ?_) (fun h => ?_))
       | ((with_reducible refine isD_gd ?_); ((fail_if_success (refine isD_kn (c := true) rfl qa0 ?_)); (fail_if_success (refine isD_kn (c := false) rfl qa0 ?_)); refine awpD_split rfl (fun h => ?_) (fun h => ?_)))
       | ((with_reducible refine is_awp ?_); refine awp_cond rfl (fun h => ?_) (fun h => ?_))
       | fail)
      exact retP rfl rfl
end Go.Proofs.YtigcjinpkngapaaGreatDoor
end
section
namespace Go.Ac
open Go.MapKept
set_option linter.unnecessarySimpa false
variable {P : Program} {td : TDs} [T : TOK P td] {G : Glo} {N : Nat} {Q : AQ} {S : SL} {L : List LB} {op : Op} {ty : TypeId} {x : AV}
theorem ev_lookF {t kt e : Nat} {d : TD} {good : Value → Prop} {u q : Operand} {ks : List Value} {xs : List AV} {kv z : Value} {ok cm : Bool} {r : AV} (K : KeyOk P kt good) (h : val G S u = some (.fm ks xs))
    {ka : AV} (hq : val G S q = some ka) (hka : ∀ c y, R c ka y → y = kv) (ht : lk td t = some d) (hs : d.k = .map kt e) (hz : zeroOf P e = some z) (hzo : z.cells.toList.all (·.oneCell') = true) (hg : ∀ k ∈ ks, good k) (hgk : good kv)
    (hl : MLook ks xs kv (avOf z) x ok) (hnd : ks.Nodup) (hr : r = bif cm then .tup [x, .v (.bool ok)] else x) : Ev P G N (.lookup t u q cm) ty S L r := by
  subst hr
  intro o ho _ cx a hc
  have e0 := val_R hc h
  simp only [R, RF] at e0
  obtain ⟨b, es, clock, e1, h1, h3, h4, h5⟩ := e0
  have e2 := hka _ _ (val_R hc hq)
  obtain ⟨rr, g1, g2⟩ := find_spec K h5 hg hgk
  have main : ∃ v, RF cx.F cx.w x v ∧ (Instr.lookup t (.map (some b)) kv cm).run P cx.w = .ok (if cm then .tuple #[v, .bool ok] else v) cx.w := by
    rcases g2 with ⟨rfl, hn⟩ | ⟨i, en, x', rfl, q1, q2, q3, q4, q5⟩
    · rcases hl with ⟨_, i, h6, _⟩ | ⟨rfl, _, rfl⟩
      · exact absurd (List.mem_of_getElem? h6) hn
      · refine ⟨z, avOf_RF hzo, ?_⟩
        simp [Instr.lookup, run_underlying (map_desc (P := P) ht hs), Result.andThen, Go.MapKept.run_getObj_map h3, K.chk _ _ cx.w hgk, g1, run_zeroOf hz]
    · rcases hl with ⟨rfl, j, h6, h7⟩ | ⟨_, hn, _⟩
      · have := nodup_idx hnd h6 q3
        subst this
        rw [h7] at q4; injection q4 with q4; subst q4
        refine ⟨en.val, q5, ?_⟩
        simp [Instr.lookup, run_underlying (map_desc (P := P) ht hs), Result.andThen, Go.MapKept.run_getObj_map h3, K.chk _ _ cx.w hgk, g1]
      · exact absurd (List.mem_of_getElem? q3) hn
  obtain ⟨v, hv, hrun⟩ := main
  refine ⟨if cm then .tuple #[v, .bool ok] else v, by simp only [execOp, ho, e1, e2, Sem.run_bind, hrun, Result.andThen_ok, Sem.run_pure], ?_⟩
  cases cm with
  | false => exact R.of_RF _ _ _ hv
  | true =>
    simp only [cond_true, if_true, R]
    refine ⟨#[v, .bool ok], rfl, ?_⟩
    simp only [TR]
    exact ⟨v, [.bool ok], rfl, R.of_RF _ _ _ hv, .bool ok, [], rfl, by simp only [R], rfl⟩
end Go.Ac
end
