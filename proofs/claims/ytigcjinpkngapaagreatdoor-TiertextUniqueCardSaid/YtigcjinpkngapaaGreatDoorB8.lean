/- A logic of trees over the model's steps, and the contracts of the functions that the laws reach: part 8 of 16. -/
import Derived.Test.YtigcjinpkngapaaGreatDoorB7
set_option linter.unusedVariables false
set_option linter.unusedSimpArgs false
set_option linter.unusedSectionVars false
section
namespace Go.Proofs.YtigcjinpkngapaaGreatDoor
open Go.Ac
attribute [local irreducible] awp awpL Ev Ev2 EvS thenQ blockQ retQ PCalls OCalls
variable {g : List (Nat × List AV)}
set_option maxRecDepth 4000 in
set_option maxHeartbeats 8000000 in
theorem wPrint_spec (hN : NumG g) (d : Doc) (hd : FitP d) (hC : PCalls Tryz.prog g 20 [.agg (docC d)] (vi (docE d))) : PCalls Tryz.prog g 14 [.agg (docC d)] (printV d) := by
  have hls := hd.ls
  have hlt := hd.lt
  have hln := hd.ln
  have hP := wprintable_spec (g := g) d (by omega)
  have n1 : (!true) = false := rfl
  have n2 : (!false) = true := rfl
  have c0 : (!decide ((0 : Int) = 0)) = false := rfl
  refine pcalls' Tryz.func14 Tryz.ntmps14 rfl rfl rfl ?_
  by_cases hde : ¬ docE d = 0
  · have he : printE d = docE d := by unfold printE; rw [if_pos hde]
    have c1 : (!decide (docE d = 0)) = true := by rw [decide_eq_false hde]; rfl
    rw [show printV d = .tup [.v (.string ⟨#[]⟩), vi (printE d)] by unfold printV; rw [if_neg (by rw [he]; exact hde)], he]
    repeat' (first
     | refine stn [] ?_
     | ((with_reducible refine is_gd ?_); refine awpL_split rfl rfl (fun h => ?_) (fun h => ?_))
     | ((with_reducible refine is_awp ?_); refine awp_cond rfl (fun h => ?_) (fun h => ?_))
     | fail)
    exact retP rfl rfl
  have hde : docE d = 0 := Decidable.of_not_not hde
  cases hr : recOk d.rec_ with
  | false =>
    rw [hr] at hP
    have he : printE d = 1 := by unfold printE; rw [if_neg (by simpa using hde), hr]; rfl
    rw [show printV d = .tup [.v (.string ⟨#[]⟩), vi (printE d)] by unfold printV; rw [if_neg (by rw [he]; decide)], he]
    rw [hde] at hC
    repeat' (first
     | refine stn [] ?_
     | ((with_reducible refine is_gd ?_); refine awpL_split rfl rfl (fun h => ?_) (fun h => ?_))
     | ((with_reducible refine is_awp ?_); refine awp_cond rfl (fun h => ?_) (fun h => ?_))
     | fail)
    exact retP rfl rfl
  | true =>
    rw [hr] at hP
    have he : printE d = 0 := by unfold printE; rw [if_neg (by simpa using hde), hr]; rfl
    have hw := docW hd he
    rw [show printV d = .tup [.v (.string (toB (printD d))), vi (printE d)] by unfold printV; rw [if_pos he], he]
    rw [hde] at hC
    have hT := zTextP (g := g) (docL d) (docL_fit hd hw hr)
    rw [show textW ((docL d).map lst) = printD d from rfl] at hT
    generalize printD d = out at *
    obtain ⟨a1, a2, a3, a4, a5⟩ := hd.r
    have hT1 := NText_spec hN d.rec_.id a1
    have hN1 := wnumbers_spec hN [d.rec_.length, d.rec_.day] (by simp) (by simp; exact ⟨a2, a3⟩)
    have hN2 := wnumbers_spec hN d.rec_.speakers a4 a5
    have hRJ := wJoin_spec (g := g) (recW d.rec_) hw.r
    rw [show toB (joinW ((recW d.rec_).map lst)) = recL d.rec_ from rfl] at hRJ
    have hj1 : [strC kRec, strC (numT d.rec_.id), strC d.rec_.name] ++ ([d.rec_.length, d.rec_.day].map numT).map strC = [strC kRec, strC (numT d.rec_.id), strC d.rec_.name, strC (numT d.rec_.length), strC (numT d.rec_.day)] := by simp
    have hj2 : [strC kRec, strC (numT d.rec_.id), strC d.rec_.name, strC (numT d.rec_.length), strC (numT d.rec_.day)] ++ (d.rec_.speakers.map numT).map strC = (recW d.rec_).map strC := by simp [recW]
    repeat' (first
     | refine awpD_nw rfl qd0 (ev_bslice_o (t := 42) (n := 3) (es := [strC kRec, strC (numT d.rec_.id), strC d.rec_.name]) rfl rfl rfl rfl rfl rfl rfl rfl rfl rfl rfl qf0 qc0) rfl rfl rfl rfl rfl qc0 qb0 ?_
     | refine awpD_up (kk := 0) rfl qd0 rfl rfl rfl rfl (ev_appB (es' := [strC kRec, strC (numT d.rec_.id), strC d.rec_.name, strC (numT d.rec_.length), strC (numT d.rec_.day)]) (L' := [.own 1 9 1 [strC kRec, strC (numT d.rec_.id), strC d.rec_.name, strC (numT d.rec_.length), strC (numT d.rec_.day)]]) rfl rfl rfl rfl rfl rfl rfl rfl rfl rfl rfl rfl rfl (by simp) hj1 rfl) rfl rfl rfl rfl rfl rfl qb0 ?_
     | ((with_reducible refine is_un ?_); (first | refine awpL_frz (x := .os 0 2) (x' := encSs (recW d.rec_)) 42 rfl (by simp [frzV, encSs]) rfl rfl ?_ | refine awpL_ev2 (ev_bslice_o (t := 42) (n := 1) (es := [strC (recL d.rec_)]) rfl rfl rfl rfl rfl rfl rfl rfl rfl rfl rfl qf0 qc0) rfl ?_ | refine awpL_ev2 (ev_appB (es' := (recW d.rec_).map strC) rfl rfl rfl rfl rfl rfl rfl rfl rfl rfl rfl rfl rfl (by simp; omega) hj2 rfl) rfl ?_))
     | refine st [] ?_
     | ((with_reducible refine is_gd ?_); refine awpL_split rfl rfl (fun h => ?_) (fun h => ?_))
     | ((with_reducible refine isD_gd ?_); ((fail_if_success (refine isD_kn (c := true) rfl qa0 ?_)); (fail_if_success (refine isD_kn (c := false) rfl qa0 ?_)); refine awpD_split rfl (fun h => ?_) (fun h => ?_)))
     | ((with_reducible refine is_awp ?_); refine awp_cond rfl (fun h => ?_) (fun h => ?_))
     | fail)
    refine awp_for (α := Nat) 2 (fun k => [(1, .fp (docC d)), (6, .os 1 0), (46, encTiers d.tiers), (47, vi d.tiers.length), (48, vi k)]) (fun k => [.dead, .own 0 9 1 (([recL d.rec_] ++ (d.tiers.take k).map tierL).map strC)]) (fun k => k ≤ d.tiers.length) (fun k => d.tiers.length - k) 0
      ⟨(.cons rfl rfl (.cons rfl rfl (.cons rfl rfl (.cons rfl rfl (.cons rfl rfl .nil))))), rfl, rfl, rfl⟩ (Nat.zero_le _) ?_
    intro k hk
    cases ht : d.tiers[k]? with
    | some t =>
      have hlt2 : k < d.tiers.length := (List.getElem?_eq_some_iff.1 ht).1
      have c1 : decide ((k : Int) < d.tiers.length) = true := decide_eq_true (by omega)
      have g1 := tierC_get ht
      have hm := List.mem_of_getElem? ht
      obtain ⟨b1, b2, b3⟩ := hd.t t hm
      have hN3 := wnumbers_spec hN [t.kind, t.role, t.parent] (by simp) (by simp; exact ⟨b1, b2, b3⟩)
      have hTJ := wJoin_spec (g := g) (tierW t) (hw.t t hm)
      rw [show toB (joinW ((tierW t).map lst)) = tierL t from rfl] at hTJ
      have hj3 : [strC kTier, strC t.name] ++ ([t.kind, t.role, t.parent].map numT).map strC = (tierW t).map strC := by simp [tierW]
      have hj : ([recL d.rec_] ++ (d.tiers.take k).map tierL).map strC ++ [strC (tierL t)] = ([recL d.rec_] ++ (d.tiers.take (k + 1)).map tierL).map strC := by
        rw [← take_tail tierL _ ht]; simp
      have hmb : (([recL d.rec_] ++ (d.tiers.take k).map tierL).map strC).length ≤ 1000 := by simp [List.length_take]; omega
      generalize ([recL d.rec_] ++ (d.tiers.take k).map tierL).map strC = M at *
      generalize hM' : ([recL d.rec_] ++ (d.tiers.take (k + 1)).map tierL).map strC = M' at *
      repeat' (first
       | refine awp_drawT3 15 (by simp only [List.take_succ_cons, List.take_zero, List.take_nil]; rfl) (by simp only [List.drop_succ_cons, List.drop_zero, List.drop_nil]; rfl) (by kernel_rfl) rfl rfl rfl rfl (by repeat' (first | exact Strip.nil | apply Strip.keep rfl | apply Strip.drop rfl)) ?_
       | refine awpD_nw rfl qd0 (ev_bslice_o (t := 42) (n := 2) (es := [strC kTier, strC t.name]) rfl rfl rfl rfl rfl rfl rfl rfl rfl rfl rfl qf0 qc0) rfl rfl rfl rfl rfl qc0 qb0 ?_
       | refine awpD_up (kk := 3) rfl qd0 rfl rfl rfl rfl (ev_appB (es' := (tierW t).map strC) rfl rfl rfl rfl rfl rfl rfl rfl rfl rfl rfl rfl rfl (by simp) hj3 rfl) rfl rfl rfl rfl rfl rfl qb0 ?_
       | ((with_reducible refine is_un ?_); refine awpL_ev2 (ev_appB (es' := M') rfl rfl rfl rfl rfl rfl rfl rfl rfl rfl rfl rfl rfl qe0 hj rfl) rfl ?_)
       | ((with_reducible refine isD_un ?_); refine awpD_un (as_callS rfl qd0 rfl (by simp [exL, ex, encSs]) hTJ rfl rfl rfl) qb0 ?_)
       | ((with_reducible refine isD_gd ?_); refine awpD_gd rfl rfl qa0 (as_callS rfl qd0 rfl (by simp [exL, ex, encSs]) hTJ rfl rfl rfl) qb0 ?_)
       | refine st [] ?_
       | ((with_reducible refine is_gd ?_); refine awpL_split rfl rfl (fun h => ?_) (fun h => ?_))
       | ((with_reducible refine isD_gd ?_); ((fail_if_success (refine isD_kn (c := true) rfl qa0 ?_)); (fail_if_success (refine isD_kn (c := false) rfl qa0 ?_)); refine awpD_split rfl (fun h => ?_) (fun h => ?_)))
       | ((with_reducible refine is_awp ?_); refine awp_cond rfl (fun h => ?_) (fun h => ?_))
       | fail)
      exact ⟨k + 1, by rw [hM']; exact ⟨(.cons rfl rfl (.cons rfl rfl (.cons rfl rfl (.cons rfl rfl (.cons rfl rfl .nil))))), rfl, rfl, rfl⟩, by omega, by omega⟩
    | none =>
      have hge : d.tiers.length ≤ k := by simpa using ht
      have c1 : decide ((k : Int) < d.tiers.length) = false := decide_eq_false (by omega)
      rw [List.take_of_length_le hge]
      repeat' (first
       | refine stn [] ?_
       | ((with_reducible refine is_gd ?_); refine awpL_split rfl rfl (fun h => ?_) (fun h => ?_))
       | ((with_reducible refine is_awp ?_); refine awp_cond rfl (fun h => ?_) (fun h => ?_))
       | fail)
      refine awp_for (α := Nat) 2 (fun k => [(1, .fp (docC d)), (6, .os 1 0), (70, encNotes d.notes), (71, vi d.notes.length), (72, vi k)]) (fun k => [.dead, .own 0 9 1 (([recL d.rec_] ++ d.tiers.map tierL ++ (d.notes.take k).map noteL).map strC)]) (fun k => k ≤ d.notes.length) (fun k => d.notes.length - k) 0
        ⟨(.cons rfl rfl (.cons rfl rfl (.cons rfl rfl (.cons rfl rfl (.cons rfl rfl .nil))))), by simp only [List.take_zero, List.map_nil, List.append_nil]; rfl, rfl, rfl⟩ (Nat.zero_le _) ?_
      intro q hq
      cases hn : d.notes[q]? with
      | some n =>
        have hlt2 : q < d.notes.length := (List.getElem?_eq_some_iff.1 hn).1
        have c2 : decide ((q : Int) < d.notes.length) = true := decide_eq_true (by omega)
        have g1 := note_get hn
        have hm := List.mem_of_getElem? hn
        obtain ⟨b1, b2, b3, b4, b5, b6⟩ := hd.n n hm
        have hN4 := wnumbers_spec hN [n.id, n.tier, n.parent, n.span.fro, n.span.til, n.rank] (by simp) (by simp; exact ⟨b1, b2, b3, b4, b5, b6⟩)
        have hNJ := wJoin_spec (g := g) (noteW n) (hw.n n hm)
        rw [show toB (joinW ((noteW n).map lst)) = noteL n from rfl] at hNJ
        have hj3 : [strC kNote] ++ ([n.id, n.tier, n.parent, n.span.fro, n.span.til, n.rank].map numT).map strC = ([kNote] ++ [n.id, n.tier, n.parent, n.span.fro, n.span.til, n.rank].map numT).map strC := by simp
        have hj4 : ([kNote] ++ [n.id, n.tier, n.parent, n.span.fro, n.span.til, n.rank].map numT).map strC ++ [strC n.text] = (noteW n).map strC := by simp [noteW]
        have hj : ([recL d.rec_] ++ d.tiers.map tierL ++ (d.notes.take q).map noteL).map strC ++ [strC (noteL n)] = ([recL d.rec_] ++ d.tiers.map tierL ++ (d.notes.take (q + 1)).map noteL).map strC := by
          rw [← take_tail noteL _ hn]; simp
        have hmb : (([recL d.rec_] ++ d.tiers.map tierL ++ (d.notes.take q).map noteL).map strC).length ≤ 1000 := by simp [List.length_take]; omega
        generalize ([recL d.rec_] ++ d.tiers.map tierL ++ (d.notes.take q).map noteL).map strC = M at *
        generalize hM' : ([recL d.rec_] ++ d.tiers.map tierL ++ (d.notes.take (q + 1)).map noteL).map strC = M' at *
        repeat' (first
         | ((with_reducible refine is_un ?_); (first | refine awpL_ev2 (ev_bslice_o (t := 42) (n := 1) (es := [strC kNote]) rfl rfl rfl rfl rfl rfl rfl rfl rfl rfl rfl qf0 qc0) rfl ?_ | refine awpL_frz (x := .os 3 2) (x' := encSs (noteW n)) 99 rfl (by simp [frzV, encSs]) rfl rfl ?_ | refine awpL_ev2 (ev_appB (es' := ([kNote] ++ [n.id, n.tier, n.parent, n.span.fro, n.span.til, n.rank].map numT).map strC) rfl rfl rfl rfl rfl rfl rfl rfl rfl rfl rfl rfl rfl (by simp) hj3 rfl) rfl ?_ | refine awpL_ev2 (ev_appB (es' := (noteW n).map strC) rfl rfl rfl rfl rfl rfl rfl rfl rfl rfl rfl rfl rfl (by simp) hj4 rfl) rfl ?_ | refine awpL_ev2 (ev_appB (es' := M') rfl rfl rfl rfl rfl rfl rfl rfl rfl rfl rfl rfl rfl qe0 hj rfl) rfl ?_))
         | refine stn [] ?_
         | ((with_reducible refine is_gd ?_); refine awpL_split rfl rfl (fun h => ?_) (fun h => ?_))
         | ((with_reducible refine is_awp ?_); refine awp_cond rfl (fun h => ?_) (fun h => ?_))
         | fail)
        exact ⟨q + 1, by rw [hM']; exact ⟨(.cons rfl rfl (.cons rfl rfl (.cons rfl rfl (.cons rfl rfl (.cons rfl rfl .nil))))), rfl, rfl, rfl⟩, by omega, by omega⟩
      | none =>
        have hge2 : d.notes.length ≤ q := by simpa using hn
        have c2 : decide ((q : Int) < d.notes.length) = false := decide_eq_false (by omega)
        rw [List.take_of_length_le hge2, show [recL d.rec_] ++ d.tiers.map tierL ++ d.notes.map noteL = docL d by simp [docL]]
        repeat' (first
         | ((with_reducible refine is_un ?_); refine awpL_frz (x := .os 1 0) (x' := encSs (docL d)) 104 rfl (by simp [frzV, encSs]) rfl rfl ?_)
         | refine stn [] ?_
         | ((with_reducible refine is_gd ?_); refine awpL_split rfl rfl (fun h => ?_) (fun h => ?_))
         | ((with_reducible refine is_awp ?_); refine awp_cond rfl (fun h => ?_) (fun h => ?_))
         | fail)
        exact retP rfl rfl
end Go.Proofs.YtigcjinpkngapaaGreatDoor
end
section
namespace Go.Ac
section
variable {P : Program} {G : Glo} {N : Nat} {S : SL} {L : List LB} {ty : TypeId}
theorem ev_xorK {xt yt : TypeId} {u e : Operand} {k : IntKind} {p q r : Int} (h1 : val G S u = some (.v (.int k p))) (h2 : val G S e = some (.v (.int k q))) (hr : k.wrap (BitVec.ofInt k.bits p ^^^ BitVec.ofInt k.bits q).toNat = r) : Ev P G N (.binOp .xor xt u e yt) ty S L (.v (.int k r)) := by
  subst hr
  intro o ho _ cx a hc
  have e1 := val_R hc h1
  have e2 := val_R hc h2
  simp only [R] at e1 e2
  refine ⟨_, ?_, by simp only [R]; rfl⟩
  simp only [execOp, ho, e1, e2]
  simp [eqGuard, binOp, Op.intBits]
theorem ev_mulKW {xt yt : TypeId} {u e : Operand} {k : IntKind} {p q r : Int} (h1 : val G S u = some (.v (.int k p))) (h2 : val G S e = some (.v (.int k q))) (hr : k.wrap (p * q) = r) : Ev P G N (.binOp .mul xt u e yt) ty S L (.v (.int k r)) := by
  subst hr
  intro o ho _ cx a hc
  have e1 := val_R hc h1
  have e2 := val_R hc h2
  simp only [R] at e1 e2
  refine ⟨_, ?_, by simp only [R]; rfl⟩
  simp only [execOp, ho, e1, e2]
  simp [eqGuard, binOp, Op.intArith]
end
end Go.Ac
end
section
namespace Go.Proofs.YtigcjinpkngapaaGreatDoor
open Go.Ac
attribute [local irreducible] awp awpL Ev Ev2 EvS thenQ blockQ retQ PCalls OCalls
variable {g : List (Nat × List AV)}
def hAnd (p q : Int) : Int := IntKind.u64.wrap (BitVec.ofInt IntKind.u64.bits p &&& BitVec.ofInt IntKind.u64.bits q).toNat
def hXor (p q : Int) : Int := IntKind.u64.wrap (BitVec.ofInt IntKind.u64.bits p ^^^ BitVec.ofInt IntKind.u64.bits q).toNat
def hMul (p q : Int) : Int := IntKind.u64.wrap (p * q)
def hCon (n : Int) : Int := IntKind.u64.wrap n
def hStep (h : Int) (c : UInt8) : Int := hAnd (hMul (hXor h (hCon c.toNat)) 1099511628211) 4611686018427387903
def hFrom (h : Int) (l : List UInt8) : Int := l.foldl hStep (hAnd (hCon h) 4611686018427387903)
def hMore (h : Int) (l : List UInt8) : Int := IntKind.i64.wrap (hFrom h l)
def hashL (l : List UInt8) : Int := hMore 860922984064492325 l
theorem hFrom_take {h : Int} {l : List UInt8} {k : Nat} {c : UInt8} (e : l[k]? = some c) : hFrom h (l.take (k + 1)) = hStep (hFrom h (l.take k)) c := by
  unfold hFrom
  rw [List.take_add_one, e]
  simp
set_option maxRecDepth 4000 in
set_option maxHeartbeats 2000000 in
theorem wMore_spec (h : Int) (s : ByteArray) (hb : s.size ≤ 90000000) : PCalls Tryz.prog g 82 [vi h, .fs 1 s.size (bytesA s)] (vi (hMore h (lst s))) := by
  have hlen : (lst s).length = s.size := size_list s
  refine pcalls' Tryz.func82 Tryz.ntmps82 rfl rfl rfl ?_
  repeat' (first
   | ((with_reducible refine is_un ?_); (first | refine awpL_ev (ev_conv_int (m := hCon h) rfl rfl rfl rfl rfl) rfl ?_ | refine awpL_ev (ev_andK (r := hAnd (hCon h) 4611686018427387903) rfl rfl rfl) rfl ?_))
   | refine stn [] ?_
   | ((with_reducible refine is_gd ?_); refine awpL_split rfl rfl (fun h => ?_) (fun h => ?_))
   | ((with_reducible refine is_awp ?_); refine awp_cond rfl (fun h => ?_) (fun h => ?_))
   | fail)
  refine awp_for (α := Nat) 0 (fun k => [(5, .v (.int .u64 (hFrom h ((lst s).take k)))), (11, .fs 1 s.size (bytesA s)), (12, vi s.size), (13, vi k)]) (fun _ => []) (fun k => k ≤ s.size) (fun k => s.size - k) 0
    ⟨(.cons rfl rfl (.cons rfl rfl (.cons rfl rfl (.cons rfl rfl .nil)))), rfl, rfl, rfl⟩ (Nat.zero_le _) ?_
  intro k hk
  cases ht : (lst s)[k]? with
  | none =>
    have hge : (lst s).length ≤ k := by simpa using ht
    have c1 : decide ((k : Int) < s.size) = false := decide_eq_false (by omega)
    rw [List.take_of_length_le hge]
    repeat' (first
     | ((with_reducible refine is_un ?_); refine awpL_ev (ev_conv_int (m := hMore h (lst s)) rfl rfl rfl rfl rfl) rfl ?_)
     | refine stn [] ?_
     | ((with_reducible refine is_gd ?_); refine awpL_split rfl rfl (fun h => ?_) (fun h => ?_))
     | ((with_reducible refine is_awp ?_); refine awp_cond rfl (fun h => ?_) (fun h => ?_))
     | fail)
    exact retP rfl rfl
  | some c =>
    have hlt : k < (lst s).length := (List.getElem?_eq_some_iff.1 ht).1
    have c1 : decide ((k : Int) < s.size) = true := decide_eq_true (by omega)
    have g1 := mbytesA_get ht
    have hs := hFrom_take (h := h) ht
    generalize hFrom h ((lst s).take k) = a at hs ⊢
    generalize hM : hFrom h ((lst s).take (k + 1)) = b at hs
    have hs : b = hAnd (hMul (hXor a (hCon c.toNat)) 1099511628211) 4611686018427387903 := hs
    subst hs
    repeat' (first
     | ((with_reducible refine is_un ?_); (first | refine awpL_ev (ev_conv_int (m := hCon c.toNat) rfl rfl rfl rfl rfl) rfl ?_ | refine awpL_ev (ev_xorK (r := hXor a (hCon c.toNat)) rfl rfl rfl) rfl ?_ | refine awpL_ev (ev_mulKW (r := hMul (hXor a (hCon c.toNat)) 1099511628211) rfl rfl rfl) rfl ?_ | refine awpL_ev (ev_andK (r := hAnd (hMul (hXor a (hCon c.toNat)) 1099511628211) 4611686018427387903) rfl rfl rfl) rfl ?_))
     | refine stn [] ?_
     | ((with_reducible refine is_gd ?_); refine awpL_split rfl rfl (fun h => ?_) (fun h => ?_))
     | ((with_reducible refine is_awp ?_); refine awp_cond rfl (fun h => ?_) (fun h => ?_))
     | fail)
    exact ⟨k + 1, by rw [hM]; exact ⟨(.cons rfl rfl (.cons rfl rfl (.cons rfl rfl (.cons rfl rfl .nil)))), rfl, rfl, rfl⟩, by omega, by omega⟩
theorem wHash_spec (s : ByteArray) (hb : s.size ≤ 90000000) : PCalls Tryz.prog g 48 [.fs 1 s.size (bytesA s)] (vi (hashL (lst s))) := by
  have h := wMore_spec (g := g) 860922984064492325 s hb
  refine pcalls' Tryz.func48 Tryz.ntmps48 rfl rfl rfl ?_
  repeat' (first
   | refine stn [] ?_
   | ((with_reducible refine is_gd ?_); refine awpL_split rfl rfl (fun h => ?_) (fun h => ?_))
   | ((with_reducible refine is_awp ?_); refine awp_cond rfl (fun h => ?_) (fun h => ?_))
   | fail)
  exact retP rfl rfl
def sumD (d : Doc) : Int := if printE d = 0 then hashL (printD d) else 0
theorem printD_size {d : Doc} (hd : FitP d) (h : printE d = 0) : (toB (printD d)).size ≤ 90000000 := by
  have hl := docL_fit hd (docW hd h) (printE_zero h).2
  have := textW_len hl.2
  rw [toB_size]
  show (textW ((docL d).map lst)).length ≤ _
  have := hl.1
  omega
theorem wSum_spec (d : Doc) (hd : FitP d) (hP : PCalls Tryz.prog g 14 [.agg (docC d)] (printV d)) : PCalls Tryz.prog g 24 [.agg (docC d)] (vi (sumD d)) := by
  unfold sumD
  refine pcalls' Tryz.func24 Tryz.ntmps24 rfl rfl rfl ?_
  by_cases he : printE d = 0
  · rw [show printV d = .tup [.v (.string (toB (printD d))), vi (printE d)] by unfold printV; rw [if_pos he], he] at hP
    rw [if_pos he]
    have hH := wHash_spec (g := g) (toB (printD d)) (printD_size hd he)
    rw [show lst (toB (printD d)) = printD d from toB_list _] at hH
    generalize toB (printD d) = out at *
    have c0 : (!decide ((0 : Int) = 0)) = false := rfl
    repeat' (first
     | ((with_reducible refine is_un ?_); refine awpL_ev2 (ev_stb rfl rfl rfl rfl rfl rfl rfl) rfl ?_)
     | refine stn [] ?_
     | ((with_reducible refine is_gd ?_); refine awpL_split rfl rfl (fun h => ?_) (fun h => ?_))
     | ((with_reducible refine is_awp ?_); refine awp_cond rfl (fun h => ?_) (fun h => ?_))
     | fail)
    exact retP rfl rfl
  · rw [show printV d = .tup [.v (.string ⟨#[]⟩), vi (printE d)] by unfold printV; rw [if_neg he]] at hP
    rw [if_neg he]
    have c0 : (!decide (printE d = 0)) = true := by rw [decide_eq_false he]; rfl
    repeat' (first
     | refine stn [] ?_
     | ((with_reducible refine is_gd ?_); refine awpL_split rfl rfl (fun h => ?_) (fun h => ?_))
     | ((with_reducible refine is_awp ?_); refine awp_cond rfl (fun h => ?_) (fun h => ?_))
     | fail)
    exact retP rfl rfl
end Go.Proofs.YtigcjinpkngapaaGreatDoor
end
section
namespace Go.Proofs.YtigcjinpkngapaaGreatDoor
open Go.Ac
attribute [local irreducible] awp awpL Ev Ev2 EvS thenQ blockQ retQ PCalls OCalls
variable {g : List (Nat × List AV)}
def someD (d : Doc) : Bool := decide ((d.notes.length : Int) ≤ 100) && (decide ((d.tiers.length : Int) ≤ 20) && decide ((d.rec_.speakers.length : Int) ≤ 100))
theorem some_spec (d : Doc) : PCalls Tryz.prog g 12 [.agg (docC d)] (vb (someD d)) := by
  refine pcalls' Tryz.func12 Tryz.ntmps12 rfl rfl rfl ?_
  unfold someD
  cases c1 : decide ((d.notes.length : Int) ≤ 100) <;> cases c2 : decide ((d.tiers.length : Int) ≤ 20)
  all_goals
    repeat' (first
     | refine stn [] ?_
     | ((with_reducible refine is_gd ?_); refine awpL_split rfl rfl (fun h => ?_) (fun h => ?_))
     | ((with_reducible refine is_awp ?_); refine awp_cond rfl (fun h => ?_) (fun h => ?_))
     | fail)
    exact retP rfl rfl
theorem someD_fit {d : Doc} (h : someD d = true) : d.notes.length ≤ 100 ∧ d.tiers.length ≤ 20 ∧ d.rec_.speakers.length ≤ 100 := by
  simp only [someD, Bool.and_eq_true, decide_eq_true_eq] at h
  omega
theorem someD_ln {d : Doc} (h : someD d = true) : d.notes.length ≤ 100000 := by have := someD_fit h; omega
theorem someD_lt {d : Doc} (h : someD d = true) : d.tiers.length ≤ 100000 := by have := someD_fit h; omega
theorem someD_ls {d : Doc} (h : someD d = true) : d.rec_.speakers.length ≤ 100000 := by have := someD_fit h; omega
def sampleD : Doc := ⟨⟨3, ⟨#[116, 97, 112, 101]⟩, 900, 5, [1, 4]⟩, [⟨⟨#[116, 101, 120, 116]⟩, 0, 1, -1⟩], [⟨7, 0, 0, ⟨0, 400⟩, 0, ⟨#[98, 97, 32, 109, 105]⟩⟩, ⟨9, 0, 0, ⟨400, 900⟩, 0, .empty⟩]⟩
set_option maxRecDepth 4000 in
set_option maxHeartbeats 2000000 in
theorem sampleT_spec : PCalls Tryz.prog g 27 [] (.agg (docC sampleD)) := by
  refine pcalls' Tryz.func27 Tryz.ntmps27 rfl rfl rfl ?_
  repeat' (first
   | refine stn [0] ?_
   | ((with_reducible refine is_gd ?_); refine awpL_split rfl rfl (fun h => ?_) (fun h => ?_))
   | ((with_reducible refine is_awp ?_); refine awp_cond rfl (fun h => ?_) (fun h => ?_))
   | fail)
  exact retP rfl rfl
end Go.Proofs.YtigcjinpkngapaaGreatDoor
end
section
namespace Go.Proofs.YtigcjinpkngapaaGreatDoor
open Go.Ac
attribute [local irreducible] awp awpL Ev Ev2 EvS thenQ blockQ retQ PCalls OCalls
variable {g : List (Nat × List AV)}
def namedR (r : Recording) : Bool := decide (1 ≤ r.id) && (decide (r.id ≤ 1099511627776) && (nameOk r.name && (decide (1 ≤ r.length) && (decide (1 ≤ r.day) && (decide (r.day ≤ 109573) && (!r.speakers.isEmpty && spkOk 0 r.speakers))))))
theorem namedR_rec {r : Recording} (h : r.length ≤ 86400000) : namedR r = recOk r := by
  unfold namedR recOk
  rw [decide_eq_true h]
  simp
set_option maxRecDepth 4000 in
set_option maxHeartbeats 4000000 in
theorem namedT_spec (r : Recording) (hl : r.speakers.length ≤ 1000000) : PCalls Tryz.prog g 21 [.agg (recC r)] (vb (namedR r)) := by
  have hN := mName_spec (g := g) r.name
  have n1 : (!true) = false := rfl
  have n2 : (!false) = true := rfl
  refine pcalls' Tryz.func21 Tryz.ntmps21 rfl rfl rfl ?_
  by_cases hA : 1 ≤ r.id ∧ r.id ≤ 1099511627776 ∧ nameOk r.name = true ∧ 1 ≤ r.length ∧ 1 ≤ r.day ∧ r.day ≤ 109573 ∧ r.speakers.length ≠ 0
  · obtain ⟨a1, a2, a3, a4, a6, a7, a8⟩ := hA
    rw [a3] at hN
    have d1 : decide (r.id < 1) = false := decide_eq_false (by omega)
    have d2 : decide ((1099511627776 : Int) < r.id) = false := decide_eq_false (by omega)
    have d4 : decide (r.length < 1) = false := decide_eq_false (by omega)
    have d6 : decide (r.day < 1) = false := decide_eq_false (by omega)
    have d7 : decide ((109573 : Int) < r.day) = false := decide_eq_false (by omega)
    have d8 : decide ((r.speakers.length : Int) = 0) = false := decide_eq_false (by omega)
    have hemp : r.speakers.isEmpty = false := by
      cases h : r.speakers with
      | nil => rw [h] at a8; exact absurd rfl a8
      | cons x t => rfl
    have hr : namedR r = spkOk 0 r.speakers := by simp [namedR, a1, a2, a3, a4, a6, a7, hemp]
    rw [hr]
    repeat' (first
     | refine stn [] ?_
     | ((with_reducible refine is_gd ?_); refine awpL_split rfl rfl (fun h => ?_) (fun h => ?_))
     | ((with_reducible refine is_awp ?_); refine awp_cond rfl (fun h => ?_) (fun h => ?_))
     | fail)
    refine awp_for (α := Nat) 0 (fun k => [(1, .fp (recC r)), (3, vi (lastI r.speakers k)), (4, vi k)]) (fun _ => []) (fun k => k ≤ r.speakers.length ∧ spkOk 0 r.speakers = spkOk (lastI r.speakers k) (r.speakers.drop k)) (fun k => r.speakers.length - k) 0
      ⟨(.cons rfl rfl (.cons rfl rfl (.cons rfl rfl .nil))), rfl, rfl, rfl⟩ ⟨Nat.zero_le _, rfl⟩ ?_
    rintro k ⟨hk, hf⟩
    cases ht : r.speakers[k]? with
    | some n =>
      have hlt : k < r.speakers.length := (List.getElem?_eq_some_iff.1 ht).1
      have c1 : decide ((k : Int) < r.speakers.length) = true := decide_eq_true (by omega)
      have ik : 0 ≤ (k : Int) ∧ (r.speakers.map intC)[(k : Int).toNat]? = some (intC n) := ⟨by omega, by simp [ht]⟩
      have hs := lastI_succ ht
      rw [drop_int ht] at hf
      by_cases a : n ≤ lastI r.speakers k
      · have c2 : decide (n ≤ lastI r.speakers k) = true := decide_eq_true a
        have hf : spkOk 0 r.speakers = false := by rw [hf]; simp [spkOk]; omega
        rw [hf]
        repeat' (first
         | refine stn [] ?_
         | ((with_reducible refine is_gd ?_); refine awpL_split rfl rfl (fun h => ?_) (fun h => ?_))
         | ((with_reducible refine is_awp ?_); refine awp_cond rfl (fun h => ?_) (fun h => ?_))
         | fail)
        exact retP rfl rfl
      have c2 : decide (n ≤ lastI r.speakers k) = false := decide_eq_false a
      by_cases b : 1099511627776 < n
      · have c3 : decide ((1099511627776 : Int) < n) = true := decide_eq_true b
        have hf : spkOk 0 r.speakers = false := by rw [hf]; simp [spkOk]; omega
        rw [hf]
        repeat' (first
         | refine stn [] ?_
         | ((with_reducible refine is_gd ?_); refine awpL_split rfl rfl (fun h => ?_) (fun h => ?_))
         | ((with_reducible refine is_awp ?_); refine awp_cond rfl (fun h => ?_) (fun h => ?_))
         | fail)
        exact retP rfl rfl
      have c3 : decide ((1099511627776 : Int) < n) = false := decide_eq_false b
      repeat' (first
       | refine stn [] ?_
       | ((with_reducible refine is_gd ?_); refine awpL_split rfl rfl (fun h => ?_) (fun h => ?_))
       | ((with_reducible refine is_awp ?_); refine awp_cond rfl (fun h => ?_) (fun h => ?_))
       | fail)
      refine ⟨k + 1, by rw [hs]; exact ⟨(.cons rfl rfl (.cons rfl rfl (.cons rfl rfl .nil))), rfl, rfl, rfl⟩, ⟨by omega, ?_⟩, by omega⟩
      rw [hf, hs, spkOk, decide_eq_true (by omega), decide_eq_true (by omega), Bool.true_and, Bool.true_and]
    | none =>
      have hge : r.speakers.length ≤ k := by simpa using ht
      have c1 : decide ((k : Int) < r.speakers.length) = false := decide_eq_false (by omega)
      rw [List.drop_of_length_le hge] at hf
      have hf : spkOk 0 r.speakers = true := hf
      rw [hf]
      repeat' (first
       | refine stn [] ?_
       | ((with_reducible refine is_gd ?_); refine awpL_split rfl rfl (fun h => ?_) (fun h => ?_))
       | ((with_reducible refine is_awp ?_); refine awp_cond rfl (fun h => ?_) (fun h => ?_))
       | fail)
      exact retP rfl rfl
  · have hr : namedR r = false := by
      rw [Bool.eq_false_iff]
      intro q
      simp only [namedR, Bool.and_eq_true, decide_eq_true_eq] at q
      obtain ⟨q1, q2, q3, q4, q6, q7, q8, q9⟩ := q
      refine hA ⟨q1, q2, q3, q4, q6, q7, fun e => ?_⟩
      rw [List.eq_nil_of_length_eq_zero e] at q8
      simp at q8
    rw [hr]
    repeat' (first
     | refine stn [] ?_
     | ((with_reducible refine is_gd ?_); refine awpL_split rfl rfl (fun h => ?_) (fun h => ?_))
     | ((with_reducible refine is_awp ?_); refine awp_cond rfl (fun h => ?_) (fun h => ?_))
     | fail)
    all_goals first
      | exact retP rfl rfl
      | (exfalso
         have e1 : r.speakers.isEmpty = decide (r.speakers.length = 0) := by cases r.speakers <;> simp
         simp_all
         try omega)
end Go.Proofs.YtigcjinpkngapaaGreatDoor
end
section
namespace Go.Proofs.YtigcjinpkngapaaGreatDoor
open Go.Ac
attribute [local irreducible] awp awpL Ev Ev2 EvS thenQ blockQ retQ PCalls OCalls
variable {g : List (Nat × List AV)}
structure FitI (d : Doc) : Prop where
  r1 : InI d.rec_.id
  r2 : InI d.rec_.length
  r3 : InI d.rec_.day
  r4 : ∀ n ∈ d.rec_.speakers, InI n
  t : ∀ t ∈ d.tiers, InTier t
  n : ∀ n ∈ d.notes, InNote n
  rs : d.rec_.name.size ≤ 9223372036854775807
  ts : ∀ t ∈ d.tiers, t.name.size ≤ 9223372036854775807
theorem FitI.fit {d : Doc} (h : FitI d) (hs : someD d = true) : FitP d := by
  obtain ⟨a, b, c⟩ := someD_fit hs
  exact ⟨⟨h.r1, h.r2, h.r3, by omega, h.r4⟩, h.t, h.n, by omega, fun hr => line_size (recW_words ⟨h.r1, h.r2, h.r3, by omega, h.r4⟩ (by omega) (recOk_name hr)) (by simp [recW]; omega), by omega, by omega, h.rs, h.ts⟩
set_option maxRecDepth 4000 in
set_option maxHeartbeats 2000000 in
theorem lawAllowsT (hN : NumG g) (d : Doc) (hd : FitI d) (hC : someD d = true → PCalls Tryz.prog g 20 [.agg (docC d)] (vi (docE d))) (hAw : PCalls Tryz.prog g 13 [] (vb true)) : PCalls Tryz.prog g 6 [.agg (docC d)] (vb true) := by
  have hS := some_spec (g := g) d
  have n1 : (!true) = false := rfl
  have n2 : (!false) = true := rfl
  have zT : decide True = true := rfl
  have zF : decide False = false := rfl
  have zNT : (!decide True) = false := rfl
  have zNF : (!decide False) = true := rfl
  have z1 : (true == true) = true := rfl
  have z2 : (false == false) = true := rfl
  have z3 : decide (true = true) = true := rfl
  have z4 : decide (false = false) = true := rfl
  have z5 : (decide True == true) = true := rfl
  have z6 : (decide False == false) = true := rfl
  refine pcalls' Tryz.func6 Tryz.ntmps6 rfl rfl rfl ?_
  cases hs : someD d with
  | false =>
    rw [hs] at hS
    repeat' (first
     | refine stn [] ?_
     | ((with_reducible refine is_gd ?_); refine awpL_split rfl rfl (fun h => ?_) (fun h => ?_))
     | ((with_reducible refine is_awp ?_); refine awp_cond rfl (fun h => ?_) (fun h => ?_))
     | fail)
    exact retP rfl rfl
  | true =>
    rw [hs] at hS
    have hp := hd.fit hs
    have hC := hC hs
    have h1 := wPrint_spec hN d hp hC
    have hCo := rCopyD_spec (g := g) d (someD_ln hs) (someD_lt hs) (someD_ls hs)
    by_cases he : docE d = 0
    · have hNm := namedT_spec (g := g) d.rec_ (by have := hp.ls; omega)
      have hrl : d.rec_.length ≤ 86400000 := (docE_zero he).2.2.1
      rw [namedR_rec hrl] at hNm
      have c0 : (!decide ((0 : Int) = 0)) = false := rfl
      rw [he] at hC
      cases hr : recOk d.rec_ with
      | true =>
        rw [hr] at hNm
        have hpe : printE d = 0 := by unfold printE; rw [if_neg (by simpa using he), hr]; rfl
        unfold printV at h1
        rw [hpe] at h1
        generalize (if (0 : Int) = 0 then toB (printD d) else ⟨#[]⟩) = out at h1
        have c1 : decide ((0 : Int) = 0) = true := rfl
        have c2 : (decide ((0 : Int) = 0) == true) = true := rfl
        repeat' (first
         | refine stn [] ?_
         | ((with_reducible refine is_gd ?_); refine awpL_split rfl rfl (fun h => ?_) (fun h => ?_))
         | ((with_reducible refine is_awp ?_); refine awp_cond rfl (fun h => ?_) (fun h => ?_))
         | fail)
        exact retP rfl rfl
      | false =>
        rw [hr] at hNm
        have hpe : printE d = 1 := by unfold printE; rw [if_neg (by simpa using he), hr]; rfl
        unfold printV at h1
        rw [hpe] at h1
        generalize (if (1 : Int) = 0 then toB (printD d) else ⟨#[]⟩) = out at h1
        have c1 : decide ((1 : Int) = 0) = false := rfl
        have c2 : (decide ((1 : Int) = 0) == false) = true := rfl
        have c3 : decide ((1 : Int) = 1) = true := rfl
        repeat' (first
         | refine stn [] ?_
         | ((with_reducible refine is_gd ?_); refine awpL_split rfl rfl (fun h => ?_) (fun h => ?_))
         | ((with_reducible refine is_awp ?_); refine awp_cond rfl (fun h => ?_) (fun h => ?_))
         | fail)
        exact retP rfl rfl
    · have hpe : printE d = docE d := by unfold printE; rw [if_pos he]
      have c0 : (!decide (docE d = 0)) = true := by rw [decide_eq_false he]; rfl
      unfold printV at h1
      rw [hpe] at h1
      generalize (if docE d = 0 then toB (printD d) else ⟨#[]⟩) = out at h1
      have c1 : decide (docE d = docE d) = true := by simp
      repeat' (first
       | refine stn [] ?_
       | ((with_reducible refine is_gd ?_); refine awpL_split rfl rfl (fun h => ?_) (fun h => ?_))
       | ((with_reducible refine is_awp ?_); refine awp_cond rfl (fun h => ?_) (fun h => ?_))
       | fail)
      exact retP rfl rfl
end Go.Proofs.YtigcjinpkngapaaGreatDoor
end
section
namespace Go.Proofs.YtigcjinpkngapaaGreatDoor
open Go.Ac
attribute [local irreducible] awp awpL Ev Ev2 EvS thenQ blockQ retQ PCalls OCalls
variable {g : List (Nat × List AV)}
set_option maxRecDepth 4000 in
set_option maxHeartbeats 2000000 in
theorem r12Ints_spec (a b : List Int) (ha : a.length ≤ 1000000) (hb : b.length ≤ 1000000) : PCalls Tryz.prog g 42 [encIs a, encIs b] (vb (decide (a = b))) := by
  refine pcalls' Tryz.func42 Tryz.ntmps42 rfl rfl rfl ?_
  by_cases hl : a.length = b.length
  · have c0 : (!decide ((a.length : Int) = b.length)) = false := by rw [hl]; simp
    repeat' (first
     | refine stn [] ?_
     | ((with_reducible refine is_gd ?_); refine awpL_split rfl rfl (fun h => ?_) (fun h => ?_))
     | ((with_reducible refine is_awp ?_); refine awp_cond rfl (fun h => ?_) (fun h => ?_))
     | fail)
    refine awp_for (α := Nat) 0 (fun k => [(0, encIs a), (1, encIs b), (5, vi k)]) (fun _ => []) (fun k => k ≤ a.length ∧ a.take k = b.take k) (fun k => a.length - k) 0
      ⟨(.cons rfl rfl (.cons rfl rfl (.cons rfl rfl .nil))), rfl, rfl, rfl⟩ ⟨Nat.zero_le _, by simp⟩ ?_
    rintro k ⟨hk, hf⟩
    cases ht : a[k]? with
    | none =>
      have hge : a.length ≤ k := by simpa using ht
      have c1 : decide ((k : Int) < a.length) = false := decide_eq_false (by omega)
      rw [List.take_of_length_le hge, List.take_of_length_le (by omega)] at hf
      rw [decide_eq_true hf]
      repeat' (first
       | refine stn [] ?_
       | ((with_reducible refine is_gd ?_); refine awpL_split rfl rfl (fun h => ?_) (fun h => ?_))
       | ((with_reducible refine is_awp ?_); refine awp_cond rfl (fun h => ?_) (fun h => ?_))
       | fail)
      exact retP rfl rfl
    | some n =>
      have hlt : k < a.length := (List.getElem?_eq_some_iff.1 ht).1
      have c1 : decide ((k : Int) < a.length) = true := decide_eq_true (by omega)
      obtain ⟨m, hm⟩ : ∃ m, b[k]? = some m := ⟨_, List.getElem?_eq_getElem (by omega)⟩
      have ik : 0 ≤ (k : Int) ∧ (a.map intC)[(k : Int).toNat]? = some (intC n) := ⟨by omega, by simp [ht]⟩
      have im : 0 ≤ (k : Int) ∧ (b.map intC)[(k : Int).toNat]? = some (intC m) := ⟨by omega, by simp [hm]⟩
      by_cases e : n = m
      · have c2 : (!decide (n = m)) = false := by rw [decide_eq_true e]; rfl
        repeat' (first
         | refine st [] ?_
         | ((with_reducible refine is_gd ?_); refine awpL_split rfl rfl (fun h => ?_) (fun h => ?_))
         | ((with_reducible refine isD_gd ?_); ((fail_if_success (refine isD_kn (c := true) rfl qa0 ?_)); (fail_if_success (refine isD_kn (c := false) rfl qa0 ?_)); refine awpD_split rfl (fun h => ?_) (fun h => ?_)))
         | ((with_reducible refine is_awp ?_); refine awp_cond rfl (fun h => ?_) (fun h => ?_))
         | fail)
        refine ⟨k + 1, ⟨(.cons rfl rfl (.cons rfl rfl (.cons rfl rfl .nil))), rfl, rfl, rfl⟩, ⟨by omega, ?_⟩, by omega⟩
        rw [List.take_add_one, List.take_add_one, hf, ht, hm, e]
      · have c2 : (!decide (n = m)) = true := by rw [decide_eq_false e]; rfl
        have hne : a ≠ b := fun q => by rw [q, hm] at ht; exact e (Option.some.inj ht).symm
        rw [decide_eq_false hne]
        repeat' (first
         | refine st [] ?_
         | ((with_reducible refine is_gd ?_); refine awpL_split rfl rfl (fun h => ?_) (fun h => ?_))
         | ((with_reducible refine isD_gd ?_); ((fail_if_success (refine isD_kn (c := true) rfl qa0 ?_)); (fail_if_success (refine isD_kn (c := false) rfl qa0 ?_)); refine awpD_split rfl (fun h => ?_) (fun h => ?_)))
         | ((with_reducible refine is_awp ?_); refine awp_cond rfl (fun h => ?_) (fun h => ?_))
         | fail)
        exact retP rfl rfl
  · have c0 : (!decide ((a.length : Int) = b.length)) = true := by
      rw [decide_eq_false (by omega)]; rfl
    have hne : a ≠ b := fun q => hl (by rw [q])
    rw [decide_eq_false hne]
    repeat' (first
     | refine stn [] ?_
     | ((with_reducible refine is_gd ?_); refine awpL_split rfl rfl (fun h => ?_) (fun h => ?_))
     | ((with_reducible refine is_awp ?_); refine awp_cond rfl (fun h => ?_) (fun h => ?_))
     | fail)
    exact retP rfl rfl
end Go.Proofs.YtigcjinpkngapaaGreatDoor
end
section
namespace Go.Proofs.YtigcjinpkngapaaGreatDoor
open Go.Ac
attribute [local irreducible] awp awpL Ev Ev2 EvS thenQ blockQ retQ PCalls OCalls
variable {g : List (Nat × List AV)}
def tierEqV : List Value → List Value → Option Bool
  | [.string s, .int .i64 a, .int .i64 b, .int .i64 c], [.string s', .int .i64 a', .int .i64 b', .int .i64 c'] => some (s.toList == s'.toList && (a == a' && (b == b' && c == c')))
  | _, _ => none
theorem tierEqV_T : EqT Tryz.prog 51 tierEqV := by
  intro xs ys b w h
  unfold tierEqV at h
  split at h
  · rename_i s a b c s' a' b' c'
    have h := Option.some.inj h
    subst h
    have u3 := Tryz.underlying3
    have a3 := Tryz.isAgg3
    have z3 := Tryz.sizeOf3
    have u9 := Tryz.underlying9
    have a9 := Tryz.isAgg9
    have z9 := Tryz.sizeOf9
    have hS : Tryz.prog.underlying 51 = some (.struct (Tryz.prog.fieldsOf 51)) := by kernel_rfl
    rw [show (10000 : Nat) = 9999 + 1 from rfl, run_equalIn_agg w 9999 _ _ _ hS (by kernel_rfl)]
    simp only [Program.fieldsOf, Tryz.underlying51]
    go_simp
    by_cases h1 : a = a' <;> by_cases h2 : b = b' <;> by_cases h3 : c = c' <;> by_cases h7 : s.toList = s'.toList <;> simp [h1, h2, h3, h7]
  · cases h
end Go.Proofs.YtigcjinpkngapaaGreatDoor
end
