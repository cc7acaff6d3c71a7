/- A logic of trees over the model's steps, and the contracts of the functions that the laws reach: part 26 of 29. -/
import Derived.Test.YtcfkokllinkigaaGreatDoorB25
set_option linter.unusedVariables false
set_option linter.unusedSimpArgs false
set_option linter.unusedSectionVars false
set_option linter.unnecessarySimpa false
namespace Go.Proofs.YtcfkokllinkigaaGreatDoor
section
open Go.Ac Go.MapKept
attribute [local irreducible] awp awpL Ev Ev2 EvS thenQ blockQ retQ PCalls OCalls ICalls YieldOk IterC
variable {g : List (Nat × List AV)}
abbrev LR (z : List AV) (ls : List (List AV)) (r : Recording) (l : List Tier) (N : List Note) (vl : Nat) (v : Nat) (out : List Note) : List LB := [.box z, .map (mpK N) (mpX N), .box (plC r l 0), .own vl 58 8 ls, .dead, .own 0 56 7 (N.map noteC), .pin, .own v 56 7 (out.map noteC)]
theorem ZX {M : List LB} {z : List AV} {ls : List (List AV)} {r : Recording} {l : List Tier} {N : List Note} {vl v : Nat} {out : List Note} (hz : noidL (low 7) z = true) : nrmBs M 7 8 0 (LR z ls r l N vl v out) = LR z ls r l N vl 0 out := by
 have h := qd (L := M) (q := 7) (n := 8) (a := 7) (by omega) z hz
 show LB.box (nrmL M 7 8 z) :: _ = _
 rw [h]
 rfl
theorem yh (out : List Note) (i : Nat) (m : Note) : (out.map noteC).set (i : Int).toNat (noteC m) = (out.set i m).map noteC := by
 rw [Int.toNat_natCast, List.map_set]
section rules
variable (z : List AV) (ls : List (List AV)) (r : Recording) (l : List Tier) (N : List Note)
set_option maxRecDepth 8000 in
set_option maxHeartbeats 16000000 in
theorem ranked_spec (hl : l.length ≤ 1000000) (hN : N.length ≤ 1000000) (hp : N.Pairwise fun a b => a.id ≠ b.id) (hz : noidL (low 6) z = true) (hz7 : noidL (low 7) z = true) (ht : ∀ x ∈ N, 0 ≤ x.tier ∧ x.tier < l.length) : ICalls Tryz.prog (Glo.of g) 41 [.lp 2 0] (LD z ls r l N 0 0) (LD z ls r l N 0 0) (encNotes (doneN l N)) := by
 refine icalls Tryz.func41 rfl Tryz.ntmps41 rfl rfl rfl rfl (ld_ok hz) rfl ?_
 repeat' (first
  | ((with_reducible refine zg ?_); (first | refine zk (ZM (t := 43) (n := 0) (es := []) rfl rfl rfl rfl rfl rfl rfl rfl rfl rfl rfl qf0 qc0) rfl ?_ | refine zk (zZ (es' := N.map noteC) rfl rfl rfl rfl rfl rfl rfl rfl rfl rfl rfl rfl rfl qe0 rfl rfl) rfl ?_))
  | refine stn [] ?_
  | fail)
 refine zi (α := Nat) 8 (fun i => [(0, .lp 2 0), (3, .os 7 0), (17, vi ((N.map noteC).length : Nat)), (18, vi i)]) (fun i => LR z ls r l N 0 0 (mixN l N i)) (fun i => i ≤ N.length) (fun i => N.length - i) 0
  ⟨(.cons rfl rfl (.cons rfl rfl (.cons rfl rfl (.cons rfl rfl .nil)))), ZX (r := r) (l := l) (N := N) (ls := ls) (vl := 0) (out := N) hz7, rfl, rfl⟩ (Nat.zero_le _) ?_
 intro i hi
 have olen := mixN_len l N hi
 by_cases hlt : i < N.length
 ·obtain ⟨x, hx⟩ : ∃ x, N[i]? = some x := ⟨N[i], List.getElem?_eq_getElem hlt⟩
  have hxm := List.mem_of_getElem? hx
  obtain ⟨t1, t2⟩ := jK (ht x hxm)
  have c1 : decide ((i : Int) < (((N.map noteC).length : Nat) : Int)) = true := decide_eq_true (by rw [List.length_map]; omega)
  have oset := mixN_set (l := l) hx
  have osame := mixN_same (l := l) hx
  have x2 : (N.map noteC)[(i : Int).toNat]? = some (noteC x) := by rw [Int.toNat_natCast, List.getElem?_map, hx]; rfl
  have o2 : ((mixN l N i).map noteC)[(i : Int).toNat]? = some (noteC x) := by rw [Int.toNat_natCast, List.getElem?_map, mixN_at hx]; rfl
  have hb : (0 : Int) ≤ (i : Int) ∧ (i : Int) < (((N.map noteC).length : Nat) : Int) := ⟨by omega, by rw [List.length_map]; omega⟩
  have ob : (0 : Int) ≤ (i : Int) ∧ (i : Int) < ((((mixN l N i).map noteC).length : Nat) : Int) := ⟨by omega, by rw [List.length_map]; omega⟩
  by_cases k3 : (tierOf l x).kind = 3
  ·have d1 : (!decide ((tierOf l x).kind = 3)) = false := by rw [decide_eq_true k3]; rfl
   have hrx : rankN l N x = { x with rank := ((rkN N x : Nat) : Int) } := by unfold rankN; rw [if_pos k3]; rfl
   rw [hrx] at oset
   generalize mixN l N i = out at *
   generalize tierOf l x = t at *
   refine run [] ?_
   refine zi (α := Nat) 8 (fun k => [(0, .lp 2 0), (3, .os 7 0), (17, vi ((N.map noteC).length : Nat)), (18, vi i), (4, vi i), (5, vi (cntK N x k : Nat)), (37, .os 5 0), (38, vi ((N.map noteC).length : Nat)), (39, vi k)]) (fun _ => LR z ls r l N 0 0 out) (fun k => k ≤ N.length) (fun k => N.length - k) 0
    ⟨(.cons rfl rfl (.cons rfl rfl (.cons rfl rfl (.cons rfl rfl (.cons rfl rfl (.cons rfl rfl (.cons rfl rfl (.cons rfl rfl (.cons rfl rfl .nil))))))))), ZX (r := r) (l := l) (N := N) (ls := ls) (vl := 0) hz7, rfl, rfl⟩ (Nat.zero_le _) ?_
   intro k hk
   by_cases hkl : k < N.length
   ·obtain ⟨y, hy⟩ : ∃ y, N[k]? = some y := ⟨N[k], List.getElem?_eq_getElem hkl⟩
    have c2 : decide ((k : Int) < (((N.map noteC).length : Nat) : Int)) = true := decide_eq_true (by rw [List.length_map]; omega)
    have y2 : (N.map noteC)[(k : Int).toNat]? = some (noteC y) := by rw [Int.toNat_natCast, List.getElem?_map, hy]; rfl
    have yb : (0 : Int) ≤ (k : Int) ∧ (k : Int) < (((N.map noteC).length : Nat) : Int) := ⟨by omega, by rw [List.length_map]; omega⟩
    have hsucc := cntK_succ (n := x) hy
    have hcl := cntK_len N x k
    have hS1 : (sameP y x && befN y x) = true → ((cntK N x (k + 1) : Nat) : Int) = ((cntK N x k : Nat) : Int) + 1 := fun q => by rw [hsucc, if_pos q]; omega
    have hS0 : (sameP y x && befN y x) = false → cntK N x (k + 1) = cntK N x k := fun q => by rw [hsucc, if_neg (by rw [q]; simp)]; omega
    unfold sameP befN at hS1 hS0
    generalize cntK N x k = c at *
    clear hsucc olen oset osame hrx
    by_cases e1 : y.tier = x.tier
    ·have f1 : decide (y.tier = x.tier) = true := decide_eq_true e1
     by_cases e2 : y.parent = x.parent
     ·have f2 : decide (y.parent = x.parent) = true := decide_eq_true e2
      by_cases e3 : y.rank < x.rank
      ·have f3 : decide (y.rank < x.rank) = true := decide_eq_true e3
       have hS := hS1 (by rw [f1, f2, f3]; rfl)
       repeat' (first
        | refine zS 10 ?_
        | ((with_reducible refine zg ?_); refine zb (zx (f := noteC y) rfl rfl rfl rfl y2 rfl rfl) rfl ?_)
        | refine stn [] ?_
        | fail)
       refine ⟨?_⟩
       clear hS0 hS1
       repeat' (first
        | (with_reducible refine zp ?_); dsimp only [addT]
        | (with_reducible refine zu ?_); dsimp only [addT]
        | refine st [] ?_
        | fail)
       refine ⟨k + 1, ?_, by omega, by omega⟩
       rw [hS]
       exact ⟨(.cons rfl rfl (.cons rfl rfl (.cons rfl rfl (.cons rfl rfl (.cons rfl rfl (.cons rfl rfl (.cons rfl rfl (.cons rfl rfl (.cons rfl rfl .nil))))))))), ZX (r := r) (l := l) (N := N) (ls := ls) (vl := 0) hz7, rfl, rfl⟩
      ·have f3 : decide (y.rank < x.rank) = false := decide_eq_false e3
       by_cases e4 : y.rank = x.rank
       ·have f4 : decide (y.rank = x.rank) = true := decide_eq_true e4
        by_cases e5 : y.id < x.id
        ·have f5 : decide (y.id < x.id) = true := decide_eq_true e5
         have hS := hS1 (by rw [f1, f2, f3, f4, f5]; rfl)
         repeat' (first
          | refine zS 10 ?_
          | ((with_reducible refine zg ?_); refine zb (zx (f := noteC y) rfl rfl rfl rfl y2 rfl rfl) rfl ?_)
          | refine stn [] ?_
          | fail)
         refine ⟨?_⟩
         clear hS0 hS1
         repeat' (first
          | (with_reducible refine zp ?_); dsimp only [addT]
          | (with_reducible refine zu ?_); dsimp only [addT]
          | refine st [] ?_
          | fail)
         refine ⟨k + 1, ?_, by omega, by omega⟩
         rw [hS]
         exact ⟨(.cons rfl rfl (.cons rfl rfl (.cons rfl rfl (.cons rfl rfl (.cons rfl rfl (.cons rfl rfl (.cons rfl rfl (.cons rfl rfl (.cons rfl rfl .nil))))))))), ZX (r := r) (l := l) (N := N) (ls := ls) (vl := 0) hz7, rfl, rfl⟩
        ·have f5 : decide (y.id < x.id) = false := decide_eq_false e5
         have hS := hS0 (by rw [f1, f2, f3, f4, f5]; rfl)
         repeat' (first
          | refine zS 10 ?_
          | ((with_reducible refine zg ?_); refine zb (zx (f := noteC y) rfl rfl rfl rfl y2 rfl rfl) rfl ?_)
          | refine stn [] ?_
          | fail)
         refine ⟨?_⟩
         clear hS0 hS1
         repeat' (first
          | (with_reducible refine zp ?_); dsimp only [addT]
          | (with_reducible refine zu ?_); dsimp only [addT]
          | refine st [] ?_
          | fail)
         refine ⟨k + 1, ?_, by omega, by omega⟩
         rw [hS]
         exact ⟨(.cons rfl rfl (.cons rfl rfl (.cons rfl rfl (.cons rfl rfl (.cons rfl rfl (.cons rfl rfl (.cons rfl rfl (.cons rfl rfl (.cons rfl rfl .nil))))))))), ZX (r := r) (l := l) (N := N) (ls := ls) (vl := 0) hz7, rfl, rfl⟩
       ·have f4 : decide (y.rank = x.rank) = false := decide_eq_false e4
        have hS := hS0 (by rw [f1, f2, f3, f4]; rfl)
        repeat' (first
         | refine zS 10 ?_
         | ((with_reducible refine zg ?_); refine zb (zx (f := noteC y) rfl rfl rfl rfl y2 rfl rfl) rfl ?_)
         | refine stn [] ?_
         | fail)
        refine ⟨?_⟩
        clear hS0 hS1
        repeat' (first
         | (with_reducible refine zp ?_); dsimp only [addT]
         | (with_reducible refine zu ?_); dsimp only [addT]
         | refine st [] ?_
         | fail)
        refine ⟨k + 1, ?_, by omega, by omega⟩
        rw [hS]
        exact ⟨(.cons rfl rfl (.cons rfl rfl (.cons rfl rfl (.cons rfl rfl (.cons rfl rfl (.cons rfl rfl (.cons rfl rfl (.cons rfl rfl (.cons rfl rfl .nil))))))))), ZX (r := r) (l := l) (N := N) (ls := ls) (vl := 0) hz7, rfl, rfl⟩
     ·have f2 : decide (y.parent = x.parent) = false := decide_eq_false e2
      have hS := hS0 (by rw [f1, f2]; rfl)
      repeat' (first
       | refine zS 10 ?_
       | ((with_reducible refine zg ?_); refine zb (zx (f := noteC y) rfl rfl rfl rfl y2 rfl rfl) rfl ?_)
       | refine stn [] ?_
       | fail)
      refine ⟨?_⟩
      clear hS0 hS1
      repeat' (first
       | (with_reducible refine zp ?_); dsimp only [addT]
       | (with_reducible refine zu ?_); dsimp only [addT]
       | refine st [] ?_
       | fail)
      refine ⟨k + 1, ?_, by omega, by omega⟩
      rw [hS]
      exact ⟨(.cons rfl rfl (.cons rfl rfl (.cons rfl rfl (.cons rfl rfl (.cons rfl rfl (.cons rfl rfl (.cons rfl rfl (.cons rfl rfl (.cons rfl rfl .nil))))))))), ZX (r := r) (l := l) (N := N) (ls := ls) (vl := 0) hz7, rfl, rfl⟩
    ·have f1 : decide (y.tier = x.tier) = false := decide_eq_false e1
     have hS := hS0 (by rw [f1]; rfl)
     repeat' (first
      | refine zS 10 ?_
      | ((with_reducible refine zg ?_); refine zb (zx (f := noteC y) rfl rfl rfl rfl y2 rfl rfl) rfl ?_)
      | refine stn [] ?_
      | fail)
     refine ⟨?_⟩
     clear hS0 hS1
     repeat' (first
      | (with_reducible refine zp ?_); dsimp only [addT]
      | (with_reducible refine zu ?_); dsimp only [addT]
      | refine st [] ?_
      | fail)
     refine ⟨k + 1, ?_, by omega, by omega⟩
     rw [hS]
     exact ⟨(.cons rfl rfl (.cons rfl rfl (.cons rfl rfl (.cons rfl rfl (.cons rfl rfl (.cons rfl rfl (.cons rfl rfl (.cons rfl rfl (.cons rfl rfl .nil))))))))), ZX (r := r) (l := l) (N := N) (ls := ls) (vl := 0) hz7, rfl, rfl⟩
   ·have hkN : k = N.length := by omega
    subst hkN
    have c2 : decide (((N.length : Nat) : Int) < (((N.map noteC).length : Nat) : Int)) = false := decide_eq_false (by rw [List.length_map]; omega)
    have ecnt : cntK N x N.length = rkN N x := cntK_all (Nat.le_refl _)
    have hset : (out.map noteC).set (i : Int).toNat (noteC { x with rank := ((rkN N x : Nat) : Int) }) = (mixN l N (i + 1)).map noteC := by rw [yh, oset]
    rw [ecnt]
    repeat' (first
     | ((with_reducible refine zg ?_); refine Zk (QA (el' := noteC { x with rank := ((rkN N x : Nat) : Int) }) (L' := LR z ls r l N 0 0 (mixN l N (i + 1))) rfl rfl rfl rfl rfl rfl rfl rfl o2 rfl (by rw [hset]; rfl)) ?_)
     | refine stn [] ?_
     | fail)
    exact ⟨i + 1, ⟨(.cons rfl rfl (.cons rfl rfl (.cons rfl rfl (.cons rfl rfl .nil)))), ZX (r := r) (l := l) (N := N) (ls := ls) (vl := 0) hz7, rfl, rfl⟩, by omega, by omega⟩
  ·have d1 : (!decide ((tierOf l x).kind = 3)) = true := by rw [decide_eq_false k3]; rfl
   replace osame := osame k3
   generalize tierOf l x = t at *
   refine run [] ?_
   refine ⟨i + 1, ?_, by omega, by omega⟩
   rw [← osame]
   exact ⟨(.cons rfl rfl (.cons rfl rfl (.cons rfl rfl (.cons rfl rfl .nil)))), ZX (r := r) (l := l) (N := N) (ls := ls) (vl := 0) hz7, rfl, rfl⟩
 ·have hiN : i = N.length := by omega
  subst hiN
  have c1 : decide (((N.length : Nat) : Int) < (((N.map noteC).length : Nat) : Int)) = false := decide_eq_false (by rw [List.length_map]; omega)
  rw [mixN_all]
  have hpm : (N.map (rankN l N)).Pairwise fun a b => a.id ≠ b.id := List.pairwise_map.2 (hp.imp fun {a b} q => by rw [(Zg l N a).1, (Zg l N b).1]; exact q)
  have hdone : sortN (N.map (rankN l N)) = doneN l N := rfl
  have hMlen : (N.map (rankN l N)).length ≤ 1000000 := by rw [List.length_map]; exact hN
  generalize N.map (rankN l N) = M at *
  clear olen hlt hi ht hN
  refine runn [] ?_
  refine zi (α := Nat) 8 (fun i => [(0, .lp 2 0), (3, .os 7 0), (107, vi ((M.map noteC).length : Nat)), (108, vi i)]) (fun i => LR z ls r l N 0 0 (sortI M i ++ M.drop i)) (fun i => i ≤ M.length) (fun i => M.length - i) 0
   ⟨(.cons rfl rfl (.cons rfl rfl (.cons rfl rfl (.cons rfl rfl .nil)))), ZX (r := r) (l := l) (N := N) (ls := ls) (vl := 0) (out := M) hz7, rfl, rfl⟩ (Nat.zero_le _) ?_
  intro i hi
  by_cases hlt : i < M.length
  ·obtain ⟨m, hm⟩ : ∃ m, M[i]? = some m := ⟨M[i], List.getElem?_eq_getElem hlt⟩
   have c1 : decide ((i : Int) < (((M.map noteC).length : Nat) : Int)) = true := decide_eq_true (by rw [List.length_map]; omega)
   have hSl := sortI_len M hi
   have hSi := sortI_inc hpm i
   have hSs := sortI_succ hm
   have e0 : sortI M i ++ M.drop i = insAt (sortI M i) m (M.drop (i + 1)) i := by
    have := insAt_0 (sortI M i) m (M.drop (i + 1))
    rw [hSl] at this
    rw [this]
    obtain ⟨h1, h2⟩ := List.getElem?_eq_some_iff.1 hm
    rw [List.drop_eq_getElem_cons h1, h2]
   have hRl : (M.drop (i + 1)).length = M.length - (i + 1) := List.length_drop
   rw [e0]
   generalize sortI M i = S at *
   generalize hR : M.drop (i + 1) = R at *
   clear e0
   refine runn [] ?_
   refine zi (α := Nat) 8 (fun k => [(0, .lp 2 0), (3, .os 7 0), (107, vi ((M.map noteC).length : Nat)), (108, vi i), (9, vi k)]) (fun k => LR z ls r l N 0 0 (insAt S m R k)) (fun k => k ≤ i ∧ ∀ x ∈ S.drop k, m.id < x.id) (fun k => k) i
    ⟨(.cons rfl rfl (.cons rfl rfl (.cons rfl rfl (.cons rfl rfl (.cons rfl rfl .nil))))), ZX (r := r) (l := l) (N := N) (ls := ls) (vl := 0) hz7, rfl, rfl⟩ ⟨Nat.le_refl _, by rw [← hSl, List.drop_length]; intro x hx; cases hx⟩ ?_
   rintro k ⟨hk, hb⟩
   have hil := insAt_len (S := S) (m := m) (R := R) (k := k) (by omega)
   have hend : (k = 0 ∨ ∃ j s, k = j + 1 ∧ S[j]? = some s ∧ ¬ m.id < s.id) → insAt S m R k = sortI M (i + 1) ++ R := fun q => by rw [hSs]; exact insAt_end hSi hb q
   cases k with
   | zero =>
    have d0 : decide ((0 : Int) < ((0 : Nat) : Int)) = false := rfl
    have e1 := hend (.inl rfl)
    rw [e1]
    refine run [] ?_
    exact ⟨i + 1, ⟨(.cons rfl rfl (.cons rfl rfl (.cons rfl rfl (.cons rfl rfl .nil)))), by rw [hR]; exact ZX (r := r) (l := l) (N := N) (ls := ls) (vl := 0) hz7, rfl, rfl⟩, by omega, by omega⟩
   | succ j =>
    have d0 : decide ((0 : Int) < ((j + 1 : Nat) : Int)) = true := decide_eq_true (by omega)
    obtain ⟨s, hs⟩ : ∃ s, S[j]? = some s := ⟨_, List.getElem?_eq_getElem (by omega)⟩
    have he : ((j + 1 : Nat) : Int) - 1 = ((j : Nat) : Int) := by omega
    have hbd : -9223372036854775808 ≤ ((j + 1 : Nat) : Int) - 1 ∧ ((j + 1 : Nat) : Int) - 1 ≤ 9223372036854775807 := by omega
    have k2 : ((insAt S m R (j + 1)).map noteC)[((j + 1 : Nat) : Int).toNat]? = some (noteC m) := by rw [Int.toNat_natCast, List.getElem?_map, insAt_k (by omega)]; rfl
    have p2 : ((insAt S m R (j + 1)).map noteC)[(((j + 1 : Nat) : Int) - 1).toNat]? = some (noteC s) := by rw [he, Int.toNat_natCast, List.getElem?_map, insAt_p hs]; rfl
    have kb : (0 : Int) ≤ ((j + 1 : Nat) : Int) ∧ ((j + 1 : Nat) : Int) < ((((insAt S m R (j + 1)).map noteC).length : Nat) : Int) := ⟨by omega, by rw [List.length_map]; omega⟩
    have pb : (0 : Int) ≤ ((j + 1 : Nat) : Int) - 1 ∧ ((j + 1 : Nat) : Int) - 1 < ((((insAt S m R (j + 1)).map noteC).length : Nat) : Int) := ⟨by omega, by rw [List.length_map]; omega⟩
    have hsw := insAt_swap (m := m) (R := R) hs
    by_cases hlt2 : m.id < s.id
    ·have d1 : decide (m.id < s.id) = true := decide_eq_true hlt2
     have hb2 : ∀ x ∈ S.drop j, m.id < x.id := by
      obtain ⟨h1, h2⟩ := List.getElem?_eq_some_iff.1 hs
      rw [List.drop_eq_getElem_cons h1, h2]
      intro x hx
      rcases List.mem_cons.1 hx with rfl | hx
      ·exact hlt2
      ·exact hb x hx
     clear hend
     generalize insAt S m R (j + 1) = out at *
     have w1 : (out.map noteC).set ((j + 1 : Nat) : Int).toNat (noteC s) = (out.set (j + 1) s).map noteC := yh out (j + 1) s
     have w2 : ((out.set (j + 1) s).map noteC).set (((j + 1 : Nat) : Int) - 1).toNat (noteC m) = (insAt S m R j).map noteC := by rw [he, yh, hsw]
     have p3 : ((out.set (j + 1) s).map noteC)[(((j + 1 : Nat) : Int) - 1).toNat]? = some (noteC s) := by
      rw [← w1, List.getElem?_set, if_neg (by omega)]; exact p2
     have pb3 : (0 : Int) ≤ ((j + 1 : Nat) : Int) - 1 ∧ ((j + 1 : Nat) : Int) - 1 < ((((out.set (j + 1) s).map noteC).length : Nat) : Int) := ⟨by omega, by rw [List.length_map, List.length_set]; rw [List.length_map] at pb; omega⟩
     repeat' (first
      | refine zS 21 ?_
      | refine st [] ?_
      | fail)
     refine ⟨?_⟩
     repeat' (first
      | refine awp_drawE 15 [⟨10, .data⟩, ⟨11, .data⟩, ⟨12, .data⟩] 16 rfl rfl rfl (by simp only [List.set_cons_zero, List.set_cons_succ, moreE, List.take_succ_cons, List.take_zero, List.take_nil]; rfl) (by simp only [List.set_cons_zero, List.set_cons_succ, moreE, List.drop_succ_cons, List.drop_zero, List.drop_nil]; rfl) (by kernel_rfl) rfl rfl rfl rfl (by repeat' (first | exact Strip.nil | apply Strip.keep rfl | apply Strip.drop rfl)) ?_
      | refine Q6 rfl rfl (QA (el' := noteC s) (L' := LR z ls r l N 0 0 (out.set (j + 1) s)) rfl rfl rfl rfl rfl rfl rfl rfl k2 rfl (by rw [w1]; rfl)) rfl rfl ?_
      | ((with_reducible refine zg ?_); refine Zk (QA (el' := noteC m) (L' := LR z ls r l N 0 0 (insAt S m R j)) rfl rfl rfl rfl rfl rfl rfl rfl p3 rfl (by rw [w2]; rfl)) ?_)
      | ((with_reducible refine zu ?_); (first | refine zc (zm rfl qd0 (zx (f := noteC s) rfl rfl rfl rfl p2 rfl rfl) rfl rfl rfl) qb0 ?_ | refine zc (zm rfl qd0 (zx (f := noteC m) rfl rfl rfl rfl k2 rfl rfl) rfl rfl rfl) qb0 ?_))
      | ((with_reducible refine zp ?_); (first | refine zd rfl rfl qa0 (zm rfl qd0 (zx (f := noteC s) rfl rfl rfl rfl p2 rfl rfl) rfl rfl rfl) qb0 ?_ | refine zd rfl rfl qa0 (zm rfl qd0 (zx (f := noteC m) rfl rfl rfl rfl k2 rfl rfl) rfl rfl rfl) qb0 ?_))
      | refine st [] ?_
      | fail)
     exact ⟨j, ⟨(.cons rfl rfl (.cons rfl rfl (.cons rfl rfl (.cons rfl rfl (.cons rfl (by rw [← he]; rfl) .nil))))), ZX (r := r) (l := l) (N := N) (ls := ls) (vl := 0) hz7, rfl, rfl⟩, ⟨by omega, hb2⟩, by omega⟩
    ·have d1 : decide (m.id < s.id) = false := decide_eq_false hlt2
     have e1 := hend (.inr ⟨j, s, rfl, hs, hlt2⟩)
     generalize insAt S m R (j + 1) = out at *
     refine run [] ?_
     exact ⟨i + 1, ⟨(.cons rfl rfl (.cons rfl rfl (.cons rfl rfl (.cons rfl rfl .nil)))), by rw [hR, ← e1]; exact ZX (r := r) (l := l) (N := N) (ls := ls) (vl := 0) hz7, rfl, rfl⟩, by omega, by omega⟩
  ·have hiM : i = M.length := by omega
   subst hiM
   have c1 : decide (((M.length : Nat) : Int) < (((M.map noteC).length : Nat) : Int)) = false := decide_eq_false (by rw [List.length_map]; omega)
   rw [sortI_all, hdone, List.drop_length, List.append_nil]
   repeat' (first
    | refine QY (x := .os 7 0) (x' := encNotes (doneN l N)) 3 (c := .region 23 _ _) rfl (by simp [frzV]) rfl rfl ?_
    | refine stn [] ?_
    | fail)
   exact retI rfl ⟨rfl, rfl⟩
end rules
end
section
def ofT (F : List Note) (t j : Nat) : List Note := (F.take j).filter fun n => decide (n.tier = (t : Int))
def doneL (F : List Note) (t j : Nat) : List Note := ((List.range t).flatMap fun s => ofT F s F.length) ++ ofT F t j
def placedK (len : Int) (l : List Tier) (F : List Note) (L0 : List (Note × Int)) (t j : Nat) : Placed := (doneL F t j).foldl (stepP len l) ⟨[], L0⟩
theorem ofT_succ {F : List Note} {t j : Nat} {n : Note} (h : F[j]? = some n) : ofT F t (j + 1) = ofT F t j ++ if n.tier = (t : Int) then [n] else [] := by
 unfold ofT
 rw [List.take_add_one, h, Option.toList, List.filter_append]
 congr 1
 by_cases k : n.tier = (t : Int)
 ·rw [if_pos k, List.filter_cons_of_pos (by simp [k]), List.filter_nil]
 ·rw [if_neg k, List.filter_cons_of_neg (by simp [k]), List.filter_nil]
theorem ofT_all (F : List Note) (t : Nat) : ofT F t F.length = F.filter fun n => decide (n.tier = (t : Int)) := by
 unfold ofT; rw [List.take_length]
theorem doneL_no {F : List Note} {t j : Nat} {n : Note} (h : F[j]? = some n) (k : n.tier ≠ (t : Int)) : doneL F t (j + 1) = doneL F t j := by
 unfold doneL; rw [ofT_succ h, if_neg k, List.append_nil]
theorem doneL_yes {F : List Note} {t j : Nat} {n : Note} (h : F[j]? = some n) (k : n.tier = (t : Int)) : doneL F t (j + 1) = doneL F t j ++ [n] := by
 unfold doneL; rw [ofT_succ h, if_pos k, List.append_assoc]
theorem doneL_next (F : List Note) (t : Nat) : doneL F (t + 1) 0 = doneL F t F.length := by
 unfold doneL
 rw [List.range_succ, List.flatMap_append]
 simp [ofT]
theorem doneL_ord (l : List Tier) (ns : List Note) : doneL (ns.filter (inR l)) l.length 0 = ordP l ns := by
 unfold doneL ordP
 have : ofT (ns.filter (inR l)) l.length 0 = [] := rfl
 rw [this, List.append_nil]
 congr 1
 funext s
 rw [ofT_all]
theorem placedK_no {len : Int} {l : List Tier} {F : List Note} {L0 : List (Note × Int)} {t j : Nat} {n : Note} (h : F[j]? = some n) (k : n.tier ≠ (t : Int)) : placedK len l F L0 t (j + 1) = placedK len l F L0 t j := by
 unfold placedK; rw [doneL_no h k]
theorem placedK_yes {len : Int} {l : List Tier} {F : List Note} {L0 : List (Note × Int)} {t j : Nat} {n : Note} (h : F[j]? = some n) (k : n.tier = (t : Int)) : placedK len l F L0 t (j + 1) = stepP len l (placedK len l F L0 t j) n := by
 unfold placedK; rw [doneL_yes h k, List.foldl_append]; rfl
theorem placedK_next (len : Int) (l : List Tier) (F : List Note) (L0 : List (Note × Int)) (t : Nat) : placedK len l F L0 (t + 1) 0 = placedK len l F L0 t F.length := by
 unfold placedK; rw [doneL_next]
theorem We (len : Int) (l : List Tier) (ns : List Note) : placedK len l (ns.filter (inR l)) ((ns.filter fun n => !inR l n).map fun n => (n, 2)) l.length 0 = placeAll len l ns := by
 rw [jh]; unfold placedK; rw [doneL_ord]
theorem j6 {F : List Note} {t j : Nat} {n : Note} (h : n ∈ doneL F t j) : n ∈ F ∧ 0 ≤ n.tier ∧ n.tier ≤ t := by
 unfold doneL ofT at h
 rcases List.mem_append.1 h with h | h
 ·obtain ⟨s, hs, h⟩ := List.mem_flatMap.1 h
  rw [List.mem_range] at hs
  obtain ⟨h1, h2⟩ := List.mem_filter.1 h
  rw [List.take_length] at h1
  have : n.tier = (s : Int) := of_decide_eq_true h2
  exact ⟨h1, by omega, by omega⟩
 ·obtain ⟨h1, h2⟩ := List.mem_filter.1 h
  have : n.tier = (t : Int) := of_decide_eq_true h2
  exact ⟨List.mem_of_mem_take h1, by omega, by omega⟩
theorem wM {F : List Note} (h : F.Pairwise fun a b => a.id ≠ b.id) (t j : Nat) : (doneL F t j).Pairwise fun a b => a.id ≠ b.id := by
 have hone : ∀ s k, (ofT F s k).Pairwise fun a b => a.id ≠ b.id := fun s k => (h.sublist (List.take_sublist k F)).filter _
 have hmem : ∀ s k x, x ∈ ofT F s k → x ∈ F ∧ x.tier = (s : Int) := fun s k x hx => by
  obtain ⟨h1, h2⟩ := List.mem_filter.1 hx
  exact ⟨List.mem_of_mem_take h1, of_decide_eq_true h2⟩
 have hdiff : ∀ s k s' k', s ≠ s' → ∀ x ∈ ofT F s k, ∀ y ∈ ofT F s' k', x.id ≠ y.id := fun s k s' k' hne x hx y hy q => by
  obtain ⟨x1, x2⟩ := hmem s k x hx
  obtain ⟨y1, y2⟩ := hmem s' k' y hy
  have := pw_inj h x1 y1 q
  subst this
  omega
 unfold doneL
 rw [List.pairwise_append]
 refine ⟨?_, hone t j, fun x hx y hy => ?_⟩
 ·rw [List.pairwise_flatMap]
  refine ⟨fun s _ => hone s _, ?_⟩
  have : (List.range t).Pairwise fun a b : Nat => a ≠ b := List.nodup_range
  exact this.imp fun {s s'} hne x hx y hy => hdiff s _ s' _ hne x hx y hy
 ·obtain ⟨s, hs, hx⟩ := List.mem_flatMap.1 hx
  rw [List.mem_range] at hs
  exact hdiff s _ t j (by omega) x hx y hy
theorem wH {len : Int} {l : List Tier} : ∀ (ord : List Note) (p : Placed), ∀ x ∈ (ord.foldl (stepP len l) p).notes, x ∈ p.notes ∨ ∃ n ∈ ord, x = putN l n
 | [], p, x, h => .inl h
 | n :: r, p, x, h => by
  rw [List.foldl_cons] at h
  rcases wH r _ x h with q | ⟨m, q1, q2⟩
  ·unfold stepP at q
   split at q
   ·exact .inl q
   ·rcases List.mem_append.1 q with q | q
    ·exact .inl q
    ·exact .inr ⟨n, List.mem_cons_self, List.mem_singleton.1 q⟩
  ·exact .inr ⟨m, List.mem_cons_of_mem _ q1, q2⟩
structure Now (len : Int) (l : List Tier) (F : List Note) (p : Placed) : Prop where
 inv : InvP len l p.notes
 from_ : ∀ x ∈ p.notes, ∃ n ∈ F, x = putN l n
theorem placedK_now {len : Int} {l : List Tier} {F : List Note} (L0 : List (Note × Int)) {t : Nat} (j : Nat) (ht : t < l.length) (h : F.Pairwise fun a b => a.id ≠ b.id) (hi : ∀ n ∈ F, 1 ≤ n.id ∧ n.id ≤ 1099511627776) : Now len l F (placedK len l F L0 t j) := by
 refine ⟨JW _ _ (.nil len l) (fun n hn => hi n (j6 hn).1) (fun n hn => ?_) (fun n _ x hx => by cases hx) (wM h t j), fun x hx => ?_⟩
 ·have := j6 hn
  simp only [inR, Bool.and_eq_true, decide_eq_true_eq]
  omega
 ·rcases wH _ _ x hx with q | ⟨n, q1, q2⟩
  ·cases q
  ·exact ⟨n, (j6 q1).1, q2⟩
theorem placedK_new {len : Int} {l : List Tier} {F : List Note} (L0 : List (Note × Int)) {t j : Nat} (h : F.Pairwise fun a b => a.id ≠ b.id) {n : Note} (hj : F[j]? = some n) (k : n.tier = (t : Int)) : ∀ x ∈ (placedK len l F L0 t j).notes, x.id ≠ n.id := by
 intro x hx
 rcases wH _ _ x hx with q | ⟨m, q1, q2⟩
 ·cases q
 ·have := wM h t (j + 1)
  rw [doneL_yes hj k] at this
  have := (List.pairwise_append.1 this).2.2 m q1 n (List.mem_singleton_self _)
  rw [q2]; exact this
theorem fold_len {len : Int} {l : List Tier} : ∀ (ord : List Note) (p : Placed), (ord.foldl (stepP len l) p).notes.length + (ord.foldl (stepP len l) p).loose.length = p.notes.length + p.loose.length + ord.length
 | [], p => rfl
 | n :: r, p => by
  rw [List.foldl_cons, fold_len r]
  unfold stepP
  split <;> simp <;> omega
theorem doneL_len {F : List Note} (h : F.Pairwise fun a b => a.id ≠ b.id) (t j : Nat) : (doneL F t j).length ≤ F.length := by
 have h1 : (doneL F t j).Nodup := (wM h t j).imp fun {a b} q e => q (by rw [e])
 exact wy h1 fun x hx => (j6 hx).1
theorem Wd {len : Int} {l : List Tier} {F : List Note} (L0 : List (Note × Int)) (h : F.Pairwise fun a b => a.id ≠ b.id) (t j : Nat) : (placedK len l F L0 t j).notes.length ≤ F.length ∧ (placedK len l F L0 t j).loose.length ≤ L0.length + F.length := by
 have h1 := fold_len (len := len) (l := l) (doneL F t j) ⟨[], L0⟩
 have h2 := doneL_len h t j
 have h3 : (placedK len l F L0 t j).notes.length + (placedK len l F L0 t j).loose.length = L0.length + (doneL F t j).length := by
  unfold placedK
  rw [h1]; simp
 have h4 : L0.length ≤ (placedK len l F L0 t j).loose.length := by
  unfold placedK
  have : ∀ (ord : List Note) (p : Placed), p.loose.length ≤ (ord.foldl (stepP len l) p).loose.length := by
   intro ord
   induction ord with
   | nil => intro p; exact Nat.le_refl _
   | cons n r ih =>
    intro p
    rw [List.foldl_cons]
    refine Nat.le_trans ?_ (ih _)
    unfold stepP
    split <;> simp
  exact this _ ⟨[], L0⟩
 omega
end
end Go.Proofs.YtcfkokllinkigaaGreatDoor
namespace Go.Ac
section
section
variable {P : Program} {G : Glo} {N : Nat} {Q : AQ} {S : SL} {L : List LB}
theorem awpS_3 {l : List Oper} {fuel i j k : Nat} {ds : List Bool} {o o' o'' : Oper} (hr : readyL l ds = [i, j, k]) (ho : l[i]? = some o) (ho' : l[j]? = some o') (ho'' : l[k]? = some o'')
  (h : awpL P G N l.toArray [o] (nextS P G N l Q fuel (ds.set i true)) S L) (h' : awpL P G N l.toArray [o'] (nextS P G N l Q fuel (ds.set j true)) S L) (h'' : awpL P G N l.toArray [o''] (nextS P G N l Q fuel (ds.set k true)) S L) : awpS P G N l Q (fuel + 1) ds S L :=
 Jb hr fun m hm => by
  simp only [List.mem_cons, List.not_mem_nil, or_false] at hm
  rcases hm with rfl | rfl | rfl
  ·exact ⟨o, ho, h⟩
  ·exact ⟨o', ho', h'⟩
  ·exact ⟨o'', ho'', h''⟩
theorem awpS_4 {l : List Oper} {fuel i j k m : Nat} {ds : List Bool} {o o' o'' p : Oper} (hr : readyL l ds = [i, j, k, m]) (ho : l[i]? = some o) (ho' : l[j]? = some o') (ho'' : l[k]? = some o'') (hp : l[m]? = some p)
  (h : awpL P G N l.toArray [o] (nextS P G N l Q fuel (ds.set i true)) S L) (h' : awpL P G N l.toArray [o'] (nextS P G N l Q fuel (ds.set j true)) S L) (h'' : awpL P G N l.toArray [o''] (nextS P G N l Q fuel (ds.set k true)) S L) (q : awpL P G N l.toArray [p] (nextS P G N l Q fuel (ds.set m true)) S L) : awpS P G N l Q (fuel + 1) ds S L :=
 Jb hr fun x hm => by
  simp only [List.mem_cons, List.not_mem_nil, or_false] at hm
  rcases hm with rfl | rfl | rfl | rfl
  ·exact ⟨o, ho, h⟩
  ·exact ⟨o', ho', h'⟩
  ·exact ⟨o'', ho'', h''⟩
  ·exact ⟨p, hp, q⟩
end
end
end Go.Ac
