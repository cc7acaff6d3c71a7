/- A logic of trees over the model's steps, and the contracts of the functions that the laws reach: part 27 of 29. -/
import Derived.Test.YtcfkokllinkigaaGreatDoorB26
set_option linter.unusedVariables false
set_option linter.unusedSimpArgs false
set_option linter.unusedSectionVars false
set_option linter.unnecessarySimpa false
namespace Go.Proofs.YtcfkokllinkigaaGreatDoor
section
open Go.Ac Go.MapKept
attribute [local irreducible] awp awpL Ev Ev2 EvS thenQ blockQ retQ PCalls OCalls ICalls YieldOk IterC
variable {g : List (Nat × List AV)}
abbrev looseC (p : Note × Int) : List AV := [vi p.1.id, vi p.1.tier, vi p.1.parent, vi p.1.span.fro, vi p.1.span.til, vi p.1.rank, vs p.1.text, vi p.2]
abbrev encLoose (l : List (Note × Int)) : AV := .fs 8 l.length (l.map looseC)
abbrev zDocC : List AV := [vi 0, vs .empty, vi 0, vi 0, .v (.slice none 0 0), .v (.slice none 0 0), .v (.slice none 0 0)]
def nsK (l : List Tier) (cs : List Cell) (k : Nat) : List Note := ((cs.take k).map current).filter (inR l)
def lsK (l : List Tier) (cs : List Cell) (k : Nat) : List (Note × Int) := (((cs.take k).map current).filter fun n => !inR l n).map fun n => (n, 2)
theorem nsK_succ {l : List Tier} {cs : List Cell} {k : Nat} {c : Cell} (h : cs[k]? = some c) : nsK l cs (k + 1) = nsK l cs k ++ if inR l (current c) then [current c] else [] := by
 unfold nsK
 rw [List.take_add_one, h, Option.toList, List.map_append, List.filter_append, List.map_cons, List.map_nil, List.filter_cons, List.filter_nil]
theorem lsK_succ {l : List Tier} {cs : List Cell} {k : Nat} {c : Cell} (h : cs[k]? = some c) : lsK l cs (k + 1) = lsK l cs k ++ if inR l (current c) then [] else [(current c, 2)] := by
 unfold lsK
 rw [List.take_add_one, h, Option.toList, List.map_append, List.filter_append, List.map_append, List.map_cons, List.map_nil, List.filter_cons, List.filter_nil]
 cases inR l (current c) <;> rfl
theorem nsK_len (l : List Tier) (cs : List Cell) (k : Nat) : (nsK l cs k).length ≤ k ∧ (lsK l cs k).length ≤ k := by
 unfold nsK lsK
 rw [List.length_map]
 have h1 := List.length_filter_le (inR l) ((cs.take k).map current)
 have h2 := List.length_filter_le (fun n => !inR l n) ((cs.take k).map current)
 rw [List.length_map, List.length_take] at h1 h2
 omega
set_option maxRecDepth 8000 in
set_option maxHeartbeats 16000000 in
theorem Doc_spec (hu : Utf g) (r : Recording) (l : List Tier) (cs : List Cell) (hl : l.length ≤ 1000) (hc : cs.length ≤ 1000) (hf : ∀ c ∈ cs, FitC c) (hi : ∀ c ∈ cs, 1 ≤ c.note.id ∧ c.note.id ≤ 1099511627776) (hp : cs.Pairwise fun a b => a.note.id ≠ b.note.id) :
  PCalls Tryz.prog g 14 [.agg (rcC r), encTiers l, encCells cs] (.tup [.agg (docC (repDoc r l cs)), encLoose (repLoose r l cs)]) := by
 refine pcalls' Tryz.func14 Tryz.ntmps14 rfl rfl rfl ?_
 repeat' (first
  | refine zS 4 ?_
  | ((with_reducible refine zg ?_); refine zk (jx qf0 qc0) rfl ?_)
  | refine stn [6, 7, 9, 10] ?_
  | fail)
 refine ⟨?_⟩
 refine ZC (t := 9) (E := 58) (sz := 8) rfl rfl rfl ?_
 refine ZC (t := 10) (E := 56) (sz := 7) rfl rfl rfl ?_
 refine runn [6, 7, 9, 10] ?_
 refine zi (α := Nat) 5 (fun k => [(1, encTiers l), (3, .fp (rcC r)), (6, .lp 0 0), (8, .lp 2 0), (9, .os 3 0), (10, .os 4 0), (23, encCells cs), (24, vi cs.length), (25, vi k)]) (fun k => [.box zDocC, .map [] [], .box [vi r.id, vs r.name, vi r.length, vi r.day, encIs r.speakers, encTiers l, .v (.slice none 0 0), .mp 1], .own 0 58 8 ((lsK l cs k).map looseC), .own 0 56 7 ((nsK l cs k).map noteC)]) (fun k => k ≤ cs.length) (fun k => cs.length - k) 0
  qw (Nat.zero_le _) ?_
 intro k hk
 have hlen := nsK_len l cs k
 by_cases hlt : k < cs.length
 ·obtain ⟨c, hx⟩ : ∃ c, cs[k]? = some c := ⟨cs[k], List.getElem?_eq_getElem hlt⟩
  have hcm := List.mem_of_getElem? hx
  have c1 : decide ((k : Int) < ((cs.length : Nat) : Int)) = true := decide_eq_true (by omega)
  have x2 : (0 : Int) ≤ (k : Int) ∧ (cs.map cellC)[(k : Int).toNat]? = some (cellC c) := ⟨by omega, by rw [Int.toNat_natCast, List.getElem?_map, hx]; rfl⟩
  have hC := Current_spec (g := g) c (hf c hcm)
  have hs1 := nsK_succ (l := l) hx
  have hs2 := lsK_succ (l := l) hx
  generalize current c = n at *
  generalize nsK l cs k = A at *
  generalize lsK l cs k = B at *
  have j1 : A.map noteC ++ [noteC n] = (A ++ [n]).map noteC := by rw [List.map_append]; rfl
  obtain ⟨B', hB'⟩ : ∃ B', B' = B ++ [(n, (2 : Int))] := ⟨_, rfl⟩
  have j2 : B.map looseC ++ [[vi n.id, vi n.tier, vi n.parent, vi n.span.fro, vi n.span.til, vi n.rank, vs n.text, vi 2]] = B'.map looseC := by rw [hB', List.map_append]; rfl
  have hA : (A.map noteC).length ≤ 100000 := by rw [List.length_map]; omega
  have hB : (B.map looseC).length ≤ 100000 := by rw [List.length_map]; omega
  by_cases hn0 : n.tier < 0
  ·have d1 : decide (n.tier < 0) = true := decide_eq_true hn0
   have hin : inR l n = false := by simp [inR]; omega
   rw [hin, if_neg (by simp), List.append_nil] at hs1
   rw [hin, if_neg (by simp), ← hB'] at hs2
   repeat' (first
    | ((with_reducible refine zg ?_); refine zk (zZ (es' := B'.map looseC) rfl rfl rfl rfl rfl rfl rfl rfl rfl rfl rfl rfl rfl qe0 j2 rfl) rfl ?_)
    | refine st [6, 7, 9, 10] ?_
    | fail)
   refine ⟨k + 1, ?_, by omega, by omega⟩
   dsimp only
   rw [hs1, hs2]
   exact qw
  ·have d1 : decide (n.tier < 0) = false := decide_eq_false hn0
   by_cases hn1 : (l.length : Int) ≤ n.tier
   ·have d2 : decide ((l.length : Int) ≤ n.tier) = true := decide_eq_true hn1
    have hin : inR l n = false := by simp [inR]; omega
    rw [hin, if_neg (by simp), List.append_nil] at hs1
    rw [hin, if_neg (by simp), ← hB'] at hs2
    repeat' (first
     | ((with_reducible refine zg ?_); refine zk (zZ (es' := B'.map looseC) rfl rfl rfl rfl rfl rfl rfl rfl rfl rfl rfl rfl rfl qe0 j2 rfl) rfl ?_)
     | refine st [6, 7, 9, 10] ?_
     | fail)
    refine ⟨k + 1, ?_, by omega, by omega⟩
    dsimp only
    rw [hs1, hs2]
    exact qw
   ·have d2 : decide ((l.length : Int) ≤ n.tier) = false := decide_eq_false hn1
    have hin : inR l n = true := by simp [inR]; omega
    rw [hin, if_pos rfl] at hs1
    rw [hin, if_pos rfl, List.append_nil] at hs2
    repeat' (first
     | ((with_reducible refine zg ?_); refine zk (zZ (es' := (A ++ [n]).map noteC) rfl rfl rfl rfl rfl rfl rfl rfl rfl rfl rfl rfl rfl qe0 j1 rfl) rfl ?_)
     | refine st [6, 7, 9, 10] ?_
     | fail)
    refine ⟨k + 1, ?_, by omega, by omega⟩
    dsimp only
    rw [hs1, hs2]
    exact qw
 ·have hkc : k = cs.length := by omega
  subst hkc
  have c1 : decide (((cs.length : Nat) : Int) < ((cs.length : Nat) : Int)) = false := decide_eq_false (by omega)
  repeat' (first
   | refine zS 12 ?_
   | refine stn [6, 7, 9, 10] ?_
   | fail)
  refine ⟨?_⟩
  obtain ⟨F, hF⟩ : ∃ F, F = (cs.map current).filter (inR l) := ⟨_, rfl⟩
  obtain ⟨L0, hL0⟩ : ∃ L0, L0 = ((cs.map current).filter fun n => !inR l n).map fun n => (n, (2 : Int)) := ⟨_, rfl⟩
  have eF : nsK l cs cs.length = F := by unfold nsK; rw [List.take_length, hF]
  have eL : lsK l cs cs.length = L0 := by unfold lsK; rw [List.take_length, hL0]
  have hl1 := nsK_len l cs cs.length
  rw [eF, eL] at hl1
  rw [eF, eL]
  have hmi : ∀ n ∈ cs.map current, 1 ≤ n.id ∧ n.id ≤ 1099511627776 := fun n hn => by
   obtain ⟨c, h1, rfl⟩ := List.mem_map.1 hn
   exact hi c h1
  have hmp : (cs.map current).Pairwise fun a b => a.id ≠ b.id := List.pairwise_map.2 hp
  have hFi : ∀ n ∈ F, 1 ≤ n.id ∧ n.id ≤ 1099511627776 := fun n hn => by rw [hF] at hn; exact hmi n (List.mem_filter.1 hn).1
  have hFp : F.Pairwise fun a b => a.id ≠ b.id := by rw [hF]; exact hmp.filter _
  have hFr : ∀ n ∈ F, 0 ≤ n.tier ∧ n.tier < l.length := fun n hn => by
   rw [hF] at hn
   have := (List.mem_filter.1 hn).2
   simpa [inR] using this
  have hall := We r.length l (cs.map current)
  rw [← hF, ← hL0] at hall
  have hPi := QP r.length (l := l) hmi hmp
  have hplen := Wd (len := r.length) (l := l) L0 hFp
  have hnow : ∀ t, t < l.length → ∀ j, Now r.length l F (placedK r.length l F L0 t j) := fun t ht j => placedK_now L0 j ht hFp hFi
  have hfl : F.length ≤ 1000 := by omega
  have hll : L0.length ≤ 1000 := by omega
  refine QY 10 (x := .os 4 0) (x' := encNotes F) rfl (by simp [frzV]) rfl rfl ?_
  refine qk 2 6 56 7 rfl rfl rfl rfl ?_
  refine runn [6, 7, 9, 10] ?_
  refine zi (α := Nat) 6 (fun t => [(1, encTiers l), (3, .fp (rcC r)), (6, .lp 0 0), (8, .lp 2 0), (9, .os 3 0), (10, encNotes F), (52, vi l.length), (53, vi t)]) (fun t => LD zDocC ((placedK r.length l F L0 t 0).loose.map looseC) r l (placedK r.length l F L0 t 0).notes 0 0) (fun t => t ≤ l.length) (fun t => l.length - t) 0
   qw (Nat.zero_le _) ?_
  intro t ht
  by_cases htl : t < l.length
  ·have c2 : decide ((t : Int) < ((l.length : Nat) : Int)) = true := decide_eq_true (by omega)
   refine runn [6, 7, 9, 10] ?_
   refine zi (α := Nat) 6 (fun j => [(1, encTiers l), (3, .fp (rcC r)), (6, .lp 0 0), (8, .lp 2 0), (9, .os 3 0), (10, encNotes F), (52, vi l.length), (53, vi t), (14, vi t), (56, encNotes F), (57, vi F.length), (58, vi j)]) (fun j => LD zDocC ((placedK r.length l F L0 t j).loose.map looseC) r l (placedK r.length l F L0 t j).notes 0 0) (fun j => j ≤ F.length) (fun j => F.length - j) 0
    qw (Nat.zero_le _) ?_
   intro j hj
   by_cases hjl : j < F.length
   ·obtain ⟨n, hn⟩ : ∃ n, F[j]? = some n := ⟨F[j], List.getElem?_eq_getElem hjl⟩
    have hnm := List.mem_of_getElem? hn
    have c3 : decide ((j : Int) < ((F.length : Nat) : Int)) = true := decide_eq_true (by omega)
    have n2 : (0 : Int) ≤ (j : Int) ∧ (F.map noteC)[(j : Int).toNat]? = some (noteC n) := ⟨by omega, by rw [Int.toNat_natCast, List.getElem?_map, hn]; rfl⟩
    have hN := hnow t htl j
    have hlen2 := hplen t j
    by_cases hnt : n.tier = (t : Int)
    ·have d1 : (!decide (n.tier = (t : Int))) = false := by rw [decide_eq_true hnt]; rfl
     have hnew := placedK_new (len := r.length) (l := l) L0 hFp hn hnt
     have hyes := placedK_yes (len := r.length) (l := l) (L0 := L0) hn hnt
     generalize placedK r.length l F L0 t j = p at *
     obtain ⟨N, ls⟩ := p
     simp only at hN hlen2 hnew
     have hnr := hFr n hnm
     have hnd : (N.map (·.id)).Nodup := hN.inv.ids
     have hW := why_spec (g := g) zDocC (ls.map looseC) r l N 0 0 n hu (by omega) (by omega) hnd rfl rfl hnr
     have hP := put_spec (g := g) zDocC (ls.map looseC) r l N 0 n (by omega) (by omega) hnd hnew rfl rfl hnr
     clear hN hnow hplen hall hPi hnd
     repeat' (first
      | refine zS 19 ?_
      | refine stn [6, 7, 9, 10] ?_
      | fail)
     refine ⟨?_⟩
     refine JA (n := 6) (S' := [(1, encTiers l), (3, .fp (rcC r)), (6, .lp 0 0), (8, .lp 2 0), (9, .os 3 0), (10, encNotes F), (52, vi l.length), (53, vi t), (14, vi t), (56, encNotes F), (57, vi F.length), (58, vi j), (16, .fp (noteC n))]) (L' := LD zDocC (ls.map looseC) r l N 0 0) qw ?_
     have hst : stepP r.length l ⟨N, ls⟩ n = if whyE r.length l N n ≠ 0 then ⟨N, ls ++ [(n, whyE r.length l N n)]⟩ else ⟨N ++ [putN l n], ls⟩ := rfl
     generalize whyE r.length l N n = w at *
     by_cases hw : w = 0
     ·have d2 : (!decide (w = 0)) = false := by rw [decide_eq_true hw]; rfl
      rw [if_neg (fun q => q hw)] at hst
      repeat' (first
       | ((with_reducible refine zg ?_); (first | refine zv rfl hW rfl ?_ | refine zv rfl hP rfl ?_))
       | refine stn [6, 7, 9, 10] ?_
       | fail)
      refine ⟨j + 1, ?_, by omega, by omega⟩
      rw [hyes, hst]
      exact qw
     ·have d2 : (!decide (w = 0)) = true := by rw [decide_eq_false hw]; rfl
      rw [if_pos hw] at hst
      obtain ⟨B', hB'⟩ : ∃ B', B' = ls ++ [(n, w)] := ⟨_, rfl⟩
      have j2 : ls.map looseC ++ [[vi n.id, vi n.tier, vi n.parent, vi n.span.fro, vi n.span.til, vi n.rank, vs n.text, vi w]] = B'.map looseC := by rw [hB', List.map_append]; rfl
      rw [← hB'] at hst
      have hB : (ls.map looseC).length ≤ 100000 := by rw [List.length_map]; omega
      repeat' (first
       | ((with_reducible refine zg ?_); (first | refine zv rfl hW rfl ?_ | refine zk (zZ (es' := B'.map looseC) rfl rfl rfl rfl rfl rfl rfl rfl rfl rfl rfl rfl rfl qe0 j2 rfl) rfl ?_))
       | refine stn [6, 7, 9, 10] ?_
       | fail)
      refine ⟨j + 1, ?_, by omega, by omega⟩
      rw [hyes, hst]
      exact qw
    ·have d1 : (!decide (n.tier = (t : Int))) = true := by rw [decide_eq_false hnt]; rfl
     have hno := placedK_no (len := r.length) (l := l) (L0 := L0) hn hnt
     refine runn [6, 7, 9, 10] ?_
     refine ⟨j + 1, ?_, by omega, by omega⟩
     rw [hno]
     exact qw
   ·have hjF : j = F.length := by omega
    subst hjF
    have c3 : decide (((F.length : Nat) : Int) < ((F.length : Nat) : Int)) = false := decide_eq_false (by omega)
    have hnx := placedK_next r.length l F L0 t
    rw [← hnx]
    refine runn [6, 7, 9, 10] ?_
    exact ⟨t + 1, qw, by omega, by omega⟩
  ·have htl2 : t = l.length := by omega
   subst htl2
   have c2 : decide (((l.length : Nat) : Int) < ((l.length : Nat) : Int)) = false := decide_eq_false (by omega)
   rw [hall]
   repeat' (first
    | refine zS 25 ?_
    | refine stn [6, 7, 9, 10] ?_
    | fail)
   refine ⟨?_⟩
   have hPr : ∀ x ∈ (placeAll r.length l (cs.map current)).notes, 0 ≤ x.tier ∧ x.tier < l.length := fun x hx => by
    obtain ⟨u, hu⟩ := hPi.ok x hx
    have := tierAt_some hu.tier
    have := (List.getElem?_eq_some_iff.1 this.2).1
    omega
   have hPf := hPi.few
   have hPp := hPi.idN
   have e1 : repDoc r l cs = ⟨r, l, doneN l (placeAll r.length l (cs.map current)).notes⟩ := rfl
   have e2 : repLoose r l cs = (placeAll r.length l (cs.map current)).loose := rfl
   rw [e1, e2]
   generalize placeAll r.length l (cs.map current) = p at *
   obtain ⟨N, ls⟩ := p
   simp only at hPr hPf hPp
   have hR := ranked_spec (g := g) zDocC (ls.map looseC) r l N (by omega) (by omega) hPp rfl rfl hPr
   clear hPi hall hplen hnow
   repeat' (first
    | refine Yd rfl rfl rfl ?_
    | refine awpS_end rfl ?_
    | refine awpS_1 rfl rfl ?_
    | refine awpS_2 rfl rfl rfl ?_ ?_
    | refine awpS_3 rfl rfl rfl rfl ?_ ?_ ?_
    | refine awpS_4 rfl rfl rfl rfl rfl ?_ ?_ ?_ ?_
    | refine nextS_n ?_
    | ((with_reducible refine zg ?_); refine zv rfl hR rfl ?_)
    | refine stn [6, 7, 9, 10] ?_
    | fail)
   all_goals refine retP rfl ?_
   all_goals simp [ex, exL, docC, rcC, encLoose]
end
section
open Go.Ac Go.MapKept
attribute [local irreducible] awp awpL Ev Ev2 EvS thenQ blockQ retQ PCalls OCalls ICalls YieldOk IterC
variable {g : List (Nat × List AV)}
def thereK (d : Doc) (ls : List (Note × Int)) (i : Int) (k : Nat) : Bool := (getN d.notes i).isSome || (ls.take k).any fun q => decide (q.1.id = i)
theorem thereK_succ {d : Doc} {ls : List (Note × Int)} {i : Int} {k : Nat} {q : Note × Int} (h : ls[k]? = some q) : thereK d ls i (k + 1) = (thereK d ls i k || decide (q.1.id = i)) := by
 unfold thereK
 rw [List.take_add_one, h]; simp [Bool.or_assoc]
theorem thereK_all {d : Doc} {ls : List (Note × Int)} {i : Int} (h : (∃ x ∈ d.notes, x.id = i) ∨ ∃ q ∈ ls, q.1.id = i) : thereK d ls i ls.length = true := by
 unfold thereK
 rw [List.take_length]
 rcases h with ⟨x, h1, h2⟩ | ⟨q, h1, h2⟩
 ·cases hg : getN d.notes i with
  | some _ => rfl
  | none =>
   unfold getN at hg
   have := List.find?_eq_none.1 hg x h1
   simp [h2] at this
 ·have : (ls.any fun q => decide (q.1.id = i)) = true := List.any_eq_true.2 ⟨q, h1, by simp [h2]⟩
  rw [this, Bool.or_true]
set_option maxRecDepth 8000 in
set_option maxHeartbeats 8000000 in
theorem Lost_spec (cs : List Cell) (d : Doc) (ls : List (Note × Int)) (hc : cs.length ≤ 1000000) (hd : d.notes.length ≤ 1000000) (hl : ls.length ≤ 1000000) (h : ∀ c ∈ cs, (∃ x ∈ d.notes, x.id = c.note.id) ∨ ∃ q ∈ ls, q.1.id = c.note.id) :
  PCalls Tryz.prog g 18 [encCells cs, .agg (docC d), encLoose ls] (encIs []) := by
 refine pcalls' Tryz.func18 Tryz.ntmps18 rfl rfl rfl ?_
 have n1 : (!true) = false := rfl
 have n2 : (!false) = true := rfl
 refine runn [11] ?_
 refine zi (α := Nat) 0 (fun k => [(0, encCells cs), (2, encLoose ls), (4, .fp (docC d)), (7, .v (.slice none 0 0)), (13, encCells cs), (14, vi cs.length), (15, vi k)]) (fun _ => []) (fun k => k ≤ cs.length) (fun k => cs.length - k) 0
  qw (Nat.zero_le _) ?_
 intro k hk
 by_cases hlt : k < cs.length
 ·obtain ⟨c, hx⟩ : ∃ c, cs[k]? = some c := ⟨cs[k], List.getElem?_eq_getElem hlt⟩
  have hcm := List.mem_of_getElem? hx
  have c1 : decide ((k : Int) < ((cs.length : Nat) : Int)) = true := decide_eq_true (by omega)
  have x2 : (0 : Int) ≤ (k : Int) ∧ (cs.map cellC)[(k : Int).toNat]? = some (cellC c) := ⟨by omega, by rw [Int.toNat_natCast, List.getElem?_map, hx]; rfl⟩
  have hG := wt (g := g) d c.note.id hd
  have hall := thereK_all (h c hcm)
  have hz : thereK d ls c.note.id 0 = (getN d.notes c.note.id).isSome := by unfold thereK; rw [List.take_zero]; simp
  unfold getV at hG
  generalize (getN d.notes c.note.id) = o at hG hz
  refine runn [11] ?_
  refine zi (α := Nat) 0 (fun j => [(0, encCells cs), (2, encLoose ls), (4, .fp (docC d)), (7, .v (.slice none 0 0)), (13, encCells cs), (14, vi cs.length), (15, vi k), (9, vi c.note.id), (11, vb (thereK d ls c.note.id j)), (30, encLoose ls), (31, vi ls.length), (32, vi j)]) (fun _ => []) (fun j => j ≤ ls.length) (fun j => ls.length - j) 0
   (by rw [hz]; exact qw) (Nat.zero_le _) ?_
  intro j hj
  by_cases hjl : j < ls.length
  ·obtain ⟨q, hq⟩ : ∃ q, ls[j]? = some q := ⟨ls[j], List.getElem?_eq_getElem hjl⟩
   have c2 : decide ((j : Int) < ((ls.length : Nat) : Int)) = true := decide_eq_true (by omega)
   have q2 : (0 : Int) ≤ (j : Int) ∧ (ls.map looseC)[(j : Int).toNat]? = some (looseC q) := ⟨by omega, by rw [Int.toNat_natCast, List.getElem?_map, hq]; rfl⟩
   have hs := thereK_succ (d := d) (i := c.note.id) hq
   cases hf : thereK d ls c.note.id j with
   | true =>
    rw [hf, Bool.true_or] at hs
    refine runn [11] ?_
    refine ⟨j + 1, ?_, by omega, by omega⟩
    rw [hs]
    exact qw
   | false =>
    rw [hf, Bool.false_or] at hs
    refine runn [11] ?_
    refine ⟨j + 1, ?_, by omega, by omega⟩
    rw [hs]
    exact qw
  ·have hjF : j = ls.length := by omega
   subst hjF
   have c2 : decide (((ls.length : Nat) : Int) < ((ls.length : Nat) : Int)) = false := decide_eq_false (by omega)
   rw [hall]
   refine runn [11] ?_
   exact ⟨k + 1, qw, by omega, by omega⟩
 ·have hkF : k = cs.length := by omega
  subst hkF
  have c1 : decide (((cs.length : Nat) : Int) < ((cs.length : Nat) : Int)) = false := decide_eq_false (by omega)
  refine runn [11] ?_
  exact retLe rfl (Le.nil 1)
end
section
open Go.Ac Go.MapKept
attribute [local irreducible] awp awpL Ev Ev2 EvS thenQ blockQ retQ PCalls OCalls ICalls YieldOk IterC
def nA8 : Note := ⟨0, 0, 0, ⟨0, 500⟩, 0, tBa⟩
def nB8 : Note := ⟨0, 0, 0, ⟨400, 900⟩, 0, tMi⟩
def oA8 : Op := ⟨⟨1, 1⟩, 0, 5, ⟨17, 0, 0, ⟨0, 500⟩, 0, tBa⟩, 0, 0, .empty, []⟩
def oB8 : Op := ⟨⟨1, 2⟩, 0, 5, ⟨18, 0, 0, ⟨400, 900⟩, 0, tMi⟩, 0, 0, .empty, []⟩
def rA8 : Replica := ⟨1, vec 1 0 0, [oA8]⟩
def rB8 : Replica := ⟨2, vec 0 1 0, [oB8]⟩
def rX8 : Replica := ⟨1, vec 1 1 0, [oA8, oB8]⟩
def rY8 : Replica := ⟨2, vec 1 1 0, [oA8, oB8]⟩
def rec8 : Recording := ⟨5, .empty, 1000, 0, []⟩
def tiers8 : List Tier := [⟨⟨#[116, 101, 120, 116]⟩, 0, 0, -1⟩]
def dX8 : Note := ⟨17, 0, 0, ⟨0, 500⟩, 0, tBa⟩
def dL8 : Note := ⟨18, 0, 0, ⟨400, 900⟩, 0, tMi⟩
theorem a8 : addR (bareR 1) 5 nA8 = (rA8, 17, 0) := by kernel_rfl
theorem b8 : addR (bareR 2) 5 nB8 = (rB8, 18, 0) := by kernel_rfl
theorem m8 : merge (bareR 1) [oA8] = (rA8, 0) := by kernel_rfl
theorem s8 : sync rA8 rB8 = (rX8, rY8, 0) := by kernel_rfl
theorem g8 : agree rX8 rY8 = true := by kernel_rfl
theorem e8 : repE rX8 = 0 := by kernel_rfl
theorem d8 : repDoc rec8 tiers8 (cells rX8.ops 5) = ⟨rec8, tiers8, [dX8]⟩ := by kernel_rfl
theorem l8 : repLoose rec8 tiers8 (cells rX8.ops 5) = [(dL8, 15)] := by kernel_rfl
theorem o8 : opE oA8 = 0 := by kernel_rfl
theorem f8 : 0 < (frameB []).length := by rw [qi]; omega
set_option maxRecDepth 8000 in
set_option maxHeartbeats 8000000 in
theorem two08_spec : PCalls Tryz.prog GL 21 [] (.tup [.agg (repC rA8), .agg (repC rB8), vb true]) := by
 have n1 : PCalls Tryz.prog GL 53 [vi 1] (.tup [.agg (repC (bareR 1)), vi 0]) := by
  have := Ym (g := GL) 1; rw [newR_ok (by decide)] at this; exact this
 have n2 : PCalls Tryz.prog GL 53 [vi 2] (.tup [.agg (repC (bareR 2)), vi 0]) := by
  have := Ym (g := GL) 2; rw [newR_ok (by decide)] at this; exact this
 have A : PCalls Tryz.prog GL 54 [.agg (repC (bareR 1)), vi 5, .agg (noteC nA8)] (.tup [.agg (repC rA8), vi 17, vi 0]) := by
  have := Add_spec (bareR 1) 5 nA8 (by decide) (by decide) (fun o h => by cases h); rw [a8] at this; exact this
 have B : PCalls Tryz.prog GL 54 [.agg (repC (bareR 2)), vi 5, .agg (noteC nB8)] (.tup [.agg (repC rB8), vi 18, vi 0]) := by
  have := Add_spec (bareR 2) 5 nB8 (by decide) (by decide) (fun o h => by cases h); rw [b8] at this; exact this
 have z00 : decide ((0 : Int) = 0) = true := rfl
 have zT : decide True = true := rfl
 generalize hrA : rA8 = ra at *
 generalize hrB : rB8 = rb at *
 refine pcalls' Tryz.func21 Tryz.ntmps21 rfl rfl rfl ?_
 repeat' (first
  | refine QY (x := .lp 2 0) (x' := .fp (repC ra)) 3 (c := .region 5 _ _) rfl rfl rfl rfl ?_
  | refine QY (x := .lp 3 0) (x' := .fp (repC rb)) 5 (c := .region 5 _ _) rfl rfl rfl rfl ?_
  | refine Q6 rfl rfl (qf (L' := [.box (repC ra), .box [vi 0, .v (.slice none 0 0), .v (.slice none 0 0)], .dead, .dead]) rfl rfl rfl rfl rfl rfl rfl rfl) rfl rfl ?_
  | refine Q6 rfl rfl (qf (L' := [.box (repC ra), .box (repC rb), .dead, .dead]) rfl rfl rfl rfl rfl rfl rfl rfl) rfl rfl ?_
  | refine st [0, 1, 3, 5] ?_
  | fail)
 refine retP rfl ?_
 simp [ex, exL, repC]
set_option maxRecDepth 8000 in
set_option maxHeartbeats 16000000 in
theorem alive08_spec : PCalls Tryz.prog GL 5 [] (vb true) := by
 have T := two08_spec
 have hids : Ids [oA8] := fun o h => by rw [List.mem_singleton.1 h]; exact ⟨by decide, by decide⟩
 have hops : ∀ o ∈ [oA8], opE o = 0 := fun o h => by rw [List.mem_singleton.1 h]; exact o8
 have W : PCalls Tryz.prog GL 22 [encOps rA8.ops] (.tup [encBy (jour [oA8]), vi 0]) := Yl wT [oA8] (by decide) hops hids
 have R : PCalls Tryz.prog GL 23 [vi 1, encBy (jour [oA8])] (.tup [.agg (repC rA8), vi 0]) := by
  have := wh 1 (by decide) [oA8] (FitM.of (by kernel_rfl)) (by decide) hops hids (b := jour [oA8]) (x := []) (m := 0) (by simp) f8 (by simp)
  rw [m8] at this; exact this
 have S : PCalls Tryz.prog GL 24 [.agg (repC rA8), .agg (repC rB8)] (.tup [.agg (repC rX8), .agg (repC rY8), vi 0]) := by
  have := Sync_spec rA8 rB8 (FitM.of (by kernel_rfl)) (FitM.of (by kernel_rfl)) (Inc.of (by kernel_rfl)) (Inc.of (by kernel_rfl)); rw [s8] at this; exact this
 have G := Yp rX8 rY8 (g := GL) (FitR.of (by kernel_rfl)) (FitR.of (by kernel_rfl)) (Inc.of (by kernel_rfl)) (Inc.of (by kernel_rfl))
 rw [g8] at G
 have hg := good_of e8
 have C := JC (g := GL) rX8 5 (by decide) (fun o h => by simp only [rX8, List.mem_cons, List.not_mem_nil, or_false] at h; rcases h with rfl | rfl <;> decide) hg
 have hfit := cells_fit rX8.ops 5 (by decide)
 have hcid : ∀ c ∈ cells rX8.ops 5, 1 ≤ c.note.id ∧ c.note.id ≤ 1099511627776 := by
  have : ((cells rX8.ops 5).all fun c => decide (1 ≤ c.note.id) && decide (c.note.id ≤ 1099511627776)) = true := by kernel_rfl
  intro c hc
  simpa using List.all_eq_true.1 this c hc
 have hclen : (cells rX8.ops 5).length ≤ 1000 := by
  have : (cells rX8.ops 5).length = 2 := by kernel_rfl
  omega
 have D := Doc_spec (g := GL) wT rec8 tiers8 (cells rX8.ops 5) (by decide) hclen hfit.2 hcid ((cells_inc hg 5).imp fun {a b} q => by omega)
 rw [d8, l8] at D
 replace D := D.args (asv := [.agg [vi 5, vs .empty, vi 1000, vi 0, .v (.slice none 0 0)], encTiers tiers8, encCells (cells rX8.ops 5)]) (.cons (Le.agg (.cons (Le.rfl' _) (.cons (Le.rfl' _) (.cons (Le.rfl' _) (.cons (Le.rfl' _) (.cons (Le.nil 1) .nil)))))) (.cons (Le.rfl' _) (.cons (Le.rfl' _) .nil)))
 have z00 : decide ((0 : Int) = 0) = true := rfl
 have zT : decide True = true := rfl
 have zNT : (!decide True) = false := rfl
 have z0 : (!decide ((0 : Int) = 0)) = false := rfl
 have b1 : (!true) = false := rfl
 have k2 : (!decide ((rX8.ops.length : Int) = 2)) = false := by decide
 have k3 : decide ((([dX8] : List Note).length : Int) = 1) = true := by decide
 have k4 : decide (dX8.id = 17) = true := by decide
 have k5 : decide ((([(dL8, 15)] : List (Note × Int)).length : Int) = 1) = true := by decide
 have k6 : decide (((dL8, 15) : Note × Int).1.id = 18) = true := by decide
 have k7 : decide (((dL8, 15) : Note × Int).2 = 15) = true := by decide
 have q1 : (0 : Int) ≤ 0 ∧ (([dX8] : List Note).map noteC)[(0 : Int).toNat]? = some (noteC dX8) := ⟨by decide, rfl⟩
 have q2 : (0 : Int) ≤ 0 ∧ (([(dL8, 15)] : List (Note × Int)).map looseC)[(0 : Int).toNat]? = some (looseC (dL8, 15)) := ⟨by decide, rfl⟩
 clear hg hfit hcid hclen hids hops
 generalize jour [oA8] = jb at *
 generalize cells rX8.ops 5 = cs at *
 generalize ([dX8] : List Note) = N at *
 generalize ([(dL8, 15)] : List (Note × Int)) = ls at *
 generalize dX8 = x at *
 generalize ((dL8, 15) : Note × Int) = y at *
 generalize rA8 = ra at *
 generalize rB8 = rb at *
 generalize rX8 = rx at *
 generalize rY8 = ry at *
 refine pcalls' Tryz.func5 Tryz.ntmps5 rfl rfl rfl ?_
 refine runn [] ?_
 have k8 := of_decide_eq_true k7
 refine retP rfl ?_
 simp [ex, k8]
end
section
open Go.Ac
attribute [local irreducible] awp awpL Ev Ev2 EvS thenQ blockQ retQ PCalls OCalls
def looseSelf : List Value → List Value → Option Bool
 | [.int .i64 a, .int .i64 b, .int .i64 c, .int .i64 d, .int .i64 e, .int .i64 f, .string s, .int .i64 v], [.int .i64 a', .int .i64 b', .int .i64 c', .int .i64 d', .int .i64 e', .int .i64 f', .string s', .int .i64 v'] =>
  if a = a' ∧ b = b' ∧ c = c' ∧ d = d' ∧ e = e' ∧ f = f' ∧ s = s' ∧ v = v' then some true else none
 | _, _ => none
theorem Wh : EqT Tryz.prog 58 looseSelf := by
 intro xs ys b w h
 unfold looseSelf at h
 split at h
 ·rename_i a b c d e f s v a' b' c' d' e' f' s' v'
  split at h
  ·rename_i hq
   obtain ⟨rfl, rfl, rfl, rfl, rfl, rfl, rfl, rfl⟩ := hq
   have h := Option.some.inj h
   subst h
   have u3 := Tryz.underlying3
   have a3 := Tryz.isAgg3
   have z3 := Tryz.sizeOf3
   have u9 := Tryz.underlying9
   have a9 := Tryz.isAgg9
   have z9 := Tryz.sizeOf9
   have a7 := Tryz.isAgg54
   have z7 := Tryz.sizeOf54
   have a8 := Tryz.isAgg56
   have z8 := Tryz.sizeOf56
   have u1 := Tryz.underlying32
   have a1 := Tryz.isAgg32
   have z1 := Tryz.sizeOf32
   have hS : Tryz.prog.underlying 58 = some (.struct (Tryz.prog.fieldsOf 58)) := by kernel_rfl
   have hN : Tryz.prog.underlying 56 = some (.struct (Tryz.prog.fieldsOf 56)) := by kernel_rfl
   have hsp : ∀ w, (Op.equalIn 9998 54 (.agg #[.int .i64 d, .int .i64 e]) (.agg #[.int .i64 d, .int .i64 e])).run Tryz.prog w = .ok true w := by
    intro w
    rw [show (9998 : Nat) = 9997 + 1 from rfl, run_equalIn_agg w 9997 _ _ _ (show Tryz.prog.underlying 54 = some (.struct (Tryz.prog.fieldsOf 54)) by kernel_rfl) (by kernel_rfl)]
    simp only [Program.fieldsOf, Tryz.underlying54]
    go_simp
   have hnt : ∀ w, (Op.equalIn 9999 56 (.agg #[.int .i64 a, .int .i64 b, .int .i64 c, .int .i64 d, .int .i64 e, .int .i64 f, .string s]) (.agg #[.int .i64 a, .int .i64 b, .int .i64 c, .int .i64 d, .int .i64 e, .int .i64 f, .string s])).run Tryz.prog w = .ok true w := by
    intro w
    rw [show (9999 : Nat) = 9998 + 1 from rfl, run_equalIn_agg w 9998 _ _ _ hN (by kernel_rfl)]
    simp only [Program.fieldsOf, Tryz.underlying56]
    go_simp
   rw [show (10000 : Nat) = 9999 + 1 from rfl, run_equalIn_agg w 9999 _ _ _ hS (by kernel_rfl)]
   simp only [Program.fieldsOf, Tryz.underlying58]
   go_simp
  ·cases h
 ·cases h
def looseVs (p : Note × Int) : List Value := [.int .i64 p.1.id, .int .i64 p.1.tier, .int .i64 p.1.parent, .int .i64 p.1.span.fro, .int .i64 p.1.span.til, .int .i64 p.1.rank, .string p.1.text, .int .i64 p.2]
theorem JP (p : Note × Int) : looseSelf (looseVs p) (looseVs p) = some true := by
 unfold looseSelf looseVs
 simp
end
end Go.Proofs.YtcfkokllinkigaaGreatDoor
