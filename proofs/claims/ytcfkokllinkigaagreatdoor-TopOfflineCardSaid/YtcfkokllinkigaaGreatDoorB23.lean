/- A logic of trees over the model's steps, and the contracts of the functions that the laws reach: part 23 of 29. -/
import Derived.Test.YtcfkokllinkigaaGreatDoorB22
set_option linter.unusedVariables false
set_option linter.unusedSimpArgs false
set_option linter.unusedSectionVars false
set_option linter.unnecessarySimpa false
namespace Go.Proofs.YtcfkokllinkigaaGreatDoor
section
open Go.Ac Go.MapKept
attribute [local irreducible] awp awpL Ev Ev2 EvS thenQ blockQ retQ PCalls OCalls ICalls YieldOk IterC
variable {g : List (Nat × List AV)}
def rcC (r : Recording) : List AV := [vi r.id, vs r.name, vi r.length, vi r.day, encIs r.speakers]
abbrev plC (r : Recording) (l : List Tier) (vn : Nat) : List AV := [vi r.id, vs r.name, vi r.length, vi r.day, encIs r.speakers, encTiers l, .os 5 vn, .mp 1]
abbrev mpK (N : List Note) : List Value := N.map fun n => Value.int .i64 n.id
abbrev mpX (N : List Note) : List AV := N.map fun n => .agg (noteC n)
abbrev LD (z : List AV) (ls : List (List AV)) (r : Recording) (l : List Tier) (N : List Note) (vl vn : Nat) : List LB := [.box z, .map (mpK N) (mpX N), .box (plC r l vn), .own vl 58 8 ls, .dead, .own vn 56 7 (N.map noteC)]
abbrev LW (z : List AV) (ls : List (List AV)) (r : Recording) (l : List Tier) (N : List Note) (vl vn : Nat) : List LB := [.box z, .map (mpK N) (mpX N), .box (plC r l vn), .own vl 58 8 ls, .dead, .own vn 56 7 (N.map noteC), .pin]
theorem jK {l : List Tier} {n : Note} (h : 0 ≤ n.tier ∧ n.tier < l.length) : tierAt l n.tier = some (tierOf l n) ∧ (0 ≤ n.tier ∧ (l.map tierC)[n.tier.toNat]? = some (tierC (tierOf l n))) := by
 have e : tierAt l n.tier = l[n.tier.toNat]? := if_pos h.1
 have e2 : l[n.tier.toNat]? = some (l[n.tier.toNat]'(by omega)) := List.getElem?_eq_getElem (by omega)
 unfold tierOf
 rw [e, e2]
 exact ⟨rfl, h.1, by rw [List.getElem?_map, e2]; rfl⟩
theorem yL {z : List AV} {ls : List (List AV)} {r : Recording} {l : List Tier} {N : List Note} {vl vn : Nat} (hz : noidL (low 7) z = true) : ((LW z ls r l N vl vn).all fun x => noidB (low (LW z ls r l N vl vn).length) x) = true := by
 simp only [List.all_cons, List.all_nil, List.length_cons, List.length_nil, noidB, noidL, noid, hz, Bool.and_self, Nat.zero_add, Nat.reduceAdd]; rfl
section rules
variable (z : List AV) (ls : List (List AV)) (r : Recording) (l : List Tier) (N : List Note) (vl vn : Nat) (n : Note)
set_option maxRecDepth 8000 in
set_option maxHeartbeats 4000000 in
theorem kinds_spec (hz : noidL (low 7) z = true) (hn : 0 ≤ n.tier ∧ n.tier < l.length) : ICalls Tryz.prog (Glo.of g) 186 [.agg [], .lp 2 0, .agg (noteC n)] (LW z ls r l N vl vn) (LW z ls r l N vl vn) (vi (kindsE l n)) := by
 obtain ⟨t1, t2⟩ := jK hn
 unfold kindsE
 generalize tierOf l n = t at *
 refine icalls Tryz.func186 rfl Tryz.ntmps186 rfl rfl rfl rfl (yL hz) rfl ?_
 by_cases k1 : t.kind = 1
 ·have d1 : decide (t.kind = 1) = true := decide_eq_true k1
  rw [if_pos (.inl k1)]
  refine run [] ?_
  exact retI rfl ⟨rfl, rfl⟩
 have d1 : decide (t.kind = 1) = false := decide_eq_false k1
 by_cases k2 : t.role = 3
 ·have d2 : decide (t.role = 3) = true := decide_eq_true k2
  rw [if_pos (.inr (.inl k2))]
  refine run [] ?_
  exact retI rfl ⟨rfl, rfl⟩
 have d2 : decide (t.role = 3) = false := decide_eq_false k2
 by_cases k3 : t.role = 4
 ·have d3 : decide (t.role = 4) = true := decide_eq_true k3
  rw [if_pos (.inr (.inr k3))]
  refine run [] ?_
  exact retI rfl ⟨rfl, rfl⟩
 have d3 : decide (t.role = 4) = false := decide_eq_false k3
 rw [if_neg (by omega)]
 refine run [] ?_
 exact retI rfl ⟨rfl, rfl⟩
set_option maxRecDepth 8000 in
set_option maxHeartbeats 4000000 in
theorem room_spec (hz : noidL (low 7) z = true) : ICalls Tryz.prog (Glo.of g) 187 [.agg [], .lp 2 0, .agg (noteC n)] (LW z ls r l N vl vn) (LW z ls r l N vl vn) (vi (roomE N)) := by
 unfold roomE
 refine icalls Tryz.func187 rfl Tryz.ntmps187 rfl rfl rfl rfl (yL hz) rfl ?_
 by_cases h : 300 ≤ N.length
 ·have d1 : decide ((300 : Int) ≤ (((N.map noteC).length : Nat) : Int)) = true := decide_eq_true (by rw [List.length_map]; omega)
  rw [if_pos h]
  refine run [] ?_
  exact retI rfl ⟨rfl, rfl⟩
 ·have d1 : decide ((300 : Int) ≤ (((N.map noteC).length : Nat) : Int)) = false := decide_eq_false (by rw [List.length_map]; omega)
  rw [if_neg h]
  refine run [] ?_
  exact retI rfl ⟨rfl, rfl⟩
set_option maxRecDepth 8000 in
set_option maxHeartbeats 4000000 in
theorem texts_spec (hu : Utf g) (hz : noidL (low 7) z = true) : ICalls Tryz.prog (Glo.of g) 189 [.agg [], .lp 2 0, .agg (noteC n)] (LW z ls r l N vl vn) (LW z ls r l N vl vn) (vi (textE n.text)) := by
 have hT := Text_spec hu n.text
 refine icalls Tryz.func189 rfl Tryz.ntmps189 rfl rfl rfl rfl (yL hz) rfl ?_
 refine run [] ?_
 exact retI rfl ⟨rfl, rfl⟩
end rules
end
section
open Go.Ac Go.MapKept
attribute [local irreducible] awp awpL Ev Ev2 EvS thenQ blockQ retQ PCalls OCalls ICalls YieldOk IterC
variable {g : List (Nat × List AV)}
mutual
theorem nrm_low {L : List LB} {q n a : Nat} (h : a ≤ q) : ∀ x : AV, noid (low a) x = true → nrm L q n x = x
 | .lp k o, hx => by simp only [noid, low, Nat.blt_eq] at hx; simp only [nrm, show Nat.blt k q = true from Zb (by omega), cond_true]
 | .ep k _ _ _, hx => by simp only [noid, low, Nat.blt_eq] at hx; simp only [nrm, show Nat.blt k q = true from Zb (by omega), cond_true]
 | .os k _, hx => by simp only [noid, low, Nat.blt_eq] at hx; simp only [nrm, show Nat.blt k q = true from Zb (by omega), cond_true]
 | .mp k, hx => by simp only [noid, low, Nat.blt_eq] at hx; simp only [nrm, show Nat.blt k q = true from Zb (by omega), cond_true]
 | .lag cs, hx => by simp only [noid] at hx; simp only [nrm, qd h cs hx]
 | .tup cs, hx => by simp only [noid] at hx; simp only [nrm, qd h cs hx]
 | .fn f asv bs, hx => by simp only [noid, Bool.and_eq_true] at hx; simp only [nrm, qd h asv hx.1, qd h bs hx.2]
 | .ifc t x, hx => by simp only [noid] at hx; simp only [nrm, nrm_low h x hx]
 | .any, _ => rfl
 | .v _, _ => rfl
 | .fs _ _ _, _ => rfl
 | .fz, _ => rfl
 | .fp _, _ => rfl
 | .fm _ _, _ => rfl
 | .agg _, _ => rfl
theorem qd {L : List LB} {q n a : Nat} (h : a ≤ q) : ∀ cs : List AV, noidL (low a) cs = true → nrmL L q n cs = cs
 | [], _ => rfl
 | x :: r, hx => by simp only [noidL, Bool.and_eq_true] at hx; simp only [nrmL, nrm_low h x hx.1, qd h r hx.2]
end
abbrev LP (z : List AV) (ls : List (List AV)) (r : Recording) (l : List Tier) (N : List Note) (vl vn : Nat) : List LB := [.box z, .map (mpK N) (mpX N), .box (plC r l vn), .own vl 58 8 ls, .dead, .own vn 56 7 (N.map noteC), .pin, .pin]
theorem jo {M : List LB} {z : List AV} {ls : List (List AV)} {r : Recording} {l : List Tier} {N : List Note} {vl vn : Nat} (hz : noidL (low 7) z = true) : nrmBs M 8 8 0 (LP z ls r l N vl vn) = LP z ls r l N vl vn := by
 have h := qd (L := M) (q := 8) (n := 8) (a := 7) (by omega) z hz
 show LB.box (nrmL M 8 8 z) :: _ = _
 rw [h]
 rfl
section rules
variable (z : List AV) (ls : List (List AV)) (r : Recording) (l : List Tier) (N : List Note) (vl vn : Nat) (n : Note)
set_option maxRecDepth 8000 in
set_option maxHeartbeats 4000000 in
theorem labels_spec (hN : N.length ≤ 1000000) (hz : noidL (low 7) z = true) (hn : 0 ≤ n.tier ∧ n.tier < l.length) : ICalls Tryz.prog (Glo.of g) 192 [.agg [], .lp 2 0, .agg (noteC n)] (LW z ls r l N vl vn) (LW z ls r l N vl vn) (vi (labelsE l N n)) := by
 obtain ⟨t1, t2⟩ := jK hn
 unfold labelsE
 generalize tierOf l n = t at *
 refine icalls Tryz.func192 rfl Tryz.ntmps192 rfl rfl rfl rfl (yL hz) rfl ?_
 by_cases k1 : t.kind = 4
 ·have d1 : (!decide (t.kind = 4)) = false := by rw [decide_eq_true k1]; rfl
  rw [if_neg (fun q => q k1)]
  refine run [] ?_
  refine zi (α := Nat) 8 (fun k => [(5, .fp (noteC n)), (6, vi 0), (22, .os 5 vn), (23, vi ((N.map noteC).length : Nat)), (24, vi k)]) (fun _ => LP z ls r l N vl vn) (fun k => k ≤ N.length ∧ (N.take k).any (fun x => sameP x n) = false) (fun k => N.length - k) 0
   ⟨(.cons rfl rfl (.cons rfl rfl (.cons rfl rfl (.cons rfl rfl (.cons rfl rfl .nil))))), (jo (r := r) (l := l) (N := N) (ls := ls) (vl := vl) (vn := vn) hz), rfl, rfl⟩ ⟨Nat.zero_le _, rfl⟩ ?_
  rintro k ⟨hk, ha⟩
  by_cases hlt : k < N.length
  ·obtain ⟨x, hx⟩ : ∃ x, N[k]? = some x := ⟨N[k], List.getElem?_eq_getElem hlt⟩
   have c1 : decide ((k : Int) < (((N.map noteC).length : Nat) : Int)) = true := decide_eq_true (by rw [List.length_map]; omega)
   have x2 : (N.map noteC)[(k : Int).toNat]? = some (noteC x) := by rw [Int.toNat_natCast, List.getElem?_map, hx]; rfl
   have hb : (0 : Int) ≤ (k : Int) ∧ (k : Int) < (((N.map noteC).length : Nat) : Int) := ⟨by omega, by rw [List.length_map]; omega⟩
   have hs : (N.take (k + 1)).any (fun x => sameP x n) = sameP x n := by
    rw [List.take_add_one, hx, List.any_append, ha]; simp
   by_cases e1 : x.tier = n.tier
   ·have d2 : decide (x.tier = n.tier) = true := decide_eq_true e1
    by_cases e2 : x.parent = n.parent
    ·have d3 : decide (x.parent = n.parent) = true := decide_eq_true e2
     have : N.any (fun x => sameP x n) = true := List.any_eq_true.2 ⟨x, List.mem_of_getElem? hx, by simp [sameP, e1, e2]⟩
     rw [if_pos this]
     repeat' (first
      | ((with_reducible refine zg ?_); refine zb (zx (f := noteC x) rfl rfl rfl rfl x2 rfl rfl) rfl ?_)
      | refine stn [] ?_
      | fail)
     exact retI rfl ⟨rfl, rfl⟩
    ·have d3 : decide (x.parent = n.parent) = false := decide_eq_false e2
     repeat' (first
      | ((with_reducible refine zg ?_); refine zb (zx (f := noteC x) rfl rfl rfl rfl x2 rfl rfl) rfl ?_)
      | refine stn [] ?_
      | fail)
     exact ⟨k + 1, ⟨(.cons rfl rfl (.cons rfl rfl (.cons rfl rfl (.cons rfl rfl (.cons rfl rfl .nil))))), (jo (r := r) (l := l) (N := N) (ls := ls) (vl := vl) (vn := vn) hz), rfl, rfl⟩, ⟨by omega, by rw [hs, sameP, d2, d3]; rfl⟩, by omega⟩
   ·have d2 : decide (x.tier = n.tier) = false := decide_eq_false e1
    repeat' (first
     | ((with_reducible refine zg ?_); refine zb (zx (f := noteC x) rfl rfl rfl rfl x2 rfl rfl) rfl ?_)
     | refine stn [] ?_
     | fail)
    exact ⟨k + 1, ⟨(.cons rfl rfl (.cons rfl rfl (.cons rfl rfl (.cons rfl rfl (.cons rfl rfl .nil))))), (jo (r := r) (l := l) (N := N) (ls := ls) (vl := vl) (vn := vn) hz), rfl, rfl⟩, ⟨by omega, by rw [hs, sameP, d2]; rfl⟩, by omega⟩
  ·have c1 : decide ((k : Int) < (((N.map noteC).length : Nat) : Int)) = false := decide_eq_false (by rw [List.length_map]; omega)
   rw [List.take_of_length_le (by omega)] at ha
   rw [ha]
   refine runn [] ?_
   exact retI rfl ⟨rfl, rfl⟩
 have d1 : (!decide (t.kind = 4)) = true := by rw [decide_eq_false k1]; rfl
 rw [if_pos k1]
 refine run [] ?_
 exact retI rfl ⟨rfl, rfl⟩
end rules
end
section
open Go.Ac Go.MapKept
attribute [local irreducible] awp awpL Ev Ev2 EvS thenQ blockQ retQ PCalls OCalls ICalls YieldOk IterC
variable {g : List (Nat × List AV)}
section rules
variable (z : List AV) (ls : List (List AV)) (r : Recording) (l : List Tier) (N : List Note) (vl vn : Nat) (n : Note)
set_option maxRecDepth 8000 in
set_option maxHeartbeats 4000000 in
theorem overlaps_spec (hN : N.length ≤ 1000000) (hl : l.length ≤ 1000000) (hz : noidL (low 7) z = true) : ICalls Tryz.prog (Glo.of g) 191 [.agg [], .lp 2 0, .agg (noteC n)] (LW z ls r l N vl vn) (LW z ls r l N vl vn) (vi (overlapsE l N n)) := by
 have hA := Q8 (g := g) l n.tier hl
 unfold overlapsE
 refine icalls Tryz.func191 rfl Tryz.ntmps191 rfl rfl rfl rfl (yL hz) rfl ?_
 cases ka : alignedT l n.tier with
 | false =>
  rw [ka] at hA
  rw [if_pos rfl]
  have b1 : (!false) = true := rfl
  refine run [] ?_
  exact retI rfl ⟨rfl, rfl⟩
 | true =>
  rw [ka] at hA
  rw [if_neg (by simp)]
  have b1 : (!true) = false := rfl
  refine run [] ?_
  refine zi (α := Nat) 8 (fun k => [(5, .fp (noteC n)), (6, vi 0), (20, .os 5 vn), (21, vi ((N.map noteC).length : Nat)), (22, vi k)]) (fun _ => LP z ls r l N vl vn) (fun k => k ≤ N.length ∧ (N.take k).any (fun x => sameP x n && (decide (x.span.fro < n.span.til) && decide (n.span.fro < x.span.til))) = false) (fun k => N.length - k) 0
   ⟨(.cons rfl rfl (.cons rfl rfl (.cons rfl rfl (.cons rfl rfl (.cons rfl rfl .nil))))), (jo (r := r) (l := l) (N := N) (ls := ls) (vl := vl) (vn := vn) hz), rfl, rfl⟩ ⟨Nat.zero_le _, rfl⟩ ?_
  rintro k ⟨hk, ha⟩
  by_cases hlt : k < N.length
  ·obtain ⟨x, hx⟩ : ∃ x, N[k]? = some x := ⟨N[k], List.getElem?_eq_getElem hlt⟩
   have c1 : decide ((k : Int) < (((N.map noteC).length : Nat) : Int)) = true := decide_eq_true (by rw [List.length_map]; omega)
   have x2 : (N.map noteC)[(k : Int).toNat]? = some (noteC x) := by rw [Int.toNat_natCast, List.getElem?_map, hx]; rfl
   have hb : (0 : Int) ≤ (k : Int) ∧ (k : Int) < (((N.map noteC).length : Nat) : Int) := ⟨by omega, by rw [List.length_map]; omega⟩
   have hs : (N.take (k + 1)).any (fun x => sameP x n && (decide (x.span.fro < n.span.til) && decide (n.span.fro < x.span.til))) = (sameP x n && (decide (x.span.fro < n.span.til) && decide (n.span.fro < x.span.til))) := by
    rw [List.take_add_one, hx, List.any_append, ha]; simp
   by_cases e1 : x.tier = n.tier
   ·have d2 : decide (x.tier = n.tier) = true := decide_eq_true e1
    by_cases e2 : x.parent = n.parent
    ·have d3 : decide (x.parent = n.parent) = true := decide_eq_true e2
     by_cases e3 : x.span.fro < n.span.til
     ·have d4 : decide (x.span.fro < n.span.til) = true := decide_eq_true e3
      by_cases e4 : n.span.fro < x.span.til
      ·have d5 : decide (n.span.fro < x.span.til) = true := decide_eq_true e4
       have : N.any (fun x => sameP x n && (decide (x.span.fro < n.span.til) && decide (n.span.fro < x.span.til))) = true := List.any_eq_true.2 ⟨x, List.mem_of_getElem? hx, by simp [sameP, e1, e2, e3, e4]⟩
       rw [if_pos this]
       repeat' (first
        | ((with_reducible refine zg ?_); refine zb (zx (f := noteC x) rfl rfl rfl rfl x2 rfl rfl) rfl ?_)
        | refine stn [] ?_
        | fail)
       exact retI rfl ⟨rfl, rfl⟩
      ·have d5 : decide (n.span.fro < x.span.til) = false := decide_eq_false e4
       repeat' (first
        | ((with_reducible refine zg ?_); refine zb (zx (f := noteC x) rfl rfl rfl rfl x2 rfl rfl) rfl ?_)
        | refine stn [] ?_
        | fail)
       exact ⟨k + 1, ⟨(.cons rfl rfl (.cons rfl rfl (.cons rfl rfl (.cons rfl rfl (.cons rfl rfl .nil))))), (jo (r := r) (l := l) (N := N) (ls := ls) (vl := vl) (vn := vn) hz), rfl, rfl⟩, ⟨by omega, by rw [hs, sameP, d2, d3, d4, d5]; rfl⟩, by omega⟩
     ·have d4 : decide (x.span.fro < n.span.til) = false := decide_eq_false e3
      repeat' (first
       | ((with_reducible refine zg ?_); refine zb (zx (f := noteC x) rfl rfl rfl rfl x2 rfl rfl) rfl ?_)
       | refine stn [] ?_
       | fail)
      exact ⟨k + 1, ⟨(.cons rfl rfl (.cons rfl rfl (.cons rfl rfl (.cons rfl rfl (.cons rfl rfl .nil))))), (jo (r := r) (l := l) (N := N) (ls := ls) (vl := vl) (vn := vn) hz), rfl, rfl⟩, ⟨by omega, by rw [hs, sameP, d2, d3, d4]; rfl⟩, by omega⟩
    ·have d3 : decide (x.parent = n.parent) = false := decide_eq_false e2
     repeat' (first
      | ((with_reducible refine zg ?_); refine zb (zx (f := noteC x) rfl rfl rfl rfl x2 rfl rfl) rfl ?_)
      | refine stn [] ?_
      | fail)
     exact ⟨k + 1, ⟨(.cons rfl rfl (.cons rfl rfl (.cons rfl rfl (.cons rfl rfl (.cons rfl rfl .nil))))), (jo (r := r) (l := l) (N := N) (ls := ls) (vl := vl) (vn := vn) hz), rfl, rfl⟩, ⟨by omega, by rw [hs, sameP, d2, d3]; rfl⟩, by omega⟩
   ·have d2 : decide (x.tier = n.tier) = false := decide_eq_false e1
    repeat' (first
     | ((with_reducible refine zg ?_); refine zb (zx (f := noteC x) rfl rfl rfl rfl x2 rfl rfl) rfl ?_)
     | refine stn [] ?_
     | fail)
    exact ⟨k + 1, ⟨(.cons rfl rfl (.cons rfl rfl (.cons rfl rfl (.cons rfl rfl (.cons rfl rfl .nil))))), (jo (r := r) (l := l) (N := N) (ls := ls) (vl := vl) (vn := vn) hz), rfl, rfl⟩, ⟨by omega, by rw [hs, sameP, d2]; rfl⟩, by omega⟩
  ·have c1 : decide ((k : Int) < (((N.map noteC).length : Nat) : Int)) = false := decide_eq_false (by rw [List.length_map]; omega)
   rw [List.take_of_length_le (by omega)] at ha
   rw [ha]
   refine runn [] ?_
   exact retI rfl ⟨rfl, rfl⟩
end rules
end
section
open Go.Ac Go.MapKept
attribute [local irreducible] awp awpL Ev Ev2 EvS thenQ blockQ retQ PCalls OCalls ICalls YieldOk IterC
variable {g : List (Nat × List AV)}
theorem aget_nt (N : List Note) (k : Int) : aget (N.map fun n => (n.id, n)) k = getN N k := by
 unfold aget getN
 rw [List.find?_map, Option.map_map]
 exact Option.map_id' ..
theorem ZW (N : List Note) : ∀ k ∈ mpK N, IsKey (.int .i64) k := by
 intro k hk
 obtain ⟨p, _, rfl⟩ := List.mem_map.1 hk
 exact zP _
theorem mpK_nd {N : List Note} (h : (N.map (·.id)).Nodup) : (mpK N).Nodup := by
 have : mpK N = (N.map (·.id)).map intV := by rw [List.map_map]; rfl
 rw [this]
 exact List.Pairwise.map _ (fun a b hab q => hab (Qy a b q)) h
theorem mp_look (N : List Note) (k : Int) : MLook (mpK N) (mpX N) (intV k) (avOf (.agg #[.int .i64 0, .int .i64 0, .int .i64 0, .int .i64 0, .int .i64 0, .int .i64 0, .string .empty])) (.agg (noteC ((getN N k).getD noNote))) (getN N k).isSome := by
 have := qN (kv := intV) (va := fun n : Note => AV.agg (noteC n)) Qy (N.map fun n => (n.id, n)) k (avOf (.agg #[.int .i64 0, .int .i64 0, .int .i64 0, .int .i64 0, .int .i64 0, .int .i64 0, .string .empty]))
 rw [aget_nt, List.map_map, List.map_map] at this
 cases h : getN N k with
 | none => rw [h] at this; exact this
 | some v => rw [h] at this; exact this
theorem zNtV : zeroOf Tryz.prog 56 = some (.agg #[.int .i64 0, .int .i64 0, .int .i64 0, .int .i64 0, .int .i64 0, .int .i64 0, .string .empty]) := by kernel_rfl
section rules
variable (z : List AV) (ls : List (List AV)) (r : Recording) (l : List Tier) (N : List Note) (vl vn : Nat) (n : Note)
set_option maxRecDepth 8000 in
set_option maxHeartbeats 4000000 in
theorem parents_spec (hnd : (N.map (·.id)).Nodup) (hz : noidL (low 7) z = true) (hn : 0 ≤ n.tier ∧ n.tier < l.length) : ICalls Tryz.prog (Glo.of g) 188 [.agg [], .lp 2 0, .agg (noteC n)] (LW z ls r l N vl vn) (LW z ls r l N vl vn) (vi (parentsE l N n)) := by
 obtain ⟨t1, t2⟩ := jK hn
 have hlook := mp_look N n.parent
 have hand := mpK_nd hnd
 unfold parentsE
 generalize tierOf l n = t at *
 refine icalls Tryz.func188 rfl Tryz.ntmps188 rfl rfl rfl rfl (yL hz) rfl ?_
 by_cases k1 : t.kind = 0
 ·have d1 : decide (t.kind = 0) = true := decide_eq_true k1
  rw [if_pos k1]
  by_cases k2 : n.parent = 0
  ·have d2 : (!decide (n.parent = 0)) = false := by rw [decide_eq_true k2]; rfl
   rw [if_neg (fun q => q k2)]
   refine run [] ?_
   exact retI rfl ⟨rfl, rfl⟩
  ·have d2 : (!decide (n.parent = 0)) = true := by rw [decide_eq_false k2]; rfl
   rw [if_pos k2]
   refine run [] ?_
   exact retI rfl ⟨rfl, rfl⟩
 have d1 : decide (t.kind = 0) = false := decide_eq_false k1
 rw [if_neg k1]
 cases hs : getN N n.parent with
 | none =>
  rw [hs] at hlook
  have b1 : (!(none : Option Note).isSome) = true := rfl
  repeat' (first
   | ((with_reducible refine zu ?_); refine zc (zm rfl qd0 (zB intKey rfl rfl rfl (Zw _) rfl rfl zNtV rfl (ZW _) (zP _) hlook hand rfl) rfl rfl rfl) qb0 ?_)
   | ((with_reducible refine zp ?_); refine zd rfl rfl qa0 (zm rfl qd0 (zB intKey rfl rfl rfl (Zw _) rfl rfl zNtV rfl (ZW _) (zP _) hlook hand rfl) rfl rfl rfl) qb0 ?_)
   | refine st [] ?_
   | fail)
  exact retI rfl ⟨rfl, rfl⟩
 | some p =>
  rw [hs, Option.getD_some] at hlook
  have b1 : (!(some p : Option Note).isSome) = false := rfl
  by_cases k2 : p.tier = t.parent
  ·have d2 : (!decide (p.tier = t.parent)) = false := by rw [decide_eq_true k2]; rfl
   repeat' (first
    | ((with_reducible refine zu ?_); refine zc (zm rfl qd0 (zB intKey rfl rfl rfl (Zw _) rfl rfl zNtV rfl (ZW _) (zP _) hlook hand rfl) rfl rfl rfl) qb0 ?_)
    | ((with_reducible refine zp ?_); refine zd rfl rfl qa0 (zm rfl qd0 (zB intKey rfl rfl rfl (Zw _) rfl rfl zNtV rfl (ZW _) (zP _) hlook hand rfl) rfl rfl rfl) qb0 ?_)
    | refine st [] ?_
    | fail)
   exact retI rfl ⟨by simp [k2], rfl⟩
  ·have d2 : (!decide (p.tier = t.parent)) = true := by rw [decide_eq_false k2]; rfl
   repeat' (first
    | ((with_reducible refine zu ?_); refine zc (zm rfl qd0 (zB intKey rfl rfl rfl (Zw _) rfl rfl zNtV rfl (ZW _) (zP _) hlook hand rfl) rfl rfl rfl) qb0 ?_)
    | ((with_reducible refine zp ?_); refine zd rfl rfl qa0 (zm rfl qd0 (zB intKey rfl rfl rfl (Zw _) rfl rfl zNtV rfl (ZW _) (zP _) hlook hand rfl) rfl rfl rfl) qb0 ?_)
    | refine st [] ?_
    | fail)
   exact retI rfl ⟨by simp [k2], rfl⟩
end rules
end
section
open Go.Ac Go.MapKept
attribute [local irreducible] awp awpL Ev Ev2 EvS thenQ blockQ retQ PCalls OCalls ICalls YieldOk IterC
variable {g : List (Nat × List AV)}
section rules
variable (z : List AV) (ls : List (List AV)) (r : Recording) (l : List Tier) (N : List Note) (vl vn : Nat) (n : Note)
set_option maxRecDepth 8000 in
set_option maxHeartbeats 8000000 in
theorem times_spec (hl : l.length ≤ 1000000) (hnd : (N.map (·.id)).Nodup) (hz : noidL (low 7) z = true) (hn : 0 ≤ n.tier ∧ n.tier < l.length) : ICalls Tryz.prog (Glo.of g) 190 [.agg [], .lp 2 0, .agg (noteC n)] (LW z ls r l N vl vn) (LW z ls r l N vl vn) (vi (timesE r.length l N n)) := by
 obtain ⟨t1, t2⟩ := jK hn
 have hA := Q8 (g := g) l n.tier hl
 have hR := W7 (g := g) n.span
 have hlook := mp_look N n.parent
 have hand := mpK_nd hnd
 unfold timesE aroundS
 generalize tierOf l n = t at *
 refine icalls Tryz.func190 rfl Tryz.ntmps190 rfl rfl rfl rfl (yL hz) rfl ?_
 cases ka : alignedT l n.tier with
 | false =>
  rw [ka] at hA
  rw [if_pos rfl]
  have b1 : (!false) = true := rfl
  refine run [7] ?_
  exact retI rfl ⟨rfl, rfl⟩
 | true =>
  rw [ka] at hA
  rw [if_neg (by simp)]
  have b1 : (!true) = false := rfl
  have b2 : (!false) = true := rfl
  generalize (getN N n.parent).getD noNote = p at *
  by_cases k1 : t.kind = 0
  ·have d1 : (!decide (t.kind = 0)) = false := by rw [decide_eq_true k1]; rfl
   have es : (if t.kind ≠ 0 then p.span else (⟨0, r.length⟩ : Span)) = ⟨0, r.length⟩ := if_neg (fun q => q k1)
   rw [es]
   cases kr : spanRight n.span with
   | false =>
    rw [kr] at hR
    refine run [7] ?_
    exact retI rfl ⟨by simp, rfl⟩
   | true =>
    rw [kr] at hR
    by_cases k2 : n.span.fro < 0
    ·have d2 : decide (n.span.fro < 0) = true := decide_eq_true k2
     refine run [7] ?_
     exact retI rfl ⟨by simp [k2], rfl⟩
    ·have d2 : decide (n.span.fro < 0) = false := decide_eq_false k2
     by_cases k3 : r.length < n.span.til
     ·have d3 : decide (r.length < n.span.til) = true := decide_eq_true k3
      refine run [7] ?_
      exact retI rfl ⟨by simp [k2, k3], rfl⟩
     ·have d3 : decide (r.length < n.span.til) = false := decide_eq_false k3
      refine run [7] ?_
      exact retI rfl ⟨by simp [k2, k3], rfl⟩
  ·have d1 : (!decide (t.kind = 0)) = true := by rw [decide_eq_false k1]; rfl
   have es : (if t.kind ≠ 0 then p.span else (⟨0, r.length⟩ : Span)) = p.span := if_pos k1
   rw [es]
   cases kr : spanRight n.span with
   | false =>
    rw [kr] at hR
    repeat' (first
     | ((with_reducible refine zu ?_); (first | refine zc (zm rfl qd0 (zB intKey rfl rfl rfl (Zw _) rfl rfl zNtV rfl (ZW _) (zP _) hlook hand rfl) rfl rfl rfl) qb0 ?_ | refine zc (zh (fun _ => ZK (ds := spanC p.span) rfl rfl rfl rfl rfl rfl rfl) rfl rfl) qb0 ?_))
     | ((with_reducible refine zp ?_); (first | refine zd rfl rfl qa0 (zm rfl qd0 (zB intKey rfl rfl rfl (Zw _) rfl rfl zNtV rfl (ZW _) (zP _) hlook hand rfl) rfl rfl rfl) qb0 ?_ | refine zd rfl rfl qa0 (zh (fun _ => ZK (ds := spanC p.span) rfl rfl rfl rfl rfl rfl rfl) rfl rfl) qb0 ?_))
     | refine st [7] ?_
     | fail)
    exact retI rfl ⟨by simp, rfl⟩
   | true =>
    rw [kr] at hR
    by_cases k2 : n.span.fro < p.span.fro
    ·have d2 : decide (n.span.fro < p.span.fro) = true := decide_eq_true k2
     repeat' (first
      | ((with_reducible refine zu ?_); (first | refine zc (zm rfl qd0 (zB intKey rfl rfl rfl (Zw _) rfl rfl zNtV rfl (ZW _) (zP _) hlook hand rfl) rfl rfl rfl) qb0 ?_ | refine zc (zh (fun _ => ZK (ds := spanC p.span) rfl rfl rfl rfl rfl rfl rfl) rfl rfl) qb0 ?_))
      | ((with_reducible refine zp ?_); (first | refine zd rfl rfl qa0 (zm rfl qd0 (zB intKey rfl rfl rfl (Zw _) rfl rfl zNtV rfl (ZW _) (zP _) hlook hand rfl) rfl rfl rfl) qb0 ?_ | refine zd rfl rfl qa0 (zh (fun _ => ZK (ds := spanC p.span) rfl rfl rfl rfl rfl rfl rfl) rfl rfl) qb0 ?_))
      | refine st [7] ?_
      | fail)
     exact retI rfl ⟨by simp [k2], rfl⟩
    ·have d2 : decide (n.span.fro < p.span.fro) = false := decide_eq_false k2
     by_cases k3 : p.span.til < n.span.til
     ·have d3 : decide (p.span.til < n.span.til) = true := decide_eq_true k3
      repeat' (first
       | ((with_reducible refine zu ?_); (first | refine zc (zm rfl qd0 (zB intKey rfl rfl rfl (Zw _) rfl rfl zNtV rfl (ZW _) (zP _) hlook hand rfl) rfl rfl rfl) qb0 ?_ | refine zc (zh (fun _ => ZK (ds := spanC p.span) rfl rfl rfl rfl rfl rfl rfl) rfl rfl) qb0 ?_))
       | ((with_reducible refine zp ?_); (first | refine zd rfl rfl qa0 (zm rfl qd0 (zB intKey rfl rfl rfl (Zw _) rfl rfl zNtV rfl (ZW _) (zP _) hlook hand rfl) rfl rfl rfl) qb0 ?_ | refine zd rfl rfl qa0 (zh (fun _ => ZK (ds := spanC p.span) rfl rfl rfl rfl rfl rfl rfl) rfl rfl) qb0 ?_))
       | refine st [7] ?_
       | fail)
      exact retI rfl ⟨by simp [k2, k3], rfl⟩
     ·have d3 : decide (p.span.til < n.span.til) = false := decide_eq_false k3
      repeat' (first
       | ((with_reducible refine zu ?_); (first | refine zc (zm rfl qd0 (zB intKey rfl rfl rfl (Zw _) rfl rfl zNtV rfl (ZW _) (zP _) hlook hand rfl) rfl rfl rfl) qb0 ?_ | refine zc (zh (fun _ => ZK (ds := spanC p.span) rfl rfl rfl rfl rfl rfl rfl) rfl rfl) qb0 ?_))
       | ((with_reducible refine zp ?_); (first | refine zd rfl rfl qa0 (zm rfl qd0 (zB intKey rfl rfl rfl (Zw _) rfl rfl zNtV rfl (ZW _) (zP _) hlook hand rfl) rfl rfl rfl) qb0 ?_ | refine zd rfl rfl qa0 (zh (fun _ => ZK (ds := spanC p.span) rfl rfl rfl rfl rfl rfl rfl) rfl rfl) qb0 ?_))
       | refine st [7] ?_
       | fail)
      exact retI rfl ⟨by simp [k2, k3], rfl⟩
end rules
end
end Go.Proofs.YtcfkokllinkigaaGreatDoor
section
namespace Go.Ac
section
variable {P : Program} {td : TDs} [T : TOK P td] {G : Glo} {N : Nat} {Q : AQ} {S : SL} {L : List LB} {ops : Array Oper} {rest : List Oper}
 {ty : TypeId} {pos : String} {af : Array Edge} {dd : Nat}
end
end Go.Ac
namespace Go.Ac
section
variable {P : Program} {G : Glo} {N : Nat} {S : SL} {L : List LB} {ty : TypeId} {x : AV}
theorem qY {xt : TypeId} {u : Operand} {d : TypeDesc} (h : val G S u = some x) (hu : P.underlying xt = some d) (hn : (match d with | .interface _ => false | _ => true) = true) : Ev P G N (.makeInterface xt u) ty S L (.ifc xt x) := by
 intro o ho _ cx a hc
 have e1 := zn hc h
 refine ⟨.iface xt (a.eval u), ?_, by simp only [R]; exact ⟨_, rfl, e1⟩⟩
 have : (Instr.makeInterface xt (a.eval u)).run P cx.w = .ok (.iface xt (a.eval u)) cx.w := by
  cases d <;> simp_all [Instr.makeInterface, run_underlying hu, Result.andThen]
 simp only [execOp, ho, Sem.run_bind, this, Result.andThen_ok, Sem.run_pure]
end
end Go.Ac
end
