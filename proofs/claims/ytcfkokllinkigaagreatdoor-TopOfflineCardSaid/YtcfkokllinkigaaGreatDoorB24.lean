/- A logic of trees over the model's steps, and the contracts of the functions that the laws reach: part 24 of 29. -/
import Derived.Test.YtcfkokllinkigaaGreatDoorB23
set_option linter.unusedVariables false
set_option linter.unusedSimpArgs false
set_option linter.unusedSectionVars false
set_option linter.unnecessarySimpa false
namespace Go.Proofs.YtcfkokllinkigaaGreatDoor
section
open Go.Ac Go.MapKept
attribute [local irreducible] awp awpL Ev Ev2 EvS thenQ blockQ retQ PCalls OCalls ICalls YieldOk IterC
variable {g : List (Nat × List AV)}
theorem ld_ok {z : List AV} {ls : List (List AV)} {r : Recording} {l : List Tier} {N : List Note} {vl vn : Nat} (hz : noidL (low 6) z = true) : ((LD z ls r l N vl vn).all fun x => noidB (low (LD z ls r l N vl vn).length) x) = true := by
 simp only [List.all_cons, List.all_nil, List.length_cons, List.length_nil, noidB, noidL, noid, hz, Bool.and_self, Nat.zero_add, Nat.reduceAdd]; rfl
abbrev rulesC : List AV := [.ifc 134 (.agg []), .ifc 135 (.agg []), .ifc 136 (.agg []), .ifc 137 (.agg []), .ifc 138 (.agg []), .ifc 139 (.agg []), .ifc 140 (.agg [])]
abbrev isRule (t : TypeId) (f : FuncId) : Prop := ∀ w, (method (Tryz.prog.types.size + Made.depth) t (.agg #[]) "langdoc/repair.error").run Tryz.prog w = .ok (f, .agg #[]) w
theorem m_kinds : isRule 134 186 := fun w => by kernel_rfl
theorem m_room : isRule 135 187 := fun w => by kernel_rfl
theorem m_parents : isRule 136 188 := fun w => by kernel_rfl
theorem m_texts : isRule 137 189 := fun w => by kernel_rfl
theorem m_times : isRule 138 190 := fun w => by kernel_rfl
theorem m_overlaps : isRule 139 191 := fun w => by kernel_rfl
theorem m_labels : isRule 140 192 := fun w => by kernel_rfl
theorem lw_nrm7 {M : List LB} {z : List AV} {ls : List (List AV)} {r : Recording} {l : List Tier} {N : List Note} {vl vn : Nat} (hz : noidL (low 7) z = true) : nrmBs M 7 7 0 (LW z ls r l N vl vn) = LW z ls r l N vl vn := by
 have h := qd (L := M) (q := 7) (n := 7) (a := 7) (by omega) z hz
 show LB.box (nrmL M 7 7 z) :: _ = _
 rw [h]
 rfl
theorem firstE_cons (e : Int) (r : List Int) : firstE (e :: r) = if e ≠ 0 then e else firstE r := by
 unfold firstE
 rw [List.find?_cons]
 by_cases h : e = 0
 ·simp [h]
 ·simp [h]
section rules
variable (z : List AV) (ls : List (List AV)) (r : Recording) (l : List Tier) (N : List Note) (vl vn : Nat) (n : Note)
abbrev whyL (len : Int) (l : List Tier) (N : List Note) (n : Note) : List Int := [kindsE l n, roomE N, parentsE l N n, textE n.text, timesE len l N n, overlapsE l N n, labelsE l N n]
theorem rules_at (hu : Utf g) (hN : N.length ≤ 1000000) (hl : l.length ≤ 1000000) (hnd : (N.map (·.id)).Nodup) (hz7 : noidL (low 7) z = true) (hn : 0 ≤ n.tier ∧ n.tier < l.length) (k : Nat) (hk : k < 7) :
  ∃ t f e, (rulesC.map fun x => [x])[k]? = some [AV.ifc t (.agg [])] ∧ isRule t f ∧ ICalls Tryz.prog (Glo.of g).nr f [.agg [], .lp 2 0, .agg (noteC n)] (LW z ls r l N vl vn) (LW z ls r l N vl vn) (vi e) ∧ (whyL r.length l N n)[k]? = some e := by
 match k, hk with
 | 0, _ => exact ⟨_, _, _, rfl, m_kinds, kinds_spec z ls r l N vl vn n hz7 hn, rfl⟩
 | 1, _ => exact ⟨_, _, _, rfl, m_room, room_spec z ls r l N vl vn n hz7, rfl⟩
 | 2, _ => exact ⟨_, _, _, rfl, m_parents, parents_spec z ls r l N vl vn n hnd hz7 hn, rfl⟩
 | 3, _ => exact ⟨_, _, _, rfl, m_texts, texts_spec z ls r l N vl vn n hu hz7, rfl⟩
 | 4, _ => exact ⟨_, _, _, rfl, m_times, times_spec z ls r l N vl vn n hl hnd hz7 hn, rfl⟩
 | 5, _ => exact ⟨_, _, _, rfl, m_overlaps, overlaps_spec z ls r l N vl vn n hN hl hz7, rfl⟩
 | 6, _ => exact ⟨_, _, _, rfl, m_labels, labels_spec z ls r l N vl vn n hN hz7 hn, rfl⟩
set_option maxRecDepth 8000 in
set_option maxHeartbeats 8000000 in
theorem why_spec (hu : Utf g) (hN : N.length ≤ 1000000) (hl : l.length ≤ 1000000) (hnd : (N.map (·.id)).Nodup) (hz : noidL (low 6) z = true) (hz7 : noidL (low 7) z = true) (hn : 0 ≤ n.tier ∧ n.tier < l.length) : ICalls Tryz.prog (Glo.of g) 39 [.lp 2 0, .agg (noteC n)] (LD z ls r l N vl vn) (LD z ls r l N vl vn) (vi (whyE r.length l N n)) := by
 have hR := rules_at (g := g) z ls r l N vl vn n hu hN hl hnd hz7 hn
 refine icalls Tryz.func39 rfl Tryz.ntmps39 rfl rfl rfl rfl (ld_ok hz) rfl ?_
 repeat' (first
  | ((with_reducible refine zg ?_); (first | refine zb (qY rfl Tryz.underlying134 rfl) rfl ?_ | refine zb (qY rfl Tryz.underlying135 rfl) rfl ?_ | refine zb (qY rfl Tryz.underlying136 rfl) rfl ?_ | refine zb (qY rfl Tryz.underlying137 rfl) rfl ?_ | refine zb (qY rfl Tryz.underlying138 rfl) rfl ?_ | refine zb (qY rfl Tryz.underlying139 rfl) rfl ?_ | refine zb (qY rfl Tryz.underlying140 rfl) rfl ?_ | refine zk (zV (es := rulesC.map fun x => [x]) rfl rfl rfl rfl rfl rfl rfl rfl rfl rfl rfl rfl) rfl ?_))
  | refine stn [] ?_
  | fail)
 refine zi (α := Nat) 7 (fun k => [(0, .lp 2 0), (3, .fp (noteC n)), (4, vi 0), (22, .fs 1 7 (rulesC.map fun x => [x])), (23, vi 7), (24, vi k)]) (fun _ => LW z ls r l N vl vn) (fun k => k ≤ 7 ∧ firstE ((whyL r.length l N n).drop k) = whyE r.length l N n) (fun k => 7 - k) 0
  ⟨(.cons rfl rfl (.cons rfl rfl (.cons rfl rfl (.cons rfl rfl (.cons rfl rfl (.cons rfl rfl .nil)))))), (lw_nrm7 (r := r) (l := l) (N := N) (ls := ls) (vl := vl) (vn := vn) hz7), rfl, rfl⟩ ⟨Nat.zero_le _, rfl⟩ ?_
 rintro k ⟨hk, hw⟩
 by_cases hlt : k < 7
 ·obtain ⟨t, f, e, r1, r2, r3, r4⟩ := hR k hlt
  have c1 : decide ((k : Int) < 7) = true := decide_eq_true (by omega)
  have x1 : (0 : Int) ≤ (k : Int) ∧ (rulesC.map fun x => [x])[(k : Int).toNat]? = some [AV.ifc t (.agg [])] := ⟨by omega, by rw [Int.toNat_natCast]; exact r1⟩
  have hd : (whyL r.length l N n).drop k = e :: (whyL r.length l N n).drop (k + 1) := by
   obtain ⟨h1, h2⟩ := List.getElem?_eq_some_iff.1 r4
   rw [List.drop_eq_getElem_cons h1, h2]
  rw [hd, firstE_cons] at hw
  clear hR
  generalize rulesC.map (fun x => [x]) = es at *
  by_cases he : e = 0
  ·have d1 : (!decide (e = 0)) = false := by rw [decide_eq_true he]; rfl
   rw [if_neg (fun q => q he)] at hw
   repeat' (first
    | ((with_reducible refine zg ?_); refine Wn rfl r2 rfl r3 rfl ?_)
    | refine stn [] ?_
    | fail)
   exact ⟨k + 1, ⟨(.cons rfl rfl (.cons rfl rfl (.cons rfl rfl (.cons rfl rfl (.cons rfl rfl (.cons rfl rfl .nil)))))), (lw_nrm7 (r := r) (l := l) (N := N) (ls := ls) (vl := vl) (vn := vn) hz7), rfl, rfl⟩, ⟨by omega, hw⟩, by omega⟩
  ·have d1 : (!decide (e = 0)) = true := by rw [decide_eq_false he]; rfl
   rw [if_pos he] at hw
   rw [← hw]
   repeat' (first
    | ((with_reducible refine zg ?_); refine Wn rfl r2 rfl r3 rfl ?_)
    | refine stn [] ?_
    | fail)
   exact retI rfl ⟨rfl, rfl⟩
 ·have hk7 : k = 7 := by omega
  subst hk7
  have c1 : decide (((7 : Nat) : Int) < 7) = false := rfl
  rw [← hw]
  refine runn [] ?_
  exact retI rfl ⟨rfl, rfl⟩
end rules
end
end Go.Proofs.YtcfkokllinkigaaGreatDoor
namespace Go.Ac
section
def moreE (o : Oper) (x : List Edge) : Oper := { o with after := o.after ++ x.toArray }
section
variable {F : Fence} {n : Nat} {P : Program} {Q : Exit → Act → World → Prop}
theorem any_edges {l : List Oper} {k : Nat} {x : List Edge} {o : Oper} (ho : l[k]? = some o) (hx : (x.all fun e => reachE l l.length o.after.toList e.on) = true) :
  ∀ (fuel : Nat) (listed : Array Bool) (a : Act) (w : World), listed.size = l.length → (∀ (i : Nat) (o : Oper), l[i]? = some o → listed.getD i false = true → ∀ e ∈ o.after.toList, Region.binds .any e = true → listed.getD e.on false = true) →
   wpAnyIn F n P .any (l.set k (moreE o x)).toArray Q fuel listed a w → wpAnyIn F n P .any l.toArray Q fuel listed a w := by
 have hk : k < l.length := (List.getElem?_eq_some_iff.1 ho).1
 have get : ∀ i, (l.set k (moreE o x)).toArray[i]? = if k = i then some (moreE o x) else l[i]? := fun i => by
  rw [List.getElem?_toArray, List.getElem?_set]
  by_cases e : k = i
  ·rw [if_pos e, if_pos e, if_pos (by omega)]
  ·rw [if_neg e, if_neg e]
 have rd : ∀ (listed : Array Bool), listed.size = l.length → (∀ (i : Nat) (o : Oper), l[i]? = some o → listed.getD i false = true → ∀ e ∈ o.after.toList, Region.binds .any e = true → listed.getD e.on false = true) →
   ∀ i, i ∈ Region.ready .any (l.set k (moreE o x)).toArray listed ↔ i ∈ Region.ready .any l.toArray listed := by
  intro listed hs hcl i
  rw [mem_ready, mem_ready, get, List.getElem?_toArray]
  by_cases e : k = i
  ·subst e
   rw [if_pos rfl, ho]
   constructor
   ·rintro ⟨h0, o', ho', h⟩
    injection ho' with ho'; subst ho'
    exact ⟨h0, o, rfl, fun e he hb => h e (by simp only [moreE, Array.mem_append]; exact .inl he) hb⟩
   ·rintro ⟨h0, o', ho', h⟩
    injection ho' with ho'; subst ho'
    refine ⟨h0, _, rfl, fun e he hb => ?_⟩
    simp only [moreE, Array.mem_append] at he
    rcases he with he | he
    ·exact h e he hb
    ·have hr := List.all_eq_true.1 hx e (by simpa using he)
     exact yn hcl _ _ _ (fun e he hb => h e (by simpa using he) hb) hr
  ·rw [if_neg e]
 intro fuel
 induction fuel with
 | zero =>
  intro listed a w hs hcl h
  refine ⟨?_, h.2⟩
  cases hq : Region.ready .any l.toArray listed with
  | nil => rfl
  | cons i r =>
   have := (rd listed hs hcl i).2 (by rw [hq]; exact List.mem_cons_self ..)
   rw [h.1] at this; cases this
 | succ f ih =>
  intro listed a w hs hcl h
  refine ⟨fun hr => h.1 ?_, fun i hi => ?_⟩
  ·cases hq : Region.ready .any (l.set k (moreE o x)).toArray listed with
   | nil => rfl
   | cons i r =>
    have := (rd listed hs hcl i).1 (by rw [hq]; exact List.mem_cons_self ..)
    rw [hr] at this; cases this
  ·have hw := h.2 i ((rd listed hs hcl i).2 hi)
   rw [mem_ready] at hi
   obtain ⟨h0, oi, hoi, haft⟩ := hi
   have hoi : l[i]? = some oi := by simpa using hoi
   have hil : i < l.length := (List.getElem?_eq_some_iff.1 hoi).1
   have next : ∀ a w, wpAnyIn F n P .any (l.set k (moreE o x)).toArray Q f (listed.setIfInBounds i true) a w → wpAnyIn F n P .any l.toArray Q f (listed.setIfInBounds i true) a w := by
    intro a w
    refine ih _ a w (by simpa using hs) fun j oj hj hl e he hb => ?_
    by_cases e1 : i = e.on
    ·subst e1; simp [Array.getD_eq_getD_getElem?, hs, hil]
    ·rw [getD_set_ne false e1]
     by_cases e2 : i = j
     ·subst e2
      rw [hoi] at hj; injection hj with hj; subst hj
      exact haft e (by simpa using he) hb
     ·rw [getD_set_ne false e2] at hl
      exact hcl j oj hj hl e he hb
   have hy : ∀ j, yielded (l.set k (moreE o x)).toArray a.tmps j = yielded l.toArray a.tmps j := fun j => by
    unfold yielded
    rw [get, List.getElem?_toArray]
    by_cases e : k = j
    ·subst e; rw [if_pos rfl, ho]; rfl
    ·rw [if_neg e]
   have hy : yielded (l.set k (moreE o x)).toArray a.tmps = yielded l.toArray a.tmps := funext hy
   unfold wpOpIn at hw ⊢
   rw [get] at hw
   rw [List.getElem?_toArray, hoi]
   by_cases e : k = i
   ·subst e
    rw [hoi] at ho; injection ho with ho; subst ho
    rw [if_pos rfl, hy] at hw
    simp only at hw ⊢
    have hwant : Region.wanted (moreE oi x) (yielded l.toArray a.tmps) = Region.wanted oi (yielded l.toArray a.tmps) := rfl
    rw [hwant] at hw
    split at hw
    ·rename_i hq
     rw [if_pos hq]
     exact Oper.wpIn_mono next hw
    ·rename_i hq
     rw [if_neg hq]
     exact ⟨hw.1, next _ _ hw.2⟩
   ·rw [if_neg e, hoi, hy] at hw
    simp only at hw ⊢
    split at hw
    ·rename_i hq
     rw [if_pos hq]
     exact Oper.wpIn_mono next hw
    ·rename_i hq
     rw [if_neg hq]
     exact ⟨hw.1, next _ _ hw.2⟩
end
section
variable {P : Program} {td : TDs} [T : TOK P td] {G : Glo} {N : Nat} {Q : AQ} {S Sb : SL} {L : List LB} {lx l l1 l2 : List Oper}
theorem awp_drawE (k : Nat) (x : List Edge) (n : Nat) {id : Nat} {ds : List Nat} {o : Oper} (ho : lx[k]? = some o) (hx : (x.all fun e => reachE lx lx.length o.after.toList e.on) = true) (h0 : lx.set k (moreE o x) = l) (h1 : l.take n = l1) (h2 : l.drop n = l2) (hm : P.follows .mixedOrders = true) (hk : drawOk N 0 [] l1 = true) (ht : tailOk2 l1.length l2 = true) (hg : gdOk l1.length l1 = true) (hds : dsts l1 = ds) (hS : Strip ds S Sb)
  (h : awpD P G N (fun S' L' => awpL P G N l.toArray l2 Q S' L') Sb L.length l1 [] ⟨L, [], [], false⟩) : awp P G N (.region id lx.toArray true) Q S L := by
 have hl : l = l1 ++ l2 := by rw [← h1, ← h2, List.take_append_drop]
 subst hl
 clear h1 h2
 have hb : (Sb.all fun p => !(l1.any fun o => match o.dst with | some d => Nat.beq d p.1 | none => false)) = true := by
  rw [List.all_eq_true]
  rintro ⟨t, x⟩ hp
  have hm := Jm hS t x hp
  rw [Bool.not_eq_true', List.any_eq_false]
  intro o ho
  cases hd : o.dst with
  | none => simp
  | some d =>
   have hdm : d ∈ ds := by rw [← hds]; exact List.mem_filterMap.2 ⟨o, ho, hd⟩
   simp only [Bool.not_eq_true]
   cases he : Nat.beq d t with
   | false => rfl
   | true =>
    have := Nat.eq_of_beq_eq_true he
    subst this
    rw [WC hdm] at hm; cases hm
 intro cx a hc
 refine wpIn_region_any hm ?_
 have hsz : lx.length = (l1 ++ l2).length := by rw [← h0, List.length_set]
 have hlx : lx.toArray.size = (l1 ++ l2).toArray.size := by simpa using hsz
 rw [hlx]
 refine any_edges ho hx _ _ _ _ (by simpa using hsz.symm) (fun i o hi hl => ?_) ?_
 ·exfalso; have hi2 := (List.getElem?_eq_some_iff.1 hi).1; rw [hsz] at hi2; have hi3 : i < l1.length + l2.length := by simpa using hi2
  simp [Array.getD_eq_getD_getElem?, hi3] at hl
 rw [h0]
 have hA := y5 (Q := thenQ (fun S' L' => awpL P G N (l1 ++ l2).toArray l2 Q S' L') Q) hk (fun t x hx => (hS.get t x hx).1) hb h cx a hc
 refine body_run2 ht hg hk (Qt := conc G N (thenQ (fun S' L' => awpL P G N (l1 ++ l2).toArray l2 Q S' L') Q) cx) (fun e a w hne q => ?_) (fun a w q => ?_) _ _ _ _ _ (by simp) (by simp) (fun i hi => ?_) (fun i hi hil => ?_) hA _ (by simp)
 ·obtain ⟨S', L', c', q1, q2, q3, q4⟩ := q
  refine ⟨S', L', c', ?_, q2, q3, q4⟩
  cases e with
  | normal => exact absurd rfl hne
  | _ => exact q1
 ·obtain ⟨S', L', c', q1, q2, q3, q4⟩ := q
  subst q4
  exact zq (fun e a w r => r.trans q3) _ _ _ (q1 c' a q2)
 ·have hi2 : i < l1.length + l2.length := by omega
  simp [Array.getD_eq_getD_getElem?, hi, hi2]
 ·simp at hil
  simp [Array.getD_eq_getD_getElem?, hil]
end
end
section
structure Hold (p : Prop) : Prop where
 out : p
theorem zS (id : Nat) {P : Program} {G : Glo} {N : Nat} {Q : AQ} {S : SL} {L : List LB} {ops : Array Oper} {dr : Bool} (h : Hold (awp P G N (.region id ops dr) Q S L)) : awp P G N (.region id ops dr) Q S L := h.out
end
end Go.Ac
namespace Go.Proofs.YtcfkokllinkigaaGreatDoor
section
open Go.Ac Go.MapKept
attribute [local irreducible] awp awpL Ev Ev2 EvS thenQ blockQ retQ PCalls OCalls ICalls YieldOk IterC
variable {g : List (Nat × List AV)}
theorem aput_new (N : List Note) (m : Note) (h : ∀ x ∈ N, x.id ≠ m.id) : aput (N.map fun n => (n.id, n)) m.id m = (N ++ [m]).map fun n => (n.id, n) := by
 have e : (N.map fun n => (n.id, n)).findIdx? (fun p => decide (p.1 = m.id)) = none := by
  rw [List.findIdx?_eq_none_iff]
  intro p hp
  obtain ⟨x, hx, rfl⟩ := List.mem_map.1 hp
  exact decide_eq_false (h x hx)
 unfold aput
 rw [e, List.map_append]; rfl
theorem mp_put (N : List Note) (m : Note) (h : ∀ x ∈ N, x.id ≠ m.id) : MPut (mpK N) (mpX N) (intV m.id) (.agg (noteC m)) (mpK (N ++ [m])) (mpX (N ++ [m])) := by
 have := Qv (kv := intV) (va := fun n : Note => AV.agg (noteC n)) Qy (N.map fun n => (n.id, n)) m.id m
 rw [aput_new N m h, List.map_map, List.map_map, List.map_map, List.map_map] at this
 exact this
abbrev LQ (z : List AV) (ls : List (List AV)) (r : Recording) (l : List Tier) (N : List Note) (vl : Nat) (m : Note) : List LB := [.box z, .map (mpK N) (mpX N), .box (plC r l 0), .own vl 58 8 ls, .dead, .own 0 56 7 (N.map noteC), .pin, .box (noteC m)]
theorem lq_nrm {M : List LB} {z : List AV} {ls : List (List AV)} {r : Recording} {l : List Tier} {N : List Note} {vl : Nat} {m : Note} (hz : noidL (low 7) z = true) : nrmBs M 7 8 0 (LQ z ls r l N vl m) = LQ z ls r l N vl m := by
 have h := qd (L := M) (q := 7) (n := 8) (a := 7) (by omega) z hz
 show LB.box (nrmL M 7 8 z) :: _ = _
 rw [h]
 rfl
section rules
variable (z : List AV) (ls : List (List AV)) (r : Recording) (l : List Tier) (N : List Note) (vl : Nat) (n : Note)
set_option maxRecDepth 8000 in
set_option maxHeartbeats 8000000 in
theorem put_spec (hl : l.length ≤ 1000000) (hN : N.length ≤ 100000) (hnd : (N.map (·.id)).Nodup) (hnew : ∀ x ∈ N, x.id ≠ n.id) (hz : noidL (low 6) z = true) (hz7 : noidL (low 7) z = true) (hn : 0 ≤ n.tier ∧ n.tier < l.length) : ICalls Tryz.prog (Glo.of g) 40 [.lp 2 0, .agg (noteC n)] (LD z ls r l N vl 0) (LD z ls r l (N ++ [putN l n]) vl 1) (.tup []) := by
 obtain ⟨t1, t2⟩ := jK hn
 have hA := Q8 (g := g) l n.tier hl
 have hand := mpK_nd hnd
 have hput := mp_put N (putN l n) hnew
 have j1 : N.map noteC ++ [noteC (putN l n)] = (N ++ [putN l n]).map noteC := by rw [List.map_append]; rfl
 refine icalls Tryz.func40 rfl Tryz.ntmps40 rfl rfl rfl rfl (ld_ok hz) rfl ?_
 refine run [3] ?_
 refine wa 8 [(0, .lp 2 0), (3, .lp 7 0)] (LQ z ls r l N vl { n with span := if alignedT l n.tier then n.span else ⟨0, 0⟩ }) ?_ ?_
 ·cases ka : alignedT l n.tier with
  | false =>
   have b1 : (!false) = true := rfl
   refine runn [3] ?_
   exact ⟨(.cons rfl rfl (.cons rfl rfl .nil)), lq_nrm (r := r) (l := l) (N := N) (ls := ls) (vl := vl) (m := { n with span := ⟨0, 0⟩ }) hz7, rfl, rfl⟩
  | true =>
   have b1 : (!true) = false := rfl
   refine runn [3] ?_
   exact ⟨(.cons rfl rfl (.cons rfl rfl .nil)), lq_nrm (r := r) (l := l) (N := N) (ls := ls) (vl := vl) (m := n) hz7, rfl, rfl⟩
 have em : putN l n = { { n with span := if alignedT l n.tier then n.span else ⟨0, 0⟩ } with rank := if (tierOf l n).kind = 3 then n.rank else 0 } := rfl
 have en : n.tier = ({ n with span := if alignedT l n.tier then n.span else ⟨0, 0⟩ } : Note).tier := rfl
 have er : n.rank = ({ n with span := if alignedT l n.tier then n.span else ⟨0, 0⟩ } : Note).rank := rfl
 rw [en] at t2
 rw [er] at em
 generalize putN l n = m at *
 generalize ({ n with span := if alignedT l n.tier then n.span else ⟨0, 0⟩ } : Note) = n1 at *
 generalize tierOf l n = t at *
 clear en er hA hn t1
 refine run [3] ?_
 refine wa 8 [(0, .lp 2 0), (3, .lp 7 0)] (LQ z ls r l N vl m) ?_ ?_
 ·by_cases k3 : t.kind = 3
  ·have d1 : (!decide (t.kind = 3)) = false := by rw [decide_eq_true k3]; rfl
   rw [if_pos k3] at em
   have em' : m = n1 := em
   subst em'
   refine runn [3] ?_
   exact ⟨(.cons rfl rfl (.cons rfl rfl .nil)), lq_nrm (r := r) (l := l) (N := N) (ls := ls) (vl := vl) hz7, rfl, rfl⟩
  ·have d1 : (!decide (t.kind = 3)) = true := by rw [decide_eq_false k3]; rfl
   rw [if_neg k3] at em
   subst em
   refine runn [3] ?_
   exact ⟨(.cons rfl rfl (.cons rfl rfl .nil)), lq_nrm (r := r) (l := l) (N := N) (ls := ls) (vl := vl) (m := { n1 with rank := 0 }) hz7, rfl, rfl⟩
 clear em
 repeat' (first
  | refine zS 6 ?_
  | refine awp_drawE 7 [⟨1, .data⟩, ⟨2, .data⟩, ⟨3, .data⟩, ⟨5, .data⟩] 8 rfl rfl rfl (by simp only [List.set_cons_zero, List.set_cons_succ, moreE, List.take_succ_cons, List.take_zero, List.take_nil]; rfl) (by simp only [List.set_cons_zero, List.set_cons_succ, moreE, List.drop_succ_cons, List.drop_zero, List.drop_nil]; rfl) (by kernel_rfl) rfl rfl rfl rfl (by repeat' (first | exact Strip.nil | apply Strip.keep rfl | apply Strip.drop rfl)) ?_
  | refine awpD_sV rfl rfl (zZ (es' := (N ++ [m]).map noteC) (L' := [.box z, .map (mpK N) (mpX N), .box (plC r l 0), .own vl 58 8 ls, .dead, .own 1 56 7 ((N ++ [m]).map noteC), .pin, .box (noteC m)]) rfl rfl rfl rfl rfl rfl rfl rfl rfl rfl rfl rfl rfl (by simp only [List.length_map, List.length_cons, List.length_nil, List.length_append]; omega) j1 rfl) rfl rfl ?_
  | refine st [3] ?_
  | fail)
 refine ⟨?_⟩
 repeat' (first
  | ((with_reducible refine zg ?_); refine Zk (qP (L' := [.box z, .map (mpK (N ++ [m])) (mpX (N ++ [m])), .box (plC r l 1), .own vl 58 8 ls, .dead, .own 1 56 7 ((N ++ [m]).map noteC), .pin, .box (noteC m)]) intKey rfl rfl rfl (Zw _) rfl rfl rfl rfl (ZW _) (zP _) hput hand rfl) ?_)
  | ((with_reducible refine zJ ?_); refine zC 7 (by simp only [List.take_succ_cons, List.take_zero, List.take_nil]; rfl) (by simp only [List.drop_succ_cons, List.drop_zero, List.drop_nil]; rfl) (by kernel_rfl) rfl rfl rfl rfl (by repeat' (first | exact Strip.nil | apply Strip.keep rfl | apply Strip.drop rfl)) ?_)
  | refine st [3] ?_
  | fail)
 exact retIn rfl ⟨rfl, rfl⟩
end rules
end
section
theorem Jx {l : List Int} (h : firstE l = 0) : ∀ x ∈ l, x = 0 := by
 unfold firstE at h
 cases hf : l.find? (fun x => decide (x ≠ 0)) with
 | none =>
  intro x hx
  have := List.find?_eq_none.1 hf x hx
  simpa using this
 | some a =>
  rw [hf] at h
  have := List.find?_some hf
  simp at this h
  exact absurd h this
theorem je {l : List Tier} {n : Note} {t : Tier} (h : tierAt l n.tier = some t) : tierOf l n = t := by unfold tierOf; rw [h]; rfl
theorem wg {l : List Tier} {i : Int} {t : Tier} (h : tierAt l i = some t) : alignedT l i = timed t.kind := by unfold alignedT; rw [h]
structure OkP (len : Int) (l : List Tier) (N : List Note) (n : Note) (t : Tier) : Prop where
 id : 1 ≤ n.id ∧ n.id ≤ 1099511627776
 tier : tierAt l n.tier = some t
 text : textE n.text = 0
 kind : t.kind ≠ 1
 root : t.kind = 0 → n.parent = 0
 up : t.kind ≠ 0 → ∃ p, getN N n.parent = some p ∧ p.tier = t.parent ∧ (timed t.kind = true → p.span.fro ≤ n.span.fro ∧ n.span.til ≤ p.span.til)
 flat : timed t.kind = false → n.span = ⟨0, 0⟩
 span : timed t.kind = true → spanRight n.span = true
 len : t.kind = 0 → n.span.til ≤ len
 rank : t.kind ≠ 3 → n.rank = 0
def Beside (l : List Tier) (a b : Note) : Prop := sameP a b = true → (alignedT l b.tier = true → meet a.span b.span = false) ∧ (tierOf l b).kind ≠ 4
structure InvP (len : Int) (l : List Tier) (N : List Note) : Prop where
 few : N.length ≤ 300
 ids : (N.map (·.id)).Nodup
 ok : ∀ n ∈ N, ∃ t, OkP len l N n t
 pair : N.Pairwise (Beside l)
theorem getN_app {N : List Note} {m : Note} {i : Int} {p : Note} (h : getN N i = some p) : getN (N ++ [m]) i = some p := by
 unfold getN at *
 rw [List.find?_append, h]; rfl
theorem OkP.app {len : Int} {l : List Tier} {N : List Note} {n m : Note} {t : Tier} (h : OkP len l N n t) : OkP len l (N ++ [m]) n t :=
 { h with up := fun k => (h.up k).elim fun p q => ⟨p, getN_app q.1, q.2⟩ }
theorem InvP.nil (len : Int) (l : List Tier) : InvP len l [] := ⟨by simp, by simp, fun n h => (by cases h), List.Pairwise.nil⟩
theorem putN_ok {len : Int} {l : List Tier} {N : List Note} {n : Note} (hi : 1 ≤ n.id ∧ n.id ≤ 1099511627776) (hr : inR l n = true) (h : whyE len l N n = 0) : ∃ t, OkP len l N (putN l n) t := by
 have hf := Jx h
 simp only [List.mem_cons, List.mem_nil_iff, or_false, forall_eq_or_imp, forall_eq] at hf
 obtain ⟨f1, f2, f3, f4, f5, f6, f7⟩ := hf
 simp only [inR, Bool.and_eq_true, decide_eq_true_eq] at hr
 have e : ∃ t, tierAt l n.tier = some t := ⟨l[n.tier.toNat]'(by omega), by unfold tierAt; rw [if_pos hr.1]; exact List.getElem?_eq_getElem (by omega)⟩
 obtain ⟨t, ht⟩ := e
 have et := je ht
 have ea := wg ht
 unfold kindsE at f1
 unfold parentsE at f3
 unfold timesE at f5
 rw [et] at f1 f3
 rw [ea] at f5
 have eu : aroundS len l N n = if t.kind ≠ 0 then ((getN N n.parent).getD noNote).span else ⟨0, len⟩ := by unfold aroundS; rw [et]
 have k1 : t.kind ≠ 1 := fun q => by rw [if_pos (.inl q)] at f1; cases f1
 have hup : t.kind ≠ 0 → ∃ p, getN N n.parent = some p ∧ p.tier = t.parent := fun q => by
  rw [if_neg q] at f3
  cases hg : getN N n.parent with
  | none => rw [hg] at f3; cases f3
  | some p =>
   rw [hg] at f3
   simp only at f3
   split at f3
   ·cases f3
   ·rename_i q2; exact ⟨p, rfl, Decidable.of_not_not q2⟩
 have hs : timed t.kind = true → spanRight n.span = true ∧ (aroundS len l N n).fro ≤ n.span.fro ∧ n.span.til ≤ (aroundS len l N n).til := fun q => by
  rw [if_neg (by rw [q]; simp)] at f5
  by_cases q2 : spanRight n.span = false ∨ n.span.fro < (aroundS len l N n).fro ∨ (aroundS len l N n).til < n.span.til
  ·rw [if_pos q2] at f5; cases f5
  ·refine ⟨?_, by omega, by omega⟩
   cases hsr : spanRight n.span with
   | true => rfl
   | false => exact absurd (Or.inl hsr) q2
 rw [eu] at hs
 refine ⟨t, hi, ht, f4, k1, fun q => ?_, fun q => ?_, fun q => ?_, fun q => ?_, fun q => ?_, fun q => ?_⟩
 ·rw [if_pos q] at f3
  show n.parent = 0
  split at f3
  ·cases f3
  ·rename_i q2; exact Decidable.of_not_not q2
 ·obtain ⟨p, hp, hpt⟩ := hup q
  refine ⟨p, hp, hpt, fun q2 => ?_⟩
  have := (hs q2).2
  rw [if_pos q, hp] at this
  simp only [putN, ea, q2, if_true]
  exact this
 ·simp only [putN, ea, q, Bool.false_eq_true, if_false]
 ·simp only [putN, ea, q, if_true]; exact (hs q).1
 ·have q2 : timed t.kind = true := by rw [q]; rfl
  have := (hs q2).2.2
  rw [if_neg (by simp [q])] at this
  simp only [putN, ea, q2, if_true]; exact this
 ·simp only [putN, et, if_neg q]
theorem putN_beside {len : Int} {l : List Tier} {N : List Note} {n : Note} (h : whyE len l N n = 0) : ∀ x ∈ N, Beside l x (putN l n) := by
 have hf := Jx h
 simp only [List.mem_cons, List.mem_nil_iff, or_false, forall_eq_or_imp, forall_eq] at hf
 obtain ⟨f1, f2, f3, f4, f5, f6, f7⟩ := hf
 intro x hx hs
 have hs' : sameP x n = true := hs
 unfold overlapsE at f6
 unfold labelsE at f7
 refine ⟨fun ha => ?_, fun hk => ?_⟩
 ·have ha' : alignedT l n.tier = true := ha
  rw [if_neg (by rw [ha']; simp)] at f6
  split at f6
  ·cases f6
  ·rename_i q
   simp only [putN, ha', if_true]
   cases hm : meet x.span n.span with
   | false => rfl
   | true =>
    refine absurd (List.any_eq_true.2 ⟨x, hx, ?_⟩) q
    unfold meet at hm
    rw [hs', hm]; rfl
 ·have hk' : (tierOf l n).kind = 4 := hk
  rw [if_neg (fun q => q hk')] at f7
  split at f7
  ·cases f7
  ·rename_i q
   exact absurd (List.any_eq_true.2 ⟨x, hx, hs'⟩) q
theorem InvP.put {len : Int} {l : List Tier} {N : List Note} {n : Note} (h : InvP len l N) (hi : 1 ≤ n.id ∧ n.id ≤ 1099511627776) (hr : inR l n = true) (hd : ∀ x ∈ N, x.id ≠ n.id) (hw : whyE len l N n = 0) : InvP len l (N ++ [putN l n]) := by
 have hf := Jx hw
 simp only [List.mem_cons, List.mem_nil_iff, or_false, forall_eq_or_imp, forall_eq] at hf
 have f2 := hf.2.1
 refine ⟨?_, ?_, fun m hm => ?_, ?_⟩
 ·unfold roomE at f2
  split at f2
  ·cases f2
  ·simp; omega
 ·rw [List.map_append, List.nodup_append]
  refine ⟨h.ids, by simp, fun a ha b hb => ?_⟩
  obtain ⟨x, hx, rfl⟩ := List.mem_map.1 ha
  simp only [List.map_cons, List.map_nil, List.mem_singleton] at hb
  rw [hb]
  exact hd x hx
 ·rcases List.mem_append.1 hm with q | q
  ·obtain ⟨t, ht⟩ := h.ok m q
   exact ⟨t, ht.app⟩
  ·rw [List.mem_singleton] at q
   subst q
   obtain ⟨t, ht⟩ := putN_ok (len := len) hi hr hw
   exact ⟨t, ht.app⟩
 ·rw [List.pairwise_append]
  refine ⟨h.pair, List.pairwise_singleton .., fun a ha b hb => ?_⟩
  rw [List.mem_singleton] at hb
  subst hb
  exact putN_beside hw a ha
def ordP (l : List Tier) (ns : List Note) : List Note := (List.range l.length).flatMap fun (t : Nat) => (ns.filter (inR l)).filter fun n => decide (n.tier = (t : Int))
theorem yV {α β γ : Type} (f : γ → β → γ) (g : α → List β) : ∀ (l : List α) (c : γ), (l.flatMap g).foldl f c = l.foldl (fun c a => (g a).foldl f c) c
 | [], c => rfl
 | a :: r, c => by rw [List.flatMap_cons, List.foldl_append, List.foldl_cons, yV f g r]
theorem jh (len : Int) (l : List Tier) (ns : List Note) : placeAll len l ns = (ordP l ns).foldl (stepP len l) ⟨[], (ns.filter fun n => !inR l n).map fun n => (n, 2)⟩ := by
 unfold placeAll ordP
 rw [yV]
 rfl
theorem yz {l : List Tier} {ns : List Note} {n : Note} : n ∈ ordP l ns ↔ n ∈ ns ∧ inR l n = true := by
 unfold ordP
 simp only [List.mem_flatMap, List.mem_range, List.mem_filter, decide_eq_true_eq]
 constructor
 ·rintro ⟨t, _, h, _⟩; exact h
 ·rintro ⟨h1, h2⟩
  have h3 := h2
  simp only [inR, Bool.and_eq_true, decide_eq_true_eq] at h3
  exact ⟨n.tier.toNat, by omega, ⟨h1, h2⟩, by omega⟩
theorem pw_inj {l : List Note} (h : l.Pairwise fun a b => a.id ≠ b.id) {a b : Note} (ha : a ∈ l) (hb : b ∈ l) (q : a.id = b.id) : a = b := by
 induction l with
 | nil => cases ha
 | cons x r ih =>
  obtain ⟨h1, h2⟩ := List.pairwise_cons.1 h
  rcases List.mem_cons.1 ha with e1 | ha
  ·rcases List.mem_cons.1 hb with e2 | hb
   ·rw [e1, e2]
   ·rw [e1] at q; exact absurd q (h1 b hb)
  ·rcases List.mem_cons.1 hb with e2 | hb
   ·rw [e2] at q; exact absurd q.symm (h1 a ha)
   ·exact ih h2 ha hb
theorem ordP_ids {l : List Tier} {ns : List Note} (h : ns.Pairwise fun a b => a.id ≠ b.id) : (ordP l ns).Pairwise fun a b => a.id ≠ b.id := by
 have hinj : ∀ a ∈ ns, ∀ b ∈ ns, a.id = b.id → a = b := by
  intro a ha b hb q
  exact pw_inj h ha hb q
 unfold ordP
 rw [List.pairwise_flatMap]
 refine ⟨fun t _ => (h.filter _).filter _, ?_⟩
 have : (List.range l.length).Pairwise fun a b : Nat => a ≠ b := List.nodup_range
 refine this.imp fun {s t} hst x hx y hy q => ?_
 simp only [List.mem_filter, decide_eq_true_eq] at hx hy
 have := hinj x hx.1.1 y hy.1.1 q
 subst this
 omega
theorem JW {len : Int} {l : List Tier} : ∀ (ord : List Note) (p : Placed), InvP len l p.notes → (∀ n ∈ ord, 1 ≤ n.id ∧ n.id ≤ 1099511627776) → (∀ n ∈ ord, inR l n = true) → (∀ n ∈ ord, ∀ x ∈ p.notes, x.id ≠ n.id) → (ord.Pairwise fun a b => a.id ≠ b.id) → InvP len l (ord.foldl (stepP len l) p).notes
 | [], p, h, _, _, _, _ => h
 | n :: r, p, h, hi, hr, hd, hp => by
  rw [List.foldl_cons]
  obtain ⟨hp1, hp2⟩ := List.pairwise_cons.1 hp
  have hn := List.mem_cons_self (a := n) (l := r)
  unfold stepP
  split
  ·exact JW r _ h (fun m hm => hi m (List.mem_cons_of_mem _ hm)) (fun m hm => hr m (List.mem_cons_of_mem _ hm)) (fun m hm => hd m (List.mem_cons_of_mem _ hm)) hp2
  ·rename_i hw
   refine JW r _ (h.put (hi n hn) (hr n hn) (hd n hn) (Decidable.of_not_not hw)) (fun m hm => hi m (List.mem_cons_of_mem _ hm)) (fun m hm => hr m (List.mem_cons_of_mem _ hm)) (fun m hm x hx => ?_) hp2
   rcases List.mem_append.1 hx with q | q
   ·exact hd m (List.mem_cons_of_mem _ hm) x q
   ·rw [List.mem_singleton] at q
    subst q
    exact hp1 m hm
theorem QP (len : Int) {l : List Tier} {ns : List Note} (hi : ∀ n ∈ ns, 1 ≤ n.id ∧ n.id ≤ 1099511627776) (hp : ns.Pairwise fun a b => a.id ≠ b.id) : InvP len l (placeAll len l ns).notes := by
 rw [jh]
 exact JW _ _ (.nil len l) (fun n hn => hi n (yz.1 hn).1) (fun n hn => (yz.1 hn).2) (fun n _ x hx => by cases hx) (ordP_ids hp)
def inP (p : Placed) (i : Int) : Prop := (∃ x ∈ p.notes, x.id = i) ∨ ∃ q ∈ p.loose, q.1.id = i
theorem stepP_in {len : Int} {l : List Tier} {p : Placed} {n : Note} : inP (stepP len l p n) n.id := by
 unfold stepP
 split
 ·exact .inr ⟨(n, _), List.mem_append_right _ (List.mem_singleton_self _), rfl⟩
 ·exact .inl ⟨putN l n, List.mem_append_right _ (List.mem_singleton_self _), rfl⟩
theorem stepP_keep {len : Int} {l : List Tier} {p : Placed} {n : Note} {i : Int} (h : inP p i) : inP (stepP len l p n) i := by
 unfold stepP
 split
 ·exact h.imp id fun ⟨q, h1, h2⟩ => ⟨q, List.mem_append_left _ h1, h2⟩
 ·exact h.imp (fun ⟨q, h1, h2⟩ => ⟨q, List.mem_append_left _ h1, h2⟩) id
theorem wG {len : Int} {l : List Tier} {i : Int} : ∀ (ord : List Note) (p : Placed), inP p i → inP (ord.foldl (stepP len l) p) i
 | [], _, h => h
 | n :: r, p, h => by rw [List.foldl_cons]; exact wG r _ (stepP_keep h)
theorem fold_in {len : Int} {l : List Tier} : ∀ (ord : List Note) (p : Placed) (n : Note), n ∈ ord → inP (ord.foldl (stepP len l) p) n.id
 | m :: r, p, n, h => by
  rw [List.foldl_cons]
  rcases List.mem_cons.1 h with rfl | h
  ·exact wG r _ stepP_in
  ·exact fold_in r _ n h
theorem placeAll_in (len : Int) {l : List Tier} {ns : List Note} {n : Note} (hn : n ∈ ns) : inP (placeAll len l ns) n.id := by
 rw [jh]
 cases hr : inR l n with
 | true => exact fold_in _ _ n (yz.2 ⟨hn, hr⟩)
 | false => exact wG _ _ (.inr ⟨(n, 2), List.mem_map.2 ⟨n, List.mem_filter.2 ⟨hn, by rw [hr]; rfl⟩, rfl⟩, rfl⟩)
end
end Go.Proofs.YtcfkokllinkigaaGreatDoor
