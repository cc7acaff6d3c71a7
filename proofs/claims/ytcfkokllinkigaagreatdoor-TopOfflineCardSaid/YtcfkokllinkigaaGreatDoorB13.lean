/- A logic of trees over the model's steps, and the contracts of the functions that the laws reach: part 13 of 29. -/
import Derived.Test.YtcfkokllinkigaaGreatDoorB12
set_option linter.unusedVariables false
set_option linter.unusedSimpArgs false
set_option linter.unusedSectionVars false
set_option linter.unnecessarySimpa false
namespace Go.Proofs.YtcfkokllinkigaaGreatDoor
section
open Go.Ac Go.MapKept
attribute [local irreducible] awp awpL Ev Ev2 EvS thenQ blockQ retQ PCalls OCalls YieldOk IterC
variable {g : List (Nat × List AV)}
def vks (m : List (Stamp × Val)) : List Value := m.map fun p => stampV p.1
def vxs (m : List (Stamp × Val)) : List AV := m.map fun p => .agg (valC p.2)
theorem vks_ok (m : List (Stamp × Val)) : ∀ k ∈ vks m, isStampV k := by
 intro k hk
 obtain ⟨p, _, rfl⟩ := List.mem_map.1 hk
 exact Zm _
theorem vks_nd {m : List (Stamp × Val)} (h : ANd m) : (vks m).Nodup := h.kv Zl
theorem valM_len (note f : Int) (l : List Op) : (valM note f l).length ≤ l.length := by
 have hput : ∀ (m : List (Stamp × Val)) s v, (aput m s v).length ≤ m.length + 1 := fun m s v => by
  unfold aput
  split <;> simp
 have hdel : ∀ (l : List Stamp) (m : List (Stamp × Val)), (dels m l).length ≤ m.length := by
  intro l
  induction l with
  | nil => intro m; exact Nat.le_refl _
  | cons s r ih =>
   intro m
   refine Nat.le_trans (ih (adel m s)) ?_
   unfold adel
   split
   ·exact (List.eraseIdx_sublist _ _).length_le
   ·exact Nat.le_refl _
 have : ∀ (l : List Op) (m : List (Stamp × Val)), (l.foldl (valStep note f) m).length ≤ m.length + l.length := by
  intro l
  induction l with
  | nil => intro m; simp
  | cons o r ih =>
   intro m
   have h1 := ih (valStep note f m o)
   have h2 : (valStep note f m o).length ≤ m.length + 1 := by
    unfold valStep
    split
    ·have := hput (dels m o.over) o.at_ (valueOf o f)
     have := hdel o.over m
     omega
    ·omega
   simp only [List.foldl_cons, List.length_cons]
   omega
 simpa [valM] using this l []
abbrev valK (note f : Int) (l : List Op) (k : Nat) : List (Stamp × Val) := valM note f (l.take k)
theorem valK_succ {note f : Int} {l : List Op} {k : Nat} {x : Op} (h : l[k]? = some x) : valK note f l (k + 1) = valStep note f (valK note f l k) x := by
 unfold valK
 rw [List.take_add_one, h]
 exact valM_snoc note f _ x
theorem dels_succ (m : List (Stamp × Val)) {l : List Stamp} {k : Nat} {x : Stamp} (h : l[k]? = some x) : dels m (l.take (k + 1)) = adel (dels m (l.take k)) x := by
 unfold dels
 rw [List.take_add_one, h, List.foldl_append]; rfl
set_option maxRecDepth 4000 in
set_option maxHeartbeats 4000000 in
theorem jd (r : Replica) (note f : Int) (hl : r.ops.length ≤ 100000) (ho : ∀ o ∈ r.ops, o.over.length ≤ 100000) (hg : Good r.ops) : PCalls Tryz.prog g 72 [.agg (repC r), vi note, vi f] (encVals (valuesL r.ops note f)) := by
 refine pcalls' Tryz.func72 Tryz.ntmps72 rfl rfl rfl ?_
 repeat' (first
  | ((with_reducible refine zg ?_); refine zk (jx qf0 qc0) rfl ?_)
  | refine stn [] ?_
  | fail)
 refine zi (α := Nat) 1 (fun k => [(1, vi note), (2, vi f), (7, .mp 0), (17, encOps r.ops), (18, vi r.ops.length), (19, vi k)]) (fun k => [.map (vks (valK note f r.ops k)) (vxs (valK note f r.ops k))]) (fun k => k ≤ r.ops.length) (fun k => r.ops.length - k) 0
  qw (Nat.zero_le _) ?_
 rintro k hk
 cases ht : r.ops[k]? with
 | some x =>
  have hlt : k < r.ops.length := (List.getElem?_eq_some_iff.1 ht).1
  have c1 : decide ((k : Int) < r.ops.length) = true := decide_eq_true (by omega)
  have h1 := Za ht
  have hW := Wq (g := g) x note f
  have hV := Value_spec (g := g) x f
  have hov := ho x (List.mem_of_getElem? ht)
  have hS := valK_succ (note := note) (f := f) ht
  rw [valStep] at hS
  have hnd : ANd (valK note f r.ops k) := Ww note f (r.ops.take k)
  generalize hM : valK note f r.ops k = M at hnd hS ⊢
  generalize hM' : valK note f r.ops (k + 1) = M' at hS
  have n1 : (!true) = false := rfl
  have n2 : (!false) = true := rfl
  cases hw : writes x note f with
  | false =>
   rw [hw] at hW
   rw [hw, if_neg (by simp)] at hS
   subst hS
   refine runn [] ?_
   exact ⟨k + 1, by rw [hM']; exact qw, by omega, by omega⟩
  | true =>
   rw [hw] at hW
   rw [hw, if_pos rfl] at hS
   refine runn [] ?_
   refine zi (α := Nat) 1 (fun j => [(1, vi note), (2, vi f), (7, .mp 0), (17, encOps r.ops), (18, vi r.ops.length), (19, vi k), (9, .fp (opC x)), (29, encStamps x.over), (30, vi x.over.length), (31, vi j)]) (fun j => [.map (vks (dels M (x.over.take j))) (vxs (dels M (x.over.take j)))]) (fun j => j ≤ x.over.length) (fun j => x.over.length - j) 0
    qw (Nat.zero_le _) ?_
   rintro j hj
   cases hs : x.over[j]? with
   | some s =>
    have hjl : j < x.over.length := (List.getElem?_eq_some_iff.1 hs).1
    have c2 : decide ((j : Int) < x.over.length) = true := decide_eq_true (by omega)
    have h2 := Ze hs
    have hnd2 := dels_nd (x.over.take j) M hnd
    have hD := dels_succ M hs
    have hdel : MDel (vks (dels M (x.over.take j))) (vxs (dels M (x.over.take j))) (stampV s) (vks (dels M (x.over.take (j + 1)))) (vxs (dels M (x.over.take (j + 1)))) := by
     rw [hD]; exact del_data (kv := stampV) (va := fun v : Val => AV.agg (valC v)) Zl (dels M (x.over.take j)) s
    repeat' (first
     | ((with_reducible refine zg ?_); refine awpL_ev2n (ev_delete (L' := [.map (vks (dels M (x.over.take (j + 1)))) (vxs (dels M (x.over.take (j + 1)))), .dead]) stampKey rfl rfl rfl (qt s) rfl rfl rfl (vks_ok _) (Zm _) hdel (vks_nd hnd2) rfl) ?_)
     | refine stn [] ?_
     | fail)
    exact ⟨j + 1, qw, by omega, by omega⟩
   | none =>
    have hjl : x.over.length ≤ j := by simpa using hs
    have c2 : decide ((j : Int) < x.over.length) = false := decide_eq_false (by omega)
    have hD : dels M (x.over.take j) = dels M x.over := by rw [List.take_of_length_le hjl]
    rw [hD]
    have hnd2 := dels_nd x.over M hnd
    have hput : MPut (vks (dels M x.over)) (vxs (dels M x.over)) (stampV x.at_) (.agg (valC (valueOf x f))) (vks M') (vxs M') := by
     rw [hS]; exact Qv (kv := stampV) (va := fun v : Val => AV.agg (valC v)) Zl (dels M x.over) x.at_ (valueOf x f)
    repeat' (first
     | ((with_reducible refine zg ?_); refine Zk (qP (L' := [.map (vks M') (vxs M')]) stampKey rfl rfl rfl (qt x.at_) rfl rfl rfl rfl (vks_ok _) (Zm _) hput (vks_nd hnd2) rfl) ?_)
     | ((with_reducible refine zJ ?_); refine zC 6 (by simp only [List.take_succ_cons, List.take_zero, List.take_nil]; rfl) (by simp only [List.drop_succ_cons, List.drop_zero, List.drop_nil]; rfl) (by kernel_rfl) rfl rfl rfl rfl (by repeat' (first | exact Strip.nil | apply Strip.keep rfl | apply Strip.drop rfl)) ?_)
     | refine st [] ?_
     | fail)
    exact ⟨k + 1, by rw [hM']; exact qw, by omega, by omega⟩
 | none =>
  have hge : r.ops.length ≤ k := by simpa using ht
  have c1 : decide ((k : Int) < r.ops.length) = false := decide_eq_false (by omega)
  have hke : valK note f r.ops k = valM note f r.ops := by unfold valK; rw [List.take_of_length_le hge]
  rw [hke]
  have hsort := fun d hp hs => values_sorted (l := r.ops) hg (note := note) (f := f) (d := d) hp hs
  have hnd := Ww note f r.ops
  have hMl := valM_len note f r.ops
  replace hMl : (valM note f r.ops).length ≤ 100000 := by omega
  generalize valM note f r.ops = M at hnd hsort hMl ⊢
  refine runn [] ?_
  refine awpL_bare (km := 0) rfl fun m ck bs hbn hbl hxl => ?_
  refine zk (ev_range_mapb rfl rfl rfl rfl rfl rfl) rfl ?_
  refine runn [] ?_
  refine ZC (t := 12) (E := 130) (sz := 4) rfl rfl rfl ?_
  have hvl : (M.map (·.2)).length = M.length := List.length_map ..
  have hbM : bs.length = M.length := by rw [hbl]; exact List.length_map ..
  refine zi (α := List Nat) 3 (fun ord => [(12, .os 2 0), (46, .lp 1 0)]) (fun ord => [.mapb m ck bs (vks M) (vxs M), .obj (.mapIter (some m) ck (seenOf bs ord).toArray ck), .own 0 130 4 ((come (M.map (·.2)) ord).map valC)]) (fun ord => Ord M.length ord) (fun ord => M.length - ord.length) []
   qw (Ord.nil _) ?_
  rintro ord hord
  have hol := hord.len
  have hML : M.length ≤ 100000 := hMl
  have hcl : (come (M.map (·.2)) ord).length = ord.length := List.length_map ..
  refine runn [] ?_
  refine awpL_nextM rfl rfl 0 rfl rfl rfl (fun i b x hb hbs hx => ?_) (fun hall => ?_)
  ·obtain ⟨p, hp, rfl⟩ : ∃ p, M[i]? = some p ∧ x = .agg (valC p.2) := by
    unfold vxs at hx
    rw [List.getElem?_map] at hx
    cases hq : M[i]? with
    | none => rw [hq] at hx; cases hx
    | some p => rw [hq] at hx; exact ⟨p, rfl, by simpa using hx.symm⟩
   have hil : i < M.length := (List.getElem?_eq_some_iff.1 hp).1
   have hin := seenOf_new hb hbs
   have hce := come_snoc (ord := ord) (show (M.map (·.2))[i]? = some p.2 by rw [List.getElem?_map, hp]; rfl)
   have hj : (come (M.map (·.2)) ord).map valC ++ [valC p.2] = (come (M.map (·.2)) (ord ++ [i])).map valC := by rw [hce]; simp
   refine runn [] ?_
   refine zb (ev_entry rfl rfl 0 rfl rfl hbn hb hx) rfl ?_
   rw [← seenOf_snoc hb]
   have hlen : ((come (M.map (·.2)) ord).map valC).length ≤ 100000 := by rw [List.length_map, hcl]; omega
   repeat' (first
    | ((with_reducible refine zg ?_); refine zk (zZ (es' := (come (M.map (·.2)) (ord ++ [i])).map valC) rfl rfl rfl rfl rfl rfl rfl rfl rfl rfl rfl rfl rfl qe0 hj rfl) rfl ?_)
    | refine stn [] ?_
    | fail)
   exact ⟨ord ++ [i], qw, hord.snoc hil hin, by have := (hord.snoc hil hin).len; rw [List.length_append, List.length_singleton] at this ⊢; omega⟩
  ·have hperm := come_perm (hvl.symm ▸ hord) fun i hi => seenOf_all hbn (fun j hj => by rw [hbM]; exact hord.lt j hj) hall i (by omega)
   refine runn [] ?_
   refine awpL_sort (enc := encVal) (d := come (M.map (·.2)) ord) (lt := Go.Proofs.ltOf cmpVal) rfl rfl (fun _ => rfl) (fun x v hv => by simp [encVal] at hv; rcases hv with rfl | rfl | rfl | rfl <;> rfl) (callable Tryz.func102 rfl rfl) (fun blk cap w hH hb => W8 _ blk cap w (by omega) hH hb) (fun _ w => sortVals_none w) rfl fun d' hp hs => ?_
   have hd := hsort d' (hp.trans hperm) (hs.imp fun h => by rw [ltVal] at h; exact h)
   subst hd
   refine runn [] ?_
   refine retP rfl ?_
   simp [ex]
   exact fun _ _ => rfl
end
section
open Go.Ac Go.MapKept
attribute [local irreducible] awp awpL Ev Ev2 EvS thenQ blockQ retQ PCalls OCalls YieldOk IterC
variable {g : List (Nat × List AV)}
def cellC (c : Cell) : List AV := vi c.rec_ :: (noteC c.note ++ [encVals c.text, encVals c.fro, encVals c.til])
abbrev zeroCellC : List AV := [vi 0, vi 0, vi 0, vi 0, vi 0, vi 0, vi 0, .v (.string .empty), nilS, nilS, nilS]
theorem js : LeA zeroCellC (cellC zeroCell) :=
 .cons (Le.rfl' _) (.cons (Le.rfl' _) (.cons (Le.rfl' _) (.cons (Le.rfl' _) (.cons (Le.rfl' _) (.cons (Le.rfl' _) (.cons (Le.rfl' _) (.cons (Le.rfl' _) (.cons (Le.nil 4) (.cons (Le.nil 4) (.cons (Le.nil 4) .nil))))))))))
def cellV (o : Option Cell) : AV := .tup [.agg (cellC (o.getD zeroCell)), vb o.isSome]
def puts (m : List (Stamp × Unit)) (l : List Stamp) : List (Stamp × Unit) := l.foldl (fun m s => aput m s ()) m
def dropStep (note : Int) (m : List (Stamp × Unit)) (d : Op) : List (Stamp × Unit) := if d.kind = 2 ∧ d.note.id = note then puts m d.over else m
def dropM (note : Int) (l : List Op) : List (Stamp × Unit) := l.foldl (dropStep note) []
theorem puts_get (l : List Stamp) : ∀ (m : List (Stamp × Unit)) (s : Stamp), (aget (puts m l) s).isSome = ((aget m s).isSome || l.any fun q => decide (q = s)) := by
 induction l with
 | nil => intro m s; simp [puts]
 | cons q r ih =>
  intro m s
  show (aget (puts (aput m q ()) r) s).isSome = _
  rw [ih, QD]
  by_cases h : q = s
  ·simp [h]
  ·simp [h]
theorem dropM_get (note : Int) (l : List Op) (f : Int) (s : Stamp) : (aget (dropM note l) s).isSome = overd l s 2 note f := by
 have : ∀ (l : List Op) (m : List (Stamp × Unit)), (aget (l.foldl (dropStep note) m) s).isSome = ((aget m s).isSome || overd l s 2 note f) := by
  intro l
  induction l with
  | nil => intro m; simp [overd]
  | cons d r ih =>
   intro m
   rw [List.foldl_cons, ih]
   unfold dropStep
   by_cases h : d.kind = 2 ∧ d.note.id = note
   ·rw [if_pos h, puts_get]
    simp [overd, overO, h.1, h.2, Bool.or_assoc]
   ·rw [if_neg h]
    have : overO 2 note f s d = false := by
     unfold overO
     by_cases h1 : d.kind = 2
     ·have h2 : ¬ d.note.id = note := fun e => h ⟨h1, e⟩
      simp [h2]
     ·simp [h1]
    simp [overd, this]
 simpa [dropM, aget] using this l []
theorem puts_nd (l : List Stamp) : ∀ (m : List (Stamp × Unit)), ANd m → ANd (puts m l) := by
 induction l with
 | nil => intro m h; exact h
 | cons q r ih => intro m h; exact ih _ (h.put _ _)
theorem dropM_nd (note : Int) (l : List Op) : ANd (dropM note l) := by
 unfold dropM
 have : ∀ (l : List Op) (m : List (Stamp × Unit)), ANd m → ANd (l.foldl (dropStep note) m) := by
  intro l
  induction l with
  | nil => intro m h; exact h
  | cons o r ih =>
   intro m h
   refine ih _ ?_
   unfold dropStep
   split
   ·exact puts_nd _ _ h
   ·exact h
 exact this l [] List.nodup_nil
def dks (m : List (Stamp × Unit)) : List Value := m.map fun p => stampV p.1
def dxs (m : List (Stamp × Unit)) : List AV := m.map fun _ => vb true
theorem dks_ok (m : List (Stamp × Unit)) : ∀ k ∈ dks m, isStampV k := by
 intro k hk
 obtain ⟨p, _, rfl⟩ := List.mem_map.1 hk
 exact Zm _
theorem dks_nd {m : List (Stamp × Unit)} (h : ANd m) : (dks m).Nodup := h.kv Zl
theorem d_look (m : List (Stamp × Unit)) (k : Stamp) : MLook (dks m) (dxs m) (stampV k) (vb false) (vb (aget m k).isSome) (aget m k).isSome := by
 have := qN (kv := stampV) (va := fun _ : Unit => vb true) Zl m k (vb false)
 cases h : aget m k with
 | none => rw [h] at this; exact this
 | some v => rw [h] at this; exact this
theorem d_put (m : List (Stamp × Unit)) (k : Stamp) : MPut (dks m) (dxs m) (stampV k) (vb true) (dks (aput m k ())) (dxs (aput m k ())) := Qv (kv := stampV) (va := fun _ : Unit => vb true) Zl m k ()
abbrev dropK (note : Int) (l : List Op) (k : Nat) : List (Stamp × Unit) := dropM note (l.take k)
theorem dropK_succ {note : Int} {l : List Op} {k : Nat} {x : Op} (h : l[k]? = some x) : dropK note l (k + 1) = dropStep note (dropK note l k) x := by
 unfold dropK dropM
 rw [List.take_add_one, h, List.foldl_append]; rfl
theorem puts_succ (m : List (Stamp × Unit)) {l : List Stamp} {k : Nat} {x : Stamp} (h : l[k]? = some x) : puts m (l.take (k + 1)) = aput (puts m (l.take k)) x () := by
 unfold puts
 rw [List.take_add_one, h, List.foldl_append]; rfl
theorem cell_some {l : List Op} {note : Int} {o : Op} (h : addedO l note = some o) {f : Int} (hf : f = 0 ∨ f = 1 ∨ f = 2) (hs : saved l note f = true) : cell l note = some (cellOf l note o) := by
 unfold cell
 rw [h]
 simp only
 rw [if_pos]
 rcases hf with rfl | rfl | rfl <;> simp [hs]
theorem cell_none {l : List Op} {note : Int} {o : Op} (h : addedO l note = some o) (hs : ∀ f : Nat, f < 3 → saved l note f = false) : cell l note = none := by
 unfold cell
 rw [h]
 simp only
 have h0 := hs 0 (by omega)
 have h1 := hs 1 (by omega)
 have h2 := hs 2 (by omega)
 rw [if_neg]
 have e0 : saved l note 0 = false := h0
 have e1 : saved l note 1 = false := h1
 have e2 : saved l note 2 = false := h2
 simp [e0, e1, e2]
theorem w8 {l : List Op} {note f : Int} (h : ∀ v ∈ valuesL l note f, overd l v.at_ 2 note f = true) : saved l note f = false := by
 unfold saved
 rw [List.any_eq_false]
 intro v hv
 simp [h v hv]
set_option maxRecDepth 8000 in
set_option maxHeartbeats 8000000 in
theorem Cell_spec (r : Replica) (note : Int) (hl : r.ops.length ≤ 100000) (ho : ∀ o ∈ r.ops, o.over.length ≤ 100000) (hg : Good r.ops) : PCalls Tryz.prog g 42 [.agg (repC r), vi note] (cellV (cell r.ops note)) := by
 have hA := Added_spec (g := g) r note (by omega)
 rw [addedV] at hA
 have hv0 := jd (g := g) r note 0 hl ho hg
 have hv1 := jd (g := g) r note 1 hl ho hg
 have hv2 := jd (g := g) r note 2 hl ho hg
 have n1 : (!true) = false := rfl
 have n2 : (!false) = true := rfl
 refine pcalls' Tryz.func42 Tryz.ntmps42 rfl rfl rfl ?_
 cases ha : addedO r.ops note with
 | none =>
  rw [ha] at hA
  simp only [Option.getD_none, Option.isSome_none] at hA
  refine runn [4] ?_
  refine retLe rfl ?_
  rw [show cell r.ops note = none by unfold cell; rw [ha]]
  exact Le.tup (.cons (Le.agg js) (.cons (Le.rfl' _) .nil))
 | some a =>
 rw [ha] at hA
 simp only [Option.getD_some, Option.isSome_some] at hA
 repeat' (first
  | ((with_reducible refine zg ?_); refine zk (jx qf0 qc0) rfl ?_)
  | refine stn [4] ?_
  | fail)
 refine zi (α := Nat) 3 (fun k => [(1, vi note), (2, .fp (repC r)), (4, .lp 0 0), (6, .fp (opC a)), (8, .mp 2), (29, encOps r.ops), (30, vi r.ops.length), (31, vi k)]) (fun k => [.box zeroCellC, .dead, .map (dks (dropK note r.ops k)) (dxs (dropK note r.ops k))]) (fun k => k ≤ r.ops.length) (fun k => r.ops.length - k) 0
  qw (Nat.zero_le _) ?_
 rintro k hk
 cases ht : r.ops[k]? with
 | some x =>
  have hlt : k < r.ops.length := (List.getElem?_eq_some_iff.1 ht).1
  have c1 : decide ((k : Int) < r.ops.length) = true := decide_eq_true (by omega)
  have h1 := Za ht
  have hov := ho x (List.mem_of_getElem? ht)
  have hS := dropK_succ (note := note) ht
  rw [dropStep] at hS
  have hnd : ANd (dropK note r.ops k) := dropM_nd note (r.ops.take k)
  generalize hM : dropK note r.ops k = M at hnd hS ⊢
  generalize hM' : dropK note r.ops (k + 1) = M' at hS
  by_cases hk2 : x.kind = 2
  ·have d1 : decide (x.kind = 2) = true := decide_eq_true hk2
   by_cases hid : x.note.id = note
   ·have d2 : decide (x.note.id = note) = true := decide_eq_true hid
    rw [if_pos ⟨hk2, hid⟩] at hS
    refine runn [4] ?_
    refine zi (α := Nat) 3 (fun j => [(1, vi note), (2, .fp (repC r)), (4, .lp 0 0), (6, .fp (opC a)), (8, .mp 2), (29, encOps r.ops), (30, vi r.ops.length), (31, vi k), (46, encStamps x.over), (47, vi x.over.length), (48, vi j)]) (fun j => [.box zeroCellC, .dead, .map (dks (puts M (x.over.take j))) (dxs (puts M (x.over.take j)))]) (fun j => j ≤ x.over.length) (fun j => x.over.length - j) 0
     qw (Nat.zero_le _) ?_
    rintro j hj
    cases hs : x.over[j]? with
    | some s =>
     have hjl : j < x.over.length := (List.getElem?_eq_some_iff.1 hs).1
     have c2 : decide ((j : Int) < x.over.length) = true := decide_eq_true (by omega)
     have h2 := Ze hs
     have hnd2 := puts_nd (x.over.take j) M hnd
     have hput := d_put (puts M (x.over.take j)) s
     rw [← puts_succ M hs] at hput
     repeat' (first
      | ((with_reducible refine zg ?_); refine Zk (qP (L' := [.box zeroCellC, .dead, .map (dks (puts M (x.over.take (j + 1)))) (dxs (puts M (x.over.take (j + 1)))), .dead]) stampKey rfl rfl rfl (qt s) rfl rfl rfl rfl (dks_ok _) (Zm _) hput (dks_nd hnd2) rfl) ?_)
      | refine stn [4] ?_
      | fail)
     exact ⟨j + 1, qw, by omega, by omega⟩
    | none =>
     have hjl : x.over.length ≤ j := by simpa using hs
     have c2 : decide ((j : Int) < x.over.length) = false := decide_eq_false (by omega)
     have hD : puts M (x.over.take j) = M' := by rw [List.take_of_length_le hjl, hS]
     rw [hD]
     refine runn [4] ?_
     exact ⟨k + 1, by rw [hM']; exact qw, by omega, by omega⟩
   ·have d2 : decide (x.note.id = note) = false := decide_eq_false hid
    rw [if_neg (fun h => hid h.2)] at hS
    subst hS
    refine runn [4] ?_
    exact ⟨k + 1, by rw [hM']; exact qw, by omega, by omega⟩
  ·have d1 : decide (x.kind = 2) = false := decide_eq_false hk2
   rw [if_neg (fun h => hk2 h.1)] at hS
   subst hS
   refine runn [4] ?_
   exact ⟨k + 1, by rw [hM']; exact qw, by omega, by omega⟩
 | none =>
 have hge : r.ops.length ≤ k := by simpa using ht
 have c1 : decide ((k : Int) < r.ops.length) = false := decide_eq_false (by omega)
 have hD : dropK note r.ops k = dropM note r.ops := by unfold dropK; rw [List.take_of_length_le hge]
 rw [hD]
 have hnd := dropM_nd note r.ops
 have hget : ∀ f s, (aget (dropM note r.ops) s).isSome = overd r.ops s 2 note f := fun f s => dropM_get note r.ops f s
 generalize dropM note r.ops = D at hnd hget ⊢
 have hlen : ∀ f, (valuesL r.ops note f).length ≤ 100000 := fun f => by
  unfold valuesL
  rw [List.length_map]
  exact Nat.le_trans (List.length_filter_le ..) hl
 have z4 : zeroOf Tryz.prog 4 = some (.bool false) := by kernel_rfl
 refine run [4] ?_
 refine zi (α := Nat) 4 (fun i => [(4, .lp 0 0), (8, .mp 2), (13, .lp 3 0), (76, .fs 1 3 [[encVals (valuesL r.ops note 0)], [encVals (valuesL r.ops note 1)], [encVals (valuesL r.ops note 2)]]), (77, vi 3), (78, vi i)]) (fun _ => [.box zeroCellC, .dead, .map (dks D) (dxs D), .box (cellC (cellOf r.ops note a))]) (fun i => i ≤ 3 ∧ ∀ f : Nat, f < i → saved r.ops note f = false) (fun i => 3 - i) 0
  qw ⟨by omega, fun f h => by omega⟩ ?_
 rintro i ⟨hi, hsv⟩
 by_cases hi3 : i < 3
 ·have c2 : decide ((i : Int) < 3) = true := decide_eq_true (by omega)
  have g1 : 0 ≤ (i : Int) ∧ [[encVals (valuesL r.ops note 0)], [encVals (valuesL r.ops note 1)], [encVals (valuesL r.ops note 2)]][(i : Int).toNat]? = some [encVals (valuesL r.ops note i)] := by
   rcases (show i = 0 ∨ i = 1 ∨ i = 2 by omega) with rfl | rfl | rfl <;> exact ⟨by omega, rfl⟩
  have hli := hlen i
  have hgi := hget (i : Int)
  have hsf := w8 (l := r.ops) (note := note) (f := (i : Int))
  have hss : ∀ v ∈ valuesL r.ops note i, overd r.ops v.at_ 2 note i = false → saved r.ops note i = true := fun v hv ho => by
   unfold saved; rw [List.any_eq_true]; exact ⟨v, hv, by rw [ho]; rfl⟩
  have hif : (i : Int) = 0 ∨ (i : Int) = 1 ∨ (i : Int) = 2 := by omega
  refine runn [4] ?_
  generalize valuesL r.ops note i = V at *
  refine zi (α := Nat) 4 (fun j => [(4, .lp 0 0), (8, .mp 2), (13, .lp 3 0), (76, .fs 1 3 [[encVals (valuesL r.ops note 0)], [encVals (valuesL r.ops note 1)], [encVals (valuesL r.ops note 2)]]), (77, vi 3), (78, vi i), (82, encVals V), (83, vi V.length), (84, vi j)]) (fun _ => [.box zeroCellC, .dead, .map (dks D) (dxs D), .box (cellC (cellOf r.ops note a))]) (fun j => j ≤ V.length ∧ ∀ v ∈ V.take j, overd r.ops v.at_ 2 note i = true) (fun j => V.length - j) 0
   qw ⟨Nat.zero_le _, fun v h => by simp at h⟩ ?_
  rintro j ⟨hj, hall⟩
  cases hs : V[j]? with
  | some v =>
   have hjl : j < V.length := (List.getElem?_eq_some_iff.1 hs).1
   have c3 : decide ((j : Int) < V.length) = true := decide_eq_true (by omega)
   have h2 := val_get hs
   have hlook := d_look D v.at_
   rw [hgi] at hlook
   cases hov : overd r.ops v.at_ 2 note i with
   | true =>
    rw [hov] at hlook
    repeat' (first
     | ((with_reducible refine zg ?_); refine zb (zB stampKey rfl rfl rfl (qt v.at_) rfl rfl z4 rfl (dks_ok _) (Zm _) hlook (dks_nd hnd) rfl) rfl ?_)
     | refine stn [4] ?_
     | fail)
    exact ⟨j + 1, qw, ⟨by omega, fun w hw => by
     rw [List.take_add_one, hs] at hw
     rcases List.mem_append.1 hw with g | g
     ·exact hall w g
     ·simp only [Option.toList_some, List.mem_singleton] at g; subst g; exact hov⟩, by omega⟩
   | false =>
    rw [hov] at hlook
    rw [cell_some ha hif (hss v (List.mem_of_getElem? hs) hov)]
    repeat' (first
     | ((with_reducible refine zg ?_); refine zb (zB stampKey rfl rfl rfl (qt v.at_) rfl rfl z4 rfl (dks_ok _) (Zm _) hlook (dks_nd hnd) rfl) rfl ?_)
     | refine stn [4] ?_
     | fail)
    exact retP rfl rfl
  | none =>
   have hjl : V.length ≤ j := by simpa using hs
   have c3 : decide ((j : Int) < V.length) = false := decide_eq_false (by omega)
   rw [List.take_of_length_le hjl] at hall
   have hsi := hsf hall
   refine runn [4] ?_
   exact ⟨i + 1, qw, ⟨by omega, fun f hf => by
    rcases Nat.lt_or_ge f i with h | h
    ·exact hsv f h
    ·have : f = i := by omega
     subst this; exact hsi⟩, by omega⟩
 ·have c2 : decide ((i : Int) < 3) = false := decide_eq_false (by omega)
  have hi4 : i = 3 := by omega
  subst hi4
  rw [cell_none ha hsv]
  refine runn [4] ?_
  exact retLe rfl (Le.tup (.cons (Le.agg js) (.cons (Le.rfl' _) .nil)))
end
section
open Go.Ac Go.MapKept
attribute [local irreducible] awp awpL Ev Ev2 EvS thenQ blockQ retQ PCalls OCalls YieldOk IterC
variable {g : List (Nat × List AV)}
abbrev encCells (l : List Cell) : AV := .fs 11 l.length (l.map cellC)
abbrev cellsK (l : List Op) (rc : Int) (k : Nat) : List Cell := (l.take k).foldl (cellsStep l rc) []
theorem jB {l : List Op} {rc : Int} {k : Nat} {x : Op} (h : l[k]? = some x) : cellsK l rc (k + 1) = cellsStep l rc (cellsK l rc k) x := by
 unfold cellsK
 rw [List.take_add_one, h, List.foldl_append]; rfl
theorem cellsStep_len (l : List Op) (rc : Int) (out : List Cell) (o : Op) : (cellsStep l rc out o).length ≤ out.length + 1 := by
 unfold cellsStep
 split
 ·split
  ·simp
  ·omega
 ·omega
theorem Jz (l : List Op) (rc : Int) : ∀ k, (cellsK l rc k).length ≤ k := by
 intro k
 induction k with
 | zero => simp [cellsK]
 | succ k ih =>
  cases ht : l[k]? with
  | none =>
   have hge : l.length ≤ k := by simpa using ht
   have : cellsK l rc (k + 1) = cellsK l rc k := by
    unfold cellsK
    rw [List.take_of_length_le hge, List.take_of_length_le (by omega)]
   rw [this]; omega
  | some x =>
   rw [jB ht]
   have := cellsStep_len l rc (cellsK l rc k) x
   omega
set_option maxRecDepth 8000 in
set_option maxHeartbeats 4000000 in
theorem JC (r : Replica) (rc : Int) (hl : r.ops.length ≤ 100000) (ho : ∀ o ∈ r.ops, o.over.length ≤ 100000) (hg : Good r.ops) : PCalls Tryz.prog g 15 [.agg (repC r), vi rc] (encCells (cells r.ops rc)) := by
 refine pcalls' Tryz.func15 Tryz.ntmps15 rfl rfl rfl ?_
 have n1 : (!true) = false := rfl
 have n2 : (!false) = true := rfl
 refine runn [] ?_
 refine ZC (t := 5) (E := 94) (sz := 11) rfl rfl rfl ?_
 refine zi (α := Nat) 1 (fun k => [(1, vi rc), (2, .fp (repC r)), (5, .os 0 0), (11, encOps r.ops), (12, vi r.ops.length), (13, vi k)]) (fun k => [.own 0 94 11 ((cellsK r.ops rc k).map cellC)]) (fun k => k ≤ r.ops.length) (fun k => r.ops.length - k) 0
  qw (Nat.zero_le _) ?_
 rintro k hk
 have hcl := Jz r.ops rc k
 cases ht : r.ops[k]? with
 | none =>
  have hge : r.ops.length ≤ k := by simpa using ht
  have c1 : decide ((k : Int) < r.ops.length) = false := decide_eq_false (by omega)
  have hD : cellsK r.ops rc k = cells r.ops rc := by unfold cellsK cells; rw [List.take_of_length_le hge]
  rw [hD]
  refine runn [] ?_
  refine retP rfl ?_
  simp [ex]
 | some x =>
  have hlt : k < r.ops.length := (List.getElem?_eq_some_iff.1 ht).1
  have c1 : decide ((k : Int) < r.ops.length) = true := decide_eq_true (by omega)
  have h1 := Za ht
  have hC := Cell_spec (g := g) r x.note.id hl ho hg
  rw [cellV] at hC
  have hS := jB (rc := rc) ht
  rw [cellsStep] at hS
  generalize hM : cellsK r.ops rc k = M at hS hcl ⊢
  generalize hM' : cellsK r.ops rc (k + 1) = M' at hS
  have hmb : (M.map cellC).length ≤ 100000 := by rw [List.length_map]; omega
  by_cases hk0 : x.kind = 0
  ·have d1 : (!decide (x.kind = 0)) = false := by simp [hk0]
   by_cases hr : x.rec_ = rc
   ·have d2 : (!decide (x.rec_ = rc)) = false := by simp [hr]
    rw [if_pos ⟨hk0, hr⟩] at hS
    cases hc : cell r.ops x.note.id with
    | none =>
     rw [hc] at hC hS
     simp only [Option.getD_none, Option.isSome_none] at hC
     simp only at hS
     subst hS
     refine runn [] ?_
     exact ⟨k + 1, by rw [hM']; exact qw, by omega, by omega⟩
    | some c =>
     rw [hc] at hC hS
     simp only [Option.getD_some, Option.isSome_some] at hC
     simp only at hS
     have hj : M.map cellC ++ [cellC c] = M'.map cellC := by rw [hS]; simp
     repeat' (first
      | ((with_reducible refine zg ?_); refine zk (zZ (es' := M'.map cellC) rfl rfl rfl rfl rfl rfl rfl rfl rfl rfl rfl rfl rfl qe0 hj rfl) rfl ?_)
      | refine stn [] ?_
      | fail)
     exact ⟨k + 1, by rw [hM']; exact qw, by omega, by omega⟩
   ·have d2 : (!decide (x.rec_ = rc)) = true := by simp [hr]
    rw [if_neg (fun h => hr h.2)] at hS
    subst hS
    refine runn [] ?_
    exact ⟨k + 1, by rw [hM']; exact qw, by omega, by omega⟩
  ·have d1 : (!decide (x.kind = 0)) = true := by simp [hk0]
   rw [if_neg (fun h => hk0 h.1)] at hS
   subst hS
   refine runn [] ?_
   exact ⟨k + 1, by rw [hM']; exact qw, by omega, by omega⟩
end
end Go.Proofs.YtcfkokllinkigaaGreatDoor
