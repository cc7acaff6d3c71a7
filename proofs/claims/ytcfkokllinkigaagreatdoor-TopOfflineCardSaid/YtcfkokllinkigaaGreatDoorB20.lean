/- A logic of trees over the model's steps, and the contracts of the functions that the laws reach: part 20 of 29. -/
import Derived.Test.YtcfkokllinkigaaGreatDoorB19
set_option linter.unusedVariables false
set_option linter.unusedSimpArgs false
set_option linter.unusedSectionVars false
set_option linter.unnecessarySimpa false
namespace Go.Proofs.YtcfkokllinkigaaGreatDoor
section
open Go.Ac Go.MapKept
attribute [local irreducible] awp awpL Ev Ev2 EvS thenQ blockQ retQ PCalls OCalls ICalls YieldOk IterC
theorem Inc.take_front {l : List Op} (h : Inc l) (K : Nat) {o p : Op} (ho : o ∈ l.take K) (hp : p ∈ l) (hl : less p.at_ o.at_ = true) : p ∈ l.take K := by
 have e : l.take K ++ l.drop K = l := List.take_append_drop K l
 rw [← e] at hp
 rcases List.mem_append.1 hp with q | q
 ·exact q
 ·exfalso
  have hi : Inc (l.take K ++ l.drop K) := by rw [e]; exact h
  have := (List.pairwise_append.1 hi).2.2 o ho p q
  rw [zW hl] at this; cases this
theorem take_all {l : List Op} (h : allE [] l = 0) (hi : Inc l) (K : Nat) : allE [] (l.take K) = 0 :=
 allE_of (hi.sub (List.take_sublist K l)) fun o ho => ⟨l, h, List.mem_of_mem_take ho, fun p hp hl => hi.take_front K ho hp hl⟩
def cutR (r : Replica) (K : Nat) : Replica := ⟨r.dev, seenL (r.ops.take K), r.ops.take K⟩
theorem cutR_rep {r : Replica} (h : repE r = 0) (K : Nat) : repE (cutR r K) = 0 := by
 obtain ⟨h1, h2, h3, h4, h5⟩ := Zy h
 have h6 := take_all h1 (Zo h) K
 unfold repE cutR
 rw [if_neg (by simp [within]; omega), if_neg (by simp only [List.length_take]; omega), if_neg (by simp only [h6]; simp), if_neg (by simp)]
theorem cut_merge {r : Replica} (h : repE r = 0) (K : Nat) : merge (bareR r.dev) (r.ops.take K) = (cutR r K, 0) := by
 have hi := (Zo h).sub (List.take_sublist K r.ops)
 have hu : unite (bareR r.dev).ops (r.ops.take K) = some (r.ops.take K) :=
  U.uniq (QJ _ [] .nil) (U.congr (fun o => by simp) (U.self hi))
 exact jn hu (cutR_rep h K)
def cutN (r : Replica) (c : Nat) : Nat := c % ((jour r.ops).length + 1)
def cutK (r : Replica) (c : Nat) : Nat := wholeK r.ops (cutN r c)
set_option maxRecDepth 8000 in
set_option maxHeartbeats 4000000 in
theorem restored_spec (r : Replica) (c : Nat) (hc : c < 65536) (hr : repE r = 0) (hl : r.ops.length ≤ 100) (hid : Ids r.ops) : PCalls Tryz.prog GL 7 [.agg (repC r), .v (.int .u16 c)] (.tup [.agg (repC (cutR r (cutK r c))), vb true]) := by
 have ho := JJ hr
 have hW := Yl wT r.ops hl ho hid
 have hjl := jt ho
 obtain ⟨x, m, e1, e2, e3⟩ := cut_split r.ops (cutN r c) ho
 have hcn : cutN r c ≤ (jour r.ops).length := by unfold cutN; exact Nat.le_of_lt_succ (Nat.mod_lt _ (Nat.succ_pos _))
 have hdev : within r.dev 1 15 = true := by have := Zy hr; simp [within]; omega
 have hfit := Zv hr
 have hF : FitM [] (r.ops.take (cutK r c)) := WL ⟨by simp, fun o h => by cases h⟩ (hfit.1.take _) (by rw [List.length_take]; simp; omega) (fun o h => by cases h) fun o h => hid o (List.mem_of_mem_take h)
 have hR := wh r.dev hdev (r.ops.take (cutK r c)) hF (by rw [List.length_take]; omega) (fun o h => ho o (List.mem_of_mem_take h)) (fun o h => hid o (List.mem_of_mem_take h)) e1 e2 e3
 rw [cut_merge hr, mergeV] at hR
 have w1 : IntKind.i64.wrap (c : Int) = (c : Int) := Z9 (by omega) (by omega)
 have hq : (c : Int).tmod (((jour r.ops).length : Int) + 1) = (cutN r c : Int) := by
  rw [Int.tmod_eq_emod_of_nonneg (by omega)]; simp [cutN]
 have hpos : (0 : Int) < ((jour r.ops).length : Int) + 1 := by omega
 have b1 : True → (0 : Int) ≤ 0 ∧ (0 : Int) ≤ (cutN r c : Int) ∧ (cutN r c : Int) ≤ ((jour r.ops).length : Nat) := fun _ => by omega
 have m1 : ((cutN r c : Int) - 0).toNat = ((jour r.ops).take (cutN r c)).length := by rw [List.length_take]; omega
 have f1 : (((jour r.ops).map byC).drop (0 : Int).toNat).take ((jour r.ops).take (cutN r c)).length = ((jour r.ops).take (cutN r c)).map byC := by
  rw [show (0 : Int).toNat = 0 from rfl, List.drop_zero, List.length_take, Nat.min_eq_left hcn, List.map_take]
 have z0 : (!decide ((0 : Int) = 0)) = false := rfl
 have z00 : decide ((0 : Int) = 0) = true := rfl
 generalize (jour r.ops).take (cutN r c) = pb at *
 generalize cutN r c = n at *
 generalize cutR r (cutK r c) = y at *
 unfold encBy at *
 refine pcalls' Tryz.func7 Tryz.ntmps7 rfl rfl rfl ?_
 repeat' (first
  | ((with_reducible refine zu ?_); (first | refine zc (zh (fun _ => zj rfl rfl rfl rfl w1) rfl rfl) qb0 ?_ | refine zc (zh (fun _ => zw rfl rfl rfl rfl rfl rfl rfl (b1 trivial) m1 f1) rfl rfl) qb0 ?_ | refine zc (zh (fun _ => Zz rfl rfl hpos hq) rfl rfl) qb0 ?_))
  | ((with_reducible refine zp ?_); (first | refine zd rfl rfl qa0 (zh (fun _ => zj rfl rfl rfl rfl w1) rfl rfl) qb0 ?_ | refine zd rfl rfl qa0 (zh (fun _ => zw rfl rfl rfl rfl rfl rfl rfl (b1 trivial) m1 f1) rfl rfl) qb0 ?_ | refine zd rfl rfl qa0 (zh (fun _ => Zz rfl rfl hpos hq) rfl rfl) qb0 ?_))
  | refine st [4, 8] ?_
  | fail)
 refine retP rfl ?_
 simp [ex, exL, repC]
end
section
theorem jM {s : Span} : spanRight s = true ↔ 0 ≤ s.fro ∧ s.fro < s.til ∧ s.til ≤ 86400000 := by
 simp [spanRight, and_assoc]
def leftS (x b : Span) : Span := ⟨x.fro, min x.til b.fro⟩
def rightS (x b : Span) : Span := ⟨max x.fro b.til, x.til⟩
def cutS (b x : Span) : List Span := (if spanRight (leftS x b) then [leftS x b] else []) ++ (if spanRight (rightS x b) then [rightS x b] else [])
def withoutL (out : List Span) (b : Span) : List Span := out.flatMap (cutS b)
def minusStep (out : List Span) (b : Span) : List Span := if spanRight b then withoutL out b else out
def minusL (s : Span) (l : List Span) : List Span := l.foldl minusStep [s]
def covB (l : List Span) (s : Span) : Bool := spanRight s && (minusL s l).isEmpty
end
section
structure Tier where
 name : ByteArray
 kind : Int
 role : Int
 parent : Int
 deriving Inhabited, DecidableEq
structure Recording where
 id : Int
 name : ByteArray
 length : Int
 day : Int
 speakers : List Int
 deriving Inhabited, DecidableEq
structure Doc where
 rec_ : Recording
 tiers : List Tier
 notes : List Note
 deriving Inhabited, DecidableEq
def timed (k : Int) : Bool := decide (k = 0) || (decide (k = 1) || decide (k = 2))
def tierAt (l : List Tier) (i : Int) : Option Tier := if 0 ≤ i then l[i.toNat]? else none
def alignedT (l : List Tier) (i : Int) : Bool := match tierAt l i with
 | some t => timed t.kind
 | none => false
def getN (l : List Note) (id : Int) : Option Note := l.find? fun n => decide (n.id = id)
theorem JV {l : List Note} {id : Int} {n : Note} (h : getN l id = some n) : n.id = id ∧ n ∈ l := by
 unfold getN at h
 exact ⟨by simpa using List.find?_some h, List.mem_of_find?_eq_some h⟩
theorem find_dropN {α : Type} {l : List α} {f : α → Bool} {k : Nat} {x : α} (h : l[k]? = some x) : (l.drop k).find? f = if f x then some x else (l.drop (k + 1)).find? f := by
 obtain ⟨h1, h2⟩ := List.getElem?_eq_some_iff.1 h
 rw [List.drop_eq_getElem_cons h1, h2, List.find?_cons]
 cases f x <;> rfl
end
section
def findTF (name : ByteArray) : Nat → List Tier → Int
 | _, [] => -1
 | i, t :: r => if t.name = name then i else findTF name (i + 1) r
def findT (l : List Tier) (name : ByteArray) : Int := findTF name 0 l
def roleTF (role : Int) : Nat → List Tier → Int
 | _, [] => -1
 | i, t :: r => if role ≠ 0 ∧ t.role = role then i else roleTF role (i + 1) r
def roleT (l : List Tier) (role : Int) : Int := roleTF role 0 l
theorem findTF_drop (name : ByteArray) (l : List Tier) (k : Nat) (t : Tier) (h : l[k]? = some t) : findTF name k (l.drop k) = if t.name = name then (k : Int) else findTF name (k + 1) (l.drop (k + 1)) := by
 obtain ⟨hlt, rfl⟩ := List.getElem?_eq_some_iff.1 h
 rw [List.drop_eq_getElem_cons hlt]; rfl
theorem roleTF_drop (role : Int) (l : List Tier) (k : Nat) (t : Tier) (h : l[k]? = some t) : roleTF role k (l.drop k) = if role ≠ 0 ∧ t.role = role then (k : Int) else roleTF role (k + 1) (l.drop (k + 1)) := by
 obtain ⟨hlt, rfl⟩ := List.getElem?_eq_some_iff.1 h
 rw [List.drop_eq_getElem_cons hlt]; rfl
def smallB (b : Nat) : Bool := decide (97 ≤ b) && decide (b ≤ 122)
def letterB (b : Nat) : Bool := smallB b || decide (48 ≤ b) && decide (b ≤ 57) || decide (b = 45) || decide (b = 95)
def nameOk (s : ByteArray) : Bool := decide (1 ≤ s.size) && decide (s.size ≤ 32) && (match s.data.toList with | [] => false | b :: _ => smallB b.toNat) && s.data.toList.all fun b => letterB b.toNat
def rolesE (above : Int) (t : Tier) : Int :=
 let kind := if t.role = 1 then 0 else if t.role = 3 then 3 else if t.role = 4 then 4 else if t.role = 5 then 4 else t.kind
 let need := if t.role = 2 then 1 else if t.role = 3 then 2 else if t.role = 4 then 3 else if t.role = 5 then 1 else above
 if t.kind ≠ kind then 14 else if above ≠ need then 13 else 0
def tierOne (before : List Tier) (t : Tier) : Int :=
 if nameOk t.name = false then 7
 else if 0 ≤ findT before t.name then 8
 else if t.kind < 0 ∨ 4 < t.kind then 14
 else if t.role < 0 ∨ 5 < t.role then 2
 else if 0 ≤ roleT before t.role then 8
 else if t.kind = 0 then (if t.parent ≠ -1 then 13 else rolesE (-1) t)
 else if t.parent < 0 ∨ before.length ≤ t.parent then 13
 else match before[t.parent.toNat]? with
  | none => 13
  | some p => if timed t.kind = true ∧ timed p.kind = false then 13 else rolesE p.role t
def tiersEF (l : List Tier) : Nat → Nat → Int
 | 0, _ => 0
 | n + 1, i => match l[i]? with
  | none => 0
  | some t => if tierOne (l.take i) t ≠ 0 then tierOne (l.take i) t else tiersEF l n (i + 1)
def tiersE (l : List Tier) : Int := if 12 < l.length then 11 else tiersEF l l.length 0
theorem tiersEF_step {l : List Tier} {n i : Nat} {t : Tier} (h : l[i]? = some t) : tiersEF l (n + 1) i = if tierOne (l.take i) t ≠ 0 then tierOne (l.take i) t else tiersEF l n (i + 1) := by
 simp only [tiersEF, h]
theorem tiersE_len {l : List Tier} (h : tiersE l = 0) : l.length ≤ 12 := by
 unfold tiersE at h
 split at h
 ·cases h
 ·omega
def noNote : Note := ⟨0, 0, 0, ⟨0, 0⟩, 0, .empty⟩
def placedE (d : Doc) (t : Tier) (n : Note) : Int :=
 if (t.kind = 0 ∧ n.parent ≠ 0) ∨ (t.kind ≠ 0 ∧ ((getN d.notes n.parent).isSome = false ∨ ((getN d.notes n.parent).getD noNote).tier ≠ t.parent)) then 13
 else if (timed t.kind = false ∧ n.span ≠ ⟨0, 0⟩) ∨ (timed t.kind = true ∧ spanRight n.span = false) then 12
 else if t.kind = 0 ∧ d.rec_.length < n.span.til then 12
 else if (timed t.kind = true ∧ t.kind ≠ 0) ∧ (n.span.fro < ((getN d.notes n.parent).getD noNote).span.fro ∨ ((getN d.notes n.parent).getD noNote).span.til < n.span.til) then 12
 else if n.rank < 0 ∨ (n.rank ≠ 0 ∧ t.kind ≠ 3) then 1
 else 0
def lateB (p : Option Note) (n : Note) : Bool := match p with | some q => decide (n.id ≤ q.id) | none => false
def noteE (d : Doc) (p : Option Note) (n : Note) : Int :=
 if n.id < 1 ∨ 1099511627776 < n.id then 2
 else if lateB p n = true then 10
 else match tierAt d.tiers n.tier with
  | none => 2
  | some t => if textE n.text ≠ 0 then textE n.text else placedE d t n
def sibs (d : Doc) (tier parent : Int) : List Note := d.notes.filter fun n => decide (n.tier = tier) && decide (n.parent = parent)
def meet (a b : Span) : Bool := decide (a.fro < b.til) && decide (b.fro < a.til)
def overlapL : List Span → Bool
 | l => (List.range l.length).any fun i => (List.range i).any fun k => meet (l.getD i ⟨0, 0⟩) (l.getD k ⟨0, 0⟩)
def rankedL (l : List Int) : Bool := (List.range l.length).all fun n => l.any fun r => decide (r = (n : Int))
def tierStep (d : Doc) (kind : Int) (out : Int) (n : Note) : Int :=
 let l := sibs d n.tier n.parent
 let a := if kind = 1 ∧ covB (l.map (·.span)) ((getN d.notes n.parent).getD noNote).span = false then 16 else out
 let b := if kind = 3 ∧ rankedL (l.map (·.rank)) = false then 10 else a
 if kind = 4 ∧ 1 < l.length then 8 else b
def tierE1 (d : Doc) (kind tier : Int) : Int → List Note → Int
 | out, [] => out
 | out, n :: r => if n.tier ≠ tier then tierE1 d kind tier out r
  else if timed kind = true ∧ overlapL ((sibs d n.tier n.parent).map (·.span)) = true then 15
  else tierE1 d kind tier (tierStep d kind out n) r
def tierE (d : Doc) (tier : Int) : Int := match tierAt d.tiers tier with
 | none => 0
 | some t => tierE1 d t.kind tier 0 d.notes
def notesE (d : Doc) : Option Note → List Note → Int
 | _, [] => 0
 | p, n :: r => if noteE d p n ≠ 0 then noteE d p n else notesE d (some n) r
def eachE (d : Doc) : Nat → Nat → Int
 | 0, _ => 0
 | m + 1, i => if tierE d (i : Int) ≠ 0 then tierE d (i : Int) else eachE d m (i + 1)
def docE (d : Doc) : Int :=
 if tiersE d.tiers ≠ 0 then tiersE d.tiers
 else if d.rec_.length < 0 ∨ 86400000 < d.rec_.length then 12
 else if 300 < d.notes.length then 11
 else if notesE d none d.notes ≠ 0 then notesE d none d.notes
 else eachE d d.tiers.length 0
theorem tierAt_some {l : List Tier} {i : Int} {t : Tier} (h : tierAt l i = some t) : 0 ≤ i ∧ l[i.toNat]? = some t := by
 unfold tierAt at h
 split at h
 ·rename_i h0; exact ⟨h0, h⟩
 ·cases h
end
section
def tierOf (l : List Tier) (n : Note) : Tier := (tierAt l n.tier).getD default
def kindsE (l : List Tier) (n : Note) : Int := if (tierOf l n).kind = 1 ∨ (tierOf l n).role = 3 ∨ (tierOf l n).role = 4 then 14 else 0
def roomE (N : List Note) : Int := if 300 ≤ N.length then 11 else 0
def parentsE (l : List Tier) (N : List Note) (n : Note) : Int :=
 if (tierOf l n).kind = 0 then (if n.parent ≠ 0 then 13 else 0)
 else match getN N n.parent with
  | none => 13
  | some p => if p.tier ≠ (tierOf l n).parent then 13 else 0
def aroundS (len : Int) (l : List Tier) (N : List Note) (n : Note) : Span := if (tierOf l n).kind ≠ 0 then ((getN N n.parent).getD noNote).span else ⟨0, len⟩
def timesE (len : Int) (l : List Tier) (N : List Note) (n : Note) : Int :=
 if alignedT l n.tier = false then 0
 else if spanRight n.span = false ∨ n.span.fro < (aroundS len l N n).fro ∨ (aroundS len l N n).til < n.span.til then 12 else 0
def sameP (x n : Note) : Bool := decide (x.tier = n.tier) && decide (x.parent = n.parent)
def overlapsE (l : List Tier) (N : List Note) (n : Note) : Int :=
 if alignedT l n.tier = false then 0
 else if N.any (fun x => sameP x n && (decide (x.span.fro < n.span.til) && decide (n.span.fro < x.span.til))) then 15 else 0
def labelsE (l : List Tier) (N : List Note) (n : Note) : Int :=
 if (tierOf l n).kind ≠ 4 then 0 else if N.any (fun x => sameP x n) then 8 else 0
def whyE (len : Int) (l : List Tier) (N : List Note) (n : Note) : Int :=
 firstE [kindsE l n, roomE N, parentsE l N n, textE n.text, timesE len l N n, overlapsE l N n, labelsE l N n]
def putN (l : List Tier) (n : Note) : Note := { n with span := if alignedT l n.tier then n.span else ⟨0, 0⟩, rank := if (tierOf l n).kind = 3 then n.rank else 0 }
structure Placed where
 notes : List Note
 loose : List (Note × Int)
def stepP (len : Int) (l : List Tier) (p : Placed) (n : Note) : Placed :=
 if whyE len l p.notes n ≠ 0 then ⟨p.notes, p.loose ++ [(n, whyE len l p.notes n)]⟩ else ⟨p.notes ++ [putN l n], p.loose⟩
def tierP (len : Int) (l : List Tier) (ns : List Note) (p : Placed) (t : Nat) : Placed := (ns.filter fun n => decide (n.tier = (t : Int))).foldl (stepP len l) p
def inR (l : List Tier) (n : Note) : Bool := decide (0 ≤ n.tier) && decide (n.tier < l.length)
def placeAll (len : Int) (l : List Tier) (ns : List Note) : Placed :=
 (List.range l.length).foldl (tierP len l (ns.filter (inR l))) ⟨[], (ns.filter fun n => !inR l n).map fun n => (n, 2)⟩
def rankN (l : List Tier) (N : List Note) (n : Note) : Note :=
 if (tierOf l n).kind = 3 then { n with rank := (N.countP fun x => sameP x n && (decide (x.rank < n.rank) || (decide (x.rank = n.rank) && decide (x.id < n.id))) : Nat) } else n
def insN (n : Note) : List Note → List Note
 | [] => [n]
 | x :: r => if n.id < x.id then n :: x :: r else x :: insN n r
def sortN (l : List Note) : List Note := l.foldl (fun s n => insN n s) []
end
section
def repDoc (r : Recording) (l : List Tier) (cs : List Cell) : Doc := ⟨r, l, sortN ((placeAll r.length l (cs.map current)).notes.map (rankN l (placeAll r.length l (cs.map current)).notes))⟩
def repLoose (r : Recording) (l : List Tier) (cs : List Cell) : List (Note × Int) := (placeAll r.length l (cs.map current)).loose
end
section
open Go.Ac
attribute [local irreducible] awp awpL Ev Ev2 EvS thenQ blockQ retQ PCalls OCalls
variable {g : List (Nat × List AV)}
def tierC (t : Tier) : List AV := [.v (.string t.name), .v (.int .i64 t.kind), .v (.int .i64 t.role), .v (.int .i64 t.parent)]
abbrev encTiers (l : List Tier) : AV := .fs 4 l.length (l.map tierC)
abbrev encNotes (l : List Note) : AV := .fs 7 l.length (l.map noteC)
def docC (d : Doc) : List AV := [.v (.int .i64 d.rec_.id), .v (.string d.rec_.name), .v (.int .i64 d.rec_.length), .v (.int .i64 d.rec_.day), encIs d.rec_.speakers, encTiers d.tiers, encNotes d.notes]
theorem ZR {l : List Note} {k : Nat} {x : Note} (h : l[k]? = some x) : 0 ≤ (k : Int) ∧ (l.map noteC)[(k : Int).toNat]? = some (noteC x) := ⟨by omega, by simp [h]⟩
theorem W2 {l : List Tier} {i : Int} {x : Tier} (h : tierAt l i = some x) : 0 ≤ i ∧ i < l.length ∧ (0 ≤ i ∧ (l.map tierC)[i.toNat]? = some (tierC x)) := by
 unfold tierAt at h
 split at h
 ·rename_i h0
  have := (List.getElem?_eq_some_iff.1 h).1
  exact ⟨h0, by omega, h0, by rw [List.getElem?_map, h]; rfl⟩
 ·cases h
theorem tier_none {l : List Tier} {i : Int} (h : tierAt l i = none) : i < 0 ∨ 0 ≤ i ∧ (l.length : Int) ≤ i := by
 unfold tierAt at h
 split at h
 ·rename_i h0
  have := List.getElem?_eq_none_iff.1 h
  exact .inr ⟨h0, by omega⟩
 ·exact .inl (by omega)
def zeroNote : Note := ⟨0, 0, 0, ⟨0, 0⟩, 0, .empty⟩
abbrev getV (o : Option Note) : AV := .tup [.agg (noteC (o.getD zeroNote)), vb o.isSome]
set_option maxHeartbeats 1000000 in
theorem wt (d : Doc) (n : Int) (hl : d.notes.length ≤ 1000000) : PCalls Tryz.prog g 46 [.agg (docC d), vi n] (getV (getN d.notes n)) := by
 refine pcalls' Tryz.func46 Tryz.ntmps46 rfl rfl rfl ?_
 refine runn [4] ?_
 refine zi (α := Nat) 1 (fun k => [(1, vi n), (2, .fp (docC d)), (4, .lp 0 0), (6, vi k)]) (fun k => [.box (noteC zeroNote)]) (fun k => k ≤ d.notes.length ∧ getN d.notes n = (d.notes.drop k).find? fun o => decide (o.id = n)) (fun k => d.notes.length - k) 0
  qw ⟨Nat.zero_le _, rfl⟩ ?_
 rintro k ⟨hk, hf⟩
 cases ht : d.notes[k]? with
 | none =>
  have hge : d.notes.length ≤ k := by simpa using ht
  have c1 : decide ((k : Int) < d.notes.length) = false := decide_eq_false (by omega)
  rw [List.drop_of_length_le hge] at hf
  rw [hf]
  refine runn [4] ?_
  refine retP rfl ?_
  rfl
 | some x =>
  have hlt : k < d.notes.length := (List.getElem?_eq_some_iff.1 ht).1
  have c1 : decide ((k : Int) < d.notes.length) = true := decide_eq_true (by omega)
  have h1 := ZR ht
  rw [find_dropN ht] at hf
  by_cases hid : x.id = n
  ·have d2 : decide (x.id = n) = true := decide_eq_true hid
   rw [d2] at hf
   rw [hf]
   refine runn [4] ?_
   refine retP rfl ?_
   rfl
  ·have d2 : decide (x.id = n) = false := decide_eq_false hid
   rw [d2] at hf
   refine runn [4] ?_
   exact ⟨k + 1, qw, ⟨by omega, hf⟩, by omega⟩
set_option maxHeartbeats 1000000 in
theorem al_spec (k : Int) : PCalls Tryz.prog g 100 [vi k] (vb (timed k)) := by
 refine pcalls' Tryz.func100 Tryz.ntmps100 rfl rfl rfl ?_
 unfold timed
 by_cases h0 : k = 0
 ·have d0 : decide (k = 0) = true := decide_eq_true h0
  rw [d0]
  refine runn [] ?_
  exact retP rfl rfl
 have d0 : decide (k = 0) = false := decide_eq_false h0
 by_cases h1 : k = 1
 ·have d1 : decide (k = 1) = true := decide_eq_true h1
  rw [d0, d1]
  refine runn [] ?_
  exact retP rfl rfl
 have d1 : decide (k = 1) = false := decide_eq_false h1
 by_cases h2 : k = 2
 ·have d2 : decide (k = 2) = true := decide_eq_true h2
  rw [d0, d1, d2]
  refine runn [] ?_
  refine retP rfl ?_
  simp [ex, d2]
 have d2 : decide (k = 2) = false := decide_eq_false h2
 rw [d0, d1, d2]
 refine runn [] ?_
 refine retP rfl ?_
 simp [ex, d2]
set_option maxHeartbeats 1000000 in
theorem qu (k : Int) : PCalls Tryz.prog g 50 [vi k] (vb (timed k)) := by
 refine pcalls' Tryz.func50 Tryz.ntmps50 rfl rfl rfl ?_
 unfold timed
 by_cases h0 : k = 0
 ·have d0 : decide (k = 0) = true := decide_eq_true h0
  rw [d0]
  refine runn [] ?_
  exact retP rfl rfl
 have d0 : decide (k = 0) = false := decide_eq_false h0
 by_cases h1 : k = 1
 ·have d1 : decide (k = 1) = true := decide_eq_true h1
  rw [d0, d1]
  refine runn [] ?_
  exact retP rfl rfl
 have d1 : decide (k = 1) = false := decide_eq_false h1
 by_cases h2 : k = 2
 ·have d2 : decide (k = 2) = true := decide_eq_true h2
  rw [d0, d1, d2]
  refine runn [] ?_
  refine retP rfl ?_
  simp [ex, d2]
 have d2 : decide (k = 2) = false := decide_eq_false h2
 rw [d0, d1, d2]
 refine runn [] ?_
 refine retP rfl ?_
 simp [ex, d2]
set_option maxHeartbeats 1000000 in
theorem Q8 (l : List Tier) (i : Int) (hl : l.length ≤ 1000000) : PCalls Tryz.prog g 70 [encTiers l, vi i] (vb (alignedT l i)) := by
 refine pcalls' Tryz.func70 Tryz.ntmps70 rfl rfl rfl ?_
 unfold alignedT
 cases ht : tierAt l i with
 | some t =>
  obtain ⟨h0, h1, h2⟩ := W2 ht
  have d0 : decide (0 ≤ i) = true := decide_eq_true h0
  have d1 : decide (i < l.length) = true := decide_eq_true h1
  have hT := al_spec (g := g) t.kind
  refine runn [] ?_
  exact retP rfl rfl
 | none =>
  rcases tier_none ht with h | ⟨h, h'⟩
  ·have d0 : decide (0 ≤ i) = false := decide_eq_false (by omega)
   refine runn [] ?_
   exact retP rfl rfl
  ·have d0 : decide (0 ≤ i) = true := decide_eq_true h
   have d1 : decide (i < l.length) = false := decide_eq_false (by omega)
   refine runn [] ?_
   exact retP rfl rfl
end
end Go.Proofs.YtcfkokllinkigaaGreatDoor
