/- A logic of trees over the model's steps, and the contracts of the functions that the laws reach: part 10 of 29. -/
import Derived.Test.YtcfkokllinkigaaGreatDoorB9
import Derived.ChangeArms
set_option linter.unusedVariables false
set_option linter.unusedSimpArgs false
set_option linter.unusedSectionVars false
set_option linter.unnecessarySimpa false
namespace Go.Ac
section
def ShpB (td : TDs) (B : Nat) : Nat → TypeId → List AV → Prop
 | 0, _, _ => False
 | f + 1, t, cas => match (lk td t).map (fun d : TD => d.k) with
  | some .bool => ∃ b, cas = [.v (.bool b)]
  | some (.int k) => ∃ n, cas = [.v (.int k n)] ∧ (Lit.int k n).wf = true
  | some .str => ∃ s, cas = [.v (.string s)] ∧ s.size ≤ B
  | some (.slice e) => ∃ sz es, (lk td e).map (fun d : TD => d.size) = some sz ∧ cas = [.fs sz es.length es] ∧ es.length ≤ B ∧ ∀ x ∈ es, ShpB td B f e x
  | some (.struct fs) => ∃ parts : List (List AV), cas = parts.flatten ∧ parts.length = fs.length ∧ ∀ (i : Nat) (x : List AV) (q : TypeId × Nat), parts[i]? = some x → fs[i]? = some q → ShpB td B f q.1 x
  | some (.arr n e) => ∃ parts : List (List AV), cas = parts.flatten ∧ parts.length = n ∧ ∀ x ∈ parts, ShpB td B f e x
  | _ => False
theorem qQ {H : Type} {P : Program} {e : TypeId} {B : Nat} : ∀ {l : List (DataW H)}, (DataW.weightsAll P e l).all (· ≤ B) = true → ∀ d ∈ l, (d.weights P e).all (· ≤ B) = true
 | [], _, d, hd => by cases hd
 | x :: r, h, d, hd => by
  simp only [DataW.weightsAll, List.all_append, Bool.and_eq_true] at h
  rcases List.mem_cons.1 hd with rfl | hd
  ·exact h.1
  ·exact qQ h.2 d hd
theorem weightsEach_get {H : Type} {P : Program} {B : Nat} : ∀ {ts : List TypeId} {l : List (DataW H)}, (DataW.weightsEach P ts l).all (· ≤ B) = true → ∀ (i : Nat) t d, ts[i]? = some t → l[i]? = some d → (d.weights P t).all (· ≤ B) = true
 | [], l, _, i, t, d, ht, hd => by simp at ht
 | t :: ts, [], _, i, u, d, ht, hd => by simp at hd
 | t :: ts, x :: r, h, i, u, d, ht, hd => by
  simp only [DataW.weightsEach, List.all_append, Bool.and_eq_true] at h
  cases i with
  | zero => simp at ht hd; subst ht hd; exact h.1
  | succ i => exact weightsEach_get h.2 i u d (by simpa using ht) (by simpa using hd)
def byteT (td : TDs) (C : List Nat) : Bool := C.all fun t => match lk td t with
 | some d => (match d.k with | .slice e => (match lk td e with | some ed => Nat.blt 0 ed.bytes | none => false) | _ => true)
 | none => true
section
variable {P : Program} {td : TDs} [T : TOK P td] {H : Type} {enc : TypeId × Value → H} {W : World} {sp : Nat → Bool} {B : Nat}
theorem Jj {f : Nat} {F : Nat → Prop} {w : World} {cs : List Value} {n : Nat} (hl : cs.length = n) : ∀ {fs : List (TypeId × Nat)} {o : Nat}, consec td o fs n = true → o ≤ n →
  (∀ q ∈ fs, ∃ cas, ShpB td B f q.1 cas ∧ LF F w cas ((cs.drop q.2).take (P.cellsOf q.1))) → ∃ parts : List (List AV), parts.length = fs.length ∧ LF F w parts.flatten (cs.drop o) ∧
   ∀ (i : Nat) (x : List AV) (q : TypeId × Nat), parts[i]? = some x → fs[i]? = some q → LF F w x ((cs.drop q.2).take (P.cellsOf q.1)) ∧ ShpB td B f q.1 x
 | [], o, h, ho, _ => by
  simp only [consec] at h
  have := Nat.eq_of_beq_eq_true h; subst this
  refine ⟨[], rfl, ?_, fun i x q hi => by simp at hi⟩
  rw [List.drop_of_length_le (by omega)]; simp only [List.flatten_nil, LF]
 | (t, off) :: r, o, h, ho, hp => by
  simp only [consec, Bool.and_eq_true] at h
  have := Nat.eq_of_beq_eq_true h.1; subst this
  obtain ⟨cas, hs, hLF⟩ := hp (t, off) (List.mem_cons_self ..)
  cases hlk : lk td t with
  | none => rw [hlk] at h; cases h.2
  | some d =>
   rw [hlk] at h
   have hcs := qj (P := P) hlk
   have hle : off + d.size ≤ n := by
    have key : ∀ {fs : List (TypeId × Nat)} {o : Nat}, consec td o fs n = true → o ≤ n := by
     intro fs
     induction fs with
     | nil => intro o h; simp only [consec] at h; exact Nat.le_of_eq (Nat.eq_of_beq_eq_true h)
     | cons q r ih =>
      intro o h
      obtain ⟨t, off⟩ := q
      simp only [consec, Bool.and_eq_true] at h
      cases hq : lk td t with
      | none => rw [hq] at h; cases h.2
      | some d => rw [hq] at h; have := ih h.2; omega
    exact key h.2
   obtain ⟨parts, q1, q2, q3⟩ := Jj hl h.2 hle (fun q hq => hp q (List.mem_cons_of_mem _ hq))
   refine ⟨cas :: parts, by simp [q1], ?_, fun i x q hi hq => ?_⟩
   ·rw [List.flatten_cons]
    simp only [hcs] at hLF
    have := Je hLF q2
    have e : (cs.drop off).take d.size ++ cs.drop (off + d.size) = cs.drop off := by
     rw [← List.drop_drop]; exact List.take_append_drop ..
    rwa [e] at this
   ·cases i with
    | zero => simp at hi hq; subst hi hq; exact ⟨hLF, hs⟩
    | succ i => exact q3 i x q (by simpa using hi) (by simpa using hq)
theorem trod_LFB {C : List Nat} (hC : closedT td C = true) (hB : byteT td C = true) : ∀ (f : Nat) (t : Nat) (cs : List Value) (r : DataW H × List MemPlace), t ∈ C → DataW.trod enc P W 0 sp true f t cs = some r → (r.1.weights P t).all (· ≤ B) = true →
  ∃ cas, ShpB td B f t cas ∧ LF (below W) W cas cs := by
 intro f
 induction f with
 | zero => intro t cs r _ h _; simp [DataW.trod] at h
 | succ f ih =>
  intro t cs r ht h hw
  have hc := List.all_eq_true.1 hC t ht
  cases hl : lk td t with
  | none => simp [hl] at hc
  | some d =>
   simp only [hl] at hc
   obtain ⟨i, u, z, h1, h2, h3, h4, h5, h6, h7⟩ := zA (P := P) hl
   cases hk : d.k with
   | bool =>
    rw [hk] at h4
    cases u <;> simp only [tk, reduceCtorEq] at h4
    obtain ⟨b, rfl, _⟩ := DataW.trod_bool h2 h
    exact ⟨[.v (.bool b)], by simp only [ShpB, hl, Option.map_some, hk]; exact ⟨b, rfl⟩, by simp only [LF, RF]; exact ⟨_, [], rfl, rfl, rfl, rfl⟩⟩
   | int k =>
    rw [hk] at h4
    cases u <;> simp only [tk, reduceCtorEq, TK.int.injEq] at h4
    subst h4
    obtain ⟨n, rfl, _, hwf⟩ := DataW.trod_int h2 h
    exact ⟨[.v (.int _ n)], by simp only [ShpB, hl, Option.map_some, hk]; exact ⟨n, rfl, hwf⟩, by simp only [LF, RF]; exact ⟨_, [], rfl, rfl, rfl, rfl⟩⟩
   | str =>
    rw [hk] at h4
    cases u <;> simp only [tk, reduceCtorEq] at h4
    obtain ⟨s, rfl, hx, _⟩ := DataW.trod_string h2 h
    have hs : s.size ≤ B := by
     subst hx
     simp only [DataW.weights, List.all_cons, List.all_nil, Bool.and_true, decide_eq_true_eq, Array.length_toList] at hw
     exact hw
    exact ⟨[.v (.string s)], by simp only [ShpB, hl, Option.map_some, hk]; exact ⟨s, rfl, hs⟩, by simp only [LF, RF]; exact ⟨_, [], rfl, rfl, rfl, rfl⟩⟩
   | slice e =>
    rw [hk] at h4
    cases u <;> simp only [tk, reduceCtorEq, TK.slice.injEq] at h4
    subst h4
    rename_i e
    simp only [hk, Bool.and_eq_true] at hc
    obtain ⟨⟨_, he⟩, hsz⟩ := hc
    have he' : e ∈ C := List.contains_iff_mem.1 he
    cases hle : lk td e with
    | none => rw [hle] at hsz; cases hsz
    | some ed =>
     rw [hle] at hsz
     have hpos : 0 < ed.size := Nat.le_of_ble_eq_true hsz
     have hce := qj (P := P) hle
     rcases DataW.trod_slice h2 h with ⟨rfl, _⟩ | ⟨a, len, cap, elems, rest, n, hf, rfl, hx, _, hlc, hcm, hel, hget, _⟩
     ·refine ⟨[.fs ed.size 0 []], ?_, ?_⟩
      ·simp only [ShpB, hl, Option.map_some, hk]
       exact ⟨ed.size, [], by simp [hle], rfl, Nat.zero_le _, fun x hx => by cases hx⟩
      ·simp only [LF, RF]
       exact ⟨_, [], rfl, ⟨rfl, none, 0, rfl, Nat.le_refl _, fun h => absurd rfl h⟩, rfl, rfl⟩
     ·injection hf with hf; subst hf
      have hbt := List.all_eq_true.1 hB t ht
      simp only [hl, hk, hle] at hbt
      have hby : 0 < P.bytesOf e := by
       obtain ⟨i', u', z', k1, _, _, _, _, k6, _⟩ := zA (P := P) hle
       simp only [Program.bytesOf, k1, Option.map_some, Option.getD_some]
       rw [k6]; exact Nat.le_of_ble_eq_true hbt
      subst hx
      simp only [DataW.weights, h2, List.all_cons, List.all_append, Bool.and_eq_true, decide_eq_true_eq, List.length_map] at hw
      obtain ⟨hw1, hw2, _⟩ := hw
      have hlenB : len ≤ B := by
       have := Nat.le_mul_of_pos_right (elems.length + rest.length) hby
       omega
      have hwe : ∀ i (y : DataW H × List MemPlace), elems[i]? = some y → (y.1.weights P e).all (· ≤ B) = true := fun i y hy =>
       qQ hw2 y.1 (List.mem_map_of_mem (List.mem_of_getElem? hy))
      have key : ∀ i, i < len → ∃ x, ShpB td B f e x ∧ ∃ ys, LF (below W) W x ys ∧ ys.length = ed.size ∧ W.cells? 0 (a.add (i * ed.size)) ed.size = some ys := by
       intro i hi
       have hg := hget i hi
       rw [List.getElem?_eq_getElem (by omega), hce] at hg
       cases hcl : W.cells? 0 (a.add (i * ed.size)) ed.size with
       | none => rw [hcl] at hg; cases hg
       | some ys =>
        rw [hcl] at hg
        simp only [Option.bind_some] at hg
        obtain ⟨x, g1, g2⟩ := ih e ys _ he' hg (hwe i _ (List.getElem?_eq_getElem (by omega)))
        exact ⟨x, g1, ys, g2, (cells?_spec hpos hcl).2.2.1, rfl⟩
      have hes : ∃ es : List (List AV), es.length = len ∧ ∀ i, i < len → ∃ x, es[i]? = some x ∧ ShpB td B f e x ∧ ∃ ys, LF (below W) W x ys ∧ ys.length = ed.size ∧ W.cells? 0 (a.add (i * ed.size)) ed.size = some ys := by
       have : ∀ m, m ≤ len → ∃ es : List (List AV), es.length = m ∧ ∀ i, i < m → ∃ x, es[i]? = some x ∧ ShpB td B f e x ∧ ∃ ys, LF (below W) W x ys ∧ ys.length = ed.size ∧ W.cells? 0 (a.add (i * ed.size)) ed.size = some ys := by
        intro m
        induction m with
        | zero => intro _; exact ⟨[], rfl, fun i h => by omega⟩
        | succ m ihm =>
         intro hm
         obtain ⟨es, q1, q2⟩ := ihm (by omega)
         obtain ⟨x, k1, k2⟩ := key m (by omega)
         refine ⟨es ++ [x], by simp [q1], fun i hi => ?_⟩
         by_cases e' : i = m
         ·subst e'; exact ⟨x, by rw [← q1]; simp, k1, k2⟩
         ·obtain ⟨x', r1, r2⟩ := q2 i (by omega)
          exact ⟨x', by rw [List.getElem?_append_left (by omega)]; exact r1, r2⟩
       exact this len (Nat.le_refl _)
      obtain ⟨es, q1, q2⟩ := hes
      refine ⟨[.fs ed.size len es], ?_, ?_⟩
      ·simp only [ShpB, hl, Option.map_some, hk]
       refine ⟨ed.size, es, by simp [hle], by rw [q1], by omega, fun x hx => ?_⟩
       obtain ⟨i, hi⟩ := List.getElem?_of_mem hx
       have hil : i < len := by rcases Nat.lt_or_ge i es.length with h' | h'; omega; rw [List.getElem?_eq_none h'] at hi; cases hi
       obtain ⟨x', r1, r2, _⟩ := q2 i hil
       rw [hi] at r1; injection r1 with r1; subst r1; exact r2
      ·simp only [LF, RF]
       refine ⟨_, [], rfl, ⟨q1, some a, cap, rfl, hlc, fun hne => ?_⟩, rfl, rfl⟩
       obtain ⟨x0, _, _, ys0, _, _, hc0⟩ := q2 0 (by omega)
       have hadd0 : a.add (0 * ed.size) = a := by simp [Addr.add]
       rw [hadd0] at hc0
       obtain ⟨hsp, hbl, _, _⟩ := cells?_spec hpos hc0
       obtain ⟨b, off, spot⟩ := a
       simp only at hsp hbl; subst hsp
       refine ⟨b, off, rfl, hbl, ?_⟩
       have : ∀ (es' : List (List AV)) (k : Nat), k + es'.length = len → (∀ i x, es'[i]? = some x → es[k + i]? = some x) → EF (below W) W ed.size es' b (off + k * ed.size) := by
        intro es'
        induction es' with
        | nil => intro k _ _; simp only [EF]
        | cons x r ihr =>
         intro k hk' hx
         simp only [EF]
         obtain ⟨x', r1, _, ys, r2, r3, r4⟩ := q2 k (by simp at hk'; omega)
         have := hx 0 x rfl
         rw [Nat.add_zero, r1] at this; injection this with this; subst this
         rw [Addr.add_mid] at r4
         obtain ⟨_, _, _, hra⟩ := cells?_spec hpos r4
         refine ⟨by rw [← r2.length, r3], MF.of r2 hra, ?_⟩
         have := ihr (k + 1) (by simp at hk'; omega) (fun i z hz => by have := hx (i + 1) z (by simpa using hz); rwa [show k + (i + 1) = k + 1 + i by omega] at this)
         rwa [show off + (k + 1) * ed.size = off + k * ed.size + ed.size by rw [Nat.add_mul]; omega] at this
       have := this es 0 (by omega) (fun i x h => by simpa using h)
       simpa using this
   | struct fs =>
    rw [hk] at h4
    cases u <;> simp only [tk, reduceCtorEq, TK.struct.injEq] at h4
    subst h4
    rename_i fields
    simp only [hk, Bool.and_eq_true] at hc
    obtain ⟨xs, n, hf, hx, hlen, hxl, hget⟩ := DataW.trod_struct h2 h
    injection hf with hf; subst hf
    subst hx
    simp only [DataW.weights, h2] at hw
    have hcd := qj (P := P) hl
    have hin := List.all_eq_true.1 hc.1
    obtain ⟨parts, p1, p2, p3⟩ := Jj (P := P) (f := f) (F := below W) (w := W) (cs := cs) (n := d.size) (by rw [hlen, hcd]) hc.2 (Nat.zero_le _) (fun q hq => by
     obtain ⟨j, hj⟩ := List.getElem?_of_mem hq
     simp only [List.getElem?_map, Array.getElem?_toList] at hj
     cases hfj : fields[j]? with
     | none => simp [hfj] at hj
     | some fl =>
      simp only [hfj, Option.map_some, Option.some.injEq] at hj
      subst hj
      have hg := hget j fl hfj
      have hjl : j < xs.length := by rw [hxl]; exact (Array.getElem?_eq_some_iff.1 hfj).1
      rw [List.getElem?_eq_getElem hjl] at hg
      exact ih _ _ _ (List.contains_iff_mem.1 (hin _ hq)) hg (weightsEach_get hw j _ _ (by simp [hfj]) (by rw [List.getElem?_map, List.getElem?_eq_getElem hjl]; rfl)))
    refine ⟨parts.flatten, ?_, by simpa using p2⟩
    simp only [ShpB, hl, Option.map_some, hk]
    exact ⟨parts, rfl, p1, fun i x q hi hq => (p3 i x q hi hq).2⟩
   | arr n e => simp [hk] at hc
   | ptr e => simp [hk] at hc
   | map k e => simp [hk] at hc
   | iface => simp [hk] at hc
   | other => simp [hk] at hc
end
end
end Go.Ac
section
namespace Go.Proofs.YtcfkokllinkigaaGreatDoor
def zeroRep : Replica := ⟨0, [], []⟩
def joined (r : Replica) (m : List Op) : Replica := ⟨r.dev, seenL m, m⟩
def merge (r : Replica) (l : List Op) : Replica × Int := match unite r.ops l with
 | none => (zeroRep, 8)
 | some m => if repE (joined r m) = 0 then (joined r m, 0) else (zeroRep, repE (joined r m))
def sync (a b : Replica) : Replica × Replica × Int :=
 if (merge a b.ops).2 ≠ 0 then (a, b, (merge a b.ops).2) else if (merge b a.ops).2 ≠ 0 then (a, b, (merge b a.ops).2) else ((merge a b.ops).1, (merge b a.ops).1, 0)
theorem Jt {r : Replica} {l : List Op} (h : unite r.ops l = none) : merge r l = (zeroRep, 8) := by rw [merge, h]
theorem jn {r : Replica} {l m : List Op} (h : unite r.ops l = some m) (h2 : repE (joined r m) = 0) : merge r l = (joined r m, 0) := by rw [merge, h]; exact if_pos h2
theorem wB {r : Replica} {l m : List Op} (h : unite r.ops l = some m) (h2 : repE (joined r m) ≠ 0) : merge r l = (zeroRep, repE (joined r m)) := by rw [merge, h]; exact if_neg h2
theorem merge_inv {r : Replica} {l : List Op} (h : (merge r l).2 = 0) : ∃ m, unite r.ops l = some m ∧ repE (joined r m) = 0 ∧ (merge r l).1 = joined r m := by
 cases hu : unite r.ops l with
 | none => rw [Jt hu] at h; simp at h
 | some m =>
  by_cases hr : repE (joined r m) = 0
  ·exact ⟨m, rfl, hr, by rw [jn hu hr]⟩
  ·rw [wB hu hr] at h; exact absurd h hr
end Go.Proofs.YtcfkokllinkigaaGreatDoor
namespace Go.Proofs.YtcfkokllinkigaaGreatDoor
def gbad (out : List Op) (o : Op) : Bool := match out.getLast? with
 | some p => decide (p.at_ = o.at_) && !decide (p = o)
 | none => false
def gstep (out : List Op) (o : Op) : List Op := match out.getLast? with
 | some p => if p.at_ = o.at_ then out else out ++ [o]
 | none => out ++ [o]
theorem Wj (out r : List Op) (o : Op) : gather out (o :: r) = if gbad out o = true then none else gather (gstep out o) r := by
 rw [gather, gbad, gstep]
 cases out.getLast? with
 | none => simp
 | some p =>
  by_cases h1 : p.at_ = o.at_
  ·by_cases h2 : p = o
   ·simp [h2]
   ·simp [h1, h2]
  ·simp [h1]
def outK (t : List Op) (i : Nat) : List Op := (t.take i).foldl gstep []
theorem wu {t : List Op} {i : Nat} {o : Op} (h : t[i]? = some o) : outK t (i + 1) = gstep (outK t i) o := by
 unfold outK
 rw [List.take_add_one, h, List.foldl_append]; rfl
theorem gstep_len (out : List Op) (o : Op) : (gstep out o).length ≤ out.length + 1 := by
 unfold gstep
 split
 ·split <;> simp
 ·simp
theorem gstep_mem {out : List Op} {o p : Op} (h : p ∈ gstep out o) : p ∈ out ∨ p = o := by
 unfold gstep at h
 split at h
 ·split at h
  ·exact .inl h
  ·simpa using h
 ·simpa using h
theorem outK_ok (t : List Op) : ∀ i, (outK t i).length ≤ i ∧ ∀ o ∈ outK t i, o ∈ t := by
 intro i
 induction i with
 | zero => exact ⟨Nat.le_refl _, fun o h => by simp [outK] at h⟩
 | succ i ih =>
  cases ht : t[i]? with
  | none =>
   have hge : t.length ≤ i := by simpa using ht
   have e : outK t (i + 1) = outK t i := by
    unfold outK
    rw [List.take_of_length_le hge, List.take_of_length_le (by omega)]
   rw [e]; exact ⟨by omega, ih.2⟩
  | some o =>
   rw [wu ht]
   refine ⟨by have := gstep_len (outK t i) o; omega, fun p hp => ?_⟩
   rcases gstep_mem hp with h | rfl
   ·exact ih.2 p h
   ·exact List.mem_of_getElem? ht
def okK (t : List Op) (i : Nat) : Prop := gather [] t = gather (outK t i) (t.drop i)
theorem okK_zero (t : List Op) : okK t 0 := rfl
theorem okK_bad {t : List Op} {i : Nat} {o : Op} (h : okK t i) (ht : t[i]? = some o) (hb : gbad (outK t i) o = true) : gather [] t = none := by
 obtain ⟨hlt, rfl⟩ := List.getElem?_eq_some_iff.1 ht
 rw [h, List.drop_eq_getElem_cons hlt, Wj, if_pos hb]
theorem yC {t : List Op} {i : Nat} {o : Op} (h : okK t i) (ht : t[i]? = some o) (hb : gbad (outK t i) o = false) : okK t (i + 1) := by
 unfold okK at h ⊢
 have e := wu ht
 obtain ⟨hlt, rfl⟩ := List.getElem?_eq_some_iff.1 ht
 rw [e, h, List.drop_eq_getElem_cons hlt, Wj, if_neg (by simp [hb])]
theorem okK_end {t : List Op} (h : okK t t.length) : gather [] t = some (outK t t.length) := by
 rw [h, List.drop_of_length_le (Nat.le_refl _), gather]
theorem gbad_none {out : List Op} {o : Op} (h : out.getLast? = none) : gbad out o = false ∧ gstep out o = out ++ [o] := by simp [gbad, gstep, h]
theorem gbad_ne {out : List Op} {o p : Op} (h : out.getLast? = some p) (he : p.at_ ≠ o.at_) : gbad out o = false ∧ gstep out o = out ++ [o] := by simp [gbad, gstep, h, he]
theorem gbad_eq {out : List Op} {o p : Op} (h : out.getLast? = some p) (he : p.at_ = o.at_) : gbad out o = (!decide (p = o)) ∧ gstep out o = out := by simp [gbad, gstep, h, he]
end Go.Proofs.YtcfkokllinkigaaGreatDoor
end
namespace Go.Proofs.YtcfkokllinkigaaGreatDoor
section
theorem JJ {r : Replica} (h : repE r = 0) : ∀ o ∈ r.ops, opE o = 0 := by
 intro o ho
 obtain ⟨k, hk⟩ := List.getElem?_of_mem ho
 exact Qw (Qd r.ops [] (Zy h).1 k o hk)
theorem wA {r : Replica} {l : List Op} (hi : Inc r.ops) (h : (merge r l).2 = 0) :
  Inc (merge r l).1.ops ∧ (∀ o, o ∈ (merge r l).1.ops ↔ o ∈ r.ops ∨ o ∈ l) ∧ (merge r l).1.dev = r.dev ∧ repE (merge r l).1 = 0 ∧ (merge r l).1.seen = seenL (merge r l).1.ops ∧ (merge r l).1.ops.length ≤ r.ops.length + l.length := by
 obtain ⟨m, hu, hr, he⟩ := merge_inv h
 have hU := QJ l r.ops hi
 rw [hu] at hU
 rw [he]
 exact ⟨hU.1, hU.2, rfl, hr, rfl, Qq l r.ops m hu⟩
theorem Yk {pre : List Op} (h : Good pre) {id : Int} {p : Op} (hp : p ∈ pre) (hk : p.kind = 0) (hid : p.note.id = id) : addedO pre id = some p := by
 cases hf : addedO pre id with
 | none =>
  unfold addedO at hf
  rw [List.find?_eq_none] at hf
  exact absurd (by simp [hk, hid]) (hf p hp)
 | some q =>
  unfold addedO at hf
  have h1 := List.mem_of_find?_eq_some hf
  have h2 := List.find?_some hf
  simp only [Bool.and_eq_true, decide_eq_true_eq] at h2
  have e : idOf p.at_ = idOf q.at_ := by rw [← ww (h.2 p hp) hk, ← ww (h.2 q h1) h2.1, hid, h2.2]
  rw [h.1.uniq hp h1 (idOf_inj (zO (h.2 p hp)) (zO (h.2 q h1)) e)]
theorem writer_mono {a b : List Op} (h : ∀ o ∈ a, o ∈ b) {s : Stamp} {n f : Int} (hw : writer a s n f = true) : writer b s n f = true := by
 unfold writer at *
 rw [List.any_eq_true] at *
 obtain ⟨o, ho, h2⟩ := hw
 exact ⟨o, h o ho, h2⟩
theorem oneE_mono {a b : List Op} (hb : Good b) (h : ∀ o ∈ a, o ∈ b) {o : Op} (hl : ∀ p ∈ b, less p.at_ o.at_ = true) (ho : oneE a o = 0) : oneE b o = 0 := by
 have h0 := Qw ho
 have hlast : (match b.getLast? with | some p => less p.at_ o.at_ | none => true) = true := by
  cases hq : b.getLast? with
  | none => rfl
  | some p => exact hl p (List.mem_of_getLast? hq)
 by_cases hk : o.kind = 0
 ·exact yA h0 hlast hk
 ·obtain ⟨hB, hC⟩ : (match addedO a o.note.id with | some a => decide (a.rec_ = o.rec_) | none => false) = true ∧ o.over.all (overOk a o) = true := by
   cases hB : (match addedO a o.note.id with | some a => decide (a.rec_ = o.rec_) | none => false) with
   | false =>
    cases hA : (match a.getLast? with | some p => less p.at_ o.at_ | none => true) with
    | false => rw [WB h0 hA] at ho; omega
    | true => rw [oneE_9 h0 hA hk hB] at ho; omega
   | true =>
    refine ⟨rfl, ?_⟩
    cases hC : o.over.all (overOk a o) with
    | true => rfl
    | false =>
     cases hA : (match a.getLast? with | some p => less p.at_ o.at_ | none => true) with
     | false => rw [WB h0 hA] at ho; omega
     | true => rw [oneE_27 h0 hA hk hB hC] at ho; omega
  have g3 : o.over.all (overOk b o) = true := by
   rw [List.all_eq_true] at *
   intro s hs
   have := hC s hs
   unfold overOk at *
   rw [List.any_eq_true] at *
   obtain ⟨f, hf, hw⟩ := this
   refine ⟨f, hf, ?_⟩
   simp only [Bool.and_eq_true] at hw ⊢
   exact ⟨hw.1, writer_mono h hw.2⟩
  have g2 : (match addedO b o.note.id with | some a => decide (a.rec_ = o.rec_) | none => false) = true := by
   cases hq : addedO a o.note.id with
   | none => rw [hq] at hB; cases hB
   | some p =>
    rw [hq] at hB
    have hrec : p.rec_ = o.rec_ := by simpa using hB
    unfold addedO at hq
    have q1 := List.mem_of_find?_eq_some hq
    have q2 := List.find?_some hq
    simp only [Bool.and_eq_true, decide_eq_true_eq] at q2
    rw [Yk hb (h p q1) q2.1 q2.2]
    simpa using hrec
  exact oneE_0 h0 hlast hk g2 g3
theorem allE_of {m : List Op} (hi : Inc m) (h : ∀ o ∈ m, ∃ l, allE [] l = 0 ∧ o ∈ l ∧ ∀ p ∈ l, less p.at_ o.at_ = true → p ∈ m) : allE [] m = 0 := by
 have H : ∀ (r pre : List Op), pre ++ r = m → Good pre → allE pre r = 0 := by
  intro r
  induction r with
  | nil => intro pre _ _; rfl
  | cons o r ih =>
   intro pre hm hg
   have hom : o ∈ m := by rw [← hm]; exact List.mem_append_right _ (List.mem_cons_self ..)
   obtain ⟨l, hl, hol, hle⟩ := h o hom
   have hil : Inc l := by simpa using Yi l [] List.Pairwise.nil hl
   obtain ⟨k, hk⟩ := List.getElem?_of_mem hol
   have h1 := Qd l [] hl k o hk
   simp only [List.nil_append] at h1
   have hi2 := hi
   rw [← hm] at hi2
   obtain ⟨p1, p2, p3⟩ := List.pairwise_append.1 hi2
   obtain ⟨c1, c2⟩ := List.pairwise_cons.1 p2
   have h2 : oneE pre o = 0 := by
    refine oneE_mono hg (fun p hp => ?_) (fun p hp => p3 p hp o (List.mem_cons_self ..)) h1
    have hpl := List.mem_of_mem_take hp
    have hlt : less p.at_ o.at_ = true := by
     obtain ⟨j, hj⟩ := List.getElem?_of_mem hp
     rw [List.getElem?_take] at hj
     split at hj
     ·rename_i hjk
      obtain ⟨q1, q2⟩ := List.getElem?_eq_some_iff.1 hj
      obtain ⟨q3, q4⟩ := List.getElem?_eq_some_iff.1 hk
      have := (List.pairwise_iff_getElem.1 hil) j k q1 q3 hjk
      rw [q2, q4] at this; exact this
     ·cases hj
    have hpm := hle p hpl hlt
    rw [← hm] at hpm
    rcases List.mem_append.1 hpm with g | g
    ·exact g
    ·rcases List.mem_cons.1 g with e | g
     ·rw [e] at hlt; rw [qW] at hlt; cases hlt
     ·have := zW (c1 p g); rw [hlt] at this; cases this
   rw [allE, if_neg (by simpa using h2)]
   exact ih (pre ++ [o]) (by simpa using hm) (hg.snoc h2)
 exact H m [] rfl Good.nil
end
section
open Go.Ac
structure Val where
 at_ : Stamp
 n : Int
 text : ByteArray
 deriving Inhabited, DecidableEq
def zeroVal : Val := ⟨⟨0, 0⟩, 0, .empty⟩
def valueOf (o : Op) (f : Int) : Val := if wrt o f = false then zeroVal else
 ⟨o.at_, if f = 0 then 0 else if o.kind = 0 then (if f = 1 then o.note.span.fro else o.note.span.til) else o.n, if f = 0 then (if o.kind = 0 then o.note.text else o.text) else .empty⟩
def overO (kind note f : Int) (s : Stamp) (o : Op) : Bool := decide (o.kind = kind) && (decide (o.note.id = note) && ((decide (kind = 2) || decide (o.set = f)) && o.over.any fun q => decide (q = s)))
def overd (l : List Op) (s : Stamp) (kind note f : Int) : Bool := l.any (overO kind note f s)
def keepV (l : List Op) (note f : Int) (o : Op) : Bool := writes o note f && !overd l o.at_ 1 note f
def valuesL (l : List Op) (note f : Int) : List Val := (l.filter (keepV l note f)).map (valueOf · f)
theorem adel_cons {K V : Type} [DecidableEq K] (p : K × V) (r : List (K × V)) (k : K) : adel (p :: r) k = if p.1 = k then r else p :: adel r k := by
 unfold adel
 rw [List.findIdx?_cons]
 by_cases e : p.1 = k
 ·simp [e]
 ·simp only [decide_eq_false e, Bool.false_eq_true, if_false, if_neg e]
  cases h : List.findIdx? (fun p => decide (p.1 = k)) r with
  | none => simp
  | some i => simp
theorem Jd {K V : Type} [DecidableEq K] (p : K × V) (r : List (K × V)) (k : K) : aget (p :: r) k = if p.1 = k then some p.2 else aget r k := by
 unfold aget
 rw [List.find?_cons]
 by_cases e : p.1 = k
 ·simp [e]
 ·simp [e]
theorem aget_none {K V : Type} [DecidableEq K] {m : List (K × V)} {k : K} (h : k ∉ m.map (·.1)) : aget m k = none := by
 induction m with
 | nil => rfl
 | cons p r ih =>
  simp only [List.map_cons, List.mem_cons, not_or] at h
  rw [Jd, if_neg (fun e => h.1 e.symm), ih h.2]
theorem aget_del {K V : Type} [DecidableEq K] {m : List (K × V)} (h : ANd m) (k k' : K) : aget (adel m k) k' = if k = k' then none else aget m k' := by
 induction m with
 | nil => simp [adel, aget]
 | cons p r ih =>
  obtain ⟨h1, h2⟩ : p.1 ∉ r.map (·.1) ∧ ANd r := by
   unfold ANd at h ⊢
   rw [List.map_cons, List.nodup_cons] at h
   exact h
  rw [adel_cons]
  by_cases e : p.1 = k
  ·rw [if_pos e]
   by_cases e2 : k = k'
   ·subst e2; rw [if_pos rfl, ← e]; exact aget_none h1
   ·rw [if_neg e2, Jd, if_neg (fun q => e2 (e.symm.trans q))]
  ·rw [if_neg e, Jd, Jd, ih h2]
   by_cases e2 : p.1 = k'
   ·rw [if_pos e2, if_pos e2, if_neg (fun q => e (e2.trans q.symm))]
   ·rw [if_neg e2, if_neg e2]
def dels (m : List (Stamp × Val)) (l : List Stamp) : List (Stamp × Val) := l.foldl adel m
def valStep (note f : Int) (m : List (Stamp × Val)) (o : Op) : List (Stamp × Val) := if writes o note f then aput (dels m o.over) o.at_ (valueOf o f) else m
def valM (note f : Int) (l : List Op) : List (Stamp × Val) := l.foldl (valStep note f) []
theorem valM_snoc (note f : Int) (l : List Op) (o : Op) : valM note f (l ++ [o]) = valStep note f (valM note f l) o := by simp [valM]
theorem dels_get (l : List Stamp) : ∀ (m : List (Stamp × Val)), ANd m → ∀ s, aget (dels m l) s = if s ∈ l then none else aget m s := by
 induction l with
 | nil => intro m _ s; simp [dels]
 | cons q r ih =>
  intro m hm s
  show aget (dels (adel m q) r) s = _
  rw [ih _ (hm.del q), aget_del hm]
  by_cases h : q = s
  ·subst h; simp
  ·have : ¬ s = q := fun e => h e.symm
   simp [h, this]
theorem dels_nd (l : List Stamp) : ∀ (m : List (Stamp × Val)), ANd m → ANd (dels m l) := by
 induction l with
 | nil => intro m h; exact h
 | cons q r ih => intro m h; exact ih _ (h.del q)
theorem Ww (note f : Int) (l : List Op) : ANd (valM note f l) := by
 unfold valM
 have : ∀ (l : List Op) (m : List (Stamp × Val)), ANd m → ANd (l.foldl (valStep note f) m) := by
  intro l
  induction l with
  | nil => intro m h; exact h
  | cons o r ih =>
   intro m h
   refine ih _ ?_
   unfold valStep
   split
   ·exact (dels_nd _ _ h).put _ _
   ·exact h
 exact this l [] List.nodup_nil
theorem yy {a : Stamp} : ∀ {l : List Stamp} {p : Option Stamp}, overK a p l = 0 → ∀ s ∈ l, less s a = true
 | [], _, _, s, hs => by cases hs
 | x :: r, p, h, s, hs => by
  unfold overK at h
  split at h
  ·omega
  ·rename_i h1
   simp only [not_or, Bool.not_eq_false] at h1
   have hrest : overK a (some x) r = 0 := by
    cases p with
    | none => exact h
    | some q =>
     simp only at h
     split at h
     ·omega
     ·exact h
   rcases List.mem_cons.1 hs with e | g
   ·rw [e]; exact h1.2
   ·exact yy hrest s g
theorem over_less {o : Op} (h : opE o = 0) : ∀ s ∈ o.over, less s o.at_ = true := by
 intro s hs
 have hr := zO h
 have hov : overE o = 0 → less s o.at_ = true := by
  intro h3
  unfold overE at h3
  split at h3
  ·omega
  split at h3
  ·omega
  ·exact yy h3 s hs
 unfold opE at h
 split at h
 ·omega
 split at h
 ·split at h
  ·omega
  ·obtain ⟨_, _, h3⟩ := firstE3' _ _ _ h
   unfold wanted at h3
   split at h3
   ·rename_i q
    have q : o.over.length = 0 := by simpa using q
    rw [List.eq_nil_of_length_eq_zero q] at hs; cases hs
   ·omega
 split at h
 ·split at h
  ·omega
  ·exact hov (firstE3' _ _ _ h).2.2
 split at h
 ·split at h
  ·omega
  ·exact hov (firstE3' _ _ _ h).2.2
 ·omega
theorem add_over {o : Op} (h : opE o = 0) (hk : o.kind = 0) : o.over = [] := by
 unfold opE at h
 rw [if_pos hk] at h
 split at h
 ·omega
 ·split at h
  ·omega
  ·obtain ⟨_, _, h3⟩ := firstE3' _ _ _ h
   unfold wanted at h3
   split at h3
   ·rename_i q
    exact List.eq_nil_of_length_eq_zero (by simpa using q)
   ·omega
theorem valM_iff (note f : Int) : ∀ (n : Nat) (l : List Op), l.length = n → Good l → ∀ s v, aget (valM note f l) s = some v ↔ ∃ o ∈ l, writes o note f = true ∧ o.at_ = s ∧ v = valueOf o f ∧ ∀ p ∈ l, writes p note f = true → s ∉ p.over := by
 intro n
 induction n with
 | zero =>
  intro l hl _ s v
  have : l = [] := List.eq_nil_of_length_eq_zero hl
  subst this
  simp [valM, aget]
 | succ n ih =>
  intro l hl hg s v
  have hne : l ≠ [] := by intro e; rw [e] at hl; cases hl
  obtain ⟨q, o, rfl⟩ : ∃ q o, l = q ++ [o] := ⟨_, _, (List.dropLast_concat_getLast hne).symm⟩
  obtain ⟨hi, ha⟩ := hg
  obtain ⟨i1, i2, i3⟩ := List.pairwise_append.1 hi
  have hq : Good q := ⟨i1, fun p hp => ha p (List.mem_append_left _ hp)⟩
  have hIH := ih q (by simp at hl; exact hl) hq
  have ho := ha o (List.mem_append_right _ (List.mem_singleton_self _))
  have hlt : ∀ p ∈ q, less p.at_ o.at_ = true := fun p hp => i3 p hp o (List.mem_singleton_self _)
  rw [valM_snoc, valStep]
  cases hw : writes o note f with
  | false =>
   rw [if_neg (by simp)]
   rw [hIH]
   constructor
   ·rintro ⟨p, h1, h2, h3, h4, h5⟩
    refine ⟨p, List.mem_append_left _ h1, h2, h3, h4, fun r hr hwr => ?_⟩
    rcases List.mem_append.1 hr with hr | hr
    ·exact h5 r hr hwr
    ·simp only [List.mem_singleton] at hr; subst hr; rw [hw] at hwr; cases hwr
   ·rintro ⟨p, h1, h2, h3, h4, h5⟩
    rcases List.mem_append.1 h1 with h1 | h1
    ·exact ⟨p, h1, h2, h3, h4, fun r hr => h5 r (List.mem_append_left _ hr)⟩
    ·simp only [List.mem_singleton] at h1; subst h1; rw [hw] at h2; cases h2
  | true =>
   rw [if_pos rfl, QD]
   by_cases e : o.at_ = s
   ·rw [if_pos e]
    subst e
    constructor
    ·intro h
     have h : valueOf o f = v := by simpa using h
     refine ⟨o, List.mem_append_right _ (List.mem_singleton_self _), hw, rfl, h.symm, fun p hp hwp hs => ?_⟩
     rcases List.mem_append.1 hp with hp | hp
     ·have h1 := over_less (hq.2 p hp) _ hs
      have h2 := zW (hlt p hp)
      rw [h1] at h2; cases h2
     ·simp only [List.mem_singleton] at hp; subst hp
      have := over_less ho _ hs
      rw [qW] at this; cases this
    ·rintro ⟨p, h1, h2, h3, h4, _⟩
     rcases List.mem_append.1 h1 with h1 | h1
     ·exact absurd h3 (qq (hlt p h1))
     ·simp only [List.mem_singleton] at h1; subst h1; rw [h4]
   ·rw [if_neg e, dels_get _ _ (Ww note f q)]
    by_cases hs : s ∈ o.over
    ·rw [if_pos hs]
     constructor
     ·intro h; cases h
     ·rintro ⟨p, _, _, _, _, h5⟩
      exact absurd hs (h5 o (List.mem_append_right _ (List.mem_singleton_self _)) hw)
    ·rw [if_neg hs, hIH]
     constructor
     ·rintro ⟨p, h1, h2, h3, h4, h5⟩
      refine ⟨p, List.mem_append_left _ h1, h2, h3, h4, fun r hr hwr => ?_⟩
      rcases List.mem_append.1 hr with hr | hr
      ·exact h5 r hr hwr
      ·simp only [List.mem_singleton] at hr; subst hr; exact hs
     ·rintro ⟨p, h1, h2, h3, h4, h5⟩
      rcases List.mem_append.1 h1 with h1 | h1
      ·exact ⟨p, h1, h2, h3, h4, fun r hr => h5 r (List.mem_append_left _ hr)⟩
      ·simp only [List.mem_singleton] at h1; subst h1; exact absurd h3 e
theorem Qp {o : Op} {note f : Int} (h : writes o note f = true) : within f 0 2 = true ∧ o.note.id = note := by
 simp only [writes, wrt, Bool.and_eq_true, decide_eq_true_eq] at h
 exact ⟨h.2.1, h.1⟩
theorem QI {o : Op} {note f : Int} (h : writes o note f = true) : wrt o f = true := by
 simp only [writes, Bool.and_eq_true] at h; exact h.2
theorem Jl {o : Op} {f : Int} (h : wrt o f = true) : (valueOf o f).at_ = o.at_ := by
 unfold valueOf; rw [if_neg (by simp [h])]
theorem overd_iff {l : List Op} (hg : ∀ o ∈ l, opE o = 0) {s : Stamp} {note f : Int} (hf : within f 0 2 = true) : overd l s 1 note f = true ↔ ∃ p ∈ l, writes p note f = true ∧ s ∈ p.over := by
  unfold overd overO
  rw [List.any_eq_true]
  constructor
  · rintro ⟨p, hp, h⟩
    simp only [Bool.and_eq_true, decide_eq_true_eq, List.any_eq_true, Bool.or_eq_true] at h
    obtain ⟨h1, h2, h3, q, h4, h5⟩ := h
    refine ⟨p, hp, ?_, h5 ▸ h4⟩
    have h3 : p.set = f := by rcases h3 with h | h; · omega
                              · exact h
    simp [writes, wrt, hf, h1, h2, h3]
  · rintro ⟨p, hp, hw, hs⟩
    refine ⟨p, hp, ?_⟩
    have h2 := (Qp hw).2
    have hk : p.kind ≠ 0 := fun e => by rw [add_over (hg p hp) e] at hs; cases hs
    have h3 := QI hw
    simp only [wrt, Bool.and_eq_true, Bool.or_eq_true, decide_eq_true_eq] at h3
    rcases h3.2 with h | h
    · exact absurd h hk
    · simp only [Bool.and_eq_true, decide_eq_true_eq, List.any_eq_true, Bool.or_eq_true]
      exact ⟨h.1, h2, .inr h.2, s, hs, rfl⟩
def IncV (l : List Val) : Prop := l.Pairwise fun a b => less a.at_ b.at_ = true
theorem IncV.ext : ∀ {l m : List Val}, IncV l → IncV m → (∀ o, o ∈ l ↔ o ∈ m) → l = m
 | [], [], _, _, _ => rfl
 | [], y :: s, _, _, h => by have := (h y).2 (List.mem_cons_self ..); cases this
 | x :: r, [], _, _, h => by have := (h x).1 (List.mem_cons_self ..); cases this
 | x :: r, y :: s, hl, hm, h => by
  obtain ⟨l1, l2⟩ := List.pairwise_cons.1 hl
  obtain ⟨m1, m2⟩ := List.pairwise_cons.1 hm
  have hxy : x = y := by
   rcases List.mem_cons.1 ((h x).1 (List.mem_cons_self ..)) with e | hx
   ·exact e
   ·rcases List.mem_cons.1 ((h y).2 (List.mem_cons_self ..)) with e | hy
    ·exact e.symm
    ·have := zW (l1 _ hy); rw [m1 _ hx] at this; cases this
  subst hxy
  have : r = s := by
   refine IncV.ext l2 m2 fun o => ⟨fun ho => ?_, fun ho => ?_⟩
   ·rcases List.mem_cons.1 ((h o).1 (List.mem_cons_of_mem _ ho)) with e | g
    ·subst e; exact absurd rfl (qq (l1 _ ho))
    ·exact g
   ·rcases List.mem_cons.1 ((h o).2 (List.mem_cons_of_mem _ ho)) with e | g
    ·subst e; exact absurd rfl (qq (m1 _ ho))
    ·exact g
  rw [this]
theorem Yj {m : List (Stamp × Val)} (h : ANd m) {s : Stamp} {v : Val} : aget m s = some v ↔ (s, v) ∈ m := by
 induction m with
 | nil => simp [aget]
 | cons p r ih =>
  obtain ⟨h1, h2⟩ : p.1 ∉ r.map (·.1) ∧ ANd r := by
   unfold ANd at h ⊢
   rw [List.map_cons, List.nodup_cons] at h
   exact h
  have ih := ih h2
  unfold aget at ih ⊢
  rw [List.find?_cons]
  by_cases e : p.1 = s
  ·have : decide (p.1 = s) = true := decide_eq_true e
   simp only [this, Option.map_some, Option.some.injEq, List.mem_cons]
   constructor
   ·intro hv; left; rw [← e, ← hv]
   ·rintro (hv | hv)
    ·rw [← hv]
    ·exact absurd (List.mem_map.2 ⟨_, hv, e.symm⟩) h1
  ·have : decide (p.1 = s) = false := decide_eq_false e
   simp only [this, List.mem_cons]
   rw [ih]
   constructor
   ·intro hv; exact .inr hv
   ·rintro (hv | hv)
    ·exact absurd (by rw [← hv]) e
    ·exact hv
theorem values_sorted {l : List Op} (hg : Good l) {note f : Int} {d : List Val} (hp : d.Perm ((valM note f l).map (·.2))) (hs : d.Pairwise fun a b => less b.at_ a.at_ = false) : d = valuesL l note f := by
 have hnd := Ww note f l
 have hiff := valM_iff note f _ l rfl hg
 have hat : ∀ p ∈ valM note f l, p.2.at_ = p.1 := by
  intro p hp
  obtain ⟨o, h1, h2, h3, h4, h5⟩ := (hiff p.1 p.2).1 ((Yj hnd).2 hp)
  rw [h4, Jl (QI h2), h3]
 have hd1 : IncV d := by
  have hn : (d.map (·.at_)).Nodup := by
   refine (hp.map (·.at_)).nodup_iff.2 ?_
   rw [List.map_map]
   have : (valM note f l).map ((·.at_) ∘ (·.2)) = (valM note f l).map (·.1) := List.map_congr_left fun p hp => hat p hp
   rw [this]; exact hnd
  rw [List.nodup_iff_pairwise_ne, List.pairwise_map] at hn
  refine List.Pairwise.imp₂ ?_ hs hn
  intro a b h1 h2
  rcases ZO.1 h1 with h | h
  ·exact h
  ·exact absurd h h2
 have hd2 : IncV (valuesL l note f) := by
  unfold valuesL IncV
  rw [List.pairwise_map]
  have : (l.filter (keepV l note f)).Pairwise fun a b => less a.at_ b.at_ = true := hg.1.filter _
  refine List.Pairwise.imp_of_mem ?_ this
  intro a b ha hb h
  have h1 := (List.mem_filter.1 ha).2
  have h2 := (List.mem_filter.1 hb).2
  simp only [keepV, Bool.and_eq_true] at h1 h2
  rw [Jl (QI h1.1), Jl (QI h2.1)]; exact h
 refine hd1.ext hd2 fun v => ?_
 rw [hp.mem_iff]
 constructor
 ·intro hv
  obtain ⟨p, h1, rfl⟩ := List.mem_map.1 hv
  obtain ⟨o, h2, h3, h4, h5, h6⟩ := (hiff p.1 p.2).1 ((Yj hnd).2 h1)
  rw [h5]
  refine List.mem_map.2 ⟨o, List.mem_filter.2 ⟨h2, ?_⟩, rfl⟩
  unfold keepV
  rw [h3, Bool.true_and, Bool.not_eq_true']
  cases hc : overd l o.at_ 1 note f with
  | false => rfl
  | true =>
   obtain ⟨q, q1, q2, q3⟩ := (overd_iff hg.2 (Qp h3).1).1 hc
   rw [h4] at q3
   exact absurd q3 (h6 q q1 q2)
 ·intro hv
  obtain ⟨o, h1, rfl⟩ := List.mem_map.1 hv
  obtain ⟨h1, h2⟩ := List.mem_filter.1 h1
  simp only [keepV, Bool.and_eq_true, Bool.not_eq_true'] at h2
  have := (hiff o.at_ (valueOf o f)).2 ⟨o, h1, h2.1, rfl, rfl, fun p hp hw hs => by
   have := (overd_iff hg.2 (Qp h2.1).1).2 ⟨p, hp, hw, hs⟩
   rw [this] at h2; cases h2.2⟩
  exact List.mem_map.2 ⟨_, (Yj hnd).1 this, rfl⟩
structure Cell where
 rec_ : Int
 note : Note
 text : List Val
 fro : List Val
 til : List Val
 deriving Inhabited, DecidableEq
def zeroCell : Cell := ⟨0, ⟨0, 0, 0, ⟨0, 0⟩, 0, .empty⟩, [], [], []⟩
def saved (l : List Op) (note f : Int) : Bool := (valuesL l note f).any fun v => !overd l v.at_ 2 note f
def lives (l : List Op) (note : Int) : Bool := (addedO l note).isSome && (saved l note 0 || (saved l note 1 || saved l note 2))
def cellOf (l : List Op) (note : Int) (o : Op) : Cell := ⟨o.rec_, o.note, valuesL l note 0, valuesL l note 1, valuesL l note 2⟩
def cell (l : List Op) (note : Int) : Option Cell := match addedO l note with
 | none => none
 | some o => if saved l note 0 || (saved l note 1 || saved l note 2) then some (cellOf l note o) else none
def cellsStep (l : List Op) (rec_ : Int) (out : List Cell) (o : Op) : List Cell := if o.kind = 0 ∧ o.rec_ = rec_ then (match cell l o.note.id with | some c => out ++ [c] | none => out) else out
def cells (l : List Op) (rec_ : Int) : List Cell := l.foldl (cellsStep l rec_) []
end
section
open Go.Ac
def topV (v : List Int) : Int := (List.range 15).foldl (fun m i => max m (num v i)) 0
def nextS (v : List Int) (dev : Int) : Option Stamp := if topV v < 1048576 ∧ 1 ≤ dev ∧ dev ≤ 15 then some ⟨topV v + 1, dev⟩ else none
def emptyRep : Replica := ⟨0, [], []⟩
def longerR (r : Replica) (o : Op) : Replica := ⟨r.dev, see r.seen o.at_, r.ops ++ [o]⟩
def withR (r : Replica) (o : Op) : Replica × Int := if repE (longerR r o) = 0 then (longerR r o, 0) else (emptyRep, repE (longerR r o))
def newR (dev : Int) : Replica × Int := if within dev 1 15 then (⟨dev, join [] [], []⟩, 0) else (emptyRep, 1)
def addOpR (s : Stamp) (rc : Int) (n : Note) : Op := ⟨s, 0, rc, { n with id := idOf s }, 0, 0, .empty, []⟩
def addR (r : Replica) (rc : Int) (n : Note) : Replica × Int × Int := match nextS r.seen r.dev with
 | none => (emptyRep, 0, 27)
 | some s => if (withR r (addOpR s rc n)).2 = 0 then ((withR r (addOpR s rc n)).1, idOf s, 0) else (emptyRep, 0, (withR r (addOpR s rc n)).2)
theorem topV_le (v : List Int) : 0 ≤ topV v ∧ ∀ i, i < 15 → num v i ≤ topV v := by
 have H : ∀ (l : List Nat) (m : Int), 0 ≤ m → m ≤ l.foldl (fun m i => max m (num v i)) m ∧ ∀ i ∈ l, num v i ≤ l.foldl (fun m i => max m (num v i)) m := by
  intro l
  induction l with
  | nil => intro m hm; exact ⟨Int.le_refl _, fun i h => by cases h⟩
  | cons j r ih =>
   intro m hm
   obtain ⟨h1, h2⟩ := ih (max m (num v j)) (by omega)
   simp only [List.foldl_cons]
   refine ⟨by omega, fun i hi => ?_⟩
   rcases List.mem_cons.1 hi with rfl | hi
   ·omega
   ·exact h2 i hi
 obtain ⟨h1, h2⟩ := H (List.range 15) 0 (Int.le_refl _)
 exact ⟨h1, fun i hi => h2 i (List.mem_range.2 hi)⟩
end
section
open Go.Ac
def topK (v : List Int) (k : Nat) : Int := (List.range k).foldl (fun m i => max m (num v i)) 0
theorem topK_succ (v : List Int) (k : Nat) : topK v (k + 1) = max (topK v k) (num v k) := by
 unfold topK
 rw [List.range_succ, List.foldl_append]; rfl
theorem topK_all (v : List Int) : topK v 15 = topV v := rfl
theorem next_right (v : List Int) (d : Int) : right ⟨min (topV v) 1048576 + 1, d⟩ = (nextS v d).isSome := by
 have h0 := (topV_le v).1
 unfold nextS
 split
 ·rename_i h
  simp only [right, Option.isSome_some, Bool.and_eq_true, decide_eq_true_eq]
  omega
 ·rename_i h
  cases hr : right ⟨min (topV v) 1048576 + 1, d⟩ with
  | false => rfl
  | true =>
   simp only [right, Bool.and_eq_true, decide_eq_true_eq] at hr
   exact absurd ⟨by omega, by omega, by omega⟩ h
theorem next_get {v : List Int} {d : Int} (h : (nextS v d).isSome = true) : nextS v d = some ⟨min (topV v) 1048576 + 1, d⟩ := by
 unfold nextS at h ⊢
 split at h
 ·rename_i hc
  rw [if_pos hc, show min (topV v) 1048576 = topV v by omega]
 ·cases h
end
section
open Go.Ac
attribute [local irreducible] awp awpL Ev Ev2 EvS thenQ blockQ retQ PCalls OCalls
variable {g : List (Nat × List AV)}
abbrev nextP (o : Option Stamp) : AV := .tup [.agg (stampC (o.getD ⟨0, 0⟩)), vb o.isSome]
set_option maxHeartbeats 1000000 in
theorem Next_spec (v : List Int) (dev : Int) (hv : v.length ≤ 1000000) : PCalls Tryz.prog g 83 [encIs v, vi dev] (nextP (nextS v dev)) := by
 have h0 := (topV_le v).1
 have hR := ZY (g := g) ⟨min (topV v) 1048576 + 1, dev⟩
 rw [next_right] at hR
 have n1 : (!true) = false := rfl
 have n2 : (!false) = true := rfl
 refine pcalls' Tryz.func83 Tryz.ntmps83 rfl rfl rfl ?_
 repeat' (first
  | refine stn [4] ?_
  | ((with_reducible refine zr ?_); refine zf rfl rfl (fun h => ?_) (fun h => ?_))
  | ((with_reducible refine zl ?_); refine ze rfl (fun h => ?_) (fun h => ?_))
  | fail)
 refine zi (α := Nat) 1 (fun k => [(0, encIs v), (1, vi dev), (4, .lp 0 0), (6, vi (topK v k)), (9, vi k)]) (fun _ => [.box [vi 0, vi 0]]) (fun k => k ≤ 15) (fun k => 15 - k) 0
  qw (Nat.zero_le _) ?_
 rintro k hk
 by_cases hlt : k < 15
 ·have c1 : decide ((k : Int) < 15) = true := decide_eq_true (by omega)
  have h1 := Qi (g := g) v k hv
  have hT := topK_succ v k
  repeat' (first
   | refine stn [4] ?_
   | ((with_reducible refine zr ?_); refine zf rfl rfl (fun h => ?_) (fun h => ?_))
   | ((with_reducible refine zl ?_); refine ze rfl (fun h => ?_) (fun h => ?_))
   | fail)
  exact ⟨k + 1, by rw [hT]; exact qw, by omega, by omega⟩
 ·have c1 : decide ((k : Int) < 15) = false := decide_eq_false (by omega)
  have hk15 : k = 15 := by omega
  subst hk15
  rw [topK_all]
  cases hs : (nextS v dev).isSome with
  | false =>
   rw [hs] at hR
   have hn : nextS v dev = none := by simpa using hs
   repeat' (first
    | refine stn [4] ?_
    | ((with_reducible refine zr ?_); refine zf rfl rfl (fun h => ?_) (fun h => ?_))
    | ((with_reducible refine zl ?_); refine ze rfl (fun h => ?_) (fun h => ?_))
    | fail)
   refine retP rfl ?_
   rw [nextP, hn]; rfl
  | true =>
   rw [hs] at hR
   have hn := next_get hs
   repeat' (first
    | refine stn [4] ?_
    | ((with_reducible refine zr ?_); refine zf rfl rfl (fun h => ?_) (fun h => ?_))
    | ((with_reducible refine zl ?_); refine ze rfl (fun h => ?_) (fun h => ?_))
    | fail)
   refine retP rfl ?_
   rw [nextP, hn]; rfl
end
section
open Go.Ac Go.MapKept
attribute [local irreducible] awp awpL Ev Ev2 EvS thenQ blockQ retQ PCalls OCalls YieldOk IterC ICalls
def lastS (pre : List Op) : Stamp := match pre.getLast? with
 | some p => p.at_
 | none => ⟨0, 0⟩
abbrev chkL (pre : List Op) : List LB := [.map (aks (addedM pre)) (axs (addedM pre)), .map (wks (writesM pre)) (wxs (writesM pre)), .box [.mp 0, .mp 1, vi (lastS pre).count, vi (lastS pre).dev], .dead]
theorem ord_last {pre : List Op} {o : Op} (h : opE o = 0) : (match pre.getLast? with | some p => less p.at_ o.at_ | none => true) = less (lastS pre) o.at_ := by
 unfold lastS
 cases pre.getLast? with
 | some p => rfl
 | none =>
  have := jN (zO h)
  simp [less]; omega
theorem lastS_snoc (pre : List Op) (o : Op) : lastS (pre ++ [o]) = o.at_ := by simp [lastS]
theorem rec_get {pre : List Op} (hp : Good pre) (o : Op) : (match addedO pre o.note.id with | some a => decide (a.rec_ = o.rec_) | none => false) = ((aget (addedM pre) o.note.id).isSome && decide ((aget (addedM pre) o.note.id).getD 0 = o.rec_)) := by
 rw [get_added hp]
 cases addedO pre o.note.id with
 | none => rfl
 | some a => simp
theorem fld_get {j : Nat} (h : j < 3) : 0 ≤ (j : Int) ∧ (j : Int) < (3 : Nat) ∧ [vi 0, vi 1, vi 2][(j : Int).toNat]? = some (vi j) := by
 have : j = 0 ∨ j = 1 ∨ j = 2 := by omega
 rcases this with rfl | rfl | rfl <;> exact ⟨by omega, by omega, rfl⟩
theorem wr_upd {o : Op} {m : List (WK × Unit)} {j : Nat} (hj : j < 3) : wrK o m (j + 1) = if writes o o.note.id j then aput (wrK o m j) ⟨o.at_, o.note.id, j⟩ () else wrK o m j := wrK_succ o m j hj
set_option maxRecDepth 8000 in
set_option maxHeartbeats 8000000 in
theorem one_spec (pre : List Op) (o : Op) (hp : Good pre) (hid : I64 o.note.id) : ICalls Tryz.prog (Glo.of GL) 66 [.lp 2 0, .agg (opC o)] (chkL pre) (chkL (if oneE pre o = 0 then pre ++ [o] else pre)) (vi (oneE pre o)) := by
 have hC := Op_spec (g := GL) wT o hid
 refine icalls Tryz.func66 rfl Tryz.ntmps66 rfl rfl rfl rfl rfl rfl ?_
 have n1 : (!true) = false := rfl
 have n2 : (!false) = true := rfl
 by_cases hE : opE o = 0
 case neg =>
  have c0 : (!decide (opE o = 0)) = true := by simp [hE]
  rw [oneE_bad hE, if_neg hE]
  refine runn [0] ?_
  exact retI rfl ⟨rfl, rfl⟩
 case pos =>
 have c0 : (!decide (opE o = 0)) = false := by simp [hE]
 have hL := QH (g := GL) (lastS pre) o.at_
 have hord := ord_last (pre := pre) hE
 cases ha : less (lastS pre) o.at_ with
 | false =>
  rw [ha] at hL hord
  rw [WB hE hord, if_neg (by omega)]
  refine run [0] ?_
  exact retI rfl ⟨rfl, rfl⟩
 | true =>
 rw [ha] at hL hord
 have hrec := rec_get hp o
 have hlook := a_look (addedM pre) o.note.id
 have hand := aks_nd (addedM_nd pre)
 have hwnd := wks_nd (WT pre)
 have hwr : ∀ s n f, (aget (writesM pre) ⟨s, n, f⟩).isSome = writer pre s n f := get_writes pre
 have h16 := JL hE
 have z3 : zeroOf Tryz.prog 3 = some (.int .i64 0) := by kernel_rfl
 have z4 : zeroOf Tryz.prog 4 = some (.bool false) := by kernel_rfl
 refine run [0] ?_
 have rest : o.kind ≠ 0 → ∀ b, ((aget (addedM pre) o.note.id).isSome && decide ((aget (addedM pre) o.note.id).getD 0 = o.rec_)) = b → (match addedO pre o.note.id with | some a => decide (a.rec_ = o.rec_) | none => false) = b := fun _ b h => hrec.trans h
 by_cases hbad : o.kind ≠ 0 ∧ ((aget (addedM pre) o.note.id).isSome && decide ((aget (addedM pre) o.note.id).getD 0 = o.rec_)) = false
 case pos =>
  obtain ⟨hk, hb⟩ := hbad
  have d0 : (!decide (o.kind = 0)) = true := by simp [hk]
  rw [oneE_9 hE hord hk (hrec.trans hb), if_neg (by omega)]
  cases hs : (aget (addedM pre) o.note.id).isSome with
  | false =>
   rw [hs] at hlook
   repeat' (first
    | ((with_reducible refine zu ?_); refine zc (zm rfl qd0 (zB intKey rfl rfl rfl (Zw _) rfl rfl z3 rfl (aks_ok _) (zP _) hlook hand rfl) rfl rfl rfl) qb0 ?_)
    | refine st [0] ?_
    | fail)
   exact retI rfl ⟨rfl, rfl⟩
  | true =>
   rw [hs, Bool.true_and] at hb
   rw [hs] at hlook
   have d1 : (!decide ((aget (addedM pre) o.note.id).getD 0 = o.rec_)) = true := by rw [hb]; rfl
   repeat' (first
    | ((with_reducible refine zu ?_); refine zc (zm rfl qd0 (zB intKey rfl rfl rfl (Zw _) rfl rfl z3 rfl (aks_ok _) (zP _) hlook hand rfl) rfl rfl rfl) qb0 ?_)
    | refine st [0] ?_
    | fail)
   exact retI rfl ⟨rfl, rfl⟩
 case neg =>
 have hgood : o.kind ≠ 0 → (aget (addedM pre) o.note.id).isSome = true ∧ (aget (addedM pre) o.note.id).getD 0 = o.rec_ := fun hk => by
  cases hb : ((aget (addedM pre) o.note.id).isSome && decide ((aget (addedM pre) o.note.id).getD 0 = o.rec_)) with
  | false => exact absurd ⟨hk, hb⟩ hbad
  | true => simpa using hb
 refine wa 5 [(0, .lp 2 0), (3, .fp (opC o))] (chkL pre ++ [.pin]) ?_ ?_
 ·by_cases hk : o.kind = 0
  ·have d0 : (!decide (o.kind = 0)) = false := by simp [hk]
   refine runn [0] ?_
   exact qw
  ·have d0 : (!decide (o.kind = 0)) = true := by simp [hk]
   obtain ⟨g1, g2⟩ := hgood hk
   rw [g1] at hlook
   have d1 : (!decide ((aget (addedM pre) o.note.id).getD 0 = o.rec_)) = false := by simp [g2]
   repeat' (first
    | ((with_reducible refine zu ?_); refine zc (zm rfl qd0 (zB intKey rfl rfl rfl (Zw _) rfl rfl z3 rfl (aks_ok _) (zP _) hlook hand rfl) rfl rfl rfl) qb0 ?_)
    | refine st [0] ?_
    | fail)
   exact qw
 have hone : oneE pre o = if o.over.all (overOk pre o) = true then 0 else 27 := by
  by_cases hk : o.kind = 0
  ·have h0 : o.over = [] := by
    have : wanted (decide (o.over.length = 0)) = 0 := by
     have h := hE
     unfold opE at h
     rw [if_neg (by simp [zO hE]), if_pos hk] at h
     split at h
     ·omega
     ·exact (firstE3' _ _ _ h).2.2
    unfold wanted at this
    split at this
    ·rename_i q; simpa using q
    ·omega
   rw [yA hE hord hk, h0]; rfl
  ·obtain ⟨g1, g2⟩ := hgood hk
   have hb : (match addedO pre o.note.id with | some a => decide (a.rec_ = o.rec_) | none => false) = true := hrec.trans (by rw [g1, g2]; simp)
   cases hc : o.over.all (overOk pre o) with
   | true => rw [oneE_0 hE hord hk hb hc]; rfl
   | false => rw [oneE_27 hE hord hk hb hc]; rfl
 repeat' (first
  | refine stn [0] ?_
  | ((with_reducible refine zl ?_); refine ze rfl (fun h => ?_) (fun h => ?_))
  | fail)
 refine awp_cutBP 5 (o.over.all (overOk pre o) = true) [(0, .lp 2 0), (3, .fp (opC o))] (chkL pre ++ [.pin]) ?_ ?_
 ·refine zi (α := Nat) 5 (fun k => [(0, .lp 2 0), (3, .fp (opC o)), (51, encStamps o.over), (52, vi o.over.length), (53, vi k)]) (fun _ => chkL pre ++ [.pin]) (fun k => k ≤ o.over.length ∧ o.over.all (overOk pre o) = (o.over.drop k).all (overOk pre o)) (fun k => o.over.length - k) 0
   qw ⟨Nat.zero_le _, rfl⟩ ?_
  rintro k ⟨hkl, hall⟩
  cases ht : o.over[k]? with
  | none =>
   have hge : o.over.length ≤ k := by simpa using ht
   have c1 : decide ((k : Int) < o.over.length) = false := decide_eq_false (by omega)
   rw [List.drop_of_length_le hge] at hall
   refine runn [0] ?_
   exact ⟨hall, qw⟩
  | some t =>
   have hltk : k < o.over.length := (List.getElem?_eq_some_iff.1 ht).1
   have c1 : decide ((k : Int) < o.over.length) = true := decide_eq_true (by omega)
   have g3 := Ze ht
   rw [Yh _ _ k t ht] at hall
   repeat' (first
    | refine stn [0] ?_
    | ((with_reducible refine zl ?_); refine ze rfl (fun h => ?_) (fun h => ?_))
    | fail)
   refine awp_cutB 5 [(0, .lp 2 0), (3, .fp (opC o)), (51, encStamps o.over), (52, vi o.over.length), (53, vi k), (10, vb (overOk pre o t))] (chkL pre ++ [.pin]) ?_ ?_
   ·refine zi (α := Nat) 5 (fun j => [(0, .lp 2 0), (3, .fp (opC o)), (51, encStamps o.over), (52, vi o.over.length), (53, vi k), (9, .fp (stampC t)), (57, .agg [vi 0, vi 1, vi 2]), (58, vi j), (10, vb (anyK (okF pre o t) j))]) (fun _ => chkL pre ++ [.pin]) (fun j => j ≤ 3) (fun j => 3 - j) 0
     qw (by omega) ?_
    intro j hj
    by_cases hj3 : j = 3
    ·subst hj3
     have c2 : decide (((3 : Nat) : Int) < 3) = false := rfl
     refine runn [0] ?_
     exact qw
    ·have c2 : decide ((j : Int) < 3) = true := decide_eq_true (by omega)
     have hfj := fld_get (j := j) (by omega)
     have hS := anyK_succ (okF pre o t) (j := j) (by omega)
     have hw := w_look (writesM pre) ⟨t, o.note.id, j⟩
     rw [hwr] at hw
     cases hacc : anyK (okF pre o t) j with
     | true =>
      rw [hacc, Bool.true_or] at hS
      repeat' (first
       | ((with_reducible refine zg ?_); refine zb (zE rfl rfl rfl rfl rfl rfl rfl hfj) rfl ?_)
       | ((with_reducible refine zJ ?_); refine zC 25 (by simp only [List.take_succ_cons, List.take_zero, List.take_nil]; rfl) (by simp only [List.drop_succ_cons, List.drop_zero, List.drop_nil]; rfl) (by kernel_rfl) rfl rfl rfl rfl (by repeat' (first | exact Strip.nil | apply Strip.keep rfl | apply Strip.drop rfl)) ?_)
       | refine st [0] ?_
       | fail)
      exact ⟨j + 1, ⟨(.cons rfl rfl (.cons rfl rfl (.cons rfl rfl (.cons rfl rfl (.cons rfl rfl (.cons rfl rfl (.cons rfl rfl (.cons rfl rfl (.cons rfl (by rw [hS]; rfl) .nil))))))))), rfl, rfl, rfl⟩, by omega, by omega⟩
     | false =>
      rw [hacc, Bool.false_or] at hS
      by_cases k2 : o.kind = 2
      ·have e1 : decide (o.kind = 2) = true := decide_eq_true k2
       rw [okF, e1, Bool.true_or, Bool.true_and] at hS
       repeat' (first
        | ((with_reducible refine zg ?_); refine zb (zE rfl rfl rfl rfl rfl rfl rfl hfj) rfl ?_)
        | ((with_reducible refine zu ?_); refine zc (zm rfl qd0 (zB wkKey rfl rfl rfl (wkV_R _ _ _) rfl rfl z4 rfl (WW _) (wl _) hw hwnd rfl) rfl rfl rfl) qb0 ?_)
        | ((with_reducible refine zp ?_); refine zd rfl rfl qa0 (zm rfl qd0 (zB wkKey rfl rfl rfl (wkV_R _ _ _) rfl rfl z4 rfl (WW _) (wl _) hw hwnd rfl) rfl rfl rfl) qb0 ?_)
        | ((with_reducible refine zJ ?_); refine zC 25 (by simp only [List.take_succ_cons, List.take_zero, List.take_nil]; rfl) (by simp only [List.drop_succ_cons, List.drop_zero, List.drop_nil]; rfl) (by kernel_rfl) rfl rfl rfl rfl (by repeat' (first | exact Strip.nil | apply Strip.keep rfl | apply Strip.drop rfl)) ?_)
        | refine st [0] ?_
        | fail)
       exact ⟨j + 1, ⟨(.cons rfl rfl (.cons rfl rfl (.cons rfl rfl (.cons rfl rfl (.cons rfl rfl (.cons rfl rfl (.cons rfl rfl (.cons rfl rfl (.cons rfl (by rw [hS]; rfl) .nil))))))))), rfl, rfl, rfl⟩, by omega, by omega⟩
      ·have e1 : decide (o.kind = 2) = false := decide_eq_false k2
       by_cases k3 : (j : Int) = o.set
       ·have e2 : decide ((j : Int) = o.set) = true := decide_eq_true k3
        rw [okF, e1, e2, Bool.false_or, Bool.true_and] at hS
        repeat' (first
         | ((with_reducible refine zg ?_); refine zb (zE rfl rfl rfl rfl rfl rfl rfl hfj) rfl ?_)
         | ((with_reducible refine zu ?_); refine zc (zm rfl qd0 (zB wkKey rfl rfl rfl (wkV_R _ _ _) rfl rfl z4 rfl (WW _) (wl _) hw hwnd rfl) rfl rfl rfl) qb0 ?_)
         | ((with_reducible refine zp ?_); refine zd rfl rfl qa0 (zm rfl qd0 (zB wkKey rfl rfl rfl (wkV_R _ _ _) rfl rfl z4 rfl (WW _) (wl _) hw hwnd rfl) rfl rfl rfl) qb0 ?_)
         | ((with_reducible refine zJ ?_); refine zC 25 (by simp only [List.take_succ_cons, List.take_zero, List.take_nil]; rfl) (by simp only [List.drop_succ_cons, List.drop_zero, List.drop_nil]; rfl) (by kernel_rfl) rfl rfl rfl rfl (by repeat' (first | exact Strip.nil | apply Strip.keep rfl | apply Strip.drop rfl)) ?_)
         | refine st [0] ?_
         | fail)
        exact ⟨j + 1, ⟨(.cons rfl rfl (.cons rfl rfl (.cons rfl rfl (.cons rfl rfl (.cons rfl rfl (.cons rfl rfl (.cons rfl rfl (.cons rfl rfl (.cons rfl (by rw [hS]; rfl) .nil))))))))), rfl, rfl, rfl⟩, by omega, by omega⟩
       ·have e2 : decide ((j : Int) = o.set) = false := decide_eq_false k3
        rw [okF, e1, e2, Bool.false_or, Bool.false_and] at hS
        repeat' (first
         | ((with_reducible refine zg ?_); refine zb (zE rfl rfl rfl rfl rfl rfl rfl hfj) rfl ?_)
         | ((with_reducible refine zJ ?_); refine zC 25 (by simp only [List.take_succ_cons, List.take_zero, List.take_nil]; rfl) (by simp only [List.drop_succ_cons, List.drop_zero, List.drop_nil]; rfl) (by kernel_rfl) rfl rfl rfl rfl (by repeat' (first | exact Strip.nil | apply Strip.keep rfl | apply Strip.drop rfl)) ?_)
         | refine st [0] ?_
         | fail)
        exact ⟨j + 1, ⟨(.cons rfl rfl (.cons rfl rfl (.cons rfl rfl (.cons rfl rfl (.cons rfl rfl (.cons rfl rfl (.cons rfl rfl (.cons rfl rfl (.cons rfl (by rw [hS]; rfl) .nil))))))))), rfl, rfl, rfl⟩, by omega, by omega⟩
   ·cases hov : overOk pre o t with
    | true =>
     rw [hov, Bool.true_and] at hall
     refine runn [0] ?_
     exact ⟨k + 1, qw, ⟨by omega, hall⟩, by omega⟩
    | false =>
     rw [hov, Bool.false_and] at hall
     rw [hone, if_neg (by rw [hall]; simp), if_neg (by omega)]
     refine runn [0] ?_
     exact retI rfl ⟨rfl, rfl⟩
 intro hall
 rw [hone, if_pos hall, if_pos rfl]
 refine runn [0] ?_
 refine wa 5 [(0, .lp 2 0), (3, .fp (opC o))] [.map (aks (addedM (pre ++ [o]))) (axs (addedM (pre ++ [o]))), .map (wks (writesM pre)) (wxs (writesM pre)), .box [.mp 0, .mp 1, vi o.at_.count, vi o.at_.dev], .dead, .pin] ?_ ?_
 ·rw [Wp, addM]
  by_cases hk : o.kind = 0
  ·have d0 : decide (o.kind = 0) = true := decide_eq_true hk
   rw [if_pos hk]
   have hput := a_put (addedM pre) o.note.id o.rec_
   repeat' (first
    | ((with_reducible refine zg ?_); refine Zk (qP (L' := [.map (aks (aput (addedM pre) o.note.id o.rec_)) (axs (aput (addedM pre) o.note.id o.rec_)), .map (wks (writesM pre)) (wxs (writesM pre)), .box [.mp 0, .mp 1, vi o.at_.count, vi o.at_.dev], .dead, .pin]) intKey rfl rfl rfl (Zw _) rfl rfl rfl rfl (aks_ok _) (zP _) hput hand rfl) ?_)
    | ((with_reducible refine zJ ?_); refine zC 9 (by simp only [List.take_succ_cons, List.take_zero, List.take_nil]; rfl) (by simp only [List.drop_succ_cons, List.drop_zero, List.drop_nil]; rfl) (by kernel_rfl) rfl rfl rfl rfl (by repeat' (first | exact Strip.nil | apply Strip.keep rfl | apply Strip.drop rfl)) ?_)
    | refine st [0] ?_
    | fail)
   exact qw
  ·have d0 : decide (o.kind = 0) = false := decide_eq_false hk
   rw [if_neg hk]
   refine runn [0] ?_
   exact qw
 generalize hA : addedM (pre ++ [o]) = A at *
 repeat' (first
  | refine stn [0] ?_
  | ((with_reducible refine zl ?_); refine ze rfl (fun h => ?_) (fun h => ?_))
  | fail)
 refine zi (α := Nat) 5 (fun j => [(0, .lp 2 0), (3, .fp (opC o)), (107, .agg [vi 0, vi 1, vi 2]), (108, vi j)]) (fun j => [.map (aks A) (axs A), .map (wks (wrK o (writesM pre) j)) (wxs (wrK o (writesM pre) j)), .box [.mp 0, .mp 1, vi o.at_.count, vi o.at_.dev], .dead, .pin]) (fun j => j ≤ 3) (fun j => 3 - j) 0
  qw (by omega) ?_
 intro j hj
 by_cases hj3 : j = 3
 ·subst hj3
  have c2 : decide (((3 : Nat) : Int) < 3) = false := rfl
  refine runn [0] ?_
  refine retI rfl ⟨rfl, ?_⟩
  simp only [chkL, hA, writesM_snoc, lastS_snoc]; rfl
 ·have c2 : decide ((j : Int) < 3) = true := decide_eq_true (by omega)
  have hfj := fld_get (j := j) (by omega)
  have hW := Wq (g := GL) o o.note.id j
  have hS := wr_upd (o := o) (m := writesM pre) (j := j) (by omega)
  have hnd2 := wks_nd (wrK_nd (o := o) (WT pre) j)
  cases hw : writes o o.note.id j with
  | false =>
   rw [hw] at hW hS
   rw [if_neg (by simp)] at hS
   repeat' (first
    | ((with_reducible refine zg ?_); refine zb (zE rfl rfl rfl rfl rfl rfl rfl hfj) rfl ?_)
    | refine stn [0] ?_
    | fail)
   exact ⟨j + 1, ⟨(.cons rfl rfl (.cons rfl rfl (.cons rfl rfl (.cons rfl rfl .nil)))), by rw [hS]; rfl, rfl, rfl⟩, by omega, by omega⟩
  | true =>
   rw [hw] at hW hS
   rw [if_pos rfl] at hS
   have hput := w_put (wrK o (writesM pre) j) ⟨o.at_, o.note.id, j⟩
   rw [← hS] at hput
   repeat' (first
    | ((with_reducible refine zg ?_); (first | refine zb (zE rfl rfl rfl rfl rfl rfl rfl hfj) rfl ?_ | refine Zk (qP (L' := [.map (aks A) (axs A), .map (wks (wrK o (writesM pre) (j + 1))) (wxs (wrK o (writesM pre) (j + 1))), .box [.mp 0, .mp 1, vi o.at_.count, vi o.at_.dev], .dead, .pin]) wkKey rfl rfl rfl (wkV_R _ _ _) rfl rfl rfl rfl (WW _) (wl _) hput hnd2 rfl) ?_))
    | ((with_reducible refine zJ ?_); refine zC 11 (by simp only [List.take_succ_cons, List.take_zero, List.take_nil]; rfl) (by simp only [List.drop_succ_cons, List.drop_zero, List.drop_nil]; rfl) (by kernel_rfl) rfl rfl rfl rfl (by repeat' (first | exact Strip.nil | apply Strip.keep rfl | apply Strip.drop rfl)) ?_)
    | refine st [0] ?_
    | fail)
   exact ⟨j + 1, qw, by omega, by omega⟩
end
section
open Go.Ac Go.MapKept
attribute [local irreducible] awp awpL Ev Ev2 EvS thenQ blockQ retQ PCalls OCalls YieldOk IterC ICalls
theorem Yn {g : List (Nat × List AV)} : PCalls Tryz.prog g 30 [nilS, nilS] (encIs (seenL [])) := by
 have := (Join_nn (g := g)).toP
 rw [List.length_map] at this
 exact this
theorem SeeP {g : List (Nat × List AV)} (v : List Int) (s : Stamp) (hv : v.length ≤ 1000000) : PCalls Tryz.prog g 34 [encIs v, .agg (stampC s)] (encIs (see v s)) := by
 have := (See_spec (g := g) v s hv).toP
 rw [List.length_map] at this
 exact this
set_option maxRecDepth 4000 in
set_option maxHeartbeats 4000000 in
theorem Yo (r : Replica) (hs : r.seen.length ≤ 1000000) (hid : Ids r.ops) : PCalls Tryz.prog GL 35 [.agg (repC r)] (vi (repE r)) := by
 refine pcalls' Tryz.func35 Tryz.ntmps35 rfl rfl rfl ?_
 have n1 : (!true) = false := rfl
 have n2 : (!false) = true := rfl
 by_cases h1 : r.dev < 1
 ·have c1 : decide (r.dev < 1) = true := decide_eq_true h1
  refine runn [3] ?_
  refine retP rfl ?_
  rw [repE, if_pos (by simp [within]; omega)]; rfl
 have c1 : decide (r.dev < 1) = false := decide_eq_false h1
 by_cases h2 : 15 < r.dev
 ·have c2 : decide (15 < r.dev) = true := decide_eq_true h2
  refine runn [3] ?_
  refine retP rfl ?_
  rw [repE, if_pos (by simp [within]; omega)]; rfl
 have c2 : decide (15 < r.dev) = false := decide_eq_false h2
 have hw : ¬ within r.dev 1 15 = false := by simp [within]; omega
 by_cases h4 : 400 < r.ops.length
 ·have c3 : decide ((400 : Int) < r.ops.length) = true := decide_eq_true (by omega)
  refine runn [3] ?_
  refine retP rfl ?_
  rw [repE, if_neg hw, if_pos h4]; rfl
 have c3 : decide ((400 : Int) < r.ops.length) = false := decide_eq_false (by omega)
 have hE : repE r = if allE [] r.ops ≠ 0 then allE [] r.ops else if r.seen ≠ seenL r.ops then 1 else 0 := by rw [repE, if_neg hw, if_neg h4]
 rw [hE]
 have hJ := Yn (g := GL)
 repeat' (first
  | ((with_reducible refine zg ?_); refine zk (jx qf0 qc0) rfl ?_)
  | refine stn [3] ?_
  | ((with_reducible refine zl ?_); refine ze rfl (fun h => ?_) (fun h => ?_))
  | fail)
 refine zi (α := Nat) 3 (fun k => [(1, .fp (repC r)), (3, .lp 2 0), (4, encIs (seenL (r.ops.take k))), (25, encOps r.ops), (26, vi r.ops.length), (27, vi k)])
  (fun k => [.map (aks (addedM (r.ops.take k))) (axs (addedM (r.ops.take k))), .map (wks (writesM (r.ops.take k))) (wxs (writesM (r.ops.take k))), .box [.mp 0, .mp 1, vi (lastS (r.ops.take k)).count, vi (lastS (r.ops.take k)).dev]])
  (fun k => k ≤ r.ops.length ∧ allE [] r.ops = allE (r.ops.take k) (r.ops.drop k) ∧ Good (r.ops.take k)) (fun k => r.ops.length - k) 0
  qw ⟨Nat.zero_le _, rfl, Good.nil⟩ ?_
 rintro k ⟨hk, hf, hg⟩
 cases ht : r.ops[k]? with
 | none =>
  have hge : r.ops.length ≤ k := by simpa using ht
  have c4 : decide ((k : Int) < r.ops.length) = false := decide_eq_false (by omega)
  rw [List.drop_of_length_le hge, allE_nil] at hf
  have hQ := eqInts_spec (g := GL) r.seen (seenL (r.ops.take k)) hs (by rw [Zf]; omega)
  rw [hf, if_neg (by simp)]
  have hte : r.ops.take k = r.ops := List.take_of_length_le hge
  by_cases he : r.seen = seenL r.ops
  ·have he2 : decide (r.seen = seenL (r.ops.take k)) = true := by rw [hte]; exact decide_eq_true he
   rw [he2] at hQ
   rw [if_neg (by simpa using he)]
   refine runn [3] ?_
   exact retP rfl rfl
  ·have he2 : decide (r.seen = seenL (r.ops.take k)) = false := by rw [hte]; exact decide_eq_false he
   rw [he2] at hQ
   rw [if_pos he]
   refine runn [3] ?_
   exact retP rfl rfl
 | some o =>
  have hlt : k < r.ops.length := (List.getElem?_eq_some_iff.1 ht).1
  have c4 : decide ((k : Int) < r.ops.length) = true := decide_eq_true (by omega)
  have g1 := Za ht
  have hO := one_spec (r.ops.take k) o hg (hid o (List.mem_of_getElem? ht))
  have hS := SeeP (g := GL) (seenL (r.ops.take k)) o.at_ (by rw [Zf]; omega)
  rw [drop_get ht] at hf
  by_cases he : oneE (r.ops.take k) o = 0
  ·have c5 : (!decide (oneE (r.ops.take k) o = 0)) = false := by simp [he]
   rw [allE_ok he, ← Qr ht] at hf
   rw [if_pos he, ← Qr ht] at hO
   rw [← qR, ← Qr ht] at hS
   repeat' (first
    | ((with_reducible refine zg ?_); refine zv rfl hO rfl ?_)
    | refine stn [3] ?_
    | fail)
   exact ⟨k + 1, qw, ⟨by omega, hf, by rw [Qr ht]; exact hg.snoc he⟩, by omega⟩
  ·have c5 : (!decide (oneE (r.ops.take k) o = 0)) = true := by simp [he]
   rw [allE_bad he] at hf
   rw [if_neg he] at hO
   repeat' (first
    | ((with_reducible refine zg ?_); refine zv rfl hO rfl ?_)
    | refine stn [3] ?_
    | fail)
   refine retP rfl ?_
   rw [hf, if_pos he]; rfl
end
section
open Go.Ac Go.MapKept
attribute [local irreducible] awp awpL Ev Ev2 EvS thenQ blockQ retQ PCalls OCalls YieldOk IterC ICalls
variable {g : List (Nat × List AV)}
end
section
open Go.Ac Go.MapKept
attribute [local irreducible] awp awpL Ev Ev2 EvS thenQ blockQ retQ PCalls OCalls YieldOk IterC ICalls
variable {g : List (Nat × List AV)}
def half (a b : Replica) : Bool := b.ops.all fun o => !(covers a.seen o.at_ && !has a.ops o)
end
section
open Go.Ac Go.MapKept
attribute [local irreducible] awp awpL Ev Ev2 EvS thenQ blockQ retQ PCalls OCalls YieldOk IterC ICalls
variable {g : List (Nat × List AV)}
def mergeV (p : Replica × Int) : AV := .tup [.agg (repC p.1), vi p.2]
abbrev zeroRepC : List AV := [vi 0, nilS, nilS]
theorem yN : LeA zeroRepC (repC zeroRep) := .cons (Le.rfl' _) (.cons (Le.nil 1) (.cons (Le.nil 15) .nil))
theorem jr (e : Int) : Le (.tup [.agg zeroRepC, vi e]) (mergeV (zeroRep, e)) := Le.tup (.cons (Le.agg yN) (.cons (Le.rfl' _) .nil))
structure FitM (a b : List Op) : Prop where
 len : a.length + b.length ≤ 1000
 ov : ∀ o, o ∈ a ∨ o ∈ b → o.over.length ≤ 100000
 id : ∀ o, o ∈ a ∨ o ∈ b → I64 o.note.id
theorem FitM.fit {a b : List Op} (h : FitM a b) {m : List Op} (hl : m.length ≤ a.length + b.length) (hm : ∀ o ∈ m, o ∈ a ∨ o ∈ b) : Fit m := ⟨by have := h.len; omega, fun o ho => h.ov o (hm o ho)⟩
theorem FitM.ids {a b : List Op} (h : FitM a b) {m : List Op} (hm : ∀ o ∈ m, o ∈ a ∨ o ∈ b) : Ids m := fun o ho => h.id o (hm o ho)
def syncV (p : Replica × Replica × Int) : AV := .tup [.agg (repC p.1), .agg (repC p.2.1), vi p.2.2]
end
end Go.Proofs.YtcfkokllinkigaaGreatDoor
