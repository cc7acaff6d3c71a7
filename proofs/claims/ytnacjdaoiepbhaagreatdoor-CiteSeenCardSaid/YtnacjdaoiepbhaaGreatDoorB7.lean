/- A logic of trees over the model's steps, and the contracts of the functions that the laws reach: part 7 of 19. -/
import Derived.Test.YtnacjdaoiepbhaaGreatDoorB6
import Derived.Maps.RangeRun
import Derived.Shelf.SlSortCmp.WholeK
import Derived.Shelf.SlSortCmp.NoneTotal
import Derived.Shelf.SlGeneric
import Derived.Lib.SliceRun
import Derived.Laws.CopyRow
set_option linter.unusedVariables false
set_option linter.unusedSimpArgs false
set_option linter.unusedSectionVars false
section
namespace Go.Ac
open Go.MapKept Go.ChangeMaps
section
variable {P : Program} {td : TDs} [T : TOK P td] {G : Glo} {N : Nat} {Q : AQ} {S : SL} {L : List LB} {ops : Array Oper} {rest : List Oper}
  {op : Op} {ty : TypeId} {pos : String} {af : Array Edge} {d : Nat} {x : AV}
theorem births_nodup {clock : Nat} {es : List MapEntry} (h : Births clock es) : (es.map (·.born)).Nodup := by
  rw [List.nodup_iff_pairwise_ne, List.pairwise_map]
  exact h.1.imp fun g e => by omega
theorem awpL_bare {km : Nat} {ks : List Value} {xs : List AV} {l : List Oper} (hm : L[km]? = some (.map ks xs))
    (kk : ∀ (m ck : Nat) (bs : List Nat), bs.Nodup → bs.length = xs.length → ks.length = xs.length → awpL P G N ops l Q S (L.set km (.mapb m ck bs ks xs))) : awpL P G N ops l Q S L := by
  intro cx a hc
  have hb := hc.st.blk _ _ hm
  simp only [BR] at hb
  obtain ⟨h0, b, es, clock, h1, h2, h3, h4⟩ := hb
  obtain ⟨p1, p2, p3⟩ := h4.get
  have hst := hc.st.wr (k := km) (b := b) (w' := cx.w) h1 rfl rfl rfl rfl (fun _ _ => rfl) (fun arr T h => ⟨arr, h, rfl⟩) (by rw [hm]; simp) (x := .mapb b clock (es.toList.map (·.born)) ks xs)
    (fun _ => by simp only [BR]; exact ⟨h0, h1, es, h2, h3, rfl, h4⟩)
  exact wpListIn_mono (fun e a w q => q.trans hst.ext) _ _ _ (kk b clock _ (births_nodup h3) (by rw [List.length_map, p2]) (by rw [p1, List.length_map, p2]) cx a (hst.cn hc))
theorem mapb_R {cx : Cx} (st : St G cx L) {km m ck : Nat} {bs : List Nat} {ks : List Value} {xs : List AV} (hm : L[km]? = some (.mapb m ck bs ks xs)) :
    cx.ver km = 0 ∧ cx.φ km = some m ∧ ∃ es, cx.w.heap[m]? = some (.map es ck) ∧ Births ck es.toList ∧ es.toList.map (·.born) = bs ∧ PF cx.F cx.w ks xs es.toList := by
  have hb := st.blk _ _ hm
  simpa only [BR] using hb
theorem ev_range_mapb {t kt e km m ck k : Nat} {dd : TD} {u : Operand} {bs : List Nat} {ks : List Value} {xs : List AV} {L' : List LB} (h : val G S u = some (.mp km)) (hm : L[km]? = some (.mapb m ck bs ks xs)) (ht : lk td t = some dd) (hs : dd.k = .map kt e)
    (hk : L.length = k) (hL : L ++ [.obj (.mapIter (some m) ck #[] ck)] = L') : Ev2 P G N (.range t u) ty S L (.lp k 0) L' := by
  subst hk hL
  intro o ho _ cx a hc
  have e1 := val_R hc h
  obtain ⟨h0, h1, es, h2, h3, h5, h4⟩ := mapb_R hc.st hm
  simp only [R] at e1
  obtain ⟨hd, _, hx⟩ := e1
  obtain ⟨b, g1, e1⟩ := hx h0
  rw [h1] at g1; injection g1 with g1; subst g1
  have A := Alloc.alloc cx.w (.mapIter (some m) ck #[] ck)
  have hb : BR G (cx.new L.length (cx.w.alloc (.mapIter (some m) ck #[] ck)) 0 0) L.length (.obj (.mapIter (some m) ck #[] ck)) := by
    simp only [BR]
    exact ⟨by simp [Cx.new], cx.w.heap.size, by simp [Cx.new], A.new⟩
  refine ⟨.pointer (some ⟨cx.w.heap.size, 0, none⟩), cx.new L.length (cx.w.alloc (.mapIter (some m) ck #[] ck)) 0 0, ?_, ?_, hc.st.new A 0 0 hb⟩
  · have q1 := map_desc (P := P) ht hs
    have hg : (getObj m).run P cx.w = .ok (.map es ck) cx.w := by simp [getObj, Sem.run, h2]
    simp [execOp, ho, e1, Instr.range, run_underlying q1, Result.andThen, hg, run_newObj, Cx.new]
  · simp only [R]; exact ⟨by simp [Cx.new], rfl, fun _ => ⟨cx.w.heap.size, by simp [Cx.new], rfl⟩⟩
theorem awpL_nextM {u : Operand} {k km m ck : Nat} {bs seen : List Nat} {ks : List Value} {xs : List AV} (h : val G S u = some (.lp k 0)) (hk : L[k]? = some (.obj (.mapIter (some m) ck seen.toArray ck))) (km' : Nat) (hkm : km' = km) (hm : L[km]? = some (.mapb m ck bs ks xs)) (hd : Nat.blt d N = true)
    (hT : ∀ (i b : Nat) (x : AV), bs[i]? = some b → b ∉ seen → xs[i]? = some x → awpL P G N ops rest Q ((d, .tup [.v (.bool true), .any, x]) :: S) (L.set k (.obj (.mapIter (some m) ck (seen ++ [b]).toArray ck))))
    (hF : (∀ b ∈ bs, b ∈ seen) → awpL P G N ops rest Q ((d, .tup [.v (.bool false)]) :: S) L) :
    awpL P G N ops (⟨some d, .next u false, ty, pos, af, none⟩ :: rest) Q S L := by
  intro cx a hc
  obtain ⟨bi, e1, h1, h2, h3⟩ := iter_R hc h hk
  obtain ⟨g0, g1, es, g2, g3, g5, g4⟩ := mapb_R hc.st hm
  obtain ⟨p1, p2, p3⟩ := g4.get
  have hne : bi ≠ m := fun e => by rw [e, g2] at h3; cases h3
  refine wpListIn_plain rfl fun K hK => wpIn_of_run rfl ?_
  rcases run_next_at (P := P) cx.w ty bi m ck ck seen.toArray es ck h3 g2 (fun x hx => g3.2 x hx) (Nat.le_refl _) with ⟨hz, hr⟩ | ⟨e, he, w1, hw1, hr⟩
  · have hrun : (execOp a.eval ⟨some d, .next u false, ty, pos, af, none⟩).run P cx.w = .ok (.value (.tuple #[.bool false])) cx.w := by simp [execOp, e1, hr, Result.andThen]
    rw [hrun, Oper.uponIn_value]
    refine hK _ _ (hF (fun b hb => ?_) cx _ (hc.put hd (by simp only [R]; exact ⟨_, rfl, by simp only [TR, R]; exact ⟨_, _, rfl, rfl, rfl⟩⟩)))
    rw [← g5] at hb
    obtain ⟨x, hx, rfl⟩ := List.mem_map.1 hb
    have : (leftOf es seen.toArray) = #[] := Array.eq_empty_of_size_eq_zero hz
    unfold leftOf at this
    rw [Array.filter_eq_empty_iff] at this
    have := this x (by simpa using hx)
    simpa using this
  · have hrun : (execOp a.eval ⟨some d, .next u false, ty, pos, af, none⟩).run P cx.w = .ok (.value (.tuple #[.bool true, e.key, e.val])) (setBlock w1 bi (.mapIter (some m) ck (seen ++ [e.born]).toArray ck)) := by
      rw [show (seen ++ [e.born]).toArray = seen.toArray.push e.born by simp]
      simp [execOp, e1, hr, Result.andThen]
    rw [hrun, Oper.uponIn_value]
    have hlt : bi < cx.w.heap.size := (hc.st.loc k bi h1).2.2
    have hheap : w1.heap = cx.w.heap ∧ w1.os = cx.w.os ∧ w1.tape = cx.w.tape ∧ w1.output = cx.w.output := by rcases hw1 with rfl | rfl <;> exact ⟨rfl, rfl, rfl, rfl⟩
    obtain ⟨q1, q2, q3, q4⟩ := hheap
    have hst := hc.st.wr (k := k) (b := bi) (w' := setBlock w1 bi (.mapIter (some m) ck (seen ++ [e.born]).toArray ck)) h1 q2 q3 q4 (by simp [setBlock, q1]) (fun b' h => by simp [setBlock, q1, Ne.symm h]) (fun arr T h => by rw [h3] at h; cases h) (by rw [hk]; simp) (x := .obj (.mapIter (some m) ck (seen ++ [e.born]).toArray ck))
      (fun _ => by simp only [BR]; exact ⟨h2, bi, h1, by simp [setBlock, q1, hlt]⟩)
    unfold leftOf at he
    simp only [Array.toList_filter, List.mem_filter] at he
    obtain ⟨hem, hes⟩ := he
    obtain ⟨i, hi⟩ := List.getElem?_of_mem hem
    obtain ⟨x, hx, hrx⟩ := p3 i e hi
    refine hK _ _ (wpListIn_mono (fun e a w q => q.trans hst.ext) _ _ _ (hT i e.born x (by rw [← g5, List.getElem?_map, hi]; rfl) (by simpa using hes) hx _ _ ((hst.cn hc).put hd ?_)))
    simp only [R]
    refine ⟨_, rfl, ?_⟩
    simp only [TR, R]
    refine ⟨_, _, rfl, rfl, _, _, rfl, trivial, _, _, rfl, ?_, rfl⟩
    have hrx' := RF.mono hst.sub.F hst.sub.heap x e.val hrx
    exact R.of_RF _ _ _ hrx'
end
end Go.Ac
namespace Go.Ac
open Go.MapKept Go.ChangeMaps
section
variable {P : Program} {td : TDs} [T : TOK P td] {G : Glo} {N : Nat} {Q : AQ} {S : SL} {L : List LB} {ty : TypeId}
theorem ev_entry {u : Operand} {k km m ck i b : Nat} {bs seen : List Nat} {ks : List Value} {xs : List AV} {x : AV} (h : val G S u = some (.lp k 0)) (hk : L[k]? = some (.obj (.mapIter (some m) ck (seen ++ [b]).toArray ck))) (km' : Nat) (hkm : km' = km) (hm : L[km]? = some (.mapb m ck bs ks xs))
    (hn : bs.Nodup) (hb : bs[i]? = some b) (hx : xs[i]? = some x) : Ev P G N (.entry u) ty S L (.tup [.any, x]) := by
  intro o ho _ cx a hc
  obtain ⟨bi, e1, h1, h2, h3⟩ := iter_R hc h hk
  obtain ⟨g0, g1, es, g2, g3, g5, g4⟩ := mapb_R hc.st hm
  obtain ⟨p1, p2, p3⟩ := g4.get
  rw [← g5, List.getElem?_map] at hb
  cases he : es.toList[i]? with
  | none => rw [he] at hb; cases hb
  | some e =>
    rw [he] at hb
    have hb : e.born = b := by simpa using hb
    obtain ⟨y, hy, hry⟩ := p3 i e he
    rw [hx] at hy; cases hy
    have hr := run_entry_at (P := P) cx.w bi m ck seen.toArray es ck e (by rw [h3, ← hb]; simp) g2 (List.mem_of_getElem? he) (by rw [g5]; exact hn)
    refine ⟨.tuple #[e.key, e.val], by simp [execOp, ho, e1, hr, Result.andThen], ?_⟩
    simp only [R]
    refine ⟨_, rfl, ?_⟩
    simp only [TR, R]
    exact ⟨_, _, rfl, trivial, _, _, rfl, R.of_RF _ _ _ hry, rfl⟩
end
end Go.Ac
namespace Go.Ac
section
variable {P : Program} {td : TDs} [T : TOK P td] {G : Glo} {N : Nat} {Q : AQ} {S : SL} {L L' : List LB} {ops : Array Oper} {rest : List Oper}
  {op : Op} {ty : TypeId} {pos : String} {af : Array Edge} {x : AV}
theorem awpL_ev2n (h : Ev2 P G N op ty S L x L') (k : awpL P G N ops rest Q S L') (hnd : nd op = true := by rfl) :
    awpL P G N ops (⟨none, op, ty, pos, af, none⟩ :: rest) Q S L := by
  intro cx a hc
  obtain ⟨y, cx', hr, hx, hst⟩ := h ⟨none, op, ty, pos, af, none⟩ rfl rfl cx a hc
  refine wpListIn_plain rfl fun K hK => wpIn_of_run hnd ?_
  rw [hr, Oper.uponIn_value]
  refine hK _ _ (wpListIn_mono (fun e a w q => q.trans hst.ext) _ _ _ (k cx' _ ?_))
  have := hst.cn hc
  exact ⟨this.st, this.de, by simpa [Act.put] using this.sz, by simpa [Act.put] using this.sr⟩
end
def seenOf (bs ord : List Nat) : List Nat := ord.map fun i => (bs[i]?).getD 0
theorem seenOf_snoc {bs ord : List Nat} {i b : Nat} (hb : bs[i]? = some b) : seenOf bs (ord ++ [i]) = seenOf bs ord ++ [b] := by simp [seenOf, hb]
theorem seenOf_new {bs ord : List Nat} {i b : Nat} (hb : bs[i]? = some b) (h : b ∉ seenOf bs ord) : i ∉ ord := fun hi => h (List.mem_map.2 ⟨i, hi, by rw [hb]; rfl⟩)
theorem seenOf_all {bs ord : List Nat} (hn : bs.Nodup) (hlt : ∀ j ∈ ord, j < bs.length) (h : ∀ b ∈ bs, b ∈ seenOf bs ord) : ∀ i, i < bs.length → i ∈ ord := by
  intro i hi
  obtain ⟨j, hj, e⟩ := List.mem_map.1 (h bs[i] (List.getElem_mem hi))
  have hjl := hlt j hj
  rw [List.getElem?_eq_getElem hjl] at e
  have : j = i := nodup_idx hn (x := bs[i]) (by rw [List.getElem?_eq_getElem hjl]; exact congrArg some e) (List.getElem?_eq_getElem hi)
  exact this ▸ hj
structure Ord (n : Nat) (ord : List Nat) : Prop where
  nd : ord.Nodup
  lt : ∀ i ∈ ord, i < n
theorem Ord.nil (n : Nat) : Ord n [] := ⟨List.nodup_nil, fun _ h => by cases h⟩
theorem Ord.snoc {n : Nat} {ord : List Nat} (h : Ord n ord) {i : Nat} (hi : i < n) (hn : i ∉ ord) : Ord n (ord ++ [i]) :=
  ⟨List.nodup_append.2 ⟨h.nd, by simp, fun a ha b hb e => by simp only [List.mem_singleton] at hb; subst hb e; exact hn ha⟩, fun j hj => by
    rcases List.mem_append.1 hj with g | g
    · exact h.lt j g
    · simp only [List.mem_singleton] at g; omega⟩
theorem Ord.len {n : Nat} : ∀ {ord : List Nat}, Ord n ord → ord.length ≤ n := by
  induction n with
  | zero =>
    intro ord h
    cases ord with
    | nil => exact Nat.le_refl _
    | cons i r => exact absurd (h.lt i (List.mem_cons_self ..)) (by omega)
  | succ n ih =>
    intro ord h
    have h2 : Ord n (ord.filter (· ≠ n)) := ⟨h.nd.sublist List.filter_sublist, fun i hi => by
      obtain ⟨h1, h2⟩ := List.mem_filter.1 hi
      have := h.lt i h1
      have h2 : i ≠ n := by simpa using h2
      omega⟩
    have h3 := ih h2
    have : ord.length ≤ (ord.filter (· ≠ n)).length + 1 := by
      have hc : ord.count n ≤ 1 := List.nodup_iff_count.1 h.nd n
      have he := List.length_eq_countP_add_countP (p := fun i => decide (i ≠ n)) (l := ord)
      rw [← List.countP_eq_length_filter, he]
      have : ord.countP (fun i => decide ¬(decide (i ≠ n) = true)) = ord.count n := by
        unfold List.count
        exact List.countP_congr fun i _ => by simp
      omega
    omega
theorem Ord.perm {n : Nat} {ord : List Nat} (h : Ord n ord) (hall : ∀ i, i < n → i ∈ ord) : ord.Perm (List.range n) :=
  (List.perm_ext_iff_of_nodup h.nd List.nodup_range).2 fun i => by rw [List.mem_range]; exact ⟨h.lt i, hall i⟩
theorem range_get {α : Type} (l : List α) (d : α) : (List.range l.length).map (fun i => (l[i]?).getD d) = l := by
  apply List.ext_getElem?
  intro i
  rw [List.getElem?_map]
  rcases Nat.lt_or_ge i l.length with h | h
  · rw [List.getElem?_range h]; simp [List.getElem?_eq_getElem h]
  · rw [List.getElem?_eq_none (by simpa using h), List.getElem?_eq_none h]; rfl
def come {α : Type} [Inhabited α] (l : List α) (ord : List Nat) : List α := ord.map fun i => (l[i]?).getD default
theorem come_snoc {α : Type} [Inhabited α] {l : List α} {ord : List Nat} {i : Nat} {x : α} (h : l[i]? = some x) : come l (ord ++ [i]) = come l ord ++ [x] := by simp [come, h]
theorem come_perm {α : Type} [Inhabited α] {l : List α} {ord : List Nat} (h : Ord l.length ord) (hall : ∀ i, i < l.length → i ∈ ord) : (come l ord).Perm l := by
  have h1 := (h.perm hall).map fun i => (l[i]?).getD default
  rw [range_get] at h1
  exact h1
end Go.Ac
end
section
namespace Go.Ac
open Go.Sort (PermIn SortedIn HoldsK putRowK flatK putRowK_grow size_flatK get_flatK)
open Go.Proofs (sortWorldK)
theorem set_same {L : List LB} {k : Nat} {x : LB} (h : L[k]? = some x) : L.set k x = L := by
  apply List.ext_getElem?
  intro i
  rw [List.getElem?_set]
  by_cases e : k = i
  · subst e
    have := lt_of_get h
    rw [if_pos rfl, if_pos this, h]
  · rw [if_neg e]
section
variable {P : Program} {td : TDs} [T : TOK P td] {G : Glo} {N : Nat} {Q : AQ} {S : SL} {L : List LB} {ops : Array Oper} {rest : List Oper}
  {ty : TypeId} {pos : String} {af : Array Edge} {dd : Nat}
theorem ext_grow (F : Nat → Prop) (w : World) (hF : ∀ b, F b → b < w.heap.size) (n : Nat) (os : Array Obj) : Ext (Cx.bare F w) (Cx.bare F (Go.Sort.grow (Go.Sort.ahead w n) os)) := by
  have hk : ∀ b, b < w.heap.size → (Go.Sort.grow (Go.Sort.ahead w n) os).heap[b]? = w.heap[b]? := fun b hb => by simp [Go.Sort.grow, Go.Sort.ahead, Array.getElem?_append_left hb]
  refine ⟨rfl, rfl, rfl, by simp [Cx.bare, Go.Sort.grow, Go.Sort.ahead], fun b h => .inl h, fun b ⟨j, h⟩ => by simp [Cx.bare] at h, fun b h => h.elim, fun r h => by simp [Cx.bare] at h, fun b h1 _ _ => hk b h1, rfl, ?_⟩
  exact ⟨fun b h => h, fun b h => hk b (hF b h), fun k h => h.elim, fun k h => h.elim, fun k h => h.elim, fun k h => h.elim, fun k h => h.elim, fun k b arr T h => h.elim⟩
theorem flat_get {α : Type} [Inhabited α] {enc : α → List Value} {sz : Nat} (hlen : ∀ x, (enc x).length = sz) (d : Array α) {i c : Nat} {x : α} {y : Value} (hx : d.toList[i]? = some x) (hy : (enc x)[c]? = some y) : i * sz + c < d.size * sz ∧ (flatK enc sz d)[i * sz + c]! = y := by
  have hi : i < d.size := by have := (List.getElem?_eq_some_iff.1 hx).1; simpa using this
  have hc : c < sz := by have := (List.getElem?_eq_some_iff.1 hy).1; rwa [hlen] at this
  have hlt : i * sz + c < d.size * sz := by
    have := Nat.mul_le_mul_right sz (show i + 1 ≤ d.size from hi)
    rw [Nat.add_mul, Nat.one_mul] at this; omega
  refine ⟨hlt, ?_⟩
  have e1 : (i * sz + c) / sz = i := by rw [Nat.mul_comm, Nat.mul_add_div (by omega), Nat.div_eq_of_lt hc]; rfl
  have e2 : (i * sz + c) % sz = c := by rw [Nat.mul_comm, Nat.mul_add_mod, Nat.mod_eq_of_lt hc]
  rw [get_flatK _ _ _ _ hlt, e1, e2]
  have : d[i]! = x := by
    obtain ⟨h1, h2⟩ := List.getElem?_eq_some_iff.1 hx
    rw [getElem!_pos d i hi, ← h2]; simp
  rw [this]
  obtain ⟨h1, h2⟩ := List.getElem?_eq_some_iff.1 hy
  rw [getElem!_pos _ c h1, h2]
theorem awpL_sort {α : Type} [Inhabited α] {f g : FuncId} {us : Array Operand} {ats : Array TypeId} {enc : α → List Value} {sz E k v : Nat} {d : List α} {lt : α → α → Bool}
    (hargs : vals G S us.toList = some [.os k v, .fn g [] []]) (hk : L[k]? = some (.own v E sz (d.map fun x => (enc x).map .v))) (hlen : ∀ x, (enc x).length = sz) (h1 : ∀ x, ∀ y ∈ enc x, y.oneCell' = true) (hC : Callable P f)
    (hS : ∀ (blk cap : Nat) (w : World), HoldsK enc sz w blk 0 d.toArray → blk < w.heap.size → Calls P f #[.slice (some ⟨blk, 0, none⟩) d.toArray.size cap, .func (.func g) #[] #[]] w fun e w' => e = .returned (.tuple #[]) ∧ ∃ d' n os, PermIn 0 d.toArray.size d.toArray d' ∧ SortedIn lt 0 d.toArray.size d' ∧ w' = sortWorldK enc sz w blk 0 n d' os)
    (hN : d = [] → ∀ w, Calls P f #[.slice none 0 0, .func (.func g) #[] #[]] w fun e w' => e = .returned (.tuple #[]) ∧ ∃ n os, w' = Go.Sort.grow (Go.Sort.ahead w n) os)
    (hd : Nat.blt dd N = true)
    (kk : ∀ d' : List α, d'.Perm d → d'.Pairwise (fun a b => lt b a = false) → awpL P G N ops rest Q ((dd, .tup []) :: S) (L.set k (.own v E sz (d'.map fun x => (enc x).map .v)))) :
    awpL P G N ops (⟨some dd, .call { callee := .value (.func f), args := us, argTypes := ats }, ty, pos, af, none⟩ :: rest) Q S L := by
  intro cx a hc
  have hr := vals_R hc hargs
  have hb := hc.st.blk k _ hk
  simp only [BR, List.length_map] at hb
  obtain ⟨b0, b1, b2, hb⟩ := hb
  simp only [TR, R] at hr
  obtain ⟨y, s, hs, ⟨o1, o2, o3, o4⟩, y2, s2, rfl, ⟨c1, c2, rfl, t1, t2⟩, rfl⟩ := hr
  have o4 := o4 b0
  have hz1 : c1 = #[] := by have := t1; simpa using this
  have hz2 : c2 = #[] := by have := t2; simpa using this
  subst hz1 hz2
  have hvs : us.map a.eval = #[y, .func (.func g) #[] #[]] := by
    have : (us.map a.eval).toList = [y, .func (.func g) #[] #[]] := by simpa using hs
    rw [← Array.toArray_toList (xs := us.map a.eval), this]
  have htup : ∀ c : Cx, R c (.tup []) (.tuple #[]) := fun c => by simp only [R]; exact ⟨#[], rfl, by simp [TR]⟩
  refine wpListIn_plain rfl fun K hK => wpIn_of_run rfl ?_
  rw [run_call hC (o := ⟨some dd, .call { callee := .value (.func f), args := us, argTypes := ats }, ty, pos, af, none⟩) rfl a cx.w, Oper.uponIn_enter, hvs]
  rcases hb with ⟨e1, e2⟩ | ⟨b, arr, e1, e2, e3, e4⟩
  · have hd0 : d = [] := by simpa using e2
    have hy : y = .slice none 0 0 := by
      rcases o4 with ⟨_, h, _⟩ | ⟨b, _, _, _, h, _⟩
      · exact h
      · rw [e1] at h; cases h
    subst hy
    refine ⟨fun h => by simp at h, CallsIn.mono (callsIn_wide.2 (hN hd0 cx.w)) ?_⟩
    rintro e w' ⟨rfl, n, os, rfl⟩
    have hst := hc.st.afterS (F := cx.F) (F' := cx.F) (ext_grow cx.F cx.w hc.st.inF n os)
    have := kk [] (by rw [hd0]) List.Pairwise.nil
    subst hd0
    rw [set_same hk] at this
    exact hK _ _ (wpListIn_mono (fun e a w q => q.trans hst.ext) _ _ _ (this _ _ ((hst.cn hc).put hd (htup _))))
  · obtain ⟨cap, hy⟩ : ∃ cap, y = .slice (some ⟨b, 0, none⟩) d.length cap := by
      rcases o4 with ⟨_, _, h⟩ | ⟨b', cap, _, _, h, h2, _⟩
      · rw [e1] at h; cases h
      · rw [e1] at h; cases h
        exact ⟨cap, by rw [h2, b2]⟩
    subst hy
    have hblk : b < cx.w.heap.size := (hc.st.loc k b e1).2.2
    have hH : HoldsK enc sz cx.w b 0 d.toArray := by
      intro j hj
      rw [size_flatK] at hj
      have hszp : 0 < sz := by rcases Nat.eq_zero_or_pos sz with h | h; · subst h; simp at hj
                               · exact h
      have hjd : j / sz < d.length := by
        rw [Nat.div_lt_iff_lt_mul hszp]; simpa using hj
      obtain ⟨x, hx⟩ : ∃ x, d[j / sz]? = some x := ⟨_, List.getElem?_eq_getElem hjd⟩
      have hcm : j % sz < (enc x).length := by rw [hlen]; exact Nat.mod_lt _ hszp
      obtain ⟨z, hz⟩ : ∃ z, (enc x)[j % sz]? = some z := ⟨_, List.getElem?_eq_getElem hcm⟩
      have hfl := flat_get hlen d.toArray (i := j / sz) (c := j % sz) (by simpa using hx) hz
      rw [Nat.div_add_mod' j sz] at hfl
      obtain ⟨_, hm⟩ := e4.get (i := j / sz) (e := (enc x).map .v) (by rw [List.getElem?_map, hx]; rfl)
      obtain ⟨u, u1, u2, _⟩ := hm.get (i := j % sz) (x := .v z) (by rw [List.getElem?_map, hz]; rfl)
      simp only [RF] at u2
      subst u2
      refine ⟨?_, by simp [World.frozen?, e2]⟩
      rw [hfl.2, show (id u : Value) = u from rfl, ← u1, show 0 + j / sz * sz + j % sz = 0 + j by have := Nat.div_add_mod' j sz; omega]
    refine ⟨fun h => by simp at h, CallsIn.mono (callsIn_wide.2 (hS b cap cx.w hH hblk)) ?_⟩
    rintro e w' ⟨rfl, d', n, os, hp, hs', rfl⟩
    obtain ⟨p1, _, p3⟩ := hp
    have hsz' : d'.size = d.length := by simpa using p1
    have hperm : d'.toList.Perm d := by
      have h2 : d'.extract 0 d.toArray.size = d' := by rw [show d.toArray.size = d'.size by simp [hsz'], Array.extract_size]
      rw [h2, Array.extract_size] at p3
      simpa using p3
    have hsrt : d'.toList.Pairwise (fun a b => lt b a = false) := by
      rw [List.pairwise_iff_getElem]
      intro i j hi hj hij
      have := hs' i j (Nat.zero_le _) hij (by simp at hj ⊢; omega)
      rw [getElem!_pos d' j (by simpa using hj), getElem!_pos d' i (by simpa using hi)] at this
      simpa using this
    have hst1 := hc.st.afterS (F := cx.F) (F' := cx.F) (ext_grow cx.F cx.w hc.st.inF n os)
    have hw' : sortWorldK enc sz cx.w b 0 n d' os = putRowK enc sz (Go.Sort.grow (Go.Sort.ahead cx.w n) os) b 0 d' := by
      rw [putRowK_grow _ _ _ _ _ _ _ (by exact hblk)]; rfl
    rw [hw']
    generalize hw1 : Go.Sort.grow (Go.Sort.ahead cx.w n) os = w1 at *
    have hh1 : w1.heap[b]? = some (.cells arr E (0, 0)) := by rw [← hw1, ← e2]; simp [Go.Sort.grow, Go.Sort.ahead, Array.getElem?_append_left hblk]
    have hblk1 : b < w1.heap.size := (Array.getElem?_eq_some_iff.1 hh1).1
    have hheap : ∀ b', (putRowK enc sz w1 b 0 d').heap[b']? = if b = b' then some (.cells (Go.Sort.putCells id 0 (flatK enc sz d') arr) E (0, 0)) else w1.heap[b']? := by
      intro b'
      simp only [putRowK, Go.Sort.putRow, Go.Sort.mapBlock, Array.getElem?_modify]
      by_cases e : b = b'
      · subst e; simp [hh1, Go.Sort.onCells]
      · simp [e]
    have hst2 := hst1.st.wr (k := k) (b := b) (w' := putRowK enc sz w1 b 0 d') e1 rfl rfl rfl (by simp [putRowK, Go.Sort.putRow, Go.Sort.mapBlock]) (fun b' h => by rw [hheap, if_neg (Ne.symm h)])
      (fun arr' T' h => by
        have h : w1.heap[b]? = some (.cells arr' T' (0, 0)) := h
        rw [hh1] at h; cases h
        exact ⟨_, by rw [hheap, if_pos rfl], by simp [Go.Sort.putCells]⟩) (by rw [hk]; simp) (x := .own v E sz (d'.toList.map fun x => (enc x).map .v))
      (fun _ => by
        simp only [BR, List.length_map]
        refine ⟨b0, b1, by simp [b2, hsz'], .inr ⟨b, _, e1, by rw [hheap, if_pos rfl], by simp [Go.Sort.putCells, hsz']; simpa using e3, ?_⟩⟩
        refine EF.mk fun i e he => ?_
        rw [List.getElem?_map] at he
        cases hx : d'.toList[i]? with
        | none => rw [hx] at he; cases he
        | some x =>
          rw [hx] at he
          have he : (enc x).map .v = e := by simpa using he
          subst he
          refine ⟨by simp [hlen], MF.mk fun c y hy => ?_⟩
          rw [List.getElem?_map] at hy
          cases hz : (enc x)[c]? with
          | none => rw [hz] at hy; cases hy
          | some z =>
            rw [hz] at hy
            have hy : AV.v z = y := by simpa using hy
            subst hy
            obtain ⟨q1, q2⟩ := flat_get hlen d' hx hz
            refine ⟨z, ?_, by simp only [RF], h1 x z (List.mem_of_getElem? hz)⟩
            have hlt : i * sz + c < arr.size := by
              have : d'.size * sz ≤ arr.size := by rw [hsz']; simpa using e3
              omega
            simp only [World.cell?, hheap, if_pos, Option.isSome_none, Bool.false_eq_true, if_false]
            rw [show 0 + i * sz + c = i * sz + c by omega]
            simp only [Go.Sort.putCells, Array.getElem?_mapIdx, Array.getElem?_eq_getElem hlt, Option.map_some, Nat.zero_le, Nat.zero_add, size_flatK, true_and, if_pos q1, Nat.sub_zero, id, q2])
    exact hK _ _ (wpListIn_mono (fun e a w q => q.trans (hst1.ext.trans hst2.ext)) _ _ _ (kk d'.toList hperm hsrt _ _ ((hst2.cn (hst1.cn hc)).put hd (htup _))))
end
end Go.Ac
end
section
namespace Go.Proofs.YtnacjdaoiepbhaaGreatDoor
open Go.Shelf Go.Lib Go.Sort
def sortVals_ren : Go.Shelf.Ren := ⟨fun | 6 => 89 | 15 => 126 | 14 => 125 | 28 => 161 | 29 => 162 | 20 => 153 | 21 => 154 | 22 => 155 | 23 => 156 | 24 => 157 | 25 => 158 | 26 => 159 | 27 => 160 | 46 => 201 | 47 => 202 | 48 => 203 | 49 => 204 | 50 => 205 | 57 => 223 | n => n, fun | 22 => 66 | 24 => 93 | 25 => 132 | 3 => 3 | 39 => 167 | 0 => 0 | 53 => 193 | 55 => 195 | 4 => 4 | 46 => 187 | 45 => 186 | 50 => 117 | 5 => 5 | 9 => 9 | 66 => 223 | 70 => 227 | 76 => 245 | 77 => 241 | n => n, fun n => n⟩
theorem sortVals : Go.Proofs.SlLaysF0.n6 Tryz.prog sortVals_ren := {
  mixed := by kernel_rfl
  f6 := ⟨ "slices.SortFunc[[]langdoc/api.Value,langdoc/api.Value]", by kernel_rfl, Tryz.func89.trans (congrArg some (by kernel_rfl))⟩
  f14 := ⟨ "slices.pdqsortCmpFunc[langdoc/api.Value]", by kernel_rfl, Tryz.func125.trans (congrArg some (by kernel_rfl))⟩
  f15 := Tryz.func126.trans (congrArg some (by kernel_rfl))
  f20 := ⟨ "slices.insertionSortCmpFunc[langdoc/api.Value]", by kernel_rfl, Tryz.func153.trans (congrArg some (by kernel_rfl))⟩
  f21 := ⟨ "slices.heapSortCmpFunc[langdoc/api.Value]", by kernel_rfl, Tryz.func154.trans (congrArg some (by kernel_rfl))⟩
  f22 := ⟨ "slices.breakPatternsCmpFunc[langdoc/api.Value]", by kernel_rfl, Tryz.func155.trans (congrArg some (by kernel_rfl))⟩
  f23 := ⟨ "slices.choosePivotCmpFunc[langdoc/api.Value]", by kernel_rfl, Tryz.func156.trans (congrArg some (by kernel_rfl))⟩
  f24 := ⟨ "slices.reverseRangeCmpFunc[langdoc/api.Value]", by kernel_rfl, Tryz.func157.trans (congrArg some (by kernel_rfl))⟩
  f25 := ⟨ "slices.partialInsertionSortCmpFunc[langdoc/api.Value]", by kernel_rfl, Tryz.func158.trans (congrArg some (by kernel_rfl))⟩
  f26 := ⟨ "slices.partitionEqualCmpFunc[langdoc/api.Value]", by kernel_rfl, Tryz.func159.trans (congrArg some (by kernel_rfl))⟩
  f27 := ⟨ "slices.partitionCmpFunc[langdoc/api.Value]", by kernel_rfl, Tryz.func160.trans (congrArg some (by kernel_rfl))⟩
  f28 := Tryz.func161.trans (congrArg some (by kernel_rfl))
  f29 := Tryz.func162.trans (congrArg some (by kernel_rfl))
  f46 := ⟨ "slices.siftDownCmpFunc[langdoc/api.Value]", by kernel_rfl, Tryz.func201.trans (congrArg some (by kernel_rfl))⟩
  f47 := Tryz.func202.trans (congrArg some (by kernel_rfl))
  f48 := Tryz.func203.trans (congrArg some (by kernel_rfl))
  f49 := ⟨ "slices.medianAdjacentCmpFunc[langdoc/api.Value]", by kernel_rfl, Tryz.func204.trans (congrArg some (by kernel_rfl))⟩
  f50 := ⟨ "slices.medianCmpFunc[langdoc/api.Value]", by kernel_rfl, Tryz.func205.trans (congrArg some (by kernel_rfl))⟩
  f57 := ⟨ "slices.order2CmpFunc[langdoc/api.Value]", by kernel_rfl, Tryz.func223.trans (congrArg some (by kernel_rfl))⟩
  t0 := Tryz.underlying0
  a0 := Tryz.isAgg0
  z0 := Tryz.sizeOf0
  v0 := Tryz.zeroValue0
  t3 := Tryz.underlying3
  a3 := Tryz.isAgg3
  z3 := Tryz.sizeOf3
  v3 := Tryz.zeroValue3
  t4 := Tryz.underlying4
  a4 := Tryz.isAgg4
  z4 := Tryz.sizeOf4
  v4 := Tryz.zeroValue4
  t5 := Tryz.underlying5
  a5 := Tryz.isAgg5
  z5 := Tryz.sizeOf5
  v5 := Tryz.zeroValue5
  t9 := Tryz.underlying9
  a9 := Tryz.isAgg9
  z9 := Tryz.sizeOf9
  v9 := Tryz.zeroValue9
  t22 := Tryz.underlying66
  a22 := Tryz.isAgg66
  z22 := Tryz.sizeOf66
  v22 := Tryz.zeroValue66
  t25 := Tryz.underlying132
  a25 := Tryz.isAgg132
  z25 := Tryz.sizeOf132
  v25 := Tryz.zeroValue132
  t39 := Tryz.underlying167
  a39 := Tryz.isAgg167
  z39 := Tryz.sizeOf167
  v39 := Tryz.zeroValue167
  t45 := Tryz.underlying186
  a45 := Tryz.isAgg186
  z45 := Tryz.sizeOf186
  v45 := Tryz.zeroValue186
  t46 := Tryz.underlying187
  a46 := Tryz.isAgg187
  z46 := Tryz.sizeOf187
  v46 := Tryz.zeroValue187
  t50 := Tryz.underlying117
  a50 := Tryz.isAgg117
  z50 := Tryz.sizeOf117
  v50 := Tryz.zeroValue117
  t53 := Tryz.underlying193
  a53 := Tryz.isAgg193
  z53 := Tryz.sizeOf193
  v53 := Tryz.zeroValue193
  t55 := Tryz.underlying195
  a55 := Tryz.isAgg195
  z55 := Tryz.sizeOf195
  v55 := Tryz.zeroValue195
  t66 := Tryz.underlying223
  a66 := Tryz.isAgg223
  z66 := Tryz.sizeOf223
  v66 := Tryz.zeroValue223
  t70 := Tryz.underlying227
  a70 := Tryz.isAgg227
  z70 := Tryz.sizeOf227
  v70 := Tryz.zeroValue227
  t76 := Tryz.underlying245
  a76 := Tryz.isAgg245
  z76 := Tryz.sizeOf245
  v76 := Tryz.zeroValue245
  t77 := Tryz.underlying241
  a77 := Tryz.isAgg241
  z77 := Tryz.sizeOf241
  v77 := Tryz.zeroValue241 }
def encVal (v : Val) : List Value := [.int .i64 v.at_.count, .int .i64 v.at_.dev, .int .i64 v.n, .string v.text]
def cmpVal (a b : Val) : Int := if less a.at_ b.at_ = true then -1 else 1
theorem ltVal (a b : Val) : ltOf cmpVal a b = less a.at_ b.at_ := by
  unfold ltOf cmpVal
  cases less a.at_ b.at_ <;> simp
theorem swoVal : SWO (ltOf cmpVal) where
  irrefl x := by rw [ltVal]; exact less_irr _
  trans x y z h1 h2 := by rw [ltVal] at *; exact less_trans h1 h2
  ntrans x y z h1 h2 := by
    rw [ltVal] at *
    rcases nless_iff.1 h1 with h | h
    · exact less_asym (le_less (nless_iff.2 (nless_iff.1 h2)) h)
    · rw [← h] at *; exact h2
theorem laysVal (blk off size : Nat) (w : World) : CmpLays Tryz.prog 90 #[] encVal 4 cmpVal blk off size w :=
  fun _ _ _ _ x y => zVal x.at_.count x.at_.dev x.n x.text y.at_.count y.at_.dev y.n y.text _
theorem sortVals_calls (d : List Val) (blk cap : Nat) (w : World) (hsz : d.length ≤ 1000000) (hH : HoldsK encVal 4 w blk 0 d.toArray) (hb : blk < w.heap.size) :
    Calls Tryz.prog 89 #[.slice (some ⟨blk, 0, none⟩) d.toArray.size cap, .func (.func 90) #[] #[]] w fun e w' => e = .returned (.tuple #[]) ∧ ∃ d' n os, PermIn 0 d.toArray.size d.toArray d' ∧ SortedIn (ltOf cmpVal) 0 d.toArray.size d' ∧ w' = sortWorldK encVal 4 w blk 0 n d' os :=
  AnyQ.slices_SortFunc sortVals 4 Tryz.isAgg93 Tryz.sizeOf93 encVal (fun _ => rfl) (fun x v hv => by simp [encVal] at hv; rcases hv with rfl | rfl | rfl | rfl <;> rfl) cmpVal swoVal 90 #[] blk 0 cap d.toArray w
    (enters_of Tryz.func90 (by kernel_rfl) rfl) (laysVal blk 0 d.toArray.size w) hH hb (by simp; omega)
theorem sortVals_none (w : World) : Calls Tryz.prog 89 #[.slice none 0 0, .func (.func 90) #[] #[]] w fun e w' => e = .returned (.tuple #[]) ∧ ∃ n os, w' = Go.Sort.grow (Go.Sort.ahead w n) os :=
  (AnyF.slices_SortFunc_none (P := Tryz.prog) (ρ := sortVals_ren) sortVals none 0 (.func (.func 90) #[] #[]) w).mono fun _ _ ⟨h1, h2⟩ => ⟨h1, 0, #[], by rw [h2]; simp [Go.Sort.grow]⟩
end Go.Proofs.YtnacjdaoiepbhaaGreatDoor
end
section
namespace Go.Proofs.YtnacjdaoiepbhaaGreatDoor
open Go.RowKit Go.Shelf Go.Lib Go.Sort
def sortStamps_ren : Go.Shelf.Ren := ⟨fun | 6 => 101 | 15 => 126 | 14 => 130 | 28 => 161 | 29 => 162 | 20 => 169 | 21 => 170 | 22 => 171 | 23 => 172 | 24 => 173 | 25 => 174 | 26 => 175 | 27 => 176 | 46 => 209 | 47 => 202 | 48 => 203 | 49 => 210 | 50 => 211 | 57 => 225 | n => n, fun | 22 => 72 | 24 => 23 | 25 => 146 | 3 => 3 | 39 => 167 | 0 => 0 | 53 => 193 | 55 => 195 | 4 => 4 | 46 => 187 | 45 => 186 | 50 => 117 | 5 => 5 | 9 => 9 | 66 => 223 | 70 => 227 | 76 => 245 | 77 => 241 | n => n, fun n => n⟩
def encSt (s : Stamp) : List Value := [.int .i64 s.count, .int .i64 s.dev]
def cmpSt (a b : Stamp) : Int := if less a b = true then -1 else 1
end Go.Proofs.YtnacjdaoiepbhaaGreatDoor
end
section
namespace Go.Proofs.YtnacjdaoiepbhaaGreatDoor
theorem right_iff {s : Span} : spanRight s = true ↔ 0 ≤ s.fro ∧ s.fro < s.til ∧ s.til ≤ 86400000 := by
  simp [spanRight, and_assoc]
abbrev inS (p : Int) (x : Span) : Prop := x.fro ≤ p ∧ p < x.til
def leftS (x b : Span) : Span := ⟨x.fro, min x.til b.fro⟩
def rightS (x b : Span) : Span := ⟨max x.fro b.til, x.til⟩
def cutS (b x : Span) : List Span := (if spanRight (leftS x b) then [leftS x b] else []) ++ (if spanRight (rightS x b) then [rightS x b] else [])
def withoutL (out : List Span) (b : Span) : List Span := out.flatMap (cutS b)
def minusStep (out : List Span) (b : Span) : List Span := if spanRight b then withoutL out b else out
def minusL (s : Span) (l : List Span) : List Span := l.foldl minusStep [s]
def covB (l : List Span) (s : Span) : Bool := spanRight s && (minusL s l).isEmpty
def AllR (l : List Span) : Prop := ∀ x ∈ l, spanRight x = true
theorem cutS_mem {b x : Span} (hb : spanRight b = true) (hx : spanRight x = true) (p : Int) : (∃ y ∈ cutS b x, inS p y) ↔ inS p x ∧ ¬ inS p b := by
  rw [right_iff] at hb hx
  unfold cutS
  constructor
  · rintro ⟨y, hy, hp⟩
    rcases List.mem_append.1 hy with h | h
    · split at h
      · simp only [List.mem_singleton] at h
        subst h
        unfold inS leftS at hp
        simp only at hp
        unfold inS
        omega
      · cases h
    · split at h
      · simp only [List.mem_singleton] at h
        subst h
        unfold inS rightS at hp
        simp only at hp
        unfold inS
        omega
      · cases h
  · rintro ⟨h1, h2⟩
    unfold inS at h1 h2
    by_cases hq : p < b.fro
    · have hr : spanRight (leftS x b) = true := by rw [right_iff]; unfold leftS; simp only; omega
      refine ⟨leftS x b, List.mem_append.2 (.inl (by rw [if_pos hr]; simp)), ?_⟩
      unfold inS leftS; simp only; omega
    · have hr : spanRight (rightS x b) = true := by rw [right_iff]; unfold rightS; simp only; omega
      refine ⟨rightS x b, List.mem_append.2 (.inr (by rw [if_pos hr]; simp)), ?_⟩
      unfold inS rightS; simp only; omega
theorem cutS_right {b x : Span} : AllR (cutS b x) := by
  intro y hy
  unfold cutS at hy
  rcases List.mem_append.1 hy with h | h
  · split at h
    · simp only [List.mem_singleton] at h; subst h; assumption
    · cases h
  · split at h
    · simp only [List.mem_singleton] at h; subst h; assumption
    · cases h
theorem minus_inv {s : Span} : ∀ {l out : List Span}, AllR out → AllR (l.foldl minusStep out) ∧ ∀ p, (∃ y ∈ l.foldl minusStep out, inS p y) ↔ (∃ y ∈ out, inS p y) ∧ ¬ ∃ t ∈ l, spanRight t = true ∧ inS p t
  | [], out, h => ⟨h, fun p => by simp⟩
  | b :: r, out, h => by
    have hst : AllR (minusStep out b) := by
      unfold minusStep
      split
      · intro y hy
        obtain ⟨x, hx, hy⟩ := List.mem_flatMap.1 hy
        exact cutS_right y hy
      · exact h
    obtain ⟨h1, h2⟩ := minus_inv (s := s) (l := r) hst
    refine ⟨h1, fun p => ?_⟩
    rw [List.foldl_cons, h2 p]
    have key : (∃ y ∈ minusStep out b, inS p y) ↔ (∃ y ∈ out, inS p y) ∧ ¬ (spanRight b = true ∧ inS p b) := by
      unfold minusStep
      by_cases hb : spanRight b = true
      · rw [if_pos hb]
        constructor
        · rintro ⟨y, hy, hp⟩
          obtain ⟨x, hx, hy⟩ := List.mem_flatMap.1 hy
          obtain ⟨q1, q2⟩ := (cutS_mem hb (h x hx) p).1 ⟨y, hy, hp⟩
          exact ⟨⟨x, hx, q1⟩, fun q => q2 q.2⟩
        · rintro ⟨⟨x, hx, hp⟩, hn⟩
          obtain ⟨y, hy, hp'⟩ := (cutS_mem hb (h x hx) p).2 ⟨hp, fun q => hn ⟨hb, q⟩⟩
          exact ⟨y, List.mem_flatMap.2 ⟨x, hx, hy⟩, hp'⟩
      · rw [if_neg hb]
        exact ⟨fun q => ⟨q, fun r => hb r.1⟩, fun q => q.1⟩
    rw [key]
    constructor
    · rintro ⟨⟨q1, q2⟩, q3⟩
      refine ⟨q1, ?_⟩
      rintro ⟨t, ht, ht'⟩
      rcases List.mem_cons.1 ht with rfl | ht
      · exact q2 ht'
      · exact q3 ⟨t, ht, ht'⟩
    · rintro ⟨q1, q2⟩
      exact ⟨⟨q1, fun q => q2 ⟨b, by simp, q⟩⟩, fun ⟨t, ht, ht'⟩ => q2 ⟨t, by simp [ht], ht'⟩⟩
theorem covB_iff {l : List Span} {s : Span} (hs : spanRight s = true) : covB l s = true ↔ ∀ p, inS p s → ∃ t ∈ l, spanRight t = true ∧ inS p t := by
  obtain ⟨h1, h2⟩ := minus_inv (s := s) (l := l) (out := [s]) (by intro x hx; simp at hx; subst hx; exact hs)
  have : covB l s = (minusL s l).isEmpty := by unfold covB; rw [hs]; rfl
  rw [this, List.isEmpty_iff]
  constructor
  · intro he p hp
    have := (h2 p).2
    rcases Classical.em (∃ t ∈ l, spanRight t = true ∧ inS p t) with g | g
    · exact g
    · obtain ⟨y, hy, _⟩ := this ⟨⟨s, by simp, hp⟩, g⟩
      unfold minusL at he
      rw [he] at hy
      cases hy
  · intro hc
    cases hm : minusL s l with
    | nil => rfl
    | cons y r =>
      exfalso
      have hy : y ∈ l.foldl minusStep [s] := by unfold minusL at hm; rw [hm]; simp
      have hr := right_iff.1 (h1 y hy)
      obtain ⟨⟨x, hx, hp⟩, hn⟩ := (h2 y.fro).1 ⟨y, hy, by unfold inS; omega⟩
      simp only [List.mem_singleton] at hx
      subst hx
      exact hn (hc _ hp)
def mergeS (out : List Span) (s : Span) : List Span := match out.getLast? with
  | some z => if s.fro ≤ z.til then out.dropLast ++ [⟨z.fro, max z.til s.til⟩] else out ++ [s]
  | none => [s]
def Gaps (m : List Span) : Prop := m.Pairwise (fun x y => x.til < y.fro) ∧ ∀ x ∈ m, x.fro < x.til
theorem mergeS_inv {out : List Span} {s : Span} (h : Gaps out) (hs : spanRight s = true) (hb : ∀ x ∈ out, x.fro ≤ s.fro) : Gaps (mergeS out s) ∧ (∀ x ∈ mergeS out s, x.fro ≤ s.fro) ∧ ∀ p, (∃ y ∈ mergeS out s, inS p y) ↔ (∃ y ∈ out, inS p y) ∨ inS p s := by
  rw [right_iff] at hs
  unfold mergeS
  rcases List.eq_nil_or_concat out with rfl | ⟨m, z, rfl⟩
  · simp only [List.getLast?_nil]
    refine ⟨⟨by simp, by intro x hx; simp at hx; subst hx; omega⟩, by intro x hx; simp at hx; subst hx; omega, fun p => by simp⟩
  · rw [List.concat_eq_append] at *
    simp only [List.getLast?_append, List.getLast?_singleton, Option.some_or, List.dropLast_concat]
    obtain ⟨h1, h2⟩ := h
    rw [List.pairwise_append] at h1
    obtain ⟨p1, _, p2⟩ := h1
    have hz := h2 z (by simp)
    have hzs := hb z (by simp)
    split
    · rename_i hle
      refine ⟨⟨?_, ?_⟩, ?_, fun p => ?_⟩
      · rw [List.pairwise_append]
        refine ⟨p1, by simp, fun x hx y hy => ?_⟩
        simp only [List.mem_singleton] at hy
        subst hy
        exact p2 x hx z (by simp)
      · intro x hx
        rcases List.mem_append.1 hx with hx | hx
        · exact h2 x (by simp [hx])
        · simp only [List.mem_singleton] at hx
          subst hx
          simp only; omega
      · intro x hx
        rcases List.mem_append.1 hx with hx | hx
        · exact hb x (by simp [hx])
        · simp only [List.mem_singleton] at hx
          subst hx
          exact hzs
      · constructor
        · rintro ⟨y, hy, hp⟩
          rcases List.mem_append.1 hy with hy | hy
          · exact .inl ⟨y, by simp [hy], hp⟩
          · simp only [List.mem_singleton] at hy
            subst hy
            unfold inS at hp
            simp only at hp
            rcases Int.lt_or_le p z.til with q | q
            · exact .inl ⟨z, by simp, hp.1, q⟩
            · exact .inr ⟨by omega, by omega⟩
        · rintro (⟨y, hy, hp⟩ | hp)
          · rcases List.mem_append.1 hy with hy | hy
            · exact ⟨y, by simp [hy], hp⟩
            · simp only [List.mem_singleton] at hy
              subst hy
              exact ⟨⟨y.fro, max y.til s.til⟩, by simp, hp.1, by have := hp.2; simp only; omega⟩
          · exact ⟨⟨z.fro, max z.til s.til⟩, by simp, by have := hp.1; simp only; omega, by have := hp.2; simp only; omega⟩
    · rename_i hle
      refine ⟨⟨?_, ?_⟩, ?_, fun p => ?_⟩
      · rw [List.pairwise_append]
        refine ⟨by rw [List.pairwise_append]; exact ⟨p1, by simp, p2⟩, by simp, fun x hx y hy => ?_⟩
        simp only [List.mem_singleton] at hy
        subst hy
        rcases List.mem_append.1 hx with hx | hx
        · have := p2 x hx z (by simp); omega
        · simp only [List.mem_singleton] at hx
          subst hx; omega
      · intro x hx
        rcases List.mem_append.1 hx with hx | hx
        · exact h2 x hx
        · simp only [List.mem_singleton] at hx
          subst hx; omega
      · intro x hx
        rcases List.mem_append.1 hx with hx | hx
        · exact hb x hx
        · simp only [List.mem_singleton] at hx
          subst hx; omega
      · constructor
        · rintro ⟨y, hy, hp⟩
          rcases List.mem_append.1 hy with hy | hy
          · exact .inl ⟨y, hy, hp⟩
          · simp only [List.mem_singleton] at hy
            subst hy; exact .inr hp
        · rintro (⟨y, hy, hp⟩ | hp)
          · exact ⟨y, List.mem_append.2 (.inl hy), hp⟩
          · exact ⟨s, by simp, hp⟩
def SortS (l : List Span) : Prop := l.Pairwise fun a b => a.fro ≤ b.fro
theorem mergeS_all : ∀ {l out : List Span}, Gaps out → AllR l → SortS l → (∀ x ∈ out, ∀ s ∈ l, x.fro ≤ s.fro) → Gaps (l.foldl mergeS out) ∧ ∀ p, (∃ y ∈ l.foldl mergeS out, inS p y) ↔ (∃ y ∈ out, inS p y) ∨ ∃ s ∈ l, inS p s
  | [], out, h, _, _, _ => ⟨h, fun p => by simp⟩
  | s :: r, out, h, hr, ho, hb => by
    rw [SortS, List.pairwise_cons] at ho
    obtain ⟨g1, g2, g3⟩ := mergeS_inv h (hr s (by simp)) (fun x hx => hb x hx s (by simp))
    obtain ⟨h1, h2⟩ := mergeS_all (l := r) g1 (fun x hx => hr x (by simp [hx])) ho.2 (fun x hx t ht => Int.le_trans (g2 x hx) (ho.1 t ht))
    refine ⟨h1, fun p => ?_⟩
    rw [List.foldl_cons, h2 p, g3 p]
    constructor
    · rintro ((h | h) | ⟨t, ht, h⟩)
      · exact .inl h
      · exact .inr ⟨s, by simp, h⟩
      · exact .inr ⟨t, by simp [ht], h⟩
    · rintro (h | ⟨t, ht, h⟩)
      · exact .inl (.inl h)
      · rcases List.mem_cons.1 ht with rfl | ht
        · exact .inl (.inr h)
        · exact .inr ⟨t, ht, h⟩
def around (s x : Span) : Bool := decide (x.fro ≤ s.fro) && decide (s.til ≤ x.til)
theorem gaps_cover {m : List Span} (h : Gaps m) {s : Span} (hs : s.fro < s.til) : m.any (around s) = true ↔ ∀ p, inS p s → ∃ y ∈ m, inS p y := by
  rw [List.any_eq_true]
  constructor
  · rintro ⟨x, hx, ha⟩ p hp
    simp only [around, Bool.and_eq_true, decide_eq_true_eq] at ha
    exact ⟨x, hx, by unfold inS at hp ⊢; omega⟩
  · intro hc
    obtain ⟨x, hx, hp⟩ := hc s.fro ⟨Int.le_refl _, hs⟩
    refine ⟨x, hx, ?_⟩
    simp only [around, Bool.and_eq_true, decide_eq_true_eq]
    refine ⟨hp.1, ?_⟩
    rcases Int.lt_or_le x.til s.til with q | q
    · exfalso
      obtain ⟨y, hy, hp'⟩ := hc x.til ⟨by have := hp.2; omega, q⟩
      obtain ⟨h1, h2⟩ := h
      obtain ⟨i, hi⟩ := List.getElem?_of_mem hx
      obtain ⟨j, hj⟩ := List.getElem?_of_mem hy
      obtain ⟨li, ei⟩ := List.getElem?_eq_some_iff.1 hi
      obtain ⟨lj, ej⟩ := List.getElem?_eq_some_iff.1 hj
      have hxl := h2 x hx
      rcases Nat.lt_trichotomy i j with g | g | g
      · have := List.pairwise_iff_getElem.1 h1 i j li lj g
        rw [ei, ej] at this
        have := hp'.1; omega
      · subst g
        rw [hi] at hj
        cases hj
        have := hp'.2; omega
      · have := List.pairwise_iff_getElem.1 h1 j i lj li g
        rw [ei, ej] at this
        have := hp'.2; omega
    · exact q
theorem union_covers {l d : List Span} {s : Span} (hs : spanRight s = true) (hp : d.Perm (l.filter spanRight)) (ho : SortS d) : (d.foldl mergeS []).any (around s) = covB l s := by
  have hr : AllR d := fun x hx => (List.mem_filter.1 (hp.mem_iff.1 hx)).2
  obtain ⟨h1, h2⟩ := mergeS_all (l := d) (out := []) ⟨by simp, by simp⟩ hr ho (by simp)
  have hs' := right_iff.1 hs
  rw [Bool.eq_iff_iff, gaps_cover h1 (by omega), covB_iff hs]
  constructor
  · intro h p hp'
    rcases (h2 p).1 (h p hp') with ⟨y, hy, _⟩ | ⟨t, ht, hq⟩
    · cases hy
    · obtain ⟨q1, q2⟩ := List.mem_filter.1 (hp.mem_iff.1 ht)
      exact ⟨t, q1, q2, hq⟩
  · intro h p hp'
    obtain ⟨t, ht, q1, q2⟩ := h p hp'
    exact (h2 p).2 (.inr ⟨t, hp.mem_iff.2 (List.mem_filter.2 ⟨ht, q1⟩), q2⟩)
end Go.Proofs.YtnacjdaoiepbhaaGreatDoor
end
section
namespace Go.Proofs.YtnacjdaoiepbhaaGreatDoor
open Go.RowKit Go.Shelf Go.Lib Go.Sort
set_option maxHeartbeats 2000000 in
theorem zSpan (a b c d : Int) (W : World) : Calls Tryz.prog 123 #[.agg #[.int .i64 a, .int .i64 b], .agg #[.int .i64 c, .int .i64 d]] W fun e w' => e = .returned (.int .i64 (zcmp a c)) ∧ ∃ q os', w' = grow (W.drewN q) os' := by
  have e54 : ∀ args w, (callFunc 124 args).run Tryz.prog w = .ok (.enter 124 args) w := enters_of Tryz.func124 (by kernel_rfl) rfl
  go_enter Tryz.func123, Tryz.ntmps123
  go_wp2_with (go_at_call 124; refine (zCompare _ _ _).mono ?_; rintro e w' ⟨rfl, hw⟩; rw [hw])
  go_ret
  exact ⟨rfl, 0, _, by rw [alloc_eq_grow, alloc_eq_grow, grow_grow]; rfl⟩
def sortSpans_ren : Go.Shelf.Ren := ⟨fun | 6 => 122 | 15 => 126 | 14 => 151 | 28 => 161 | 29 => 162 | 20 => 193 | 21 => 194 | 22 => 195 | 23 => 196 | 24 => 197 | 25 => 198 | 26 => 199 | 27 => 200 | 46 => 220 | 47 => 202 | 48 => 203 | 49 => 221 | 50 => 222 | 57 => 232 | n => n, fun | 22 => 54 | 24 => 63 | 25 => 164 | 3 => 3 | 39 => 167 | 0 => 0 | 53 => 193 | 55 => 195 | 4 => 4 | 46 => 187 | 45 => 186 | 50 => 117 | 5 => 5 | 9 => 9 | 66 => 223 | 70 => 227 | 76 => 245 | 77 => 241 | n => n, fun n => n⟩
theorem sortSpans : Go.Proofs.SlLaysF0.n6 Tryz.prog sortSpans_ren := {
  mixed := by kernel_rfl
  f6 := ⟨ "slices.SortFunc[[]langdoc/api.Span,langdoc/api.Span]", by kernel_rfl, Tryz.func122.trans (congrArg some (by kernel_rfl))⟩
  f14 := ⟨ "slices.pdqsortCmpFunc[langdoc/api.Span]", by kernel_rfl, Tryz.func151.trans (congrArg some (by kernel_rfl))⟩
  f15 := Tryz.func126.trans (congrArg some (by kernel_rfl))
  f20 := ⟨ "slices.insertionSortCmpFunc[langdoc/api.Span]", by kernel_rfl, Tryz.func193.trans (congrArg some (by kernel_rfl))⟩
  f21 := ⟨ "slices.heapSortCmpFunc[langdoc/api.Span]", by kernel_rfl, Tryz.func194.trans (congrArg some (by kernel_rfl))⟩
  f22 := ⟨ "slices.breakPatternsCmpFunc[langdoc/api.Span]", by kernel_rfl, Tryz.func195.trans (congrArg some (by kernel_rfl))⟩
  f23 := ⟨ "slices.choosePivotCmpFunc[langdoc/api.Span]", by kernel_rfl, Tryz.func196.trans (congrArg some (by kernel_rfl))⟩
  f24 := ⟨ "slices.reverseRangeCmpFunc[langdoc/api.Span]", by kernel_rfl, Tryz.func197.trans (congrArg some (by kernel_rfl))⟩
  f25 := ⟨ "slices.partialInsertionSortCmpFunc[langdoc/api.Span]", by kernel_rfl, Tryz.func198.trans (congrArg some (by kernel_rfl))⟩
  f26 := ⟨ "slices.partitionEqualCmpFunc[langdoc/api.Span]", by kernel_rfl, Tryz.func199.trans (congrArg some (by kernel_rfl))⟩
  f27 := ⟨ "slices.partitionCmpFunc[langdoc/api.Span]", by kernel_rfl, Tryz.func200.trans (congrArg some (by kernel_rfl))⟩
  f28 := Tryz.func161.trans (congrArg some (by kernel_rfl))
  f29 := Tryz.func162.trans (congrArg some (by kernel_rfl))
  f46 := ⟨ "slices.siftDownCmpFunc[langdoc/api.Span]", by kernel_rfl, Tryz.func220.trans (congrArg some (by kernel_rfl))⟩
  f47 := Tryz.func202.trans (congrArg some (by kernel_rfl))
  f48 := Tryz.func203.trans (congrArg some (by kernel_rfl))
  f49 := ⟨ "slices.medianAdjacentCmpFunc[langdoc/api.Span]", by kernel_rfl, Tryz.func221.trans (congrArg some (by kernel_rfl))⟩
  f50 := ⟨ "slices.medianCmpFunc[langdoc/api.Span]", by kernel_rfl, Tryz.func222.trans (congrArg some (by kernel_rfl))⟩
  f57 := ⟨ "slices.order2CmpFunc[langdoc/api.Span]", by kernel_rfl, Tryz.func232.trans (congrArg some (by kernel_rfl))⟩
  t0 := Tryz.underlying0
  a0 := Tryz.isAgg0
  z0 := Tryz.sizeOf0
  v0 := Tryz.zeroValue0
  t3 := Tryz.underlying3
  a3 := Tryz.isAgg3
  z3 := Tryz.sizeOf3
  v3 := Tryz.zeroValue3
  t4 := Tryz.underlying4
  a4 := Tryz.isAgg4
  z4 := Tryz.sizeOf4
  v4 := Tryz.zeroValue4
  t5 := Tryz.underlying5
  a5 := Tryz.isAgg5
  z5 := Tryz.sizeOf5
  v5 := Tryz.zeroValue5
  t9 := Tryz.underlying9
  a9 := Tryz.isAgg9
  z9 := Tryz.sizeOf9
  v9 := Tryz.zeroValue9
  t22 := Tryz.underlying54
  a22 := Tryz.isAgg54
  z22 := Tryz.sizeOf54
  v22 := Tryz.zeroValue54
  t25 := Tryz.underlying164
  a25 := Tryz.isAgg164
  z25 := Tryz.sizeOf164
  v25 := Tryz.zeroValue164
  t39 := Tryz.underlying167
  a39 := Tryz.isAgg167
  z39 := Tryz.sizeOf167
  v39 := Tryz.zeroValue167
  t45 := Tryz.underlying186
  a45 := Tryz.isAgg186
  z45 := Tryz.sizeOf186
  v45 := Tryz.zeroValue186
  t46 := Tryz.underlying187
  a46 := Tryz.isAgg187
  z46 := Tryz.sizeOf187
  v46 := Tryz.zeroValue187
  t50 := Tryz.underlying117
  a50 := Tryz.isAgg117
  z50 := Tryz.sizeOf117
  v50 := Tryz.zeroValue117
  t53 := Tryz.underlying193
  a53 := Tryz.isAgg193
  z53 := Tryz.sizeOf193
  v53 := Tryz.zeroValue193
  t55 := Tryz.underlying195
  a55 := Tryz.isAgg195
  z55 := Tryz.sizeOf195
  v55 := Tryz.zeroValue195
  t66 := Tryz.underlying223
  a66 := Tryz.isAgg223
  z66 := Tryz.sizeOf223
  v66 := Tryz.zeroValue223
  t70 := Tryz.underlying227
  a70 := Tryz.isAgg227
  z70 := Tryz.sizeOf227
  v70 := Tryz.zeroValue227
  t76 := Tryz.underlying245
  a76 := Tryz.isAgg245
  z76 := Tryz.sizeOf245
  v76 := Tryz.zeroValue245
  t77 := Tryz.underlying241
  a77 := Tryz.isAgg241
  z77 := Tryz.sizeOf241
  v77 := Tryz.zeroValue241 }
def encSp (s : Span) : List Value := [.int .i64 s.fro, .int .i64 s.til]
def cmpSp (a b : Span) : Int := zcmp a.fro b.fro
theorem ltSp (a b : Span) : ltOf cmpSp a b = decide (a.fro < b.fro) := by
  unfold ltOf cmpSp
  exact zcmp_lt _ _
theorem swoSp : SWO (ltOf cmpSp) where
  irrefl x := by rw [ltSp]; simp
  trans x y z h1 h2 := by rw [ltSp] at *; simp only [decide_eq_true_eq] at *; omega
  ntrans x y z h1 h2 := by rw [ltSp] at *; simp only [decide_eq_false_iff_not] at *; omega
theorem laysSp (blk off size : Nat) (w : World) : CmpLays Tryz.prog 123 #[] encSp 2 cmpSp blk off size w :=
  fun _ _ _ _ x y => zSpan x.fro x.til y.fro y.til _
theorem sortSpans_calls (d : List Span) (blk cap : Nat) (w : World) (hsz : d.length ≤ 1000000) (hH : HoldsK encSp 2 w blk 0 d.toArray) (hb : blk < w.heap.size) :
    Calls Tryz.prog 122 #[.slice (some ⟨blk, 0, none⟩) d.toArray.size cap, .func (.func 123) #[] #[]] w fun e w' => e = .returned (.tuple #[]) ∧ ∃ d' n os, PermIn 0 d.toArray.size d.toArray d' ∧ SortedIn (ltOf cmpSp) 0 d.toArray.size d' ∧ w' = sortWorldK encSp 2 w blk 0 n d' os :=
  AnyQ.slices_SortFunc sortSpans 2 Tryz.isAgg63 Tryz.sizeOf63 encSp (fun _ => rfl) (fun x v hv => by simp [encSp] at hv; rcases hv with rfl | rfl <;> rfl) cmpSp swoSp 123 #[] blk 0 cap d.toArray w
    (enters_of Tryz.func123 (by kernel_rfl) rfl) (laysSp blk 0 d.toArray.size w) hH hb (by simp; omega)
theorem sortSpans_none (w : World) : Calls Tryz.prog 122 #[.slice none 0 0, .func (.func 123) #[] #[]] w fun e w' => e = .returned (.tuple #[]) ∧ ∃ n os, w' = Go.Sort.grow (Go.Sort.ahead w n) os :=
  (AnyF.slices_SortFunc_none (P := Tryz.prog) (ρ := sortSpans_ren) sortSpans none 0 (.func (.func 123) #[] #[]) w).mono fun _ _ ⟨h1, h2⟩ => ⟨h1, 0, #[], by rw [h2]; simp [Go.Sort.grow]⟩
end Go.Proofs.YtnacjdaoiepbhaaGreatDoor
end
section
namespace Go.Proofs.YtnacjdaoiepbhaaGreatDoor
open Go.Ac Go.MapKept
attribute [local irreducible] awp awpL Ev Ev2 EvS thenQ blockQ retQ PCalls OCalls YieldOk IterC ICalls
variable {g : List (Nat × List AV)}
end Go.Proofs.YtnacjdaoiepbhaaGreatDoor
end
section
namespace Go.Proofs.YtnacjdaoiepbhaaGreatDoor
open Go.Ac Go.MapKept
attribute [local irreducible] awp awpL Ev Ev2 EvS thenQ blockQ retQ PCalls OCalls YieldOk IterC ICalls
variable {g : List (Nat × List AV)}
def backwards (l : List Op) : List Op := l.reverse
def half (a b : Replica) : Bool := b.ops.all fun o => !(covers a.seen o.at_ && !has a.ops o)
end Go.Proofs.YtnacjdaoiepbhaaGreatDoor
end
section
namespace Go.Proofs.YtnacjdaoiepbhaaGreatDoor
open Go.Ac Go.MapKept
attribute [local irreducible] awp awpL Ev Ev2 EvS thenQ blockQ retQ PCalls OCalls YieldOk IterC ICalls
variable {g : List (Nat × List AV)}
def mergeV (p : Replica × Int) : AV := .tup [.agg (repC p.1), vi p.2]
abbrev zeroRepC : List AV := [vi 0, nilS, nilS]
structure FitM (a b : List Op) : Prop where
  len : a.length + b.length ≤ 1000
  ov : ∀ o, o ∈ a ∨ o ∈ b → o.over.length ≤ 100000
  id : ∀ o, o ∈ a ∨ o ∈ b → I64 o.note.id
theorem FitM.fit {a b : List Op} (h : FitM a b) {m : List Op} (hl : m.length ≤ a.length + b.length) (hm : ∀ o ∈ m, o ∈ a ∨ o ∈ b) : Fit m := ⟨by have := h.len; omega, fun o ho => h.ov o (hm o ho)⟩
def syncV (p : Replica × Replica × Int) : AV := .tup [.agg (repC p.1), .agg (repC p.2.1), vi p.2.2]
end Go.Proofs.YtnacjdaoiepbhaaGreatDoor
end
section
namespace Go.Proofs.YtnacjdaoiepbhaaGreatDoor
open Go.Ac
def topV (v : List Int) : Int := (List.range 15).foldl (fun m i => max m (num v i)) 0
def nextS (v : List Int) (dev : Int) : Option Stamp := if topV v < 1048576 ∧ 1 ≤ dev ∧ dev ≤ 15 then some ⟨topV v + 1, dev⟩ else none
def emptyRep : Replica := ⟨0, [], []⟩
def longerR (r : Replica) (o : Op) : Replica := ⟨r.dev, see r.seen o.at_, r.ops ++ [o]⟩
def withR (r : Replica) (o : Op) : Replica × Int := if repE (longerR r o) = 0 then (longerR r o, 0) else (emptyRep, repE (longerR r o))
def newR (dev : Int) : Replica × Int := if within dev 1 15 then (⟨dev, join [] [], []⟩, 0) else (emptyRep, 1)
def addOpR (s : Stamp) (rc : Int) (n : Note) : Op := ⟨s, 0, rc, { n with id := idOf s }, 0, 0, .empty, []⟩
def addR (r : Replica) (rc : Int) (n : Note) : Replica × Int × Int := match nextS r.seen r.dev with
  | none => (emptyRep, 0, 27)
  | some s => if (withR r (addOpR s rc n)).2 = 0 then ((withR r (addOpR s rc n)).1, idOf s, 0) else (emptyRep, 0, (withR r (addOpR s rc n)).2)
def setOpR (s : Stamp) (rc note f n : Int) (t : ByteArray) (ov : List Stamp) : Op := ⟨s, 1, rc, bareNote note, f, n, t, ov⟩
def dropOpR (s : Stamp) (rc note : Int) (ov : List Stamp) : Op := ⟨s, 2, rc, bareNote note, 0, 0, .empty, ov⟩
def atsV (l : List Val) : List Stamp := l.map (·.at_)
def nextE (r : Replica) (note : Int) : Int := match addedO r.ops note with
  | none => 9
  | some _ => if lives r.ops note = false then 26 else if (nextS r.seen r.dev).isSome = false then 27 else 0
def setR (r : Replica) (note f n : Int) (t : ByteArray) : Replica × Int := match addedO r.ops note, nextS r.seen r.dev with
  | some a, some s => if lives r.ops note = false then (emptyRep, 26) else withR r (setOpR s a.rec_ note f n t (atsV (valuesL r.ops note f)))
  | some _, none => if lives r.ops note = false then (emptyRep, 26) else (emptyRep, 27)
  | none, _ => (emptyRep, 9)
def overAll (l : List Op) (note : Int) : List Stamp := (l.filter fun o => ([0, 1, 2] : List Int).any fun f => (atsV (valuesL l note f)).contains o.at_).map (·.at_)
def dropR (r : Replica) (note : Int) : Replica × Int := match addedO r.ops note, nextS r.seen r.dev with
  | some a, some s => if lives r.ops note = false then (emptyRep, 26) else withR r (dropOpR s a.rec_ note (overAll r.ops note))
  | some _, none => if lives r.ops note = false then (emptyRep, 26) else (emptyRep, 27)
  | none, _ => (emptyRep, 9)
theorem values_ne {l : List Op} (hg : Good l) {note : Int} {a : Op} (ha : addedO l note = some a) {f : Int} (hf : within f 0 2 = true) : valuesL l note f ≠ [] := by
  have hmem := List.mem_of_find?_eq_some ha
  have hpr := List.find?_some ha
  simp only [Bool.and_eq_true, decide_eq_true_eq] at hpr
  have hwa : writes a note f = true := by simp [writes, wrt, hf, hpr.1, hpr.2]
  -- the last one that writes
  have H : ∀ (n : Nat) (k : List Op), k.length = n → Good k → (∃ o ∈ k, writes o note f = true) → ∃ o ∈ k, writes o note f = true ∧ ∀ p ∈ k, writes p note f = true → less o.at_ p.at_ = false := by
    intro n
    induction n with
    | zero =>
      intro k hk _ ⟨o, ho, _⟩
      rw [List.eq_nil_of_length_eq_zero hk] at ho; cases ho
    | succ n ih =>
      intro k hk hgk hex
      have hne : k ≠ [] := by intro e; rw [e] at hk; cases hk
      obtain ⟨q, o, rfl⟩ : ∃ q o, k = q ++ [o] := ⟨_, _, (List.dropLast_concat_getLast hne).symm⟩
      obtain ⟨hi, ha⟩ := hgk
      obtain ⟨i1, i2, i3⟩ := List.pairwise_append.1 hi
      cases hw : writes o note f with
      | true =>
        refine ⟨o, List.mem_append_right _ (List.mem_singleton_self _), hw, fun p hp _ => ?_⟩
        rcases List.mem_append.1 hp with hp | hp
        · exact less_asym (i3 p hp o (List.mem_singleton_self _))
        · simp only [List.mem_singleton] at hp; subst hp; exact less_irr _
      | false =>
        obtain ⟨x, hx, hwx⟩ := hex
        have hxq : x ∈ q := by
          rcases List.mem_append.1 hx with h | h
          · exact h
          · simp only [List.mem_singleton] at h; subst h; rw [hw] at hwx; cases hwx
        obtain ⟨y, hy, hwy, hly⟩ := ih q (by simp at hk; exact hk) ⟨i1, fun p hp => ha p (List.mem_append_left _ hp)⟩ ⟨x, hxq, hwx⟩
        refine ⟨y, List.mem_append_left _ hy, hwy, fun p hp hwp => ?_⟩
        rcases List.mem_append.1 hp with hp | hp
        · exact hly p hp hwp
        · simp only [List.mem_singleton] at hp; subst hp; rw [hw] at hwp; cases hwp
  obtain ⟨o, ho, hw, hlast⟩ := H _ l rfl hg ⟨a, hmem, hwa⟩
  have hk : keepV l note f o = true := by
    unfold keepV
    rw [hw, Bool.true_and, Bool.not_eq_true']
    cases hc : overd l o.at_ 1 note f with
    | false => rfl
    | true =>
      obtain ⟨p, hp, hwp, hs⟩ := (overd_iff hg.2 hf).1 hc
      have := over_less (hg.2 p hp) _ hs
      rw [hlast p hp hwp] at this; cases this
  intro e
  have : o ∈ l.filter (keepV l note f) := List.mem_filter.2 ⟨ho, hk⟩
  unfold valuesL at e
  rw [List.map_eq_nil_iff] at e
  rw [e] at this; cases this
end Go.Proofs.YtnacjdaoiepbhaaGreatDoor
end
section
namespace Go.Proofs.YtnacjdaoiepbhaaGreatDoor
open Go.Ac Go.MapKept
attribute [local irreducible] awp awpL Ev Ev2 EvS thenQ blockQ retQ PCalls OCalls YieldOk IterC ICalls
theorem FitM.r {a b : List Op} (h : FitM a b) : Fit a := h.fit (by omega) fun o ho => .inl ho
theorem FitM.l {a b : List Op} (h : FitM a b) : Fit b := h.fit (by omega) fun o ho => .inr ho
end Go.Proofs.YtnacjdaoiepbhaaGreatDoor
end
section
namespace Go.Proofs.YtnacjdaoiepbhaaGreatDoor
open Go.Ac Go.MapKept
attribute [local irreducible] awp awpL Ev Ev2 EvS thenQ blockQ retQ PCalls OCalls YieldOk IterC ICalls
def agree (a b : Replica) : Bool := decide (behind a.ops b.ops = 0) && decide (behind b.ops a.ops = 0)
end Go.Proofs.YtnacjdaoiepbhaaGreatDoor
end
section
namespace Go.Proofs.YtnacjdaoiepbhaaGreatDoor
open Go.Ac Go.MapKept
attribute [local irreducible] awp awpL Ev Ev2 EvS thenQ blockQ retQ PCalls OCalls YieldOk IterC ICalls
def tBa : ByteArray := ⟨#[98, 97]⟩
def tMi : ByteArray := ⟨#[109, 105]⟩
def tPa : ByteArray := ⟨#[112, 97]⟩
def opA : Op := addOp 1 1 tBa
def opB : Op := addOp 1 2 tMi
def opP : Op := addOp 1 3 tPa
def opD : Op := addOp 1 1 tPa
def opS : Op := ⟨⟨3, 3⟩, 1, 1, ⟨19, 0, 0, ⟨0, 0⟩, 0, .empty⟩, 0, 0, ⟨#[120]⟩, [⟨1, 3⟩]⟩
def vec (a b c : Int) : List Int := [a, b, c, 0, 0, 0, 0, 0, 0, 0, 0, 0, 0, 0, 0]
def rA : Replica := ⟨1, vec 1 0 0, [opA]⟩
def rB : Replica := ⟨2, vec 0 1 0, [opB]⟩
def rC : Replica := ⟨3, vec 0 0 3, [opP, opS]⟩
def rX : Replica := ⟨1, vec 1 1 0, [opA, opB]⟩
def rY : Replica := ⟨2, vec 1 1 0, [opA, opB]⟩
def rV : Replica := ⟨2, vec 1 1 3, [opA, opB, opP, opS]⟩
def rZ : Replica := ⟨3, vec 1 1 3, [opA, opB, opP, opS]⟩
theorem m1 : merge (start 1) [opA] = (rA, 0) := by kernel_rfl
theorem m2 : merge (start 2) [opB] = (rB, 0) := by kernel_rfl
theorem m3 : merge (start 1) [opS] = (zeroRep, 9) := by kernel_rfl
theorem m4 : merge (start 3) [opS, opP] = (rC, 0) := by kernel_rfl
theorem m5 : merge (start 1) [opA, opD] = (zeroRep, 8) := by kernel_rfl
theorem s1 : sync rA rB = (rX, rY, 0) := by kernel_rfl
theorem s2 : sync rY rC = (rV, rZ, 0) := by kernel_rfl
theorem g1 : agree rX rY = true := by kernel_rfl
theorem g2 : agree rA rB = false := by kernel_rfl
theorem g3 : behind rA.ops rB.ops = 1 := by kernel_rfl
theorem g4 : (missing rZ.ops rA.seen 2).length = 2 := by kernel_rfl
theorem g5 : (missing rZ.ops rA.seen 9).length = 3 := by kernel_rfl
def opF (o : Op) : Bool := decide (o.over.length ≤ 1000) && (decide (-9223372036854775808 ≤ o.note.id) && decide (o.note.id ≤ 9223372036854775807))
def fitB (a b : List Op) : Bool := decide (a.length + b.length ≤ 1000) && (a.all opF && b.all opF)
theorem opF_ov {o : Op} (h : opF o = true) : o.over.length ≤ 100000 ∧ I64 o.note.id := by
  simp [opF] at h
  exact ⟨by omega, h.2⟩
theorem FitM.of {a b : List Op} (h : fitB a b = true) : FitM a b := by
  simp only [fitB, Bool.and_eq_true, decide_eq_true_eq, List.all_eq_true] at h
  refine ⟨h.1, fun o ho => (opF_ov (ho.elim (h.2.1 o) (h.2.2 o))).1, fun o ho => (opF_ov (ho.elim (h.2.1 o) (h.2.2 o))).2⟩
theorem Inc.of {l : List Op} (h : (decide (l.Pairwise fun a b => less a.at_ b.at_ = true)) = true) : Inc l := (of_decide_eq_true h : l.Pairwise fun a b => less a.at_ b.at_ = true)
def fitRB (r : Replica) : Bool := decide (r.ops.length ≤ 1000) && (r.ops.all opF && decide (r.seen.length ≤ 1000))
theorem FitR.of {r : Replica} (h : fitRB r = true) : FitR r := by
  simp only [fitRB, Bool.and_eq_true, decide_eq_true_eq, List.all_eq_true] at h
  exact ⟨⟨by omega, fun o ho => (opF_ov (h.2.1 o ho)).1⟩, by omega⟩
end Go.Proofs.YtnacjdaoiepbhaaGreatDoor
end
section
namespace Go.Proofs.YtnacjdaoiepbhaaGreatDoor
open Go.Ac Go.MapKept
attribute [local irreducible] awp awpL Ev Ev2 EvS thenQ blockQ retQ PCalls OCalls YieldOk IterC ICalls
theorem light_rep {r : Replica} (h : light r = true) : repE r = 0 ∧ r.ops.length ≤ 16 ∧ r.seen.length ≤ 100 := by
  simp only [light, Bool.and_eq_true, decide_eq_true_eq] at h
  exact ⟨h.2.2, h.1, h.2.1⟩
theorem rep_op {r : Replica} (h : repE r = 0) : ∀ o ∈ r.ops, opE o = 0 := by
  intro o ho
  obtain ⟨k, hk⟩ := List.getElem?_of_mem ho
  exact oneE_opE (allE_split r.ops [] (repE_all h).1 k o hk)
theorem light_fit {r : Replica} (h : light r = true) : FitR r := by
  obtain ⟨h1, h2, h3⟩ := light_rep h
  exact ⟨⟨by omega, fun o ho => by have := opE_over (rep_op h1 o ho); omega⟩, by omega⟩
theorem miss_mem (seen : List Int) (most : Int) : ∀ (l out : List Op) (o : Op), o ∈ l.foldl (missStep seen most) out → o ∈ out ∨ o ∈ l
  | [], out, o, h => .inl h
  | x :: r, out, o, h => by
    rw [List.foldl_cons] at h
    rcases miss_mem seen most r _ o h with h | h
    · unfold missStep at h
      split at h
      · rcases List.mem_append.1 h with h | h
        · exact .inl h
        · simp only [List.mem_singleton] at h; subst h; exact .inr (List.mem_cons_self ..)
      · exact .inl h
    · exact .inr (List.mem_cons_of_mem _ h)
theorem missing_mem {l : List Op} {seen : List Int} {most : Int} {o : Op} (h : o ∈ missing l seen most) : o ∈ l := by
  rcases miss_mem seen most l [] o h with h | h
  · cases h
  · exact h
end Go.Proofs.YtnacjdaoiepbhaaGreatDoor
end
section
namespace Go.Proofs.YtnacjdaoiepbhaaGreatDoor
theorem missing_take (seen : List Int) (most : Int) (l : List Op) : missing l seen most = (l.filter fun o => !covers seen o.at_).take most.toNat := by
  have H : ∀ (l out : List Op), l.foldl (missStep seen most) out = out ++ (l.filter fun o => !covers seen o.at_).take (most - out.length).toNat := by
    intro l
    induction l with
    | nil => intro out; simp
    | cons o r ih =>
      intro out
      rw [List.foldl_cons]
      by_cases hm : (out.length : Int) < most
      · cases hc : covers seen o.at_ with
        | true =>
          have : missStep seen most out o = out := by unfold missStep; rw [if_neg (by simp [hc])]
          rw [this, ih, List.filter_cons_of_neg (by simp [hc])]
        | false =>
          have : missStep seen most out o = out ++ [o] := by unfold missStep; rw [if_pos ⟨hm, hc⟩]
          rw [this, ih, List.filter_cons_of_pos (by simp [hc])]
          have e : (most - (out.length : Int)).toNat = (most - ((out ++ [o]).length : Int)).toNat + 1 := by simp; omega
          rw [e, List.take_succ_cons]; simp
      · rw [miss_full seen most r _ (by have : missStep seen most out o = out := by unfold missStep; rw [if_neg (by omega)]
                                        rw [this]; omega)]
        have : missStep seen most out o = out := by unfold missStep; rw [if_neg (by omega)]
        rw [this, show (most - (out.length : Int)).toNat = 0 by omega]; simp
  have := H l []
  simpa [missing] using this
theorem num_see {v : List Int} (hl : v.length = 15) (hn : ∀ x ∈ v, 0 ≤ x) {s : Stamp} (hs : right s = true) (i : Nat) : num (see v s) i = if i = (s.dev - 1).toNat then max (num v i) s.count else num v i := by
  rw [see, if_pos hs, join_self hl hn]
  have hd : (s.dev - 1).toNat < 15 := by simp only [right, Bool.and_eq_true, decide_eq_true_eq] at hs; omega
  have h0 := num_nonneg v (s.dev - 1).toNat
  unfold num at *
  rw [List.getElem?_set]
  by_cases h : (s.dev - 1).toNat = i
  · subst h
    rw [if_pos rfl, if_pos (by omega), if_pos rfl]
    simp only [Option.getD_some]; omega
  · rw [if_neg h, if_neg (fun e => h e.symm)]
theorem covers_seenL {l : List Op} (hr : ∀ o ∈ l, right o.at_ = true) {s : Stamp} (hs : right s = true) : covers (seenL l) s = true ↔ ∃ o ∈ l, o.at_.dev = s.dev ∧ s.count ≤ o.at_.count := by
  have H : ∀ (n : Nat) (l : List Op), l.length = n → (∀ o ∈ l, right o.at_ = true) → (s.count ≤ num (seenL l) (s.dev - 1).toNat ↔ ∃ o ∈ l, o.at_.dev = s.dev ∧ s.count ≤ o.at_.count) := by
    intro n
    have hc : 1 ≤ s.count ∧ 1 ≤ s.dev := by simp only [right, Bool.and_eq_true, decide_eq_true_eq] at hs; omega
    induction n with
    | zero =>
      intro l hl _
      have : l = [] := List.eq_nil_of_length_eq_zero hl
      subst this
      rw [seenL_nil]
      constructor
      · intro h
        exfalso
        have : num (List.replicate 15 0) (s.dev - 1).toNat = 0 := by
          unfold num
          rw [List.getElem?_replicate]
          split <;> simp
        omega
      · rintro ⟨o, ho, _⟩; cases ho
    | succ n ih =>
      intro l hl hr
      have hne : l ≠ [] := by intro e; rw [e] at hl; cases hl
      obtain ⟨q, o, rfl⟩ : ∃ q o, l = q ++ [o] := ⟨_, _, (List.dropLast_concat_getLast hne).symm⟩
      have ho := hr o (List.mem_append_right _ (List.mem_singleton_self _))
      have hI := ih q (by simp at hl; exact hl) fun p hp => hr p (List.mem_append_left _ hp)
      rw [seenL_snoc, num_see (seenL_len q) (seenL_nonneg q) ho]
      have hod : 1 ≤ o.at_.dev := by simp only [right, Bool.and_eq_true, decide_eq_true_eq] at ho; omega
      constructor
      · intro h
        split at h
        · rename_i he
          rcases Int.le_total s.count o.at_.count with g | g
          · exact ⟨o, List.mem_append_right _ (List.mem_singleton_self _), by omega, g⟩
          · by_cases g2 : s.count ≤ o.at_.count
            · exact ⟨o, List.mem_append_right _ (List.mem_singleton_self _), by omega, g2⟩
            · obtain ⟨p, hp, h2⟩ := hI.1 (by omega)
              exact ⟨p, List.mem_append_left _ hp, h2⟩
        · obtain ⟨p, hp, h2⟩ := hI.1 h
          exact ⟨p, List.mem_append_left _ hp, h2⟩
      · rintro ⟨p, hp, h1, h2⟩
        rcases List.mem_append.1 hp with hp | hp
        · have := hI.2 ⟨p, hp, h1, h2⟩
          split <;> omega
        · simp only [List.mem_singleton] at hp; subst hp
          rw [if_pos (by omega)]; omega
  have := H _ l rfl hr
  unfold covers
  rw [hs]
  simpa using this
theorem nodup_len {l m : List Op} (hl : l.Nodup) (h : ∀ o ∈ l, o ∈ m) : l.length ≤ m.length := by
  induction l generalizing m with
  | nil => simp
  | cons o r ih =>
    obtain ⟨h1, h2⟩ := List.nodup_cons.1 hl
    have ho := h o (List.mem_cons_self ..)
    have := ih (m := m.erase o) h2 fun p hp => (List.mem_erase_of_ne (fun (e : p = o) => h1 (by rw [← e]; exact hp))).2 (h p (List.mem_cons_of_mem _ hp))
    rw [List.length_erase_of_mem ho] at this
    have : 0 < m.length := List.length_pos_of_mem ho
    simp only [List.length_cons]; omega
theorem Inc.nodup {l : List Op} (h : Inc l) : l.Nodup := h.imp fun g e => by rw [e, less_irr] at g; cases g
structure Cons (x y : Replica) : Prop where
  rx : repE x = 0
  ry : repE y = 0
  hx : ∀ o ∈ y.ops, covers x.seen o.at_ = true → o ∈ x.ops
  hy : ∀ o ∈ x.ops, covers y.seen o.at_ = true → o ∈ y.ops
theorem half_iff {a b : Replica} : half a b = true ↔ ∀ o ∈ b.ops, covers a.seen o.at_ = true → o ∈ a.ops := by
  unfold half
  rw [List.all_eq_true]
  constructor
  · intro h o ho hc
    have := h o ho
    rw [hc] at this
    exact has_iff.1 (by simpa using this)
  · intro h o ho
    cases hc : covers a.seen o.at_ with
    | false => rfl
    | true => rw [has_iff.2 (h o ho hc)]; rfl
theorem Cons.symm {x y : Replica} (h : Cons x y) : Cons y x := ⟨h.ry, h.rx, h.hy, h.hx⟩
theorem rep_right {r : Replica} (h : repE r = 0) {o : Op} (ho : o ∈ r.ops) : right o.at_ = true := opE_right (repE_ops h o ho)
theorem rep_covers {r : Replica} (h : repE r = 0) {o : Op} (ho : o ∈ r.ops) : covers r.seen o.at_ = true := by
  rw [(repE_all h).2.1]
  exact (covers_seenL (fun p hp => rep_right h hp) (rep_right h ho)).2 ⟨o, ho, rfl, Int.le_refl _⟩
theorem Cons.cov {x y : Replica} (h : Cons x y) {o : Op} (ho : o ∈ y.ops) : covers x.seen o.at_ = has x.ops o := by
  cases hc : covers x.seen o.at_ with
  | true => rw [has_iff.2 (h.hx o ho hc)]
  | false =>
    cases hh : has x.ops o with
    | false => rfl
    | true => rw [rep_covers h.rx (has_iff.1 hh)] at hc; cases hc
def news (x y : List Op) : List Op := y.filter fun o => !has x o
theorem mem_news {x y : List Op} {o : Op} : o ∈ news x y ↔ o ∈ y ∧ o ∉ x := by
  unfold news
  rw [List.mem_filter]
  simp [← has_iff]
theorem Inc.news {x y : List Op} (h : Inc y) : Inc (news x y) := h.filter _
theorem news_behind (x y : List Op) : (news x y).length = behind x y := by
  unfold news behind; rw [List.countP_eq_length_filter]
theorem Cons.missing {x y : Replica} (h : Cons x y) (n : Int) : missing y.ops x.seen n = (news x.ops y.ops).take n.toNat := by
  rw [missing_take]
  congr 1
  unfold news
  exact List.filter_congr fun o ho => by rw [h.cov ho]
theorem Inc.sub {l m : List Op} (h : Inc m) (hs : l.Sublist m) : Inc l := List.Pairwise.sublist hs h
theorem Cons.part {x y : Replica} (h : Cons x y) {n : Int} (hn : 1 ≤ n) (hlen : x.ops.length + y.ops.length ≤ 400) :
    (merge x (Go.Proofs.YtnacjdaoiepbhaaGreatDoor.missing y.ops x.seen n)).2 = 0 ∧ Cons (merge x (Go.Proofs.YtnacjdaoiepbhaaGreatDoor.missing y.ops x.seen n)).1 y ∧
    (∀ o, o ∈ (merge x (Go.Proofs.YtnacjdaoiepbhaaGreatDoor.missing y.ops x.seen n)).1.ops ↔ o ∈ x.ops ∨ o ∈ Go.Proofs.YtnacjdaoiepbhaaGreatDoor.missing y.ops x.seen n) ∧
    behind (merge x (Go.Proofs.YtnacjdaoiepbhaaGreatDoor.missing y.ops x.seen n)).1.ops y.ops ≤ behind x.ops y.ops - 1 ∧
    behind y.ops (merge x (Go.Proofs.YtnacjdaoiepbhaaGreatDoor.missing y.ops x.seen n)).1.ops = behind y.ops x.ops ∧ (merge x (Go.Proofs.YtnacjdaoiepbhaaGreatDoor.missing y.ops x.seen n)).1.dev = x.dev := by
  rw [h.missing]
  have hix := repE_inc h.rx
  have hiy := repE_inc h.ry
  have hin := hiy.news (x := x.ops)
  generalize hT : (news x.ops y.ops).take n.toNat = T
  have hTm : ∀ o ∈ T, o ∈ y.ops ∧ o ∉ x.ops := fun o ho => mem_news.1 (List.mem_of_mem_take (hT ▸ ho))
  obtain ⟨m, hu⟩ : ∃ m, unite x.ops T = some m := by
    have hU := unite_U T x.ops hix
    cases hu : unite x.ops T with
    | some m => exact ⟨m, rfl⟩
    | none =>
      rw [hu] at hU
      obtain ⟨a, b, ha, hb, e, hne⟩ := hU
      exfalso
      have key : ∀ a b : Op, a ∈ x.ops → b ∈ y.ops → a.at_ = b.at_ → a = b := by
        intro a b ha hb e
        have := rep_covers h.ry hb
        rw [← e] at this
        exact hiy.uniq (h.hy a ha this) hb e
      rcases ha with ha | ha
      · rcases hb with hb | hb
        · exact hne (hix.uniq ha hb e)
        · exact hne (key a b ha (hTm b hb).1 e)
      · rcases hb with hb | hb
        · exact hne (key b a hb (hTm a ha).1 e.symm).symm
        · exact hne (hiy.uniq (hTm a ha).1 (hTm b hb).1 e)
  have hU := unite_U T x.ops hix
  rw [hu] at hU
  obtain ⟨him, hm⟩ := hU
  have hml := unite_len T x.ops m hu
  have hTl : T.length ≤ y.ops.length := by
    rw [← hT, List.length_take]
    have : (news x.ops y.ops).length ≤ y.ops.length := List.length_filter_le ..
    omega
  obtain ⟨ax, sx, dx1, dx2, lx⟩ := repE_all h.rx
  obtain ⟨ay, sy, dy1, dy2, ly⟩ := repE_all h.ry
  have hTdown : ∀ o ∈ T, ∀ p ∈ y.ops, less p.at_ o.at_ = true → p ∈ m := by
    intro o ho p hp hlt
    by_cases hpx : p ∈ x.ops
    · exact (hm p).2 (.inl hpx)
    · refine (hm p).2 (.inr ?_)
      have hpn := mem_news.2 ⟨hp, hpx⟩
      rw [← List.take_append_drop n.toNat (news x.ops y.ops), hT] at hpn
      rcases List.mem_append.1 hpn with g | g
      · exact g
      · have hin2 := hin
        rw [← List.take_append_drop n.toNat (news x.ops y.ops), hT] at hin2
        have := (List.pairwise_append.1 hin2).2.2 o ho p g
        rw [less_asym this] at hlt; cases hlt
  have hall : allE [] m = 0 := allE_of him fun o ho => by
    rcases (hm o).1 ho with g | g
    · exact ⟨x.ops, ax, g, fun p hp _ => (hm p).2 (.inl hp)⟩
    · exact ⟨y.ops, ay, (hTm o g).1, hTdown o g⟩
  have hrep : repE (joined x m) = 0 := by
    unfold repE joined
    rw [if_neg (by simp [within]; omega), if_neg (by simp only; omega), if_neg (by simpa using hall), if_neg (by simp)]
  rw [merge_ok hu hrep]
  have hrm : ∀ o ∈ m, right o.at_ = true := fun o ho => rep_right hrep ho
  have hcons : Cons (joined x m) y := by
    refine ⟨hrep, h.ry, fun o ho hc => ?_, fun o ho hc => ?_⟩
    · have hro := rep_right h.ry ho
      obtain ⟨p, hp, hd, hle⟩ := (covers_seenL hrm hro).1 hc
      rcases (hm p).1 hp with g | g
      · refine (hm o).2 (.inl (h.hx o ho ?_))
        rw [sx]
        exact (covers_seenL (fun q hq => rep_right h.rx hq) hro).2 ⟨p, g, hd, hle⟩
      · have hpy := (hTm p g).1
        rcases less_tri o.at_ p.at_ with q | q | q
        · exact hTdown p g o ho q
        · rw [hiy.uniq ho hpy q]; exact hp
        · simp [less] at q; omega
    · rcases (hm o).1 ho with g | g
      · exact h.hy o g hc
      · exact (hTm o g).1
  refine ⟨rfl, hcons, hm, ?_, ?_, rfl⟩
  · rw [← news_behind, ← news_behind]
    have e : news (joined x m).ops y.ops = (news x.ops y.ops).drop n.toNat := by
      refine Inc.ext hiy.news (hin.sub (List.drop_sublist ..)) fun o => ?_
      rw [mem_news]
      constructor
      · rintro ⟨h1, h2⟩
        have hx : o ∉ x.ops := fun g => h2 ((hm o).2 (.inl g))
        have hpn := mem_news.2 ⟨h1, hx⟩
        rw [← List.take_append_drop n.toNat (news x.ops y.ops), hT] at hpn
        rcases List.mem_append.1 hpn with g | g
        · exact absurd ((hm o).2 (.inr g)) h2
        · exact g
      · intro g
        obtain ⟨h1, h2⟩ := mem_news.1 (List.mem_of_mem_drop g)
        refine ⟨h1, fun h3 => ?_⟩
        rcases (hm o).1 h3 with g2 | g2
        · exact h2 g2
        · have hin2 := hin
          rw [← List.take_append_drop n.toNat (news x.ops y.ops), hT] at hin2
          exact less_ne ((List.pairwise_append.1 hin2).2.2 o g2 o g) rfl
    rw [e, List.length_drop]; omega
  · rw [← news_behind, ← news_behind]
    have e : news y.ops (joined x m).ops = news y.ops x.ops := by
      refine Inc.ext (Inc.news him) (Inc.news hix) fun o => ?_
      rw [mem_news, mem_news]
      constructor
      · rintro ⟨h1, h2⟩
        rcases (hm o).1 h1 with g | g
        · exact ⟨g, h2⟩
        · exact absurd (hTm o g).1 h2
      · rintro ⟨h1, h2⟩
        exact ⟨(hm o).2 (.inl h1), h2⟩
    rw [e]
theorem behind_le (a b : List Op) : behind a b ≤ b.length := List.countP_le_length
structure Rounds (a b x y : Replica) (i : Nat) : Prop where
  c : Cons x y
  ax : ∀ o ∈ a.ops, o ∈ x.ops
  xab : ∀ o ∈ x.ops, o ∈ a.ops ∨ o ∈ b.ops
  bY : ∀ o ∈ b.ops, o ∈ y.ops
  yab : ∀ o ∈ y.ops, o ∈ a.ops ∨ o ∈ b.ops
  bx : behind x.ops y.ops ≤ 16 - i
  bY2 : behind y.ops x.ops ≤ 16 - i
theorem Rounds.len {a b x y : Replica} {i : Nat} (h : Rounds a b x y i) : x.ops.length ≤ a.ops.length + b.ops.length ∧ y.ops.length ≤ a.ops.length + b.ops.length := by
  have h1 := nodup_len (m := a.ops ++ b.ops) (repE_inc h.c.rx).nodup fun o ho => List.mem_append.2 (h.xab o ho)
  have h2 := nodup_len (m := a.ops ++ b.ops) (repE_inc h.c.ry).nodup fun o ho => List.mem_append.2 (h.yab o ho)
  rw [List.length_append] at h1 h2
  exact ⟨h1, h2⟩
theorem Rounds.zero {a b : Replica} (ha : light a = true) (hb : light b = true) (h1 : half a b = true) (h2 : half b a = true) : Rounds a b a b 0 := by
  obtain ⟨a1, a2, _⟩ := light_rep ha
  obtain ⟨b1, b2, _⟩ := light_rep hb
  refine ⟨⟨a1, b1, half_iff.1 h1, half_iff.1 h2⟩, fun _ h => h, fun _ h => .inl h, fun _ h => h, fun _ h => .inr h, ?_, ?_⟩
  · have := behind_le a.ops b.ops; omega
  · have := behind_le b.ops a.ops; omega
theorem Rounds.left {a b x y : Replica} {i : Nat} (h : Rounds a b x y i) (hl : a.ops.length + b.ops.length ≤ 32) {n : Int} (hn : 1 ≤ n) :
    (merge x (missing y.ops x.seen n)).2 = 0 ∧ Rounds a b (merge x (missing y.ops x.seen n)).1 y i ∧ behind (merge x (missing y.ops x.seen n)).1.ops y.ops ≤ 16 - (i + 1) := by
  have hlen := h.len
  obtain ⟨p1, p2, p3, p4, p5, _⟩ := h.c.part hn (by omega)
  have h1 := h.bx
  have h2 := h.bY2
  refine ⟨p1, ⟨p2, fun o ho => (p3 o).2 (.inl (h.ax o ho)), fun o ho => ?_, h.bY, h.yab, by omega, by omega⟩, by omega⟩
  rcases (p3 o).1 ho with g | g
  · exact h.xab o g
  · exact h.yab o (missing_mem g)
theorem Rounds.right {a b x y : Replica} {i : Nat} (h : Rounds a b x y i) (hb : behind x.ops y.ops ≤ 16 - (i + 1)) (hl : a.ops.length + b.ops.length ≤ 32) {n : Int} (hn : 1 ≤ n) :
    (merge y (missing x.ops y.seen n)).2 = 0 ∧ Rounds a b x (merge y (missing x.ops y.seen n)).1 (i + 1) := by
  have hlen := h.len
  obtain ⟨p1, p2, p3, p4, p5, _⟩ := h.c.symm.part hn (by omega)
  have h1 := h.bY2
  refine ⟨p1, ⟨p2.symm, h.ax, h.xab, fun o ho => (p3 o).2 (.inl (h.bY o ho)), fun o ho => ?_, by omega, by omega⟩⟩
  rcases (p3 o).1 ho with g | g
  · exact h.yab o g
  · exact h.xab o (missing_mem g)
end Go.Proofs.YtnacjdaoiepbhaaGreatDoor
end
section
namespace Go.Proofs.YtnacjdaoiepbhaaGreatDoor
open Go.Ac
theorem good_of {r : Replica} (h : repE r = 0) : Good r.ops := ⟨repE_inc h, repE_ops h⟩
theorem mem_values {l : List Op} {note f : Int} {v : Val} (h : v ∈ valuesL l note f) : ∃ o ∈ l, writes o note f = true ∧ overd l o.at_ 1 note f = false ∧ v = valueOf o f ∧ v.at_ = o.at_ := by
  obtain ⟨o, ho, rfl⟩ := List.mem_map.1 h
  obtain ⟨h1, h2⟩ := List.mem_filter.1 ho
  simp only [keepV, Bool.and_eq_true, Bool.not_eq_true'] at h2
  exact ⟨o, h1, h2.1, h2.2, rfl, valueOf_at (writes_wrt h2.1)⟩
theorem cell_lives {l : List Op} {note : Int} : (cell l note).isSome = lives l note := by
  unfold cell lives
  cases addedO l note with
  | none => rfl
  | some a => simp only [Option.isSome_some, Bool.true_and]; split <;> simp_all
def cellsF (l : List Op) (rc : Int) (o : Op) : Option Cell := if o.kind = 0 ∧ o.rec_ = rc then cell l o.note.id else none
theorem cell_inv {l : List Op} {note : Int} {c : Cell} (h : cell l note = some c) : ∃ a, addedO l note = some a ∧ c = cellOf l note a ∧ c.note.id = note ∧ c.rec_ = a.rec_ := by
  unfold cell at h
  cases ha : addedO l note with
  | none => rw [ha] at h; cases h
  | some a =>
    rw [ha] at h
    simp only at h
    split at h
    · cases h
      have := List.find?_some ha
      simp only [Bool.and_eq_true, decide_eq_true_eq] at this
      exact ⟨a, rfl, rfl, this.2, rfl⟩
    · cases h
end Go.Proofs.YtnacjdaoiepbhaaGreatDoor
end
section
namespace Go.Proofs.YtnacjdaoiepbhaaGreatDoor
open Go.Ac
def current (c : Cell) : Note :=
  { c.note with
    text := match c.text.getLast? with | some v => v.text | none => c.note.text
    span := ⟨match c.fro.getLast? with | some v => v.n | none => c.note.span.fro, match c.til.getLast? with | some v => v.n | none => c.note.span.til⟩ }
def two (a b : Op) : List Op := if less b.at_ a.at_ then [b, a] else [a, b]
def bothR (r : Replica) (a b : Op) : Replica := ⟨r.dev, join (see r.seen a.at_) (see r.seen b.at_), r.ops ++ two a b⟩
end Go.Proofs.YtnacjdaoiepbhaaGreatDoor
end
section
namespace Go.Proofs.YtnacjdaoiepbhaaGreatDoor
open Go.Ac
def IncS (l : List Stamp) : Prop := l.Pairwise fun a b => less a b = true
theorem IncS.ext : ∀ {l m : List Stamp}, IncS l → IncS m → (∀ o, o ∈ l ↔ o ∈ m) → l = m
  | [], [], _, _, _ => rfl
  | [], y :: s, _, _, h => by have := (h y).2 (List.mem_cons_self ..); cases this
  | x :: r, [], _, _, h => by have := (h x).1 (List.mem_cons_self ..); cases this
  | x :: r, y :: s, hl, hm, h => by
    obtain ⟨l1, l2⟩ := List.pairwise_cons.1 hl
    obtain ⟨m1, m2⟩ := List.pairwise_cons.1 hm
    have hxy : x = y := by
      rcases List.mem_cons.1 ((h x).1 (List.mem_cons_self ..)) with e | hx
      · exact e
      · rcases List.mem_cons.1 ((h y).2 (List.mem_cons_self ..)) with e | hy
        · exact e.symm
        · have := less_asym (l1 _ hy); rw [m1 _ hx] at this; cases this
    subst hxy
    have : r = s := by
      refine IncS.ext l2 m2 fun o => ⟨fun ho => ?_, fun ho => ?_⟩
      · rcases List.mem_cons.1 ((h o).1 (List.mem_cons_of_mem _ ho)) with e | g
        · subst e; exact absurd rfl (less_ne (l1 _ ho))
        · exact g
      · rcases List.mem_cons.1 ((h o).2 (List.mem_cons_of_mem _ ho)) with e | g
        · subst e; exact absurd rfl (less_ne (m1 _ ho))
        · exact g
    rw [this]
def addS (out : List Stamp) (s : Stamp) : List Stamp := if s ∈ out then out else out ++ [s]
def uniqS (l : List Stamp) : List Stamp := l.foldl addS []
theorem Inc.ats {l : List Op} (h : Inc l) : IncS (l.map (·.at_)) := List.pairwise_map.2 h
end Go.Proofs.YtnacjdaoiepbhaaGreatDoor
end
section
namespace Go.Proofs.YtnacjdaoiepbhaaGreatDoor
open Go.Ac
def topK (v : List Int) (k : Nat) : Int := (List.range k).foldl (fun m i => max m (num v i)) 0
end Go.Proofs.YtnacjdaoiepbhaaGreatDoor
end
section
namespace Go.Proofs.YtnacjdaoiepbhaaGreatDoor
open Go.Ac
abbrev valsK (l : List Op) (note f : Int) (k : Nat) : List Val := ((l.take k).filter (keepV l note f)).map (valueOf · f)
theorem valsK_yes {l : List Op} {note f : Int} {k : Nat} {x : Op} (h : l[k]? = some x) (hk : keepV l note f x = true) : valsK l note f (k + 1) = valsK l note f k ++ [valueOf x f] := by
  unfold valsK
  rw [List.take_add_one, h, Option.toList_some, List.filter_append, List.filter_cons_of_pos hk, List.filter_nil, List.map_append]; rfl
theorem valsK_no {l : List Op} {note f : Int} {k : Nat} {x : Op} (h : l[k]? = some x) (hk : keepV l note f x = false) : valsK l note f (k + 1) = valsK l note f k := by
  unfold valsK
  rw [List.take_add_one, h, Option.toList_some, List.filter_append, List.filter_cons_of_neg (by simp [hk]), List.filter_nil, List.append_nil]
theorem valsK_len (l : List Op) (note f : Int) (k : Nat) : (valsK l note f k).length ≤ l.length := by
  unfold valsK
  rw [List.length_map]
  have := List.length_filter_le (keepV l note f) (l.take k)
  rw [List.length_take] at this
  omega
theorem valuesL_len (l : List Op) (note f : Int) : (valuesL l note f).length ≤ l.length := by
  unfold valuesL
  rw [List.length_map]
  exact List.length_filter_le ..
def inAll (l : List Op) (note : Int) (o : Op) : Bool := ([0, 1, 2] : List Int).any fun f => (atsV (valuesL l note f)).contains o.at_
abbrev ovK (l : List Op) (note : Int) (k : Nat) : List Stamp := ((l.take k).filter (inAll l note)).map (·.at_)
def sizeF (n : Int) (o : Op) : Int := n + 20 + (o.text.size : Int) + (o.note.text.size : Int) + (o.over.length : Int)
def sizeL (l : List Op) : Int := l.foldl sizeF 0
def fewR (r : Replica) : Bool := decide (r.seen.length ≤ 100) && (decide (r.ops.length ≤ 420) && decide (sizeL r.ops ≤ 30000))
end Go.Proofs.YtnacjdaoiepbhaaGreatDoor
end
section
namespace Go.Ac
section
variable {P : Program} {td : TDs} [T : TOK P td] {G : Glo} {N : Nat} {Q : AQ} {S Sb D : SL} {L : List LB} {ops : Array Oper} {rest : List Oper}
  {op : Op} {ty : TypeId} {pos : String} {af : Array Edge} {d i : Nat} {x : AV} {nb : Nat} {W : DW}
end
end Go.Ac
end
section
namespace Go.Ac
section
variable {P : Program} {td : TDs} [T : TOK P td] {G : Glo} {N : Nat} {Q : AQ} {S : SL} {L : List LB} {ops : Array Oper} {rest : List Oper}
  {ty : TypeId} {pos : String} {af : Array Edge} {d : Nat}
theorem awpL_eqnil {t t' e sz n : Nat} {dd : TD} {u : Operand} {es : List (List AV)} (hu : val G S u = some (.fs sz n es)) (ht : lk td t = some dd) (hs : dd.k = .slice e) (hd : Nat.blt d N = true)
    (k0 : n = 0 → awpL P G N ops rest Q ((d, .v (.bool true)) :: S) L) (k1 : awpL P G N ops rest Q ((d, .v (.bool false)) :: S) L) :
    awpL P G N ops (⟨some d, .binOp .eql t u (.const (.slice none 0 0)) t', ty, pos, af, none⟩ :: rest) Q S L := by
  intro cx a hc
  have e1 := val_R hc hu
  simp only [R, RF] at e1
  obtain ⟨hlen, ad, cap, e1, hcap, hmem⟩ := e1
  have hsd := slice_desc (P := P) ht hs
  have hrun : (execOp a.eval ⟨some d, .binOp .eql t u (.const (.slice none 0 0)) t', ty, pos, af, none⟩).run P cx.w = .ok (.value (.bool ad.isNone)) cx.w := by
    have c0 : a.eval (.const (.slice none 0 0)) = .slice none 0 0 := rfl
    have := Go.Lib.run_eql_slice_nil (P := P) cx.w t e ad n cap 0 0 hsd
    simp only [execOp, e1, c0, Sem.run_bind]
    simp [eqGuard, Result.andThen_ok, Sem.run_pure, this]
  refine wpListIn_plain rfl fun K hK => wpIn_of_run rfl ?_
  rw [hrun, Oper.uponIn_value]
  cases had : ad with
  | none =>
    have hn : n = 0 := Decidable.byContradiction fun h => by
      obtain ⟨b, off, h1, _⟩ := hmem h
      rw [had] at h1; cases h1
    exact hK _ _ (k0 hn cx _ (hc.put hd (by simp only [R]; rfl)))
  | some x => exact hK _ _ (k1 cx _ (hc.put hd (by simp only [R]; rfl)))
end
end Go.Ac
namespace Go.Ac
section
variable {P : Program} {td : TDs} [T : TOK P td] {G : Glo} {N : Nat} {Q : AQ} {S Sb D D' : SL} {L : List LB} {rest : List Oper} {C : SL → List LB → Prop}
  {ty : TypeId} {pos : String} {af : Array Edge} {d nb : Nat} {W : DW}
theorem awp_retA {t E sz : Nat} (hg : get S t = some (.v (.slice none 0 0))) (h : Q .ret ((t, .os L.length 0) :: S) (L ++ [.own 0 E sz []])) : awp P G N .ret Q S L :=
  awp_adopt (E := E) (sz := sz) hg rfl rfl (awp_ret h)
end
end Go.Ac
end
section
namespace Go.Proofs.YtnacjdaoiepbhaaGreatDoor
open Go.Ac Go.MapKept
attribute [local irreducible] awp awpL Ev Ev2 EvS thenQ blockQ retQ PCalls OCalls YieldOk IterC ICalls
end Go.Proofs.YtnacjdaoiepbhaaGreatDoor
end
section
namespace Go.Ac
section
variable {P : Program} {td : TDs} [T : TOK P td] {G : Glo} {N : Nat} {Q : AQ} {S Sb D : SL} {L : List LB} {ops : Array Oper} {rest : List Oper}
  {op : Op} {ty ty2 : TypeId} {pos pos2 : String} {af af2 : Array Edge} {d i : Nat} {x : AV} {nb : Nat} {W : DW}
theorem run_callC {f : FuncId} (hf : Callable P f) {o : Oper} {p : Operand} {us : Array Operand} {ats : Array TypeId} (ho : o.op = .call { callee := .value p, args := us, argTypes := ats }) (a : Act) (w : World) {cs : Array Value} (hp : a.eval p = .func (.func f) #[] cs) :
    (execOp a.eval o).run P w = .ok (.enter f (us.map a.eval ++ cs)) w := by
  obtain ⟨fn, h1, h2, h3⟩ := hf
  have h3' : ¬ fn.name = "runtime.NumGoroutine" := by simpa using h3
  have h2' : ¬ fn.body = none := by intro e; rw [e] at h2; cases h2
  simp [execOp, ho, resolve, hp, Deferred.ofValue, invoke, callFunc, h1, h2', h3']
theorem TR_append {c : Cx} : ∀ {xs ys : List AV} {vs ws : List Value}, TR c xs vs → TR c ys ws → TR c (xs ++ ys) (vs ++ ws)
  | [], ys, vs, ws, h, g => by simp only [TR] at h; subst h; simpa using g
  | x :: r, ys, vs, ws, h, g => by
    simp only [TR] at h
    obtain ⟨y, s, rfl, hx, h⟩ := h
    simp only [List.cons_append, TR]
    exact ⟨y, _, rfl, hx, TR_append h g⟩
theorem pev_callC {f : FuncId} {p : Operand} {us : Array Operand} {ats : Array TypeId} {args cap : List AV} {r : AV} (hp : val G S p = some (.fn f [] cap)) (hargs : vals G S us.toList = some args) (hF : (args ++ cap).all isF = true) (h : PCalls P G.g f (args ++ cap) r) :
    PEv P G N (.call { callee := .value p, args := us, argTypes := ats }) ty S L r L := by
  intro o ho ht cx a hc K Q hK
  have hv := val_R hc hp
  simp only [R, TR] at hv
  obtain ⟨xs, ys, hv, e1, e2⟩ := hv
  have hx : xs = #[] := by simpa using e1
  subst hx
  have ha := TF_of_TR hF (TR_append (vals_R hc hargs) e2)
  refine wpIn_of_run (by rw [ho]; rfl) ?_
  rw [run_callC h.1 (o := o) ho a cx.w hv, Oper.uponIn_enter]
  refine ⟨fun h => by simp at h, CallsIn.mono (h.2 cx.F cx.w (us.map a.eval ++ ys) hc.st.bare (by simpa using ha)) ?_⟩
  rintro e w' ⟨y, F', rfl, hr, st', ex⟩
  exact hK y { cx with F := F', w := w' } (R.of_RF _ _ _ hr) (hc.st.after ex st')
theorem awpL_callC {f : FuncId} {p : Operand} {us : Array Operand} {ats : Array TypeId} {args cap : List AV} {r : AV} (hp : val G S p = some (.fn f [] cap)) (hargs : vals G S us.toList = some args) (hF : (args ++ cap).all isF = true) (h : PCalls P G.g f (args ++ cap) r) (hd : Nat.blt d N = true)
    (k : awpL P G N ops rest Q ((d, r) :: S) L) : awpL P G N ops (⟨some d, .call { callee := .value p, args := us, argTypes := ats }, ty, pos, af, none⟩ :: rest) Q S L := by
  intro cx a hc
  refine wpListIn_plain rfl fun K hK => ?_
  refine pev_callC hp hargs hF h _ rfl rfl cx a hc _ _ fun y cx' hx hst => ?_
  exact hK _ _ (wpListIn_mono (fun e a w q => q.trans hst.ext) _ _ _ (k cx' _ ((hst.cn hc).put hd hx)))
theorem ev_slice_pre {t e k v E sz : Nat} {dd ed : TD} {u hi : Operand} {m : Nat} {es : List (List AV)} {L' : List LB} (hu : val G S u = some (.os k v)) (hk : L[k]? = some (.own v E sz es)) (hhi : val G S hi = some (.v (.int .i64 m))) (hm : m ≤ es.length)
    (ht : lk td t = some dd) (hs : dd.k = .slice e) (he : lk td e = some ed) (hL : L.set k (.own (v + 1) E sz (es.take m)) = L') : Ev2 P G N (.slice t u none (some hi) none) ty S L (.os k (v + 1)) L' := by
  subst hL
  intro o ho _ cx a hc
  have e1 := val_R hc hu
  have e2 := val_R hc hhi
  have hb := hc.st.blk _ _ hk
  simp only [R] at e1 e2
  simp only [BR] at hb
  obtain ⟨hv0, hsz, hln, hb⟩ := hb
  obtain ⟨hk', _, ho1, e1⟩ := e1
  have hos := e1 hv0
  have hsd := slice_desc (P := P) ht hs
  have hst : Stp G cx (cx.upd k (cx.φ k) m cx.w) (L.set k (.own (v + 1) E sz (es.take m))) := by
    refine hc.st.upd rfl rfl rfl (Nat.le_refl _) (fun b _ _ => rfl) (.inl rfl) hk' (by rw [hk]; simp) fun hS => ?_
    simp only [BR, Cx.upd, if_true]
    refine ⟨by rw [hv0], hsz, by rw [List.length_take]; omega, ?_⟩
    rcases hb with ⟨h0, h1⟩ | ⟨b, arr, h1, h2, h3, h4⟩
    · exact .inl ⟨h0, by rw [h1]; simp⟩
    · refine .inr ⟨b, arr, h1, h2, Nat.le_trans (Nat.mul_le_mul_right _ (by rw [List.length_take]; omega)) h3, ?_⟩
      refine EF.mk fun j f hj => ?_
      rw [List.getElem?_take] at hj
      split at hj
      · exact h4.get hj
      · cases hj
  simp only [OS] at hos
  have key : ∃ y, (execOp a.eval o).run P cx.w = .ok (.value y) cx.w ∧ R (cx.upd k (cx.φ k) m cx.w) (.os k (v + 1)) y := by
    rcases hos with ⟨h0, h1, h2⟩ | ⟨b, cap, arr, T', h1, h2, h3, h4, h5, h6⟩
    · have hm0 : m = 0 := by omega
      subst hm0
      refine ⟨.slice none 0 0, ?_, ?_⟩
      · simp [execOp, ho, h1, e2, Instr.sliceAt, Instr.slice, run_underlying hsd, Result.andThen, Instr.sliceBounds, Instr.sliceBound, asIntOf, run_sizeOf' (P := P) he]
      · simp only [R, OS, Cx.upd, if_true]
        exact ⟨hk', by omega, rfl, fun _ => .inl (by simpa using h2)⟩
    · have hmc : m ≤ cap := by omega
      refine ⟨.slice (some ⟨b, 0, none⟩) m cap, ?_, ?_⟩
      · simp [execOp, ho, h2, e2, Instr.sliceAt, Instr.slice, run_underlying hsd, Result.andThen, Instr.sliceBounds, Instr.sliceBound, asIntOf, run_sizeOf' (P := P) he, hmc, Addr.add]
      · simp only [R, OS, Cx.upd, if_true]
        exact ⟨hk', by omega, rfl, fun _ => .inr ⟨b, cap, arr, T', h1, rfl, h3, hmc, h5, h6⟩⟩
  obtain ⟨y, hy, hR⟩ := key
  exact ⟨y, cx.upd k (cx.φ k) m cx.w, hy, hR, hst⟩
theorem zeroCells_len (z : Array Value) (n : Nat) : (Builtin.zeroCells z n).toList.length = n * z.size := by simp [Builtin.zeroCells]
theorem zeroCells_get (z : Array Value) (n : Nat) {j : Nat} (h : j < n * z.size) : (Builtin.zeroCells z n).toList[j]? = some (z[j % z.size]!) := by
  simp [Builtin.zeroCells, h]
theorem awpL_clrs {t e k v E sz d1 : Nat} {dd ed : TD} {u lo : Operand} {m : Nat} {es es' : List (List AV)} {L' : List LB} (hu : val G S u = some (.os k v)) (hk : L[k]? = some (.own v E sz es)) (hlo : val G S lo = some (.v (.int .i64 m))) (hm : m ≤ es.length)
    (ht : lk td t = some dd) (hs : dd.k = .slice e) (he : lk td e = some ed) (hsz : ed.size = sz) (hzl : ed.zero.length = sz) (hz : ed.zero.all (·.oneCell') = true) (hpos : Nat.blt 0 sz = true) (hd1 : Nat.blt d1 N = true) (hes : es.take m ++ List.replicate (es.length - m) (ed.zero.map .v) = es') (hL : L.set k (.own v E sz es') = L')
    (kk : awpL P G N ops rest Q ((d1, .any) :: S) L') :
    awpL P G N ops (⟨some d1, .slice t u (some lo) none none, ty, pos, af, none⟩ :: ⟨none, .call { callee := .builtin .clear, args := #[.tmp d1], argTypes := #[t] }, ty2, pos2, af2, none⟩ :: rest) Q S L := by
  subst hes hL
  intro cx a hc
  have e1 := val_R hc hu
  have e2 := val_R hc hlo
  have hb := hc.st.blk _ _ hk
  simp only [R] at e1 e2
  simp only [BR] at hb
  obtain ⟨hv0, hsz0, hln, hb⟩ := hb
  obtain ⟨hk', _, ho1, e1⟩ := e1
  have hos := e1 hv0
  have hsd := slice_desc (P := P) ht hs
  obtain ⟨iz, ud, zz, g1, g2, g3, g4, g5, g6, g7⟩ := tok_parts (P := P) he
  have hzr : ∀ w, (zeroValue e).run P w = .ok zz w := fun w => by simp [zeroValue, typeInfo, g1, g3]
  have hzz : zz.cells.toList = ed.zero := g7
  have hzsz : zz.cells.size = sz := by rw [← hzl, ← hzz]; simp
  have hone : ∀ q ∈ ed.zero, q.oneCell' = true := fun q hq => List.all_eq_true.1 hz q hq
  simp only [OS] at hos
  have key : ∃ y cx2, (execOp a.eval ⟨some d1, .slice t u (some lo) none none, ty, pos, af, none⟩).run P cx.w = .ok (.value y) cx.w ∧ (execOp (a.put (some d1) y).eval ⟨none, .call { callee := .builtin .clear, args := #[.tmp d1], argTypes := #[t] }, ty2, pos2, af2, none⟩).run P cx.w = .ok (.value (.tuple #[])) cx2.w ∧
      Stp G cx cx2 (L.set k (.own v E sz (es.take m ++ List.replicate (es.length - m) (ed.zero.map .v)))) := by
    have hd1' : d1 < a.tmps.size := by rw [hc.sz]; exact Nat.le_of_ble_eq_true hd1
    have hput : ∀ y, (a.put (some d1) y).eval (.tmp d1) = y := fun y => by simp [Act.put, Act.eval, Array.getElem?_setIfInBounds, hd1']
    rcases hb with ⟨h0, h1⟩ | ⟨b, arr, h1, h2, h3, h4⟩
    · subst h1
      have hm0 : m = 0 := by simpa using hm
      subst hm0
      rcases hos with ⟨q0, q1, q2⟩ | ⟨b, cap, arr, T', q1, _⟩
      · refine ⟨.slice none 0 0, cx, ?_, ?_, ?_⟩
        · simp [execOp, q1, e2, Instr.sliceAt, Instr.slice, run_underlying hsd, Result.andThen, Instr.sliceBounds, Instr.sliceBound, asIntOf, run_sizeOf' (P := P) he]
        · simp only [execOp, resolve, invoke, builtin, Sem.run_bind, Sem.run_pure, Result.andThen_ok, List.map_toArray, List.map_cons, List.map_nil, hput]
          simp [Builtin.clear_, run_underlying hsd, Result.andThen]
        · have hset : L.set k (.own v E sz (([] : List (List AV)).take 0 ++ List.replicate (([] : List (List AV)).length - 0) (ed.zero.map .v))) = L := by
            rw [List.take_nil, List.nil_append]; exact set_same hk
          rw [hset]
          exact Stp.refl hc.st
      · rw [h0] at q1; cases q1
    · rcases hos with ⟨_, _, q2⟩ | ⟨b2, cap, arr2, T', q1, q2, q3, q4, q5, q6⟩
      · rw [q2] at h1; cases h1
      · rw [h1] at q1; injection q1 with q1; subst q1
        rw [h2] at q3
        injection q3 with q3
        injection q3 with q3 _ _
        subst q3
        rw [hsz0] at q6
        rw [hln] at q2 q4
        have hsd1 : ∀ (w : World), (sizeOf e).run P w = .ok sz w := fun w => by rw [← hsz]; exact run_sizeOf' (P := P) he w
        rcases Nat.lt_or_ge m es.length with hlt | hge
        · have hcm : ¬ cap = m := by omega
          have hmn : m * sz ≤ es.length * sz := Nat.mul_le_mul_right _ hm
          have hsub : (es.length - m) * sz = es.length * sz - m * sz := by rw [Nat.sub_mul]
          obtain ⟨Z, hZ⟩ : ∃ Z, Z = (Builtin.zeroCells zz.cells (es.length - m)).toList := ⟨_, rfl⟩
          have hZl : Z.length = (es.length - m) * sz := by rw [hZ, zeroCells_len, hzsz]
          have hZg : ∀ j, j < (es.length - m) * sz → Z[j]? = some (zz.cells[j % sz]!) := fun j hj => by rw [hZ, zeroCells_get _ _ (by rw [hzsz]; exact hj), hzsz]
          have hspos : 0 < sz := Nat.le_of_ble_eq_true hpos
          have hzg : ∀ r, r < sz → zz.cells[r]! ∈ ed.zero ∧ ed.zero[r]? = some (zz.cells[r]!) := fun r hr => by
            have hr' : r < zz.cells.size := by rw [hzsz]; exact hr
            rw [← hzz]
            rw [getElem!_pos zz.cells r hr']
            exact ⟨by simp, by simp⟩
          have hZ1 : ∀ q ∈ Z, q.oneCell' = true := fun q hq => by
            obtain ⟨j, hj, hq'⟩ := List.getElem_of_mem hq
            have := hZg j (by omega)
            rw [List.getElem?_eq_getElem hj, hq'] at this
            injection this with this
            rw [this]
            exact hone _ (hzg _ (Nat.mod_lt _ hspos)).1
          have hrun := run_storeCells_at (P := P) b (m * sz) E Z 0 arr cx.w h2 (by rw [Nat.add_zero, hZl]; omega) hZ1
          simp only [Nat.add_zero] at hrun
          generalize hcur : (arr.toList.take (m * sz) ++ Z ++ arr.toList.drop (m * sz + Z.length)).toArray = cur at hrun
          have hcs' : cur.size = arr.size := by rw [← hcur]; simp; omega
          have hh' := setRow_heap cx.w b arr cur E (0, 0) h2
          have hget : ∀ j, cur[j]? = if j < m * sz then arr[j]? else if j < m * sz + Z.length then Z[j - m * sz]? else arr[j]? := by
            intro j
            have := splice_get (arr := arr.toList) (vs := Z) (off := m * sz) (j := j) (by simp; omega)
            rw [← hcur]
            simpa using this
          refine ⟨.slice (some ⟨b, 0 + m * sz, none⟩) (es.length - m) (cap - m), { cx with w := cx.w.setRow b cur }, ?_, ?_, ?_⟩
          · simp [execOp, q2, e2, Instr.sliceAt, Instr.slice, run_underlying hsd, Result.andThen, Instr.sliceBounds, Instr.sliceBound, asIntOf, hsd1, hcm, hm, q4, Addr.add]
            intro h
            omega
          · simp only [execOp, resolve, invoke, builtin, Sem.run_bind, Sem.run_pure, Result.andThen_ok, List.map_toArray, List.map_cons, List.map_nil, hput]
            have hne : ¬ es.length - m = 0 := by omega
            simp [Builtin.clear_, run_underlying hsd, Result.andThen, hzr, ← hZ, hrun, hne]
          · refine hc.st.write h1 h2 hcs' (by rw [hk]; simp) fun hS => ?_
            simp only [BR]
            refine ⟨hv0, hsz0, by simp; omega, .inr ⟨b, cur, h1, hh', (by rw [List.length_append, List.length_take, List.length_replicate, hcs', show min m es.length + (es.length - m) = es.length by omega]; exact h3), ?_⟩⟩
            refine EF.mk fun j f hj => ?_
            rw [Nat.zero_add]
            have htk : (es.take m).length = m := by rw [List.length_take]; omega
            rcases Nat.lt_or_ge j m with hjm | hjm
            · rw [List.getElem?_append_left (by omega), List.getElem?_take, if_pos hjm] at hj
              obtain ⟨l1, l2⟩ := h4.get hj
              rw [Nat.zero_add] at l2
              refine ⟨l1, MF.mk fun r z hz => ?_⟩
              have hr' : r < sz := by have := (List.getElem?_eq_some_iff.1 hz).1; omega
              have hjj : (j + 1) * sz ≤ m * sz := Nat.mul_le_mul_right _ hjm
              rw [Nat.add_mul] at hjj
              obtain ⟨y, y2, y3, y4⟩ := l2.get hz
              rw [cell_of_row _ _ _ _ _ _ h2] at y2
              exact ⟨y, by rw [cell_of_row _ _ _ _ _ _ hh', hget, if_pos (by omega)]; exact y2, RF.mono hS.F hS.heap _ _ y3, y4⟩
            · rw [List.getElem?_append_right (by omega), htk, List.getElem?_replicate] at hj
              split at hj
              · rename_i hjn
                injection hj with hj
                subst hj
                refine ⟨by simp [hzl], MF.mk fun r z hz => ?_⟩
                have hr' : r < sz := by have := (List.getElem?_eq_some_iff.1 hz).1; simpa [hzl] using this
                have e1 : j * sz = m * sz + (j - m) * sz := by rw [← Nat.add_mul]; congr 1; omega
                have e2 : (j - m + 1) * sz ≤ (es.length - m) * sz := Nat.mul_le_mul_right _ (by omega)
                rw [Nat.add_mul] at e2
                obtain ⟨w1, w2⟩ := hzg r hr'
                have hz' : z = .v (zz.cells[r]!) := by
                  rw [List.getElem?_map, w2] at hz
                  exact (Option.some.inj hz).symm
                subst hz'
                refine ⟨zz.cells[r]!, ?_, by simp only [RF], hone _ w1⟩
                rw [cell_of_row _ _ _ _ _ _ hh', hget, if_neg (by omega), if_pos (by omega), hZg _ (by omega)]
                congr 2
                rw [show j * sz + r - m * sz = r + sz * (j - m) by rw [Nat.mul_comm sz]; omega, Nat.add_mul_mod_self_left, Nat.mod_eq_of_lt hr']
              · cases hj
        · have hmn : m = es.length := by omega
          subst hmn
          have hset : L.set k (.own v E sz (es.take es.length ++ List.replicate (es.length - es.length) (ed.zero.map .v))) = L := by
            rw [List.take_length, Nat.sub_self, List.replicate_zero, List.append_nil]; exact set_same hk
          rw [hset]
          refine ⟨.slice (if cap = es.length then some ⟨b, 0, none⟩ else some ⟨b, 0 + es.length * sz, none⟩) 0 (cap - es.length), cx, ?_, ?_, Stp.refl hc.st⟩
          · simp [execOp, q2, e2, Instr.sliceAt, Instr.slice, run_underlying hsd, Result.andThen, Instr.sliceBounds, Instr.sliceBound, asIntOf, hsd1, q4, Addr.add]
            by_cases h0 : cap = es.length
            · simp [h0]
            · simp [h0]; intro h; omega
          · simp only [execOp, resolve, invoke, builtin, Sem.run_bind, Sem.run_pure, Result.andThen_ok, List.map_toArray, List.map_cons, List.map_nil, hput]
            by_cases h0 : cap = es.length <;> simp [Builtin.clear_, run_underlying hsd, Result.andThen, h0]
  obtain ⟨y, cx2, hr1, hr2, hst⟩ := key
  refine wpListIn_plain rfl fun K hK => wpIn_of_run rfl ?_
  rw [hr1, Oper.uponIn_value]
  refine hK _ _ ?_
  refine wpListIn_plain rfl fun K hK => wpIn_of_run rfl ?_
  rw [hr2, Oper.uponIn_value]
  refine hK _ _ (wpListIn_mono (fun e a w q => q.trans hst.ext) _ _ _ (kk cx2 _ ?_))
  have := hst.cn hc
  have := this.put hd1 (x := .any) (y := y) (by simp only [R])
  exact ⟨this.st, this.de, by simpa [Act.put] using this.sz, by simpa [Act.put] using this.sr⟩
end
end Go.Ac
end
section
namespace Go.Proofs.YtnacjdaoiepbhaaGreatDoor
open Go.Ac
attribute [local irreducible] awp awpL Ev Ev2 EvS thenQ blockQ retQ PCalls OCalls YieldOk IterC ICalls
variable {g : List (Nat × List AV)}
abbrev encSpans (l : List Span) : AV := .fs 2 l.length (l.map spanC)
theorem span_get {l : List Span} {k : Nat} {x : Span} (h : l[k]? = some x) : 0 ≤ (k : Int) ∧ (l.map spanC)[(k : Int).toNat]? = some (spanC x) := ⟨by omega, by simp [h]⟩
set_option maxHeartbeats 1000000 in
theorem CloneS_spec (l : List Span) (hl : l.length ≤ 100000) : OCalls Tryz.prog g 120 [encSpans l] 63 2 (l.map spanC) := by
  have hj : ([] : List (List AV)) ++ l.map spanC = l.map spanC := rfl
  refine ocalls' Tryz.func120 Tryz.ntmps120 rfl rfl rfl ?_
  repeat' (first
   | refine awp_retA (t := 2) (E := 63) (sz := 2) rfl ?_
   | ((with_reducible refine is_un ?_); (first | refine awpL_eqnil rfl rfl rfl rfl (fun h0 => ?_) ?_ | refine awpL_ev2 (ev_bslice_o (t := 54) (n := 0) (es := []) rfl rfl rfl rfl rfl rfl rfl rfl rfl rfl rfl (by (try simp only [List.length_nil, List.length_cons, Nat.reduceAdd]); (try rfl)) (by (try simp only [List.set_cons_zero, List.set_cons_succ, List.nil_append, List.cons_append, List.append_nil, cellsOf, List.take_zero, List.drop_zero, List.take_succ_cons, List.drop_succ_cons, Nat.zero_add, Nat.reduceAdd, List.drop_nil, List.map_cons, List.map_nil]); (try rfl))) rfl ?_ | refine awpL_ev2 (ev_app (es' := l.map spanC) rfl rfl rfl rfl rfl rfl rfl rfl rfl rfl rfl rfl rfl (by simp only [List.length_map, List.length_cons, List.length_nil, List.length_append, List.length_take]; omega) hj rfl) rfl ?_))
   | refine stn [] ?_
   | ((with_reducible refine is_gd ?_); refine awpL_split rfl rfl (fun h => ?_) (fun h => ?_))
   | ((with_reducible refine is_awp ?_); refine awp_cond rfl (fun h => ?_) (fun h => ?_))
   | fail)
  · have hl0 : l = [] := List.eq_nil_of_length_eq_zero h0
    subst hl0
    exact retO rfl rfl
  · exact retO rfl rfl
def idxFrom (p : Span → Bool) : Nat → List Span → Int
  | _, [] => -1
  | k, x :: r => if p x then k else idxFrom p (k + 1) r
theorem idxFrom_drop {p : Span → Bool} {l : List Span} {k : Nat} {x : Span} (h : l[k]? = some x) : idxFrom p k (l.drop k) = if p x then (k : Int) else idxFrom p (k + 1) (l.drop (k + 1)) := by
  obtain ⟨h1, h2⟩ := List.getElem?_eq_some_iff.1 h
  rw [List.drop_eq_getElem_cons h1, h2]; rfl
theorem idxFrom_any (p : Span → Bool) : ∀ (l : List Span) (k : Nat), (decide (0 ≤ idxFrom p k l)) = l.any p
  | [], k => rfl
  | x :: r, k => by
    simp only [idxFrom, List.any_cons]
    split
    · rename_i h; simp [h]
    · rename_i h; rw [idxFrom_any p r (k + 1)]; simp [h]
theorem idxFrom_cases (p : Span → Bool) : ∀ (l : List Span) (k : Nat), (idxFrom p k l = -1 ∧ ∀ x ∈ l, p x = false) ∨ ∃ (j : Nat) (x : Span), idxFrom p k l = ((k + j : Nat) : Int) ∧ l[j]? = some x ∧ p x = true ∧ ∀ y ∈ l.take j, p y = false
  | [], k => .inl ⟨rfl, by simp⟩
  | x :: r, k => by
    simp only [idxFrom]
    split
    · rename_i h; exact .inr ⟨0, x, by simp, rfl, h, by simp⟩
    · rename_i h
      rcases idxFrom_cases p r (k + 1) with ⟨h1, h2⟩ | ⟨j, y, h1, h2, h3, h4⟩
      · refine .inl ⟨h1, ?_⟩
        intro y hy
        rcases List.mem_cons.1 hy with rfl | hy
        · simpa using h
        · exact h2 y hy
      · refine .inr ⟨j + 1, y, by rw [h1]; congr 1; omega, by simpa using h2, h3, ?_⟩
        intro z hz
        rw [List.take_succ_cons] at hz
        rcases List.mem_cons.1 hz with rfl | hz
        · simpa using h
        · exact h4 z hz
set_option maxHeartbeats 1000000 in
theorem IndexS0_spec (p : Span → Bool) (f : FuncId)  (hf : ∀ x, PCalls Tryz.prog g f ([.agg (spanC x)] ++ []) (vb (p x))) (l : List Span) (hl : l.length ≤ 1000000) :
    PCalls Tryz.prog g 118 [encSpans l, .fn f [] []] (vi (idxFrom p 0 l)) := by
  have hFC : ∀ x, (([AV.agg (spanC x)] ++ []).all isF) = true := fun x => rfl
  refine pcalls' Tryz.func118 Tryz.ntmps118 rfl rfl rfl ?_
  repeat' (first
   | refine stn [] ?_
   | ((with_reducible refine is_gd ?_); refine awpL_split rfl rfl (fun h => ?_) (fun h => ?_))
   | ((with_reducible refine is_awp ?_); refine awp_cond rfl (fun h => ?_) (fun h => ?_))
   | fail)
  refine awp_for (α := Nat) 0 (fun k => [(0, encSpans l), (1, .fn f [] []), (7, vi l.length), (8, vi k)]) (fun _ => []) (fun k => k ≤ l.length ∧ idxFrom p 0 l = idxFrom p k (l.drop k)) (fun k => l.length - k) 0
    ⟨(.cons rfl rfl (.cons rfl rfl (.cons rfl rfl (.cons rfl rfl .nil)))), rfl, rfl, rfl⟩ ⟨Nat.zero_le _, rfl⟩ ?_
  rintro k ⟨hk, hi⟩
  cases ht : l[k]? with
  | none =>
    have hge : l.length ≤ k := by simpa using ht
    have c1 : decide ((k : Int) < l.length) = false := decide_eq_false (by omega)
    rw [List.drop_of_length_le hge] at hi
    rw [hi]
    repeat' (first
     | refine stn [] ?_
     | ((with_reducible refine is_gd ?_); refine awpL_split rfl rfl (fun h => ?_) (fun h => ?_))
     | ((with_reducible refine is_awp ?_); refine awp_cond rfl (fun h => ?_) (fun h => ?_))
     | fail)
    exact retP rfl rfl
  | some x =>
    have hlt : k < l.length := (List.getElem?_eq_some_iff.1 ht).1
    have c1 : decide ((k : Int) < l.length) = true := decide_eq_true (by omega)
    have h1 := span_get ht
    have hx := hf x
    rw [idxFrom_drop ht] at hi
    cases hp : p x with
    | true =>
      rw [hp] at hx hi
      rw [hi]
      repeat' (first
       | ((with_reducible refine is_un ?_); refine awpL_callC rfl rfl (hFC x) hx rfl ?_)
       | refine stn [] ?_
       | ((with_reducible refine is_gd ?_); refine awpL_split rfl rfl (fun h => ?_) (fun h => ?_))
       | ((with_reducible refine is_awp ?_); refine awp_cond rfl (fun h => ?_) (fun h => ?_))
       | fail)
      exact retP rfl rfl
    | false =>
      rw [hp] at hx hi
      repeat' (first
       | ((with_reducible refine is_un ?_); refine awpL_callC rfl rfl (hFC x) hx rfl ?_)
       | refine stn [] ?_
       | ((with_reducible refine is_gd ?_); refine awpL_split rfl rfl (fun h => ?_) (fun h => ?_))
       | ((with_reducible refine is_awp ?_); refine awp_cond rfl (fun h => ?_) (fun h => ?_))
       | fail)
      exact ⟨k + 1, ⟨(.cons rfl rfl (.cons rfl rfl (.cons rfl rfl (.cons rfl rfl .nil)))), rfl, rfl, rfl⟩, ⟨by omega, hi⟩, by omega⟩
set_option maxHeartbeats 1000000 in
theorem IndexS1_spec (p : Span → Bool) (f : FuncId) (cs : List AV)  (hf : ∀ x, PCalls Tryz.prog g f ([AV.agg (spanC x)] ++ [AV.fp cs]) (vb (p x))) (l : List Span) (hl : l.length ≤ 1000000) :
    PCalls Tryz.prog g 118 [encSpans l, .fn f [] [.fp cs]] (vi (idxFrom p 0 l)) := by
  have hFC : ∀ x, (([AV.agg (spanC x)] ++ [AV.fp cs]).all isF) = true := fun x => rfl
  refine pcalls' Tryz.func118 Tryz.ntmps118 rfl rfl rfl ?_
  repeat' (first
   | refine stn [] ?_
   | ((with_reducible refine is_gd ?_); refine awpL_split rfl rfl (fun h => ?_) (fun h => ?_))
   | ((with_reducible refine is_awp ?_); refine awp_cond rfl (fun h => ?_) (fun h => ?_))
   | fail)
  refine awp_for (α := Nat) 0 (fun k => [(0, encSpans l), (1, .fn f [] [.fp cs]), (7, vi l.length), (8, vi k)]) (fun _ => []) (fun k => k ≤ l.length ∧ idxFrom p 0 l = idxFrom p k (l.drop k)) (fun k => l.length - k) 0
    ⟨(.cons rfl rfl (.cons rfl rfl (.cons rfl rfl (.cons rfl rfl .nil)))), rfl, rfl, rfl⟩ ⟨Nat.zero_le _, rfl⟩ ?_
  rintro k ⟨hk, hi⟩
  cases ht : l[k]? with
  | none =>
    have hge : l.length ≤ k := by simpa using ht
    have c1 : decide ((k : Int) < l.length) = false := decide_eq_false (by omega)
    rw [List.drop_of_length_le hge] at hi
    rw [hi]
    repeat' (first
     | refine stn [] ?_
     | ((with_reducible refine is_gd ?_); refine awpL_split rfl rfl (fun h => ?_) (fun h => ?_))
     | ((with_reducible refine is_awp ?_); refine awp_cond rfl (fun h => ?_) (fun h => ?_))
     | fail)
    exact retP rfl rfl
  | some x =>
    have hlt : k < l.length := (List.getElem?_eq_some_iff.1 ht).1
    have c1 : decide ((k : Int) < l.length) = true := decide_eq_true (by omega)
    have h1 := span_get ht
    have hx := hf x
    rw [idxFrom_drop ht] at hi
    cases hp : p x with
    | true =>
      rw [hp] at hx hi
      rw [hi]
      repeat' (first
       | ((with_reducible refine is_un ?_); refine awpL_callC rfl rfl (hFC x) hx rfl ?_)
       | refine stn [] ?_
       | ((with_reducible refine is_gd ?_); refine awpL_split rfl rfl (fun h => ?_) (fun h => ?_))
       | ((with_reducible refine is_awp ?_); refine awp_cond rfl (fun h => ?_) (fun h => ?_))
       | fail)
      exact retP rfl rfl
    | false =>
      rw [hp] at hx hi
      repeat' (first
       | ((with_reducible refine is_un ?_); refine awpL_callC rfl rfl (hFC x) hx rfl ?_)
       | refine stn [] ?_
       | ((with_reducible refine is_gd ?_); refine awpL_split rfl rfl (fun h => ?_) (fun h => ?_))
       | ((with_reducible refine is_awp ?_); refine awp_cond rfl (fun h => ?_) (fun h => ?_))
       | fail)
      exact ⟨k + 1, ⟨(.cons rfl rfl (.cons rfl rfl (.cons rfl rfl (.cons rfl rfl .nil)))), rfl, rfl, rfl⟩, ⟨by omega, hi⟩, by omega⟩
set_option maxHeartbeats 1000000 in
theorem ContainsS1_spec (p : Span → Bool) (f : FuncId) (cs : List AV)  (hf : ∀ x, PCalls Tryz.prog g f ([AV.agg (spanC x)] ++ [AV.fp cs]) (vb (p x))) (l : List Span) (hl : l.length ≤ 1000000) :
    PCalls Tryz.prog g 86 [encSpans l, .fn f [] [.fp cs]] (vb (l.any p)) := by
  have hI := IndexS1_spec p f cs hf l hl
  have hF : ([encSpans l, AV.fn f [] [.fp cs]].all isF) = true := rfl
  refine pcalls' Tryz.func86 Tryz.ntmps86 rfl rfl rfl ?_
  rw [← idxFrom_any p l 0]
  generalize idxFrom p 0 l = i at *
  repeat' (first
   | ((with_reducible refine is_un ?_); refine awpL_call rfl hF hI rfl ?_)
   | refine stn [] ?_
   | ((with_reducible refine is_gd ?_); refine awpL_split rfl rfl (fun h => ?_) (fun h => ?_))
   | ((with_reducible refine is_awp ?_); refine awp_cond rfl (fun h => ?_) (fun h => ?_))
   | fail)
  exact retP rfl rfl
set_option maxHeartbeats 1000000 in
theorem UnionR_spec (s : Span) : PCalls Tryz.prog g 121 ([.agg (spanC s)] ++ []) (vb (!spanRight s)) := by
  have hR := spanR_spec (g := g) s
  refine pcalls' Tryz.func121 Tryz.ntmps121 rfl rfl rfl ?_
  repeat' (first
   | refine stn [] ?_
   | ((with_reducible refine is_gd ?_); refine awpL_split rfl rfl (fun h => ?_) (fun h => ?_))
   | ((with_reducible refine is_awp ?_); refine awp_cond rfl (fun h => ?_) (fun h => ?_))
   | fail)
  exact retP rfl rfl
set_option maxHeartbeats 1000000 in
theorem CoversC_spec (s x : Span) : PCalls Tryz.prog g 88 ([.agg (spanC x)] ++ [.fp (spanC s)]) (vb (around s x)) := by
  refine pcalls' Tryz.func88 Tryz.ntmps88 rfl rfl rfl ?_
  unfold around
  by_cases h1 : x.fro ≤ s.fro
  · have c1 : decide (x.fro ≤ s.fro) = true := decide_eq_true h1
    rw [c1]
    repeat' (first
     | refine stn [] ?_
     | ((with_reducible refine is_gd ?_); refine awpL_split rfl rfl (fun h => ?_) (fun h => ?_))
     | ((with_reducible refine is_awp ?_); refine awp_cond rfl (fun h => ?_) (fun h => ?_))
     | fail)
    exact retP rfl rfl
  · have c1 : decide (x.fro ≤ s.fro) = false := decide_eq_false h1
    rw [c1]
    repeat' (first
     | refine stn [] ?_
     | ((with_reducible refine is_gd ?_); refine awpL_split rfl rfl (fun h => ?_) (fun h => ?_))
     | ((with_reducible refine is_awp ?_); refine awp_cond rfl (fun h => ?_) (fun h => ?_))
     | fail)
    exact retP rfl rfl
def delK (l : List Span) (k : Nat) : List Span := (l.take k).filter spanRight
theorem delK_succ {l : List Span} {k : Nat} {x : Span} (h : l[k]? = some x) : delK l (k + 1) = delK l k ++ (if spanRight x then [x] else []) := by
  unfold delK
  rw [List.take_add_one, h, List.filter_append]
  congr 1
  cases hx : spanRight x <;> simp [hx]
def allRight (l : List Span) : Bool := l.all spanRight
set_option maxRecDepth 8000 in
set_option maxHeartbeats 4000000 in
theorem Delete_all (l : List Span) (hl : l.length ≤ 1000000) (ha : allRight l = true) : ICalls Tryz.prog (Glo.of g) 119 [.os 0 0, .fn 121 [] []] [.own 0 63 2 (l.map spanC)] [.own 0 63 2 (l.map spanC)] (.os 0 0) := by
  have hI := IndexS0_spec (g := g) (fun s => !spanRight s) 121 (fun x => UnionR_spec x) l hl
  have hm : idxFrom (fun s => !spanRight s) 0 l = -1 := by
    rcases idxFrom_cases (fun s => !spanRight s) l 0 with ⟨h, _⟩ | ⟨j, x, _, h2, h3, _⟩
    · exact h
    · have := List.all_eq_true.1 ha x (List.mem_of_getElem? h2)
      rw [this] at h3; cases h3
  rw [hm] at hI
  have hx : exL [LB.own 0 63 2 (l.map spanC), .pin] [.os 0 0, .fn 121 [] []] = [encSpans l, .fn 121 [] []] := by simp [exL, ex]
  have c1 : decide ((-1 : Int) = -1) = true := rfl
  refine icalls Tryz.func119 rfl Tryz.ntmps119 rfl rfl rfl rfl rfl rfl ?_
  repeat' (first
   | ((with_reducible refine is_un ?_); refine awpL_callS rfl hx hI rfl rfl ?_)
   | refine stn [] ?_
   | ((with_reducible refine is_gd ?_); refine awpL_split rfl rfl (fun h => ?_) (fun h => ?_))
   | ((with_reducible refine is_awp ?_); refine awp_cond rfl (fun h => ?_) (fun h => ?_))
   | fail)
  exact retI rfl ⟨rfl, rfl⟩
abbrev mixL (l mid : List Span) (i : Nat) : List Span := delK l i ++ (mid ++ l.drop i)
set_option maxRecDepth 8000 in
set_option maxHeartbeats 8000000 in
theorem Delete_some (l : List Span) (hl : l.length ≤ 1000000) (ha : allRight l = false) : ICalls Tryz.prog (Glo.of g) 119 [.os 0 0, .fn 121 [] []] [.own 0 63 2 (l.map spanC)] [.own 1 63 2 ((l.filter spanRight).map spanC)] (.os 0 1) := by
  have hI := IndexS0_spec (g := g) (fun s => !spanRight s) 121 (fun x => UnionR_spec x) l hl
  have n1 : (!true) = false := rfl
  have n2 : (!false) = true := rfl
  rcases idxFrom_cases (fun s => !spanRight s) l 0 with ⟨_, h⟩ | ⟨j, x0, h1, h2, h3, h4⟩
  · exfalso
    have : allRight l = true := List.all_eq_true.2 fun x hx => by have := h x hx; simpa using this
    rw [this] at ha; cases ha
  rw [h1, Nat.zero_add] at hI
  have hjl : j < l.length := (List.getElem?_eq_some_iff.1 h2).1
  have hx0 : spanRight x0 = false := by simpa using h3
  have hdj : delK l (j + 1) = l.take j := by
    rw [delK_succ h2, hx0]
    simp only [Bool.false_eq_true, if_false, List.append_nil]
    unfold delK
    exact List.filter_eq_self.2 fun y hy => by have := h4 y hy; simpa using this
  have hx : exL [LB.own 0 63 2 (l.map spanC), .pin] [.os 0 0, .fn 121 [] []] = [encSpans l, .fn 121 [] []] := by simp [exL, ex]
  have c1 : decide ((j : Int) = -1) = false := decide_eq_false (by omega)
  have hl0 : l.map spanC = (mixL l [x0] (j + 1)).map spanC := by
    congr 1
    rw [mixL, hdj]
    have : l.drop j = x0 :: l.drop (j + 1) := by
      obtain ⟨q1, q2⟩ := List.getElem?_eq_some_iff.1 h2
      rw [List.drop_eq_getElem_cons q1, q2]
    conv => lhs; rw [← List.take_append_drop j l, this]
    rfl
  have hjn : ((delK l (j + 1)).length : Int) = j := by rw [hdj, List.length_take]; omega
  refine icalls Tryz.func119 rfl Tryz.ntmps119 rfl rfl rfl rfl rfl rfl ?_
  repeat' (first
   | ((with_reducible refine is_un ?_); refine awpL_callS rfl hx hI rfl rfl ?_)
   | refine stn [] ?_
   | ((with_reducible refine is_gd ?_); refine awpL_split rfl rfl (fun h => ?_) (fun h => ?_))
   | ((with_reducible refine is_awp ?_); refine awp_cond rfl (fun h => ?_) (fun h => ?_))
   | fail)
  refine awp_for2 (α := Nat) (β := List Span) 2 (fun i mid => [(0, .os 0 0), (1, .fn 121 [] []), (5, vi (delK l i).length), (6, vi i)]) (fun i mid => [.own 0 63 2 ((mixL l mid i).map spanC), .pin])
    (fun i mid => i ≤ l.length ∧ (delK l i).length + mid.length = i ∧ 1 ≤ mid.length) (fun i _ => l.length - i) (j + 1) [x0]
    (by rw [hl0, hjn]; exact ⟨(.cons rfl rfl (.cons rfl rfl (.cons rfl rfl (.cons rfl rfl .nil)))), rfl, rfl, rfl⟩) ⟨by omega, by rw [hdj, List.length_take]; simp; omega, by simp⟩ ?_
  rintro i mid ⟨hi, hc, hm⟩
  have hln : (mixL l mid i).length = l.length := by rw [mixL, List.length_append, List.length_append, List.length_drop]; omega
  have hln2 : ((mixL l mid i).map spanC).length = l.length := by rw [List.length_map, hln]
  cases ht : l[i]? with
  | none =>
    have hge : l.length ≤ i := by simpa using ht
    have c2 : decide ((i : Int) < ((mixL l mid i).map spanC).length) = false := decide_eq_false (by rw [hln2]; omega)
    have hD : delK l i = l.filter spanRight := by unfold delK; rw [List.take_of_length_le hge]
    have hdl : (delK l i).length ≤ ((mixL l mid i).map spanC).length := by rw [hln2]; omega
    have htk : ∀ r, (((mixL l mid i).map spanC).take (delK l i).length ++ r).take (delK l i).length = (l.filter spanRight).map spanC := fun r => by
      rw [List.take_append_of_le_length (by rw [List.length_take]; omega), List.take_take, Nat.min_self, ← List.map_take, mixL, List.take_left, hD]
    repeat' (first
     | ((with_reducible refine is_un ?_); (first | refine awpL_clrs rfl rfl rfl hdl rfl rfl rfl rfl rfl rfl rfl rfl rfl rfl ?_ | refine awpL_ev2 (ev_slice_pre (L' := [.own 1 63 2 ((l.filter spanRight).map spanC), .pin]) rfl rfl rfl (by rw [List.length_append, List.length_take, List.length_replicate]; omega) rfl rfl rfl (by rw [← htk]; rfl)) rfl ?_))
     | refine stn [] ?_
     | ((with_reducible refine is_gd ?_); refine awpL_split rfl rfl (fun h => ?_) (fun h => ?_))
     | ((with_reducible refine is_awp ?_); refine awp_cond rfl (fun h => ?_) (fun h => ?_))
     | fail)
    exact retI rfl ⟨rfl, rfl⟩
  | some x =>
    have hlt : i < l.length := (List.getElem?_eq_some_iff.1 ht).1
    have c2 : decide ((i : Int) < ((mixL l mid i).map spanC).length) = true := decide_eq_true (by rw [hln2]; omega)
    have hb1 : 0 ≤ (i : Int) ∧ (i : Int) < ((mixL l mid i).map spanC).length := ⟨by omega, by rw [hln2]; omega⟩
    have hb2 : 0 ≤ ((delK l i).length : Int) ∧ ((delK l i).length : Int) < ((mixL l mid i).map spanC).length := ⟨by omega, by rw [hln2]; omega⟩
    have hdr : l.drop i = x :: l.drop (i + 1) := by
      obtain ⟨q1, q2⟩ := List.getElem?_eq_some_iff.1 ht
      rw [List.drop_eq_getElem_cons q1, q2]
    have hel : ((mixL l mid i).map spanC)[(i : Int).toNat]? = some (spanC x) := by
      rw [show (i : Int).toNat = i by omega, List.getElem?_map, mixL, List.getElem?_append_right (by omega), List.getElem?_append_right (by omega), hdr]
      rw [show i - (delK l i).length - mid.length = 0 by omega]
      rfl
    have hR := UnionR_spec (g := g) x
    have hdk := delK_succ ht
    obtain ⟨a, mr, rfl⟩ : ∃ a mr, mid = a :: mr := by
      cases mid with
      | nil => simp at hm
      | cons a mr => exact ⟨a, mr, rfl⟩
    rw [List.length_cons] at hc
    have hFx : (([AV.agg (spanC x)] ++ []).all isF) = true := rfl
    cases hr : spanRight x with
    | true =>
      rw [hr] at hR hdk
      rw [n1] at hR
      simp only [if_true] at hdk
      have hel2 : ((mixL l (a :: mr) i).map spanC)[((delK l i).length : Int).toNat]? = some (spanC a) := by
        rw [show ((delK l i).length : Int).toNat = (delK l i).length by omega, List.getElem?_map, mixL, List.getElem?_append_right (by omega), Nat.sub_self]
        rfl
      have hset : ((mixL l (a :: mr) i).map spanC).set ((delK l i).length : Int).toNat (spanC x) = (mixL l (mr ++ [x]) (i + 1)).map spanC := by
        rw [show ((delK l i).length : Int).toNat = (delK l i).length by omega, mixL, mixL, hdk, hdr, List.map_append, List.set_append_right _ _ (by rw [List.length_map]; omega), List.length_map, Nat.sub_self]
        simp
      have hlen : ((delK l i).length : Int) + 1 = ((delK l (i + 1)).length : Int) := by rw [hdk, List.length_append]; rfl
      repeat' (first
       | ((with_reducible refine is_un ?_); (first | refine awpL_ev (ev_addE rfl rfl (by omega) hlen) rfl ?_ | refine awpL_ev (ev_el_agg (f := spanC x) rfl rfl rfl rfl hel rfl rfl) rfl ?_ | refine awpL_callC rfl rfl hFx hR rfl ?_ | refine awpL_evS (ev_st_ep (el' := spanC x) (L' := [.own 0 63 2 ((mixL l (mr ++ [x]) (i + 1)).map spanC), .pin, .dead]) rfl rfl rfl rfl rfl rfl rfl rfl hel2 rfl (by rw [← hset]; rfl)) ?_))
       | refine stn [] ?_
       | ((with_reducible refine is_gd ?_); refine awpL_split rfl rfl (fun h => ?_) (fun h => ?_))
       | ((with_reducible refine is_awp ?_); refine awp_cond rfl (fun h => ?_) (fun h => ?_))
       | fail)
      refine ⟨i + 1, mr ++ [x], ⟨(.cons rfl rfl (.cons rfl rfl (.cons rfl rfl (.cons rfl rfl .nil)))), rfl, rfl, rfl⟩, ⟨by omega, by rw [hdk, List.length_append, List.length_append]; simp; omega, by rw [List.length_append]; simp⟩, by omega⟩
    | false =>
      rw [hr] at hR hdk
      rw [n2] at hR
      simp only [Bool.false_eq_true, if_false, List.append_nil] at hdk
      have hmx : (mixL l (a :: mr) i).map spanC = (mixL l (a :: mr ++ [x]) (i + 1)).map spanC := by
        rw [mixL, mixL, hdk, hdr]; simp
      repeat' (first
       | ((with_reducible refine is_un ?_); (first | refine awpL_ev (ev_el_agg (f := spanC x) rfl rfl rfl rfl hel rfl rfl) rfl ?_ | refine awpL_callC rfl rfl hFx hR rfl ?_))
       | refine stn [] ?_
       | ((with_reducible refine is_gd ?_); refine awpL_split rfl rfl (fun h => ?_) (fun h => ?_))
       | ((with_reducible refine is_awp ?_); refine awp_cond rfl (fun h => ?_) (fun h => ?_))
       | fail)
      refine ⟨i + 1, a :: mr ++ [x], by rw [hdk, ← hmx]; exact ⟨(.cons rfl rfl (.cons rfl rfl (.cons rfl rfl (.cons rfl rfl .nil)))), rfl, rfl, rfl⟩, ⟨by omega, by rw [hdk, List.length_append]; simp; omega, by simp⟩, by omega⟩
end Go.Proofs.YtnacjdaoiepbhaaGreatDoor
end
section
namespace Go.Proofs.YtnacjdaoiepbhaaGreatDoor
theorem gaps_tail {x : Span} {r : List Span} (h : Gaps (x :: r)) : Gaps r ∧ x.fro < x.til ∧ ∀ y ∈ r, x.til < y.fro := by
  obtain ⟨h1, h2⟩ := h
  rw [List.pairwise_cons] at h1
  exact ⟨⟨h1.2, fun y hy => h2 y (by simp [hy])⟩, h2 x (by simp), h1.1⟩
theorem gaps_one : ∀ {m1 m2 : List Span}, Gaps m1 → Gaps m2 → (∀ p, (∃ y ∈ m1, inS p y) ↔ ∃ y ∈ m2, inS p y) → m1 = m2
  | [], [], _, _, _ => rfl
  | [], y :: s, _, h2, h => by
    obtain ⟨_, q, _⟩ := gaps_tail h2
    obtain ⟨z, hz, _⟩ := (h y.fro).2 ⟨y, by simp, by unfold inS; omega⟩
    cases hz
  | x :: r, [], h1, _, h => by
    obtain ⟨_, q, _⟩ := gaps_tail h1
    obtain ⟨z, hz, _⟩ := (h x.fro).1 ⟨x, by simp, by unfold inS; omega⟩
    cases hz
  | x :: r, y :: s, h1, h2, h => by
    obtain ⟨a1, a2, a3⟩ := gaps_tail h1
    obtain ⟨b1, b2, b3⟩ := gaps_tail h2
    have lo1 : ∀ p, (∃ z ∈ x :: r, inS p z) → x.fro ≤ p := by
      rintro p ⟨z, hz, hp⟩
      rcases List.mem_cons.1 hz with rfl | hz
      · exact hp.1
      · have := a3 z hz; have := hp.1; omega
    have lo2 : ∀ p, (∃ z ∈ y :: s, inS p z) → y.fro ≤ p := by
      rintro p ⟨z, hz, hp⟩
      rcases List.mem_cons.1 hz with rfl | hz
      · exact hp.1
      · have := b3 z hz; have := hp.1; omega
    have e1 : x.fro = y.fro := by
      have u1 := lo2 x.fro ((h x.fro).1 ⟨x, by simp, by unfold inS; omega⟩)
      have u2 := lo1 y.fro ((h y.fro).2 ⟨y, by simp, by unfold inS; omega⟩)
      omega
    have n1 : ¬ ∃ z ∈ x :: r, inS x.til z := by
      rintro ⟨z, hz, hp⟩
      rcases List.mem_cons.1 hz with rfl | hz
      · have := hp.2; omega
      · have := a3 z hz; have := hp.1; omega
    have n2 : ¬ ∃ z ∈ y :: s, inS y.til z := by
      rintro ⟨z, hz, hp⟩
      rcases List.mem_cons.1 hz with rfl | hz
      · have := hp.2; omega
      · have := b3 z hz; have := hp.1; omega
    have e2 : x.til = y.til := by
      rcases Int.lt_trichotomy x.til y.til with q | q | q
      · exact absurd ((h x.til).2 ⟨y, by simp, by unfold inS; omega⟩) n1
      · exact q
      · exact absurd ((h y.til).1 ⟨x, by simp, by unfold inS; omega⟩) n2
    have exy : x = y := by cases x; cases y; simp_all
    subst exy
    congr 1
    refine gaps_one a1 b1 fun p => ⟨?_, ?_⟩
    · rintro ⟨z, hz, hp⟩
      obtain ⟨w, hw, hq⟩ := (h p).1 ⟨z, by simp [hz], hp⟩
      rcases List.mem_cons.1 hw with rfl | hw
      · have := a3 z hz; have := hp.1; have := hq.2; omega
      · exact ⟨w, hw, hq⟩
    · rintro ⟨z, hz, hp⟩
      obtain ⟨w, hw, hq⟩ := (h p).2 ⟨z, by simp [hz], hp⟩
      rcases List.mem_cons.1 hw with rfl | hw
      · have := b3 z hz; have := hp.1; have := hq.2; omega
      · exact ⟨w, hw, hq⟩
def sortedS (l : List Span) : List Span := l.mergeSort (fun a b => decide (a.fro ≤ b.fro))
theorem sortedS_perm (l : List Span) : (sortedS l).Perm l := List.mergeSort_perm _ _
theorem sortedS_sort (l : List Span) : SortS (sortedS l) := by
  have := List.pairwise_mergeSort (le := fun a b : Span => decide (a.fro ≤ b.fro)) (fun a b c h1 h2 => by simp only [decide_eq_true_eq] at *; omega) (fun a b => by simp only [Bool.or_eq_true, decide_eq_true_eq]; omega) l
  exact this.imp fun h => by simpa using h
def unionS (l : List Span) : List Span := (sortedS (l.filter spanRight)).foldl mergeS []
theorem unionS_eq {l d : List Span} (hp : d.Perm (l.filter spanRight)) (ho : SortS d) : d.foldl mergeS [] = unionS l := by
  have hr : AllR d := fun x hx => (List.mem_filter.1 (hp.mem_iff.1 hx)).2
  have hp' := sortedS_perm (l.filter spanRight)
  have hr' : AllR (sortedS (l.filter spanRight)) := fun x hx => (List.mem_filter.1 (hp'.mem_iff.1 hx)).2
  obtain ⟨h1, h2⟩ := mergeS_all (l := d) (out := []) ⟨by simp, by simp⟩ hr ho (by simp)
  obtain ⟨g1, g2⟩ := mergeS_all (l := sortedS (l.filter spanRight)) (out := []) ⟨by simp, by simp⟩ hr' (sortedS_sort _) (by simp)
  refine gaps_one h1 g1 fun p => ?_
  rw [h2 p]
  show _ ↔ ∃ y ∈ (sortedS (l.filter spanRight)).foldl mergeS [], inS p y
  rw [g2 p]
  constructor
  · rintro (⟨_, h, _⟩ | ⟨t, ht, hq⟩)
    · cases h
    · exact .inr ⟨t, hp'.mem_iff.2 (hp.mem_iff.1 ht), hq⟩
  · rintro (⟨_, h, _⟩ | ⟨t, ht, hq⟩)
    · cases h
    · exact .inr ⟨t, hp.mem_iff.2 (hp'.mem_iff.1 ht), hq⟩
theorem unionS_cov {l : List Span} {s : Span} (hs : spanRight s = true) : (unionS l).any (around s) = covB l s := union_covers hs (sortedS_perm _) (sortedS_sort _)
theorem mergeS_len (out : List Span) (s : Span) : (mergeS out s).length ≤ out.length + 1 := by
  unfold mergeS
  rcases List.eq_nil_or_concat out with rfl | ⟨m, z, rfl⟩
  · simp
  · rw [List.concat_eq_append]
    simp only [List.getLast?_append, List.getLast?_singleton, Option.some_or, List.dropLast_concat]
    split <;> simp
theorem merge_len : ∀ (l out : List Span), (l.foldl mergeS out).length ≤ out.length + l.length
  | [], out => by simp
  | s :: r, out => by
    have h1 := merge_len r (mergeS out s)
    have h2 := mergeS_len out s
    simp only [List.foldl_cons, List.length_cons]; omega
end Go.Proofs.YtnacjdaoiepbhaaGreatDoor
end
