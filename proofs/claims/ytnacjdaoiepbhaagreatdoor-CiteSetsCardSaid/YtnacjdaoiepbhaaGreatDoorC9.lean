/- A logic of trees over the model's steps, and the contracts of the functions that the laws reach: part 9 of 15. -/
import Derived.Test.YtnacjdaoiepbhaaGreatDoorC8
import Derived.Shelf.SlSortCmp.WholeK
import Derived.Shelf.SlSortCmp.NoneTotal
import Derived.Shelf.SlGeneric
import Derived.Lib.SliceRun
import Derived.Laws.CopyRow
set_option linter.unusedVariables false
set_option linter.unusedSimpArgs false
set_option linter.unusedSectionVars false
section
namespace Go.Ac
open Go.Sort (PermIn SortedIn HoldsK putRowK flatK putRowK_grow size_flatK get_flatK)
open Go.Proofs (sortWorldK)
theorem set_same {L : List LB} {k : Nat} {x : LB} (h : L[k]? = some x) : L.set k x = L := by
  apply List.ext_getElem?
  intro i
  rw [List.getElem?_set]
  by_cases e : k = i
  · subst e
    have := lt_of_get h
    rw [if_pos rfl, if_pos this, h]
  · rw [if_neg e]
section
variable {P : Program} {td : TDs} [T : TOK P td] {G : Glo} {N : Nat} {Q : AQ} {S : SL} {L : List LB} {ops : Array Oper} {rest : List Oper}
  {ty : TypeId} {pos : String} {af : Array Edge} {dd : Nat}
theorem ext_grow (F : Nat → Prop) (w : World) (hF : ∀ b, F b → b < w.heap.size) (n : Nat) (os : Array Obj) : Ext (Cx.bare F w) (Cx.bare F (Go.Sort.grow (Go.Sort.ahead w n) os)) := by
  have hk : ∀ b, b < w.heap.size → (Go.Sort.grow (Go.Sort.ahead w n) os).heap[b]? = w.heap[b]? := fun b hb => by simp [Go.Sort.grow, Go.Sort.ahead, Array.getElem?_append_left hb]
  refine ⟨rfl, rfl, rfl, by simp [Cx.bare, Go.Sort.grow, Go.Sort.ahead], fun b h => .inl h, fun b ⟨j, h⟩ => by simp [Cx.bare] at h, fun b h => h.elim, fun r h => by simp [Cx.bare] at h, fun b h1 _ _ => hk b h1, rfl, ?_⟩
  exact ⟨fun b h => h, fun b h => hk b (hF b h), fun k h => h.elim, fun k h => h.elim, fun k h => h.elim, fun k h => h.elim, fun k h => h.elim, fun k b arr T h => h.elim⟩
theorem flat_get {α : Type} [Inhabited α] {enc : α → List Value} {sz : Nat} (hlen : ∀ x, (enc x).length = sz) (d : Array α) {i c : Nat} {x : α} {y : Value} (hx : d.toList[i]? = some x) (hy : (enc x)[c]? = some y) : i * sz + c < d.size * sz ∧ (flatK enc sz d)[i * sz + c]! = y := by
  have hi : i < d.size := by have := (List.getElem?_eq_some_iff.1 hx).1; simpa using this
  have hc : c < sz := by have := (List.getElem?_eq_some_iff.1 hy).1; rwa [hlen] at this
  have hlt : i * sz + c < d.size * sz := by
    have := Nat.mul_le_mul_right sz (show i + 1 ≤ d.size from hi)
    rw [Nat.add_mul, Nat.one_mul] at this; omega
  refine ⟨hlt, ?_⟩
  have e1 : (i * sz + c) / sz = i := by rw [Nat.mul_comm, Nat.mul_add_div (by omega), Nat.div_eq_of_lt hc]; rfl
  have e2 : (i * sz + c) % sz = c := by rw [Nat.mul_comm, Nat.mul_add_mod, Nat.mod_eq_of_lt hc]
  rw [get_flatK _ _ _ _ hlt, e1, e2]
  have : d[i]! = x := by
    obtain ⟨h1, h2⟩ := List.getElem?_eq_some_iff.1 hx
    rw [getElem!_pos d i hi, ← h2]; simp
  rw [this]
  obtain ⟨h1, h2⟩ := List.getElem?_eq_some_iff.1 hy
  rw [getElem!_pos _ c h1, h2]
theorem awpL_sort {α : Type} [Inhabited α] {f g : FuncId} {us : Array Operand} {ats : Array TypeId} {enc : α → List Value} {sz E k v : Nat} {d : List α} {lt : α → α → Bool}
    (hargs : vals G S us.toList = some [.os k v, .fn g [] []]) (hk : L[k]? = some (.own v E sz (d.map fun x => (enc x).map .v))) (hlen : ∀ x, (enc x).length = sz) (h1 : ∀ x, ∀ y ∈ enc x, y.oneCell' = true) (hC : Callable P f)
    (hS : ∀ (blk cap : Nat) (w : World), HoldsK enc sz w blk 0 d.toArray → blk < w.heap.size → Calls P f #[.slice (some ⟨blk, 0, none⟩) d.toArray.size cap, .func (.func g) #[] #[]] w fun e w' => e = .returned (.tuple #[]) ∧ ∃ d' n os, PermIn 0 d.toArray.size d.toArray d' ∧ SortedIn lt 0 d.toArray.size d' ∧ w' = sortWorldK enc sz w blk 0 n d' os)
    (hN : d = [] → ∀ w, Calls P f #[.slice none 0 0, .func (.func g) #[] #[]] w fun e w' => e = .returned (.tuple #[]) ∧ ∃ n os, w' = Go.Sort.grow (Go.Sort.ahead w n) os)
    (hd : Nat.blt dd N = true)
    (kk : ∀ d' : List α, d'.Perm d → d'.Pairwise (fun a b => lt b a = false) → awpL P G N ops rest Q ((dd, .tup []) :: S) (L.set k (.own v E sz (d'.map fun x => (enc x).map .v)))) :
    awpL P G N ops (⟨some dd, .call { callee := .value (.func f), args := us, argTypes := ats }, ty, pos, af, none⟩ :: rest) Q S L := by
  intro cx a hc
  have hr := vals_R hc hargs
  have hb := hc.st.blk k _ hk
  simp only [BR, List.length_map] at hb
  obtain ⟨b0, b1, b2, hb⟩ := hb
  simp only [TR, R] at hr
  obtain ⟨y, s, hs, ⟨o1, o2, o3, o4⟩, y2, s2, rfl, ⟨c1, c2, rfl, t1, t2⟩, rfl⟩ := hr
  have o4 := o4 b0
  have hz1 : c1 = #[] := by have := t1; simpa using this
  have hz2 : c2 = #[] := by have := t2; simpa using this
  subst hz1 hz2
  have hvs : us.map a.eval = #[y, .func (.func g) #[] #[]] := by
    have : (us.map a.eval).toList = [y, .func (.func g) #[] #[]] := by simpa using hs
    rw [← Array.toArray_toList (xs := us.map a.eval), this]
  have htup : ∀ c : Cx, R c (.tup []) (.tuple #[]) := fun c => by simp only [R]; exact ⟨#[], rfl, by simp [TR]⟩
  refine wpListIn_plain rfl fun K hK => wpIn_of_run rfl ?_
  rw [run_call hC (o := ⟨some dd, .call { callee := .value (.func f), args := us, argTypes := ats }, ty, pos, af, none⟩) rfl a cx.w, Oper.uponIn_enter, hvs]
  rcases hb with ⟨e1, e2⟩ | ⟨b, arr, e1, e2, e3, e4⟩
  · have hd0 : d = [] := by simpa using e2
    have hy : y = .slice none 0 0 := by
      rcases o4 with ⟨_, h, _⟩ | ⟨b, _, _, _, h, _⟩
      · exact h
      · rw [e1] at h; cases h
    subst hy
    refine ⟨fun h => by simp at h, CallsIn.mono (callsIn_wide.2 (hN hd0 cx.w)) ?_⟩
    rintro e w' ⟨rfl, n, os, rfl⟩
    have hst := hc.st.afterS (F := cx.F) (F' := cx.F) (ext_grow cx.F cx.w hc.st.inF n os)
    have := kk [] (by rw [hd0]) List.Pairwise.nil
    subst hd0
    rw [set_same hk] at this
    exact hK _ _ (wpListIn_mono (fun e a w q => q.trans hst.ext) _ _ _ (this _ _ ((hst.cn hc).put hd (htup _))))
  · obtain ⟨cap, hy⟩ : ∃ cap, y = .slice (some ⟨b, 0, none⟩) d.length cap := by
      rcases o4 with ⟨_, _, h⟩ | ⟨b', cap, _, _, h, h2, _⟩
      · rw [e1] at h; cases h
      · rw [e1] at h; cases h
        exact ⟨cap, by rw [h2, b2]⟩
    subst hy
    have hblk : b < cx.w.heap.size := (hc.st.loc k b e1).2.2
    have hH : HoldsK enc sz cx.w b 0 d.toArray := by
      intro j hj
      rw [size_flatK] at hj
      have hszp : 0 < sz := by rcases Nat.eq_zero_or_pos sz with h | h; · subst h; simp at hj
                               · exact h
      have hjd : j / sz < d.length := by
        rw [Nat.div_lt_iff_lt_mul hszp]; simpa using hj
      obtain ⟨x, hx⟩ : ∃ x, d[j / sz]? = some x := ⟨_, List.getElem?_eq_getElem hjd⟩
      have hcm : j % sz < (enc x).length := by rw [hlen]; exact Nat.mod_lt _ hszp
      obtain ⟨z, hz⟩ : ∃ z, (enc x)[j % sz]? = some z := ⟨_, List.getElem?_eq_getElem hcm⟩
      have hfl := flat_get hlen d.toArray (i := j / sz) (c := j % sz) (by simpa using hx) hz
      rw [Nat.div_add_mod' j sz] at hfl
      obtain ⟨_, hm⟩ := e4.get (i := j / sz) (e := (enc x).map .v) (by rw [List.getElem?_map, hx]; rfl)
      obtain ⟨u, u1, u2, _⟩ := hm.get (i := j % sz) (x := .v z) (by rw [List.getElem?_map, hz]; rfl)
      simp only [RF] at u2
      subst u2
      refine ⟨?_, by simp [World.frozen?, e2]⟩
      rw [hfl.2, show (id u : Value) = u from rfl, ← u1, show 0 + j / sz * sz + j % sz = 0 + j by have := Nat.div_add_mod' j sz; omega]
    refine ⟨fun h => by simp at h, CallsIn.mono (callsIn_wide.2 (hS b cap cx.w hH hblk)) ?_⟩
    rintro e w' ⟨rfl, d', n, os, hp, hs', rfl⟩
    obtain ⟨p1, _, p3⟩ := hp
    have hsz' : d'.size = d.length := by simpa using p1
    have hperm : d'.toList.Perm d := by
      have h2 : d'.extract 0 d.toArray.size = d' := by rw [show d.toArray.size = d'.size by simp [hsz'], Array.extract_size]
      rw [h2, Array.extract_size] at p3
      simpa using p3
    have hsrt : d'.toList.Pairwise (fun a b => lt b a = false) := by
      rw [List.pairwise_iff_getElem]
      intro i j hi hj hij
      have := hs' i j (Nat.zero_le _) hij (by simp at hj ⊢; omega)
      rw [getElem!_pos d' j (by simpa using hj), getElem!_pos d' i (by simpa using hi)] at this
      simpa using this
    have hst1 := hc.st.afterS (F := cx.F) (F' := cx.F) (ext_grow cx.F cx.w hc.st.inF n os)
    have hw' : sortWorldK enc sz cx.w b 0 n d' os = putRowK enc sz (Go.Sort.grow (Go.Sort.ahead cx.w n) os) b 0 d' := by
      rw [putRowK_grow _ _ _ _ _ _ _ (by exact hblk)]; rfl
    rw [hw']
    generalize hw1 : Go.Sort.grow (Go.Sort.ahead cx.w n) os = w1 at *
    have hh1 : w1.heap[b]? = some (.cells arr E (0, 0)) := by rw [← hw1, ← e2]; simp [Go.Sort.grow, Go.Sort.ahead, Array.getElem?_append_left hblk]
    have hblk1 : b < w1.heap.size := (Array.getElem?_eq_some_iff.1 hh1).1
    have hheap : ∀ b', (putRowK enc sz w1 b 0 d').heap[b']? = if b = b' then some (.cells (Go.Sort.putCells id 0 (flatK enc sz d') arr) E (0, 0)) else w1.heap[b']? := by
      intro b'
      simp only [putRowK, Go.Sort.putRow, Go.Sort.mapBlock, Array.getElem?_modify]
      by_cases e : b = b'
      · subst e; simp [hh1, Go.Sort.onCells]
      · simp [e]
    have hst2 := hst1.st.wr (k := k) (b := b) (w' := putRowK enc sz w1 b 0 d') e1 rfl rfl rfl (by simp [putRowK, Go.Sort.putRow, Go.Sort.mapBlock]) (fun b' h => by rw [hheap, if_neg (Ne.symm h)])
      (fun arr' T' h => by
        have h : w1.heap[b]? = some (.cells arr' T' (0, 0)) := h
        rw [hh1] at h; cases h
        exact ⟨_, by rw [hheap, if_pos rfl], by simp [Go.Sort.putCells]⟩) (by rw [hk]; simp) (x := .own v E sz (d'.toList.map fun x => (enc x).map .v))
      (fun _ => by
        simp only [BR, List.length_map]
        refine ⟨b0, b1, by simp [b2, hsz'], .inr ⟨b, _, e1, by rw [hheap, if_pos rfl], by simp [Go.Sort.putCells, hsz']; simpa using e3, ?_⟩⟩
        refine EF.mk fun i e he => ?_
        rw [List.getElem?_map] at he
        cases hx : d'.toList[i]? with
        | none => rw [hx] at he; cases he
        | some x =>
          rw [hx] at he
          have he : (enc x).map .v = e := by simpa using he
          subst he
          refine ⟨by simp [hlen], MF.mk fun c y hy => ?_⟩
          rw [List.getElem?_map] at hy
          cases hz : (enc x)[c]? with
          | none => rw [hz] at hy; cases hy
          | some z =>
            rw [hz] at hy
            have hy : AV.v z = y := by simpa using hy
            subst hy
            obtain ⟨q1, q2⟩ := flat_get hlen d' hx hz
            refine ⟨z, ?_, by simp only [RF], h1 x z (List.mem_of_getElem? hz)⟩
            have hlt : i * sz + c < arr.size := by
              have : d'.size * sz ≤ arr.size := by rw [hsz']; simpa using e3
              omega
            simp only [World.cell?, hheap, if_pos, Option.isSome_none, Bool.false_eq_true, if_false]
            rw [show 0 + i * sz + c = i * sz + c by omega]
            simp only [Go.Sort.putCells, Array.getElem?_mapIdx, Array.getElem?_eq_getElem hlt, Option.map_some, Nat.zero_le, Nat.zero_add, size_flatK, true_and, if_pos q1, Nat.sub_zero, id, q2])
    exact hK _ _ (wpListIn_mono (fun e a w q => q.trans (hst1.ext.trans hst2.ext)) _ _ _ (kk d'.toList hperm hsrt _ _ ((hst2.cn (hst1.cn hc)).put hd (htup _))))
end
end Go.Ac
end
section
namespace Go.Proofs.YtnacjdaoiepbhaaGreatDoor
open Go.Shelf Go.Lib Go.Sort
def sortVals_ren : Go.Shelf.Ren := ⟨fun | 6 => 89 | 15 => 126 | 14 => 125 | 28 => 161 | 29 => 162 | 20 => 153 | 21 => 154 | 22 => 155 | 23 => 156 | 24 => 157 | 25 => 158 | 26 => 159 | 27 => 160 | 46 => 201 | 47 => 202 | 48 => 203 | 49 => 204 | 50 => 205 | 57 => 223 | n => n, fun | 22 => 66 | 24 => 93 | 25 => 132 | 3 => 3 | 39 => 167 | 0 => 0 | 53 => 193 | 55 => 195 | 4 => 4 | 46 => 187 | 45 => 186 | 50 => 117 | 5 => 5 | 9 => 9 | 66 => 223 | 70 => 227 | 76 => 245 | 77 => 241 | n => n, fun n => n⟩
theorem sortVals : Go.Proofs.SlLaysF0.n6 Tryz.prog sortVals_ren := {
  mixed := by kernel_rfl
  f6 := ⟨ "slices.SortFunc[[]langdoc/api.Value,langdoc/api.Value]", by kernel_rfl, Tryz.func89.trans (congrArg some (by kernel_rfl))⟩
  f14 := ⟨ "slices.pdqsortCmpFunc[langdoc/api.Value]", by kernel_rfl, Tryz.func125.trans (congrArg some (by kernel_rfl))⟩
  f15 := Tryz.func126.trans (congrArg some (by kernel_rfl))
  f20 := ⟨ "slices.insertionSortCmpFunc[langdoc/api.Value]", by kernel_rfl, Tryz.func153.trans (congrArg some (by kernel_rfl))⟩
  f21 := ⟨ "slices.heapSortCmpFunc[langdoc/api.Value]", by kernel_rfl, Tryz.func154.trans (congrArg some (by kernel_rfl))⟩
  f22 := ⟨ "slices.breakPatternsCmpFunc[langdoc/api.Value]", by kernel_rfl, Tryz.func155.trans (congrArg some (by kernel_rfl))⟩
  f23 := ⟨ "slices.choosePivotCmpFunc[langdoc/api.Value]", by kernel_rfl, Tryz.func156.trans (congrArg some (by kernel_rfl))⟩
  f24 := ⟨ "slices.reverseRangeCmpFunc[langdoc/api.Value]", by kernel_rfl, Tryz.func157.trans (congrArg some (by kernel_rfl))⟩
  f25 := ⟨ "slices.partialInsertionSortCmpFunc[langdoc/api.Value]", by kernel_rfl, Tryz.func158.trans (congrArg some (by kernel_rfl))⟩
  f26 := ⟨ "slices.partitionEqualCmpFunc[langdoc/api.Value]", by kernel_rfl, Tryz.func159.trans (congrArg some (by kernel_rfl))⟩
  f27 := ⟨ "slices.partitionCmpFunc[langdoc/api.Value]", by kernel_rfl, Tryz.func160.trans (congrArg some (by kernel_rfl))⟩
  f28 := Tryz.func161.trans (congrArg some (by kernel_rfl))
  f29 := Tryz.func162.trans (congrArg some (by kernel_rfl))
  f46 := ⟨ "slices.siftDownCmpFunc[langdoc/api.Value]", by kernel_rfl, Tryz.func201.trans (congrArg some (by kernel_rfl))⟩
  f47 := Tryz.func202.trans (congrArg some (by kernel_rfl))
  f48 := Tryz.func203.trans (congrArg some (by kernel_rfl))
  f49 := ⟨ "slices.medianAdjacentCmpFunc[langdoc/api.Value]", by kernel_rfl, Tryz.func204.trans (congrArg some (by kernel_rfl))⟩
  f50 := ⟨ "slices.medianCmpFunc[langdoc/api.Value]", by kernel_rfl, Tryz.func205.trans (congrArg some (by kernel_rfl))⟩
  f57 := ⟨ "slices.order2CmpFunc[langdoc/api.Value]", by kernel_rfl, Tryz.func223.trans (congrArg some (by kernel_rfl))⟩
  t0 := Tryz.underlying0
  a0 := Tryz.isAgg0
  z0 := Tryz.sizeOf0
  v0 := Tryz.zeroValue0
  t3 := Tryz.underlying3
  a3 := Tryz.isAgg3
  z3 := Tryz.sizeOf3
  v3 := Tryz.zeroValue3
  t4 := Tryz.underlying4
  a4 := Tryz.isAgg4
  z4 := Tryz.sizeOf4
  v4 := Tryz.zeroValue4
  t5 := Tryz.underlying5
  a5 := Tryz.isAgg5
  z5 := Tryz.sizeOf5
  v5 := Tryz.zeroValue5
  t9 := Tryz.underlying9
  a9 := Tryz.isAgg9
  z9 := Tryz.sizeOf9
  v9 := Tryz.zeroValue9
  t22 := Tryz.underlying66
  a22 := Tryz.isAgg66
  z22 := Tryz.sizeOf66
  v22 := Tryz.zeroValue66
  t25 := Tryz.underlying132
  a25 := Tryz.isAgg132
  z25 := Tryz.sizeOf132
  v25 := Tryz.zeroValue132
  t39 := Tryz.underlying167
  a39 := Tryz.isAgg167
  z39 := Tryz.sizeOf167
  v39 := Tryz.zeroValue167
  t45 := Tryz.underlying186
  a45 := Tryz.isAgg186
  z45 := Tryz.sizeOf186
  v45 := Tryz.zeroValue186
  t46 := Tryz.underlying187
  a46 := Tryz.isAgg187
  z46 := Tryz.sizeOf187
  v46 := Tryz.zeroValue187
  t50 := Tryz.underlying117
  a50 := Tryz.isAgg117
  z50 := Tryz.sizeOf117
  v50 := Tryz.zeroValue117
  t53 := Tryz.underlying193
  a53 := Tryz.isAgg193
  z53 := Tryz.sizeOf193
  v53 := Tryz.zeroValue193
  t55 := Tryz.underlying195
  a55 := Tryz.isAgg195
  z55 := Tryz.sizeOf195
  v55 := Tryz.zeroValue195
  t66 := Tryz.underlying223
  a66 := Tryz.isAgg223
  z66 := Tryz.sizeOf223
  v66 := Tryz.zeroValue223
  t70 := Tryz.underlying227
  a70 := Tryz.isAgg227
  z70 := Tryz.sizeOf227
  v70 := Tryz.zeroValue227
  t76 := Tryz.underlying245
  a76 := Tryz.isAgg245
  z76 := Tryz.sizeOf245
  v76 := Tryz.zeroValue245
  t77 := Tryz.underlying241
  a77 := Tryz.isAgg241
  z77 := Tryz.sizeOf241
  v77 := Tryz.zeroValue241 }
def encVal (v : Val) : List Value := [.int .i64 v.at_.count, .int .i64 v.at_.dev, .int .i64 v.n, .string v.text]
def cmpVal (a b : Val) : Int := if less a.at_ b.at_ = true then -1 else 1
theorem ltVal (a b : Val) : ltOf cmpVal a b = less a.at_ b.at_ := by
  unfold ltOf cmpVal
  cases less a.at_ b.at_ <;> simp
theorem swoVal : SWO (ltOf cmpVal) where
  irrefl x := by rw [ltVal]; exact less_irr _
  trans x y z h1 h2 := by rw [ltVal] at *; exact less_trans h1 h2
  ntrans x y z h1 h2 := by
    rw [ltVal] at *
    rcases nless_iff.1 h1 with h | h
    · exact less_asym (le_less (nless_iff.2 (nless_iff.1 h2)) h)
    · rw [← h] at *; exact h2
theorem laysVal (blk off size : Nat) (w : World) : CmpLays Tryz.prog 90 #[] encVal 4 cmpVal blk off size w :=
  fun _ _ _ _ x y => zVal x.at_.count x.at_.dev x.n x.text y.at_.count y.at_.dev y.n y.text _
theorem sortVals_calls (d : List Val) (blk cap : Nat) (w : World) (hsz : d.length ≤ 1000000) (hH : HoldsK encVal 4 w blk 0 d.toArray) (hb : blk < w.heap.size) :
    Calls Tryz.prog 89 #[.slice (some ⟨blk, 0, none⟩) d.toArray.size cap, .func (.func 90) #[] #[]] w fun e w' => e = .returned (.tuple #[]) ∧ ∃ d' n os, PermIn 0 d.toArray.size d.toArray d' ∧ SortedIn (ltOf cmpVal) 0 d.toArray.size d' ∧ w' = sortWorldK encVal 4 w blk 0 n d' os :=
  AnyQ.slices_SortFunc sortVals 4 Tryz.isAgg93 Tryz.sizeOf93 encVal (fun _ => rfl) (fun x v hv => by simp [encVal] at hv; rcases hv with rfl | rfl | rfl | rfl <;> rfl) cmpVal swoVal 90 #[] blk 0 cap d.toArray w
    (enters_of Tryz.func90 (by kernel_rfl) rfl) (laysVal blk 0 d.toArray.size w) hH hb (by simp; omega)
theorem sortVals_none (w : World) : Calls Tryz.prog 89 #[.slice none 0 0, .func (.func 90) #[] #[]] w fun e w' => e = .returned (.tuple #[]) ∧ ∃ n os, w' = Go.Sort.grow (Go.Sort.ahead w n) os :=
  (AnyF.slices_SortFunc_none (P := Tryz.prog) (ρ := sortVals_ren) sortVals none 0 (.func (.func 90) #[] #[]) w).mono fun _ _ ⟨h1, h2⟩ => ⟨h1, 0, #[], by rw [h2]; simp [Go.Sort.grow]⟩
end Go.Proofs.YtnacjdaoiepbhaaGreatDoor
end
section
namespace Go.Proofs.YtnacjdaoiepbhaaGreatDoor
open Go.RowKit Go.Shelf Go.Lib Go.Sort
set_option maxHeartbeats 2000000 in
theorem zStamp (a b c d : Int) (W : World) : Calls Tryz.prog 102 #[.agg #[.int .i64 a, .int .i64 b], .agg #[.int .i64 c, .int .i64 d]] W fun e w' => e = .returned (.int .i64 (if (decide (a < c) || (decide (a = c) && decide (b < d))) = true then -1 else 1)) ∧ ∃ q os', w' = grow (W.drewN q) os' := by
  have hL := zLess a b c d
  generalize (decide (a < c) || (decide (a = c) && decide (b < d))) = r at hL ⊢
  cases r with
  | true =>
    go_enter Tryz.func102, Tryz.ntmps102
    go_wp2_with (go_at_call 91; refine (hL _).mono ?_; rintro e w' ⟨rfl, q, os', hw'⟩; rw [hw'])
    go_ret
    exact ⟨rfl, q, _, grow3 _ _ _ _ _⟩
  | false =>
    go_enter Tryz.func102, Tryz.ntmps102
    go_wp2_with (go_at_call 91; refine (hL _).mono ?_; rintro e w' ⟨rfl, q, os', hw'⟩; rw [hw'])
    go_ret
    exact ⟨rfl, q, _, grow3 _ _ _ _ _⟩
def sortStamps_ren : Go.Shelf.Ren := ⟨fun | 6 => 101 | 15 => 126 | 14 => 130 | 28 => 161 | 29 => 162 | 20 => 169 | 21 => 170 | 22 => 171 | 23 => 172 | 24 => 173 | 25 => 174 | 26 => 175 | 27 => 176 | 46 => 209 | 47 => 202 | 48 => 203 | 49 => 210 | 50 => 211 | 57 => 225 | n => n, fun | 22 => 72 | 24 => 23 | 25 => 146 | 3 => 3 | 39 => 167 | 0 => 0 | 53 => 193 | 55 => 195 | 4 => 4 | 46 => 187 | 45 => 186 | 50 => 117 | 5 => 5 | 9 => 9 | 66 => 223 | 70 => 227 | 76 => 245 | 77 => 241 | n => n, fun n => n⟩
theorem sortStamps : Go.Proofs.SlLaysF0.n6 Tryz.prog sortStamps_ren := {
  mixed := by kernel_rfl
  f6 := ⟨ "slices.SortFunc[[]langdoc/api.Stamp,langdoc/api.Stamp]", by kernel_rfl, Tryz.func101.trans (congrArg some (by kernel_rfl))⟩
  f14 := ⟨ "slices.pdqsortCmpFunc[langdoc/api.Stamp]", by kernel_rfl, Tryz.func130.trans (congrArg some (by kernel_rfl))⟩
  f15 := Tryz.func126.trans (congrArg some (by kernel_rfl))
  f20 := ⟨ "slices.insertionSortCmpFunc[langdoc/api.Stamp]", by kernel_rfl, Tryz.func169.trans (congrArg some (by kernel_rfl))⟩
  f21 := ⟨ "slices.heapSortCmpFunc[langdoc/api.Stamp]", by kernel_rfl, Tryz.func170.trans (congrArg some (by kernel_rfl))⟩
  f22 := ⟨ "slices.breakPatternsCmpFunc[langdoc/api.Stamp]", by kernel_rfl, Tryz.func171.trans (congrArg some (by kernel_rfl))⟩
  f23 := ⟨ "slices.choosePivotCmpFunc[langdoc/api.Stamp]", by kernel_rfl, Tryz.func172.trans (congrArg some (by kernel_rfl))⟩
  f24 := ⟨ "slices.reverseRangeCmpFunc[langdoc/api.Stamp]", by kernel_rfl, Tryz.func173.trans (congrArg some (by kernel_rfl))⟩
  f25 := ⟨ "slices.partialInsertionSortCmpFunc[langdoc/api.Stamp]", by kernel_rfl, Tryz.func174.trans (congrArg some (by kernel_rfl))⟩
  f26 := ⟨ "slices.partitionEqualCmpFunc[langdoc/api.Stamp]", by kernel_rfl, Tryz.func175.trans (congrArg some (by kernel_rfl))⟩
  f27 := ⟨ "slices.partitionCmpFunc[langdoc/api.Stamp]", by kernel_rfl, Tryz.func176.trans (congrArg some (by kernel_rfl))⟩
  f28 := Tryz.func161.trans (congrArg some (by kernel_rfl))
  f29 := Tryz.func162.trans (congrArg some (by kernel_rfl))
  f46 := ⟨ "slices.siftDownCmpFunc[langdoc/api.Stamp]", by kernel_rfl, Tryz.func209.trans (congrArg some (by kernel_rfl))⟩
  f47 := Tryz.func202.trans (congrArg some (by kernel_rfl))
  f48 := Tryz.func203.trans (congrArg some (by kernel_rfl))
  f49 := ⟨ "slices.medianAdjacentCmpFunc[langdoc/api.Stamp]", by kernel_rfl, Tryz.func210.trans (congrArg some (by kernel_rfl))⟩
  f50 := ⟨ "slices.medianCmpFunc[langdoc/api.Stamp]", by kernel_rfl, Tryz.func211.trans (congrArg some (by kernel_rfl))⟩
  f57 := ⟨ "slices.order2CmpFunc[langdoc/api.Stamp]", by kernel_rfl, Tryz.func225.trans (congrArg some (by kernel_rfl))⟩
  t0 := Tryz.underlying0
  a0 := Tryz.isAgg0
  z0 := Tryz.sizeOf0
  v0 := Tryz.zeroValue0
  t3 := Tryz.underlying3
  a3 := Tryz.isAgg3
  z3 := Tryz.sizeOf3
  v3 := Tryz.zeroValue3
  t4 := Tryz.underlying4
  a4 := Tryz.isAgg4
  z4 := Tryz.sizeOf4
  v4 := Tryz.zeroValue4
  t5 := Tryz.underlying5
  a5 := Tryz.isAgg5
  z5 := Tryz.sizeOf5
  v5 := Tryz.zeroValue5
  t9 := Tryz.underlying9
  a9 := Tryz.isAgg9
  z9 := Tryz.sizeOf9
  v9 := Tryz.zeroValue9
  t22 := Tryz.underlying72
  a22 := Tryz.isAgg72
  z22 := Tryz.sizeOf72
  v22 := Tryz.zeroValue72
  t25 := Tryz.underlying146
  a25 := Tryz.isAgg146
  z25 := Tryz.sizeOf146
  v25 := Tryz.zeroValue146
  t39 := Tryz.underlying167
  a39 := Tryz.isAgg167
  z39 := Tryz.sizeOf167
  v39 := Tryz.zeroValue167
  t45 := Tryz.underlying186
  a45 := Tryz.isAgg186
  z45 := Tryz.sizeOf186
  v45 := Tryz.zeroValue186
  t46 := Tryz.underlying187
  a46 := Tryz.isAgg187
  z46 := Tryz.sizeOf187
  v46 := Tryz.zeroValue187
  t50 := Tryz.underlying117
  a50 := Tryz.isAgg117
  z50 := Tryz.sizeOf117
  v50 := Tryz.zeroValue117
  t53 := Tryz.underlying193
  a53 := Tryz.isAgg193
  z53 := Tryz.sizeOf193
  v53 := Tryz.zeroValue193
  t55 := Tryz.underlying195
  a55 := Tryz.isAgg195
  z55 := Tryz.sizeOf195
  v55 := Tryz.zeroValue195
  t66 := Tryz.underlying223
  a66 := Tryz.isAgg223
  z66 := Tryz.sizeOf223
  v66 := Tryz.zeroValue223
  t70 := Tryz.underlying227
  a70 := Tryz.isAgg227
  z70 := Tryz.sizeOf227
  v70 := Tryz.zeroValue227
  t76 := Tryz.underlying245
  a76 := Tryz.isAgg245
  z76 := Tryz.sizeOf245
  v76 := Tryz.zeroValue245
  t77 := Tryz.underlying241
  a77 := Tryz.isAgg241
  z77 := Tryz.sizeOf241
  v77 := Tryz.zeroValue241 }
def encSt (s : Stamp) : List Value := [.int .i64 s.count, .int .i64 s.dev]
def cmpSt (a b : Stamp) : Int := if less a b = true then -1 else 1
theorem ltSt (a b : Stamp) : ltOf cmpSt a b = less a b := by
  unfold ltOf cmpSt
  cases less a b <;> simp
theorem swoSt : SWO (ltOf cmpSt) where
  irrefl x := by rw [ltSt]; exact less_irr _
  trans x y z h1 h2 := by rw [ltSt] at *; exact less_trans h1 h2
  ntrans x y z h1 h2 := by
    rw [ltSt] at *
    rcases nless_iff.1 h1 with h | h
    · exact less_asym (le_less (nless_iff.2 (nless_iff.1 h2)) h)
    · rw [← h] at *; exact h2
theorem laysSt (blk off size : Nat) (w : World) : CmpLays Tryz.prog 102 #[] encSt 2 cmpSt blk off size w :=
  fun _ _ _ _ x y => zStamp x.count x.dev y.count y.dev _
theorem sortStamps_calls (d : List Stamp) (blk cap : Nat) (w : World) (hsz : d.length ≤ 1000000) (hH : HoldsK encSt 2 w blk 0 d.toArray) (hb : blk < w.heap.size) :
    Calls Tryz.prog 101 #[.slice (some ⟨blk, 0, none⟩) d.toArray.size cap, .func (.func 102) #[] #[]] w fun e w' => e = .returned (.tuple #[]) ∧ ∃ d' n os, PermIn 0 d.toArray.size d.toArray d' ∧ SortedIn (ltOf cmpSt) 0 d.toArray.size d' ∧ w' = sortWorldK encSt 2 w blk 0 n d' os :=
  AnyQ.slices_SortFunc sortStamps 2 Tryz.isAgg23 Tryz.sizeOf23 encSt (fun _ => rfl) (fun x v hv => by simp [encSt] at hv; rcases hv with rfl | rfl <;> rfl) cmpSt swoSt 102 #[] blk 0 cap d.toArray w
    (enters_of Tryz.func102 (by kernel_rfl) rfl) (laysSt blk 0 d.toArray.size w) hH hb (by simp; omega)
theorem sortStamps_none (w : World) : Calls Tryz.prog 101 #[.slice none 0 0, .func (.func 102) #[] #[]] w fun e w' => e = .returned (.tuple #[]) ∧ ∃ n os, w' = Go.Sort.grow (Go.Sort.ahead w n) os :=
  (AnyF.slices_SortFunc_none (P := Tryz.prog) (ρ := sortStamps_ren) sortStamps none 0 (.func (.func 102) #[] #[]) w).mono fun _ _ ⟨h1, h2⟩ => ⟨h1, 0, #[], by rw [h2]; simp [Go.Sort.grow]⟩
end Go.Proofs.YtnacjdaoiepbhaaGreatDoor
end
section
namespace Go.Proofs.YtnacjdaoiepbhaaGreatDoor
theorem right_iff {s : Span} : spanRight s = true ↔ 0 ≤ s.fro ∧ s.fro < s.til ∧ s.til ≤ 86400000 := by
  simp [spanRight, and_assoc]
abbrev inS (p : Int) (x : Span) : Prop := x.fro ≤ p ∧ p < x.til
def leftS (x b : Span) : Span := ⟨x.fro, min x.til b.fro⟩
def rightS (x b : Span) : Span := ⟨max x.fro b.til, x.til⟩
def cutS (b x : Span) : List Span := (if spanRight (leftS x b) then [leftS x b] else []) ++ (if spanRight (rightS x b) then [rightS x b] else [])
def withoutL (out : List Span) (b : Span) : List Span := out.flatMap (cutS b)
def minusStep (out : List Span) (b : Span) : List Span := if spanRight b then withoutL out b else out
def minusL (s : Span) (l : List Span) : List Span := l.foldl minusStep [s]
def covB (l : List Span) (s : Span) : Bool := spanRight s && (minusL s l).isEmpty
def AllR (l : List Span) : Prop := ∀ x ∈ l, spanRight x = true
theorem cutS_mem {b x : Span} (hb : spanRight b = true) (hx : spanRight x = true) (p : Int) : (∃ y ∈ cutS b x, inS p y) ↔ inS p x ∧ ¬ inS p b := by
  rw [right_iff] at hb hx
  unfold cutS
  constructor
  · rintro ⟨y, hy, hp⟩
    rcases List.mem_append.1 hy with h | h
    · split at h
      · simp only [List.mem_singleton] at h
        subst h
        unfold inS leftS at hp
        simp only at hp
        unfold inS
        omega
      · cases h
    · split at h
      · simp only [List.mem_singleton] at h
        subst h
        unfold inS rightS at hp
        simp only at hp
        unfold inS
        omega
      · cases h
  · rintro ⟨h1, h2⟩
    unfold inS at h1 h2
    by_cases hq : p < b.fro
    · have hr : spanRight (leftS x b) = true := by rw [right_iff]; unfold leftS; simp only; omega
      refine ⟨leftS x b, List.mem_append.2 (.inl (by rw [if_pos hr]; simp)), ?_⟩
      unfold inS leftS; simp only; omega
    · have hr : spanRight (rightS x b) = true := by rw [right_iff]; unfold rightS; simp only; omega
      refine ⟨rightS x b, List.mem_append.2 (.inr (by rw [if_pos hr]; simp)), ?_⟩
      unfold inS rightS; simp only; omega
theorem cutS_right {b x : Span} : AllR (cutS b x) := by
  intro y hy
  unfold cutS at hy
  rcases List.mem_append.1 hy with h | h
  · split at h
    · simp only [List.mem_singleton] at h; subst h; assumption
    · cases h
  · split at h
    · simp only [List.mem_singleton] at h; subst h; assumption
    · cases h
theorem minus_inv {s : Span} : ∀ {l out : List Span}, AllR out → AllR (l.foldl minusStep out) ∧ ∀ p, (∃ y ∈ l.foldl minusStep out, inS p y) ↔ (∃ y ∈ out, inS p y) ∧ ¬ ∃ t ∈ l, spanRight t = true ∧ inS p t
  | [], out, h => ⟨h, fun p => by simp⟩
  | b :: r, out, h => by
    have hst : AllR (minusStep out b) := by
      unfold minusStep
      split
      · intro y hy
        obtain ⟨x, hx, hy⟩ := List.mem_flatMap.1 hy
        exact cutS_right y hy
      · exact h
    obtain ⟨h1, h2⟩ := minus_inv (s := s) (l := r) hst
    refine ⟨h1, fun p => ?_⟩
    rw [List.foldl_cons, h2 p]
    have key : (∃ y ∈ minusStep out b, inS p y) ↔ (∃ y ∈ out, inS p y) ∧ ¬ (spanRight b = true ∧ inS p b) := by
      unfold minusStep
      by_cases hb : spanRight b = true
      · rw [if_pos hb]
        constructor
        · rintro ⟨y, hy, hp⟩
          obtain ⟨x, hx, hy⟩ := List.mem_flatMap.1 hy
          obtain ⟨q1, q2⟩ := (cutS_mem hb (h x hx) p).1 ⟨y, hy, hp⟩
          exact ⟨⟨x, hx, q1⟩, fun q => q2 q.2⟩
        · rintro ⟨⟨x, hx, hp⟩, hn⟩
          obtain ⟨y, hy, hp'⟩ := (cutS_mem hb (h x hx) p).2 ⟨hp, fun q => hn ⟨hb, q⟩⟩
          exact ⟨y, List.mem_flatMap.2 ⟨x, hx, hy⟩, hp'⟩
      · rw [if_neg hb]
        exact ⟨fun q => ⟨q, fun r => hb r.1⟩, fun q => q.1⟩
    rw [key]
    constructor
    · rintro ⟨⟨q1, q2⟩, q3⟩
      refine ⟨q1, ?_⟩
      rintro ⟨t, ht, ht'⟩
      rcases List.mem_cons.1 ht with rfl | ht
      · exact q2 ht'
      · exact q3 ⟨t, ht, ht'⟩
    · rintro ⟨q1, q2⟩
      exact ⟨⟨q1, fun q => q2 ⟨b, by simp, q⟩⟩, fun ⟨t, ht, ht'⟩ => q2 ⟨t, by simp [ht], ht'⟩⟩
theorem covB_iff {l : List Span} {s : Span} (hs : spanRight s = true) : covB l s = true ↔ ∀ p, inS p s → ∃ t ∈ l, spanRight t = true ∧ inS p t := by
  obtain ⟨h1, h2⟩ := minus_inv (s := s) (l := l) (out := [s]) (by intro x hx; simp at hx; subst hx; exact hs)
  have : covB l s = (minusL s l).isEmpty := by unfold covB; rw [hs]; rfl
  rw [this, List.isEmpty_iff]
  constructor
  · intro he p hp
    have := (h2 p).2
    rcases Classical.em (∃ t ∈ l, spanRight t = true ∧ inS p t) with g | g
    · exact g
    · obtain ⟨y, hy, _⟩ := this ⟨⟨s, by simp, hp⟩, g⟩
      unfold minusL at he
      rw [he] at hy
      cases hy
  · intro hc
    cases hm : minusL s l with
    | nil => rfl
    | cons y r =>
      exfalso
      have hy : y ∈ l.foldl minusStep [s] := by unfold minusL at hm; rw [hm]; simp
      have hr := right_iff.1 (h1 y hy)
      obtain ⟨⟨x, hx, hp⟩, hn⟩ := (h2 y.fro).1 ⟨y, hy, by unfold inS; omega⟩
      simp only [List.mem_singleton] at hx
      subst hx
      exact hn (hc _ hp)
def mergeS (out : List Span) (s : Span) : List Span := match out.getLast? with
  | some z => if s.fro ≤ z.til then out.dropLast ++ [⟨z.fro, max z.til s.til⟩] else out ++ [s]
  | none => [s]
def Gaps (m : List Span) : Prop := m.Pairwise (fun x y => x.til < y.fro) ∧ ∀ x ∈ m, x.fro < x.til
theorem mergeS_inv {out : List Span} {s : Span} (h : Gaps out) (hs : spanRight s = true) (hb : ∀ x ∈ out, x.fro ≤ s.fro) : Gaps (mergeS out s) ∧ (∀ x ∈ mergeS out s, x.fro ≤ s.fro) ∧ ∀ p, (∃ y ∈ mergeS out s, inS p y) ↔ (∃ y ∈ out, inS p y) ∨ inS p s := by
  rw [right_iff] at hs
  unfold mergeS
  rcases List.eq_nil_or_concat out with rfl | ⟨m, z, rfl⟩
  · simp only [List.getLast?_nil]
    refine ⟨⟨by simp, by intro x hx; simp at hx; subst hx; omega⟩, by intro x hx; simp at hx; subst hx; omega, fun p => by simp⟩
  · rw [List.concat_eq_append] at *
    simp only [List.getLast?_append, List.getLast?_singleton, Option.some_or, List.dropLast_concat]
    obtain ⟨h1, h2⟩ := h
    rw [List.pairwise_append] at h1
    obtain ⟨p1, _, p2⟩ := h1
    have hz := h2 z (by simp)
    have hzs := hb z (by simp)
    split
    · rename_i hle
      refine ⟨⟨?_, ?_⟩, ?_, fun p => ?_⟩
      · rw [List.pairwise_append]
        refine ⟨p1, by simp, fun x hx y hy => ?_⟩
        simp only [List.mem_singleton] at hy
        subst hy
        exact p2 x hx z (by simp)
      · intro x hx
        rcases List.mem_append.1 hx with hx | hx
        · exact h2 x (by simp [hx])
        · simp only [List.mem_singleton] at hx
          subst hx
          simp only; omega
      · intro x hx
        rcases List.mem_append.1 hx with hx | hx
        · exact hb x (by simp [hx])
        · simp only [List.mem_singleton] at hx
          subst hx
          exact hzs
      · constructor
        · rintro ⟨y, hy, hp⟩
          rcases List.mem_append.1 hy with hy | hy
          · exact .inl ⟨y, by simp [hy], hp⟩
          · simp only [List.mem_singleton] at hy
            subst hy
            unfold inS at hp
            simp only at hp
            rcases Int.lt_or_le p z.til with q | q
            · exact .inl ⟨z, by simp, hp.1, q⟩
            · exact .inr ⟨by omega, by omega⟩
        · rintro (⟨y, hy, hp⟩ | hp)
          · rcases List.mem_append.1 hy with hy | hy
            · exact ⟨y, by simp [hy], hp⟩
            · simp only [List.mem_singleton] at hy
              subst hy
              exact ⟨⟨y.fro, max y.til s.til⟩, by simp, hp.1, by have := hp.2; simp only; omega⟩
          · exact ⟨⟨z.fro, max z.til s.til⟩, by simp, by have := hp.1; simp only; omega, by have := hp.2; simp only; omega⟩
    · rename_i hle
      refine ⟨⟨?_, ?_⟩, ?_, fun p => ?_⟩
      · rw [List.pairwise_append]
        refine ⟨by rw [List.pairwise_append]; exact ⟨p1, by simp, p2⟩, by simp, fun x hx y hy => ?_⟩
        simp only [List.mem_singleton] at hy
        subst hy
        rcases List.mem_append.1 hx with hx | hx
        · have := p2 x hx z (by simp); omega
        · simp only [List.mem_singleton] at hx
          subst hx; omega
      · intro x hx
        rcases List.mem_append.1 hx with hx | hx
        · exact h2 x hx
        · simp only [List.mem_singleton] at hx
          subst hx; omega
      · intro x hx
        rcases List.mem_append.1 hx with hx | hx
        · exact hb x hx
        · simp only [List.mem_singleton] at hx
          subst hx; omega
      · constructor
        · rintro ⟨y, hy, hp⟩
          rcases List.mem_append.1 hy with hy | hy
          · exact .inl ⟨y, hy, hp⟩
          · simp only [List.mem_singleton] at hy
            subst hy; exact .inr hp
        · rintro (⟨y, hy, hp⟩ | hp)
          · exact ⟨y, List.mem_append.2 (.inl hy), hp⟩
          · exact ⟨s, by simp, hp⟩
def SortS (l : List Span) : Prop := l.Pairwise fun a b => a.fro ≤ b.fro
theorem mergeS_all : ∀ {l out : List Span}, Gaps out → AllR l → SortS l → (∀ x ∈ out, ∀ s ∈ l, x.fro ≤ s.fro) → Gaps (l.foldl mergeS out) ∧ ∀ p, (∃ y ∈ l.foldl mergeS out, inS p y) ↔ (∃ y ∈ out, inS p y) ∨ ∃ s ∈ l, inS p s
  | [], out, h, _, _, _ => ⟨h, fun p => by simp⟩
  | s :: r, out, h, hr, ho, hb => by
    rw [SortS, List.pairwise_cons] at ho
    obtain ⟨g1, g2, g3⟩ := mergeS_inv h (hr s (by simp)) (fun x hx => hb x hx s (by simp))
    obtain ⟨h1, h2⟩ := mergeS_all (l := r) g1 (fun x hx => hr x (by simp [hx])) ho.2 (fun x hx t ht => Int.le_trans (g2 x hx) (ho.1 t ht))
    refine ⟨h1, fun p => ?_⟩
    rw [List.foldl_cons, h2 p, g3 p]
    constructor
    · rintro ((h | h) | ⟨t, ht, h⟩)
      · exact .inl h
      · exact .inr ⟨s, by simp, h⟩
      · exact .inr ⟨t, by simp [ht], h⟩
    · rintro (h | ⟨t, ht, h⟩)
      · exact .inl (.inl h)
      · rcases List.mem_cons.1 ht with rfl | ht
        · exact .inl (.inr h)
        · exact .inr ⟨t, ht, h⟩
def around (s x : Span) : Bool := decide (x.fro ≤ s.fro) && decide (s.til ≤ x.til)
theorem gaps_cover {m : List Span} (h : Gaps m) {s : Span} (hs : s.fro < s.til) : m.any (around s) = true ↔ ∀ p, inS p s → ∃ y ∈ m, inS p y := by
  rw [List.any_eq_true]
  constructor
  · rintro ⟨x, hx, ha⟩ p hp
    simp only [around, Bool.and_eq_true, decide_eq_true_eq] at ha
    exact ⟨x, hx, by unfold inS at hp ⊢; omega⟩
  · intro hc
    obtain ⟨x, hx, hp⟩ := hc s.fro ⟨Int.le_refl _, hs⟩
    refine ⟨x, hx, ?_⟩
    simp only [around, Bool.and_eq_true, decide_eq_true_eq]
    refine ⟨hp.1, ?_⟩
    rcases Int.lt_or_le x.til s.til with q | q
    · exfalso
      obtain ⟨y, hy, hp'⟩ := hc x.til ⟨by have := hp.2; omega, q⟩
      obtain ⟨h1, h2⟩ := h
      obtain ⟨i, hi⟩ := List.getElem?_of_mem hx
      obtain ⟨j, hj⟩ := List.getElem?_of_mem hy
      obtain ⟨li, ei⟩ := List.getElem?_eq_some_iff.1 hi
      obtain ⟨lj, ej⟩ := List.getElem?_eq_some_iff.1 hj
      have hxl := h2 x hx
      rcases Nat.lt_trichotomy i j with g | g | g
      · have := List.pairwise_iff_getElem.1 h1 i j li lj g
        rw [ei, ej] at this
        have := hp'.1; omega
      · subst g
        rw [hi] at hj
        cases hj
        have := hp'.2; omega
      · have := List.pairwise_iff_getElem.1 h1 j i lj li g
        rw [ei, ej] at this
        have := hp'.2; omega
    · exact q
theorem union_covers {l d : List Span} {s : Span} (hs : spanRight s = true) (hp : d.Perm (l.filter spanRight)) (ho : SortS d) : (d.foldl mergeS []).any (around s) = covB l s := by
  have hr : AllR d := fun x hx => (List.mem_filter.1 (hp.mem_iff.1 hx)).2
  obtain ⟨h1, h2⟩ := mergeS_all (l := d) (out := []) ⟨by simp, by simp⟩ hr ho (by simp)
  have hs' := right_iff.1 hs
  rw [Bool.eq_iff_iff, gaps_cover h1 (by omega), covB_iff hs]
  constructor
  · intro h p hp'
    rcases (h2 p).1 (h p hp') with ⟨y, hy, _⟩ | ⟨t, ht, hq⟩
    · cases hy
    · obtain ⟨q1, q2⟩ := List.mem_filter.1 (hp.mem_iff.1 ht)
      exact ⟨t, q1, q2, hq⟩
  · intro h p hp'
    obtain ⟨t, ht, q1, q2⟩ := h p hp'
    exact (h2 p).2 (.inr ⟨t, hp.mem_iff.2 (List.mem_filter.2 ⟨ht, q1⟩), q2⟩)
end Go.Proofs.YtnacjdaoiepbhaaGreatDoor
end
section
namespace Go.Proofs.YtnacjdaoiepbhaaGreatDoor
open Go.RowKit Go.Shelf Go.Lib Go.Sort
set_option maxHeartbeats 2000000 in
theorem zSpan (a b c d : Int) (W : World) : Calls Tryz.prog 123 #[.agg #[.int .i64 a, .int .i64 b], .agg #[.int .i64 c, .int .i64 d]] W fun e w' => e = .returned (.int .i64 (zcmp a c)) ∧ ∃ q os', w' = grow (W.drewN q) os' := by
  have e54 : ∀ args w, (callFunc 124 args).run Tryz.prog w = .ok (.enter 124 args) w := enters_of Tryz.func124 (by kernel_rfl) rfl
  go_enter Tryz.func123, Tryz.ntmps123
  go_wp2_with (go_at_call 124; refine (zCompare _ _ _).mono ?_; rintro e w' ⟨rfl, hw⟩; rw [hw])
  go_ret
  exact ⟨rfl, 0, _, by rw [alloc_eq_grow, alloc_eq_grow, grow_grow]; rfl⟩
def sortSpans_ren : Go.Shelf.Ren := ⟨fun | 6 => 122 | 15 => 126 | 14 => 151 | 28 => 161 | 29 => 162 | 20 => 193 | 21 => 194 | 22 => 195 | 23 => 196 | 24 => 197 | 25 => 198 | 26 => 199 | 27 => 200 | 46 => 220 | 47 => 202 | 48 => 203 | 49 => 221 | 50 => 222 | 57 => 232 | n => n, fun | 22 => 54 | 24 => 63 | 25 => 164 | 3 => 3 | 39 => 167 | 0 => 0 | 53 => 193 | 55 => 195 | 4 => 4 | 46 => 187 | 45 => 186 | 50 => 117 | 5 => 5 | 9 => 9 | 66 => 223 | 70 => 227 | 76 => 245 | 77 => 241 | n => n, fun n => n⟩
theorem sortSpans : Go.Proofs.SlLaysF0.n6 Tryz.prog sortSpans_ren := {
  mixed := by kernel_rfl
  f6 := ⟨ "slices.SortFunc[[]langdoc/api.Span,langdoc/api.Span]", by kernel_rfl, Tryz.func122.trans (congrArg some (by kernel_rfl))⟩
  f14 := ⟨ "slices.pdqsortCmpFunc[langdoc/api.Span]", by kernel_rfl, Tryz.func151.trans (congrArg some (by kernel_rfl))⟩
  f15 := Tryz.func126.trans (congrArg some (by kernel_rfl))
  f20 := ⟨ "slices.insertionSortCmpFunc[langdoc/api.Span]", by kernel_rfl, Tryz.func193.trans (congrArg some (by kernel_rfl))⟩
  f21 := ⟨ "slices.heapSortCmpFunc[langdoc/api.Span]", by kernel_rfl, Tryz.func194.trans (congrArg some (by kernel_rfl))⟩
  f22 := ⟨ "slices.breakPatternsCmpFunc[langdoc/api.Span]", by kernel_rfl, Tryz.func195.trans (congrArg some (by kernel_rfl))⟩
  f23 := ⟨ "slices.choosePivotCmpFunc[langdoc/api.Span]", by kernel_rfl, Tryz.func196.trans (congrArg some (by kernel_rfl))⟩
  f24 := ⟨ "slices.reverseRangeCmpFunc[langdoc/api.Span]", by kernel_rfl, Tryz.func197.trans (congrArg some (by kernel_rfl))⟩
  f25 := ⟨ "slices.partialInsertionSortCmpFunc[langdoc/api.Span]", by kernel_rfl, Tryz.func198.trans (congrArg some (by kernel_rfl))⟩
  f26 := ⟨ "slices.partitionEqualCmpFunc[langdoc/api.Span]", by kernel_rfl, Tryz.func199.trans (congrArg some (by kernel_rfl))⟩
  f27 := ⟨ "slices.partitionCmpFunc[langdoc/api.Span]", by kernel_rfl, Tryz.func200.trans (congrArg some (by kernel_rfl))⟩
  f28 := Tryz.func161.trans (congrArg some (by kernel_rfl))
  f29 := Tryz.func162.trans (congrArg some (by kernel_rfl))
  f46 := ⟨ "slices.siftDownCmpFunc[langdoc/api.Span]", by kernel_rfl, Tryz.func220.trans (congrArg some (by kernel_rfl))⟩
  f47 := Tryz.func202.trans (congrArg some (by kernel_rfl))
  f48 := Tryz.func203.trans (congrArg some (by kernel_rfl))
  f49 := ⟨ "slices.medianAdjacentCmpFunc[langdoc/api.Span]", by kernel_rfl, Tryz.func221.trans (congrArg some (by kernel_rfl))⟩
  f50 := ⟨ "slices.medianCmpFunc[langdoc/api.Span]", by kernel_rfl, Tryz.func222.trans (congrArg some (by kernel_rfl))⟩
  f57 := ⟨ "slices.order2CmpFunc[langdoc/api.Span]", by kernel_rfl, Tryz.func232.trans (congrArg some (by kernel_rfl))⟩
  t0 := Tryz.underlying0
  a0 := Tryz.isAgg0
  z0 := Tryz.sizeOf0
  v0 := Tryz.zeroValue0
  t3 := Tryz.underlying3
  a3 := Tryz.isAgg3
  z3 := Tryz.sizeOf3
  v3 := Tryz.zeroValue3
  t4 := Tryz.underlying4
  a4 := Tryz.isAgg4
  z4 := Tryz.sizeOf4
  v4 := Tryz.zeroValue4
  t5 := Tryz.underlying5
  a5 := Tryz.isAgg5
  z5 := Tryz.sizeOf5
  v5 := Tryz.zeroValue5
  t9 := Tryz.underlying9
  a9 := Tryz.isAgg9
  z9 := Tryz.sizeOf9
  v9 := Tryz.zeroValue9
  t22 := Tryz.underlying54
  a22 := Tryz.isAgg54
  z22 := Tryz.sizeOf54
  v22 := Tryz.zeroValue54
  t25 := Tryz.underlying164
  a25 := Tryz.isAgg164
  z25 := Tryz.sizeOf164
  v25 := Tryz.zeroValue164
  t39 := Tryz.underlying167
  a39 := Tryz.isAgg167
  z39 := Tryz.sizeOf167
  v39 := Tryz.zeroValue167
  t45 := Tryz.underlying186
  a45 := Tryz.isAgg186
  z45 := Tryz.sizeOf186
  v45 := Tryz.zeroValue186
  t46 := Tryz.underlying187
  a46 := Tryz.isAgg187
  z46 := Tryz.sizeOf187
  v46 := Tryz.zeroValue187
  t50 := Tryz.underlying117
  a50 := Tryz.isAgg117
  z50 := Tryz.sizeOf117
  v50 := Tryz.zeroValue117
  t53 := Tryz.underlying193
  a53 := Tryz.isAgg193
  z53 := Tryz.sizeOf193
  v53 := Tryz.zeroValue193
  t55 := Tryz.underlying195
  a55 := Tryz.isAgg195
  z55 := Tryz.sizeOf195
  v55 := Tryz.zeroValue195
  t66 := Tryz.underlying223
  a66 := Tryz.isAgg223
  z66 := Tryz.sizeOf223
  v66 := Tryz.zeroValue223
  t70 := Tryz.underlying227
  a70 := Tryz.isAgg227
  z70 := Tryz.sizeOf227
  v70 := Tryz.zeroValue227
  t76 := Tryz.underlying245
  a76 := Tryz.isAgg245
  z76 := Tryz.sizeOf245
  v76 := Tryz.zeroValue245
  t77 := Tryz.underlying241
  a77 := Tryz.isAgg241
  z77 := Tryz.sizeOf241
  v77 := Tryz.zeroValue241 }
def encSp (s : Span) : List Value := [.int .i64 s.fro, .int .i64 s.til]
def cmpSp (a b : Span) : Int := zcmp a.fro b.fro
theorem ltSp (a b : Span) : ltOf cmpSp a b = decide (a.fro < b.fro) := by
  unfold ltOf cmpSp
  exact zcmp_lt _ _
theorem swoSp : SWO (ltOf cmpSp) where
  irrefl x := by rw [ltSp]; simp
  trans x y z h1 h2 := by rw [ltSp] at *; simp only [decide_eq_true_eq] at *; omega
  ntrans x y z h1 h2 := by rw [ltSp] at *; simp only [decide_eq_false_iff_not] at *; omega
theorem laysSp (blk off size : Nat) (w : World) : CmpLays Tryz.prog 123 #[] encSp 2 cmpSp blk off size w :=
  fun _ _ _ _ x y => zSpan x.fro x.til y.fro y.til _
theorem sortSpans_calls (d : List Span) (blk cap : Nat) (w : World) (hsz : d.length ≤ 1000000) (hH : HoldsK encSp 2 w blk 0 d.toArray) (hb : blk < w.heap.size) :
    Calls Tryz.prog 122 #[.slice (some ⟨blk, 0, none⟩) d.toArray.size cap, .func (.func 123) #[] #[]] w fun e w' => e = .returned (.tuple #[]) ∧ ∃ d' n os, PermIn 0 d.toArray.size d.toArray d' ∧ SortedIn (ltOf cmpSp) 0 d.toArray.size d' ∧ w' = sortWorldK encSp 2 w blk 0 n d' os :=
  AnyQ.slices_SortFunc sortSpans 2 Tryz.isAgg63 Tryz.sizeOf63 encSp (fun _ => rfl) (fun x v hv => by simp [encSp] at hv; rcases hv with rfl | rfl <;> rfl) cmpSp swoSp 123 #[] blk 0 cap d.toArray w
    (enters_of Tryz.func123 (by kernel_rfl) rfl) (laysSp blk 0 d.toArray.size w) hH hb (by simp; omega)
theorem sortSpans_none (w : World) : Calls Tryz.prog 122 #[.slice none 0 0, .func (.func 123) #[] #[]] w fun e w' => e = .returned (.tuple #[]) ∧ ∃ n os, w' = Go.Sort.grow (Go.Sort.ahead w n) os :=
  (AnyF.slices_SortFunc_none (P := Tryz.prog) (ρ := sortSpans_ren) sortSpans none 0 (.func (.func 123) #[] #[]) w).mono fun _ _ ⟨h1, h2⟩ => ⟨h1, 0, #[], by rw [h2]; simp [Go.Sort.grow]⟩
end Go.Proofs.YtnacjdaoiepbhaaGreatDoor
end
section
namespace Go.Proofs.YtnacjdaoiepbhaaGreatDoor
open Go.Ac Go.MapKept
attribute [local irreducible] awp awpL Ev Ev2 EvS thenQ blockQ retQ PCalls OCalls YieldOk IterC ICalls
variable {g : List (Nat × List AV)}
end Go.Proofs.YtnacjdaoiepbhaaGreatDoor
end
section
namespace Go.Proofs.YtnacjdaoiepbhaaGreatDoor
open Go.Ac Go.MapKept
attribute [local irreducible] awp awpL Ev Ev2 EvS thenQ blockQ retQ PCalls OCalls YieldOk IterC ICalls
variable {g : List (Nat × List AV)}
def backwards (l : List Op) : List Op := l.reverse
def half (a b : Replica) : Bool := b.ops.all fun o => !(covers a.seen o.at_ && !has a.ops o)
end Go.Proofs.YtnacjdaoiepbhaaGreatDoor
end
section
namespace Go.Proofs.YtnacjdaoiepbhaaGreatDoor
open Go.Ac Go.MapKept
attribute [local irreducible] awp awpL Ev Ev2 EvS thenQ blockQ retQ PCalls OCalls YieldOk IterC ICalls
variable {g : List (Nat × List AV)}
def mergeV (p : Replica × Int) : AV := .tup [.agg (repC p.1), vi p.2]
abbrev zeroRepC : List AV := [vi 0, nilS, nilS]
theorem le_zeroRep : LeA zeroRepC (repC zeroRep) := .cons (Le.rfl' _) (.cons (Le.nil 1) (.cons (Le.nil 15) .nil))
theorem le_zeroM (e : Int) : Le (.tup [.agg zeroRepC, vi e]) (mergeV (zeroRep, e)) := Le.tup (.cons (Le.agg le_zeroRep) (.cons (Le.rfl' _) .nil))
structure FitM (a b : List Op) : Prop where
  len : a.length + b.length ≤ 1000
  ov : ∀ o, o ∈ a ∨ o ∈ b → o.over.length ≤ 100000
  id : ∀ o, o ∈ a ∨ o ∈ b → I64 o.note.id
theorem FitM.fit {a b : List Op} (h : FitM a b) {m : List Op} (hl : m.length ≤ a.length + b.length) (hm : ∀ o ∈ m, o ∈ a ∨ o ∈ b) : Fit m := ⟨by have := h.len; omega, fun o ho => h.ov o (hm o ho)⟩
theorem FitM.ids {a b : List Op} (h : FitM a b) {m : List Op} (hm : ∀ o ∈ m, o ∈ a ∨ o ∈ b) : Ids m := fun o ho => h.id o (hm o ho)
def syncV (p : Replica × Replica × Int) : AV := .tup [.agg (repC p.1), .agg (repC p.2.1), vi p.2.2]
end Go.Proofs.YtnacjdaoiepbhaaGreatDoor
end
section
namespace Go.Proofs.YtnacjdaoiepbhaaGreatDoor
open Go.Ac
def topV (v : List Int) : Int := (List.range 15).foldl (fun m i => max m (num v i)) 0
def nextS (v : List Int) (dev : Int) : Option Stamp := if topV v < 1048576 ∧ 1 ≤ dev ∧ dev ≤ 15 then some ⟨topV v + 1, dev⟩ else none
def emptyRep : Replica := ⟨0, [], []⟩
def longerR (r : Replica) (o : Op) : Replica := ⟨r.dev, see r.seen o.at_, r.ops ++ [o]⟩
def withR (r : Replica) (o : Op) : Replica × Int := if repE (longerR r o) = 0 then (longerR r o, 0) else (emptyRep, repE (longerR r o))
def newR (dev : Int) : Replica × Int := if within dev 1 15 then (⟨dev, join [] [], []⟩, 0) else (emptyRep, 1)
def addOpR (s : Stamp) (rc : Int) (n : Note) : Op := ⟨s, 0, rc, { n with id := idOf s }, 0, 0, .empty, []⟩
def addR (r : Replica) (rc : Int) (n : Note) : Replica × Int × Int := match nextS r.seen r.dev with
  | none => (emptyRep, 0, 27)
  | some s => if (withR r (addOpR s rc n)).2 = 0 then ((withR r (addOpR s rc n)).1, idOf s, 0) else (emptyRep, 0, (withR r (addOpR s rc n)).2)
def setOpR (s : Stamp) (rc note f n : Int) (t : ByteArray) (ov : List Stamp) : Op := ⟨s, 1, rc, bareNote note, f, n, t, ov⟩
def dropOpR (s : Stamp) (rc note : Int) (ov : List Stamp) : Op := ⟨s, 2, rc, bareNote note, 0, 0, .empty, ov⟩
def atsV (l : List Val) : List Stamp := l.map (·.at_)
def nextE (r : Replica) (note : Int) : Int := match addedO r.ops note with
  | none => 9
  | some _ => if lives r.ops note = false then 26 else if (nextS r.seen r.dev).isSome = false then 27 else 0
def setR (r : Replica) (note f n : Int) (t : ByteArray) : Replica × Int := match addedO r.ops note, nextS r.seen r.dev with
  | some a, some s => if lives r.ops note = false then (emptyRep, 26) else withR r (setOpR s a.rec_ note f n t (atsV (valuesL r.ops note f)))
  | some _, none => if lives r.ops note = false then (emptyRep, 26) else (emptyRep, 27)
  | none, _ => (emptyRep, 9)
def overAll (l : List Op) (note : Int) : List Stamp := (l.filter fun o => ([0, 1, 2] : List Int).any fun f => (atsV (valuesL l note f)).contains o.at_).map (·.at_)
def dropR (r : Replica) (note : Int) : Replica × Int := match addedO r.ops note, nextS r.seen r.dev with
  | some a, some s => if lives r.ops note = false then (emptyRep, 26) else withR r (dropOpR s a.rec_ note (overAll r.ops note))
  | some _, none => if lives r.ops note = false then (emptyRep, 26) else (emptyRep, 27)
  | none, _ => (emptyRep, 9)
theorem topV_le (v : List Int) : 0 ≤ topV v ∧ ∀ i, i < 15 → num v i ≤ topV v := by
  have H : ∀ (l : List Nat) (m : Int), 0 ≤ m → m ≤ l.foldl (fun m i => max m (num v i)) m ∧ ∀ i ∈ l, num v i ≤ l.foldl (fun m i => max m (num v i)) m := by
    intro l
    induction l with
    | nil => intro m hm; exact ⟨Int.le_refl _, fun i h => by cases h⟩
    | cons j r ih =>
      intro m hm
      obtain ⟨h1, h2⟩ := ih (max m (num v j)) (by omega)
      simp only [List.foldl_cons]
      refine ⟨by omega, fun i hi => ?_⟩
      rcases List.mem_cons.1 hi with rfl | hi
      · omega
      · exact h2 i hi
  obtain ⟨h1, h2⟩ := H (List.range 15) 0 (Int.le_refl _)
  exact ⟨h1, fun i hi => h2 i (List.mem_range.2 hi)⟩
theorem withR_ok {r : Replica} {o : Op} (h : (withR r o).2 = 0) : (withR r o).1 = longerR r o ∧ repE (longerR r o) = 0 := by
  unfold withR at h ⊢
  split at h
  · rename_i h1; rw [if_pos h1]; exact ⟨rfl, h1⟩
  · rename_i h1; exact absurd h h1
theorem values_ne {l : List Op} (hg : Good l) {note : Int} {a : Op} (ha : addedO l note = some a) {f : Int} (hf : within f 0 2 = true) : valuesL l note f ≠ [] := by
  have hmem := List.mem_of_find?_eq_some ha
  have hpr := List.find?_some ha
  simp only [Bool.and_eq_true, decide_eq_true_eq] at hpr
  have hwa : writes a note f = true := by simp [writes, wrt, hf, hpr.1, hpr.2]
  -- the last one that writes
  have H : ∀ (n : Nat) (k : List Op), k.length = n → Good k → (∃ o ∈ k, writes o note f = true) → ∃ o ∈ k, writes o note f = true ∧ ∀ p ∈ k, writes p note f = true → less o.at_ p.at_ = false := by
    intro n
    induction n with
    | zero =>
      intro k hk _ ⟨o, ho, _⟩
      rw [List.eq_nil_of_length_eq_zero hk] at ho; cases ho
    | succ n ih =>
      intro k hk hgk hex
      have hne : k ≠ [] := by intro e; rw [e] at hk; cases hk
      obtain ⟨q, o, rfl⟩ : ∃ q o, k = q ++ [o] := ⟨_, _, (List.dropLast_concat_getLast hne).symm⟩
      obtain ⟨hi, ha⟩ := hgk
      obtain ⟨i1, i2, i3⟩ := List.pairwise_append.1 hi
      cases hw : writes o note f with
      | true =>
        refine ⟨o, List.mem_append_right _ (List.mem_singleton_self _), hw, fun p hp _ => ?_⟩
        rcases List.mem_append.1 hp with hp | hp
        · exact less_asym (i3 p hp o (List.mem_singleton_self _))
        · simp only [List.mem_singleton] at hp; subst hp; exact less_irr _
      | false =>
        obtain ⟨x, hx, hwx⟩ := hex
        have hxq : x ∈ q := by
          rcases List.mem_append.1 hx with h | h
          · exact h
          · simp only [List.mem_singleton] at h; subst h; rw [hw] at hwx; cases hwx
        obtain ⟨y, hy, hwy, hly⟩ := ih q (by simp at hk; exact hk) ⟨i1, fun p hp => ha p (List.mem_append_left _ hp)⟩ ⟨x, hxq, hwx⟩
        refine ⟨y, List.mem_append_left _ hy, hwy, fun p hp hwp => ?_⟩
        rcases List.mem_append.1 hp with hp | hp
        · exact hly p hp hwp
        · simp only [List.mem_singleton] at hp; subst hp; rw [hw] at hwp; cases hwp
  obtain ⟨o, ho, hw, hlast⟩ := H _ l rfl hg ⟨a, hmem, hwa⟩
  have hk : keepV l note f o = true := by
    unfold keepV
    rw [hw, Bool.true_and, Bool.not_eq_true']
    cases hc : overd l o.at_ 1 note f with
    | false => rfl
    | true =>
      obtain ⟨p, hp, hwp, hs⟩ := (overd_iff hg.2 hf).1 hc
      have := over_less (hg.2 p hp) _ hs
      rw [hlast p hp hwp] at this; cases this
  intro e
  have : o ∈ l.filter (keepV l note f) := List.mem_filter.2 ⟨ho, hk⟩
  unfold valuesL at e
  rw [List.map_eq_nil_iff] at e
  rw [e] at this; cases this
end Go.Proofs.YtnacjdaoiepbhaaGreatDoor
end
section
namespace Go.Proofs.YtnacjdaoiepbhaaGreatDoor
open Go.Ac Go.MapKept
attribute [local irreducible] awp awpL Ev Ev2 EvS thenQ blockQ retQ PCalls OCalls YieldOk IterC ICalls
theorem FitM.r {a b : List Op} (h : FitM a b) : Fit a := h.fit (by omega) fun o ho => .inl ho
theorem FitM.l {a b : List Op} (h : FitM a b) : Fit b := h.fit (by omega) fun o ho => .inr ho
theorem sortedP {g : List (Nat × List AV)} (l : List Op) (hl : Fit l) : PCalls Tryz.prog g 63 [encOps l] (encOps (sorted l)) := sorted_spec _ l (Nat.le_refl _) hl
theorem last_get {α : Type} {l : List α} {p : α} (h : l.getLast? = some p) : 0 < l.length ∧ l[l.length - 1]? = some p := by
  rw [List.getLast?_eq_getElem?] at h
  refine ⟨?_, h⟩
  cases l with
  | nil => simp at h
  | cons x r => simp
set_option maxRecDepth 8000 in
set_option maxHeartbeats 8000000 in
theorem Merge_spec (r : Replica) (l : List Op) (hF : FitM r.ops l) (hi : Inc r.ops) : PCalls Tryz.prog GL 34 [.agg (repC r), encOps l] (mergeV (merge r l)) := by
  have hlen := hF.len
  have hJ := JoinP_nn (g := GL)
  have hSo := sortedP (g := GL) l hF.l
  have hB := both_spec (g := GL) r.ops (sorted l)
  have hI := both1_spec (g := GL) r.ops (sorted l) hF.r hF.l.sorted
  have hgu := gather_unite hi l
  have htl : (both r.ops (sorted l)).length = r.ops.length + l.length := by rw [both_len, sorted_len]
  have htm : ∀ o ∈ both r.ops (sorted l), o ∈ r.ops ∨ o ∈ l := fun o ho => by rw [both_mem, sorted_mem] at ho; exact ho
  have n1 : (!true) = false := rfl
  have n2 : (!false) = true := rfl
  refine pcalls' Tryz.func34 Tryz.ntmps34 rfl rfl rfl ?_
  repeat' (first
   | refine st [4, 5, 6] ?_
   | ((with_reducible refine is_awp ?_); refine awp_cond rfl (fun h => ?_) (fun h => ?_))
   | fail)
  generalize both r.ops (sorted l) = t at *
  have hok := outK_ok t
  refine awp_adoptC 2 2 74 15 rfl rfl rfl rfl ?_
  refine awp_rangeP (okK t) (fun i => [.box zeroRepC, .box [vi 0], .box [vi r.dev, encIs (seenL (outK t i)), .os 3 (outK t i).length], .own (outK t i).length 74 15 ((outK t i).map opC)]) rfl rfl rfl rfl hI (okK_zero t) rfl (fun _ => rfl) (fun _ => rfl) rfl (fun i xs hx => by obtain ⟨o, _, rfl⟩ := yield_get hx; rfl) ?_ ?_
  · intro i xs lp hx hφ
    obtain ⟨o, ho, rfl⟩ := yield_get hx
    have hil : i < t.length := (List.getElem?_eq_some_iff.1 ho).1
    obtain ⟨hol, hom⟩ := hok i
    have hoo : o.over.length ≤ 1000000 := by have := hF.ov o (htm o (List.mem_of_getElem? ho)); omega
    have hsucc := outK_succ ho
    have hmb : ((outK t i).map opC).length ≤ 1000 := by rw [List.length_map]; omega
    refine runn [4, 5, 6] ?_
    refine ⟨rfl, rfl, ?_⟩
    cases hlast : (outK t i).getLast? with
    | none =>
      obtain ⟨hb, hst⟩ := gbad_none (o := o) hlast
      rw [hst] at hsucc
      have hnil : (outK t i).length = 0 := by
        have : outK t i = [] := by simpa using hlast
        rw [this]; rfl
      have c1 : decide ((0 : Int) < (((outK t i).map opC).length : Nat)) = false := decide_eq_false (by rw [List.length_map]; omega)
      have hj : (outK t i).map opC ++ [opC o] = (outK t (i + 1)).map opC := by rw [hsucc]; simp
      have hv : (outK t (i + 1)).length = (outK t i).length + 1 := by rw [hsucc]; simp
      have hS := SeeP (g := GL) (seenL (outK t i)) o.at_ (by rw [seenL_len]; omega)
      rw [← seenL_snoc, ← hsucc] at hS
      repeat' (first
       | ((with_reducible refine is_un ?_); refine awpL_ev2 (ev_app (es' := (outK t (i + 1)).map opC) rfl rfl rfl rfl rfl rfl rfl rfl rfl rfl rfl rfl rfl (by simp only [List.length_map, List.length_cons, List.length_nil, List.length_append, List.length_take]; omega) hj rfl) rfl ?_)
       | refine st [4, 5, 6] ?_
       | fail)
      exact roundNP (okK_succ hφ ho hb) ⟨.nil, by rw [hv]; rfl, rfl, rfl⟩
    | some p =>
      obtain ⟨hpos, hpl⟩ := last_get hlast
      have c1 : decide ((0 : Int) < (((outK t i).map opC).length : Nat)) = true := decide_eq_true (by rw [List.length_map]; omega)
      have hc : 0 ≤ ((((outK t i).map opC).length : Nat) : Int) - 1 ∧ ((((outK t i).map opC).length : Nat) : Int) - 1 < ((outK t i).map opC).length := by rw [List.length_map]; omega
      have hel : ((outK t i).map opC)[(((((outK t i).map opC).length : Nat) : Int) - 1).toNat]? = some (opC p) := by
        rw [List.length_map, show ((((outK t i).length : Nat) : Int) - 1).toNat = (outK t i).length - 1 by omega, List.getElem?_map, hpl]; rfl
      by_cases he : p.at_ = o.at_
      · obtain ⟨hb, hst⟩ := gbad_eq hlast he
        rw [hst] at hsucc
        have e1 : (p.at_.count == o.at_.count && p.at_.dev == o.at_.dev) = true := by rw [he]; simp
        have hpo : p.over.length ≤ 1000000 := by have := hF.ov p (htm p (hom p (List.mem_of_getLast? hlast))); omega
        have hSm := Same_spec (g := GL) p o hpo hoo
        cases hd : decide (p = o) with
        | true =>
          rw [hd] at hSm hb
          repeat' (first
           | ((with_reducible refine isD_un ?_); (first | refine awpD_un (as_ev (fun _ => ev_eqA (b := true) stampEq_T (by kernel_rfl) rfl rfl rfl rfl (by rw [← e1]; rfl)) rfl rfl) (by (try simp only [List.nil_append, List.cons_append]); (try rfl)) ?_ | refine awpD_un (as_pure rfl (by repeat' (first | exact Msk.nil | apply Msk.base | apply Msk.vis rfl | apply Msk.hid rfl)) (ev_el_agg (f := stampC p.at_) rfl rfl rfl rfl hel rfl rfl) rfl rfl rfl) (by (try simp only [List.nil_append, List.cons_append]); (try rfl)) ?_ | refine awpD_un (as_pure rfl (by repeat' (first | exact Msk.nil | apply Msk.base | apply Msk.vis rfl | apply Msk.hid rfl)) (ev_el_agg (f := opC p) rfl rfl rfl rfl hel rfl rfl) rfl rfl rfl) (by (try simp only [List.nil_append, List.cons_append]); (try rfl)) ?_))
           | ((with_reducible refine isD_gd ?_); (first | refine awpD_gd rfl rfl (by first | with_reducible rfl | with_reducible assumption) (as_ev (fun _ => ev_eqA (b := true) stampEq_T (by kernel_rfl) rfl rfl rfl rfl (by rw [← e1]; rfl)) rfl rfl) (by (try simp only [List.nil_append, List.cons_append]); (try rfl)) ?_ | refine awpD_gd rfl rfl (by first | with_reducible rfl | with_reducible assumption) (as_pure rfl (by repeat' (first | exact Msk.nil | apply Msk.base | apply Msk.vis rfl | apply Msk.hid rfl)) (ev_el_agg (f := stampC p.at_) rfl rfl rfl rfl hel rfl rfl) rfl rfl rfl) (by (try simp only [List.nil_append, List.cons_append]); (try rfl)) ?_ | refine awpD_gd rfl rfl (by first | with_reducible rfl | with_reducible assumption) (as_pure rfl (by repeat' (first | exact Msk.nil | apply Msk.base | apply Msk.vis rfl | apply Msk.hid rfl)) (ev_el_agg (f := opC p) rfl rfl rfl rfl hel rfl rfl) rfl rfl rfl) (by (try simp only [List.nil_append, List.cons_append]); (try rfl)) ?_))
           | refine st [4, 5, 6] ?_
           | fail)
          exact roundNP (okK_succ hφ ho hb) ⟨.nil, by rw [hsucc]; rfl, rfl, rfl⟩
        | false =>
          rw [hd] at hSm hb
          repeat' (first
           | ((with_reducible refine isD_un ?_); (first | refine awpD_un (as_ev (fun _ => ev_eqA (b := true) stampEq_T (by kernel_rfl) rfl rfl rfl rfl (by rw [← e1]; rfl)) rfl rfl) (by (try simp only [List.nil_append, List.cons_append]); (try rfl)) ?_ | refine awpD_un (as_pure rfl (by repeat' (first | exact Msk.nil | apply Msk.base | apply Msk.vis rfl | apply Msk.hid rfl)) (ev_el_agg (f := stampC p.at_) rfl rfl rfl rfl hel rfl rfl) rfl rfl rfl) (by (try simp only [List.nil_append, List.cons_append]); (try rfl)) ?_ | refine awpD_un (as_pure rfl (by repeat' (first | exact Msk.nil | apply Msk.base | apply Msk.vis rfl | apply Msk.hid rfl)) (ev_el_agg (f := opC p) rfl rfl rfl rfl hel rfl rfl) rfl rfl rfl) (by (try simp only [List.nil_append, List.cons_append]); (try rfl)) ?_))
           | ((with_reducible refine isD_gd ?_); (first | refine awpD_gd rfl rfl (by first | with_reducible rfl | with_reducible assumption) (as_ev (fun _ => ev_eqA (b := true) stampEq_T (by kernel_rfl) rfl rfl rfl rfl (by rw [← e1]; rfl)) rfl rfl) (by (try simp only [List.nil_append, List.cons_append]); (try rfl)) ?_ | refine awpD_gd rfl rfl (by first | with_reducible rfl | with_reducible assumption) (as_pure rfl (by repeat' (first | exact Msk.nil | apply Msk.base | apply Msk.vis rfl | apply Msk.hid rfl)) (ev_el_agg (f := stampC p.at_) rfl rfl rfl rfl hel rfl rfl) rfl rfl rfl) (by (try simp only [List.nil_append, List.cons_append]); (try rfl)) ?_ | refine awpD_gd rfl rfl (by first | with_reducible rfl | with_reducible assumption) (as_pure rfl (by repeat' (first | exact Msk.nil | apply Msk.base | apply Msk.vis rfl | apply Msk.hid rfl)) (ev_el_agg (f := opC p) rfl rfl rfl rfl hel rfl rfl) rfl rfl rfl) (by (try simp only [List.nil_append, List.cons_append]); (try rfl)) ?_))
           | refine st [4, 5, 6] ?_
           | fail)
          refine roundRP [.box zeroRepC, .box [vi 8], .box [vi r.dev, encIs (seenL (outK t i)), .os 3 (outK t i).length], .own (outK t i).length 74 15 ((outK t i).map opC)] ⟨.nil, rfl, rfl, rfl⟩ rfl ?_
          rw [merge_none (hgu.symm.trans (okK_bad hφ ho hb))]
          refine blockQ_r (thenQ_r ?_)
          exact retLe rfl (le_zeroM 8)
      · obtain ⟨hb, hst⟩ := gbad_ne hlast he
        rw [hst] at hsucc
        have e1 : (p.at_.count == o.at_.count && p.at_.dev == o.at_.dev) = false := by
          cases hq : (p.at_.count == o.at_.count && p.at_.dev == o.at_.dev) with
          | false => rfl
          | true => exact absurd (stamp_ext (by simpa using hq)) he
        have hj : (outK t i).map opC ++ [opC o] = (outK t (i + 1)).map opC := by rw [hsucc]; simp
        have hv : (outK t (i + 1)).length = (outK t i).length + 1 := by rw [hsucc]; simp
        have hS := SeeP (g := GL) (seenL (outK t i)) o.at_ (by rw [seenL_len]; omega)
        rw [← seenL_snoc, ← hsucc] at hS
        repeat' (first
         | ((with_reducible refine is_un ?_); refine awpL_ev2 (ev_app (es' := (outK t (i + 1)).map opC) rfl rfl rfl rfl rfl rfl rfl rfl rfl rfl rfl rfl rfl (by simp only [List.length_map, List.length_cons, List.length_nil, List.length_append, List.length_take]; omega) hj rfl) rfl ?_)
         | ((with_reducible refine isD_un ?_); refine awpD_un (as_ev (fun _ => ev_eqA (b := false) stampEq_T (by kernel_rfl) rfl rfl rfl rfl (by rw [← e1]; rfl)) rfl rfl) (by (try simp only [List.nil_append, List.cons_append]); (try rfl)) ?_)
         | ((with_reducible refine isD_gd ?_); (first | refine awpD_gd rfl rfl (by first | with_reducible rfl | with_reducible assumption) (as_ev (fun _ => ev_eqA (b := false) stampEq_T (by kernel_rfl) rfl rfl rfl rfl (by rw [← e1]; rfl)) rfl rfl) (by (try simp only [List.nil_append, List.cons_append]); (try rfl)) ?_ | refine awpD_gd rfl rfl (by first | with_reducible rfl | with_reducible assumption) (as_pure rfl (by repeat' (first | exact Msk.nil | apply Msk.base | apply Msk.vis rfl | apply Msk.hid rfl)) (ev_el_agg (f := stampC p.at_) rfl rfl rfl rfl hel rfl rfl) rfl rfl rfl) (by (try simp only [List.nil_append, List.cons_append]); (try rfl)) ?_ | refine awpD_gd rfl rfl (by first | with_reducible rfl | with_reducible assumption) (as_pure rfl (by repeat' (first | exact Msk.nil | apply Msk.base | apply Msk.vis rfl | apply Msk.hid rfl)) (ev_el_agg (f := opC p) rfl rfl rfl rfl hel rfl rfl) rfl rfl rfl) (by (try simp only [List.nil_append, List.cons_append]); (try rfl)) ?_))
         | refine st [4, 5, 6] ?_
         | fail)
        exact roundNP (okK_succ hφ ho hb) ⟨.nil, by rw [hv]; rfl, rfl, rfl⟩
  · intro hφ
    simp only [List.length_map] at hφ ⊢
    have hu := hgu.symm.trans (okK_end hφ)
    obtain ⟨hol, hom⟩ := hok t.length
    generalize outK t t.length = out at *
    have hC := Check_spec (joined r out) (by rw [joined, seenL_len]; omega) (hF.ids fun o ho => htm o (hom o ho))
    have hC' : PCalls Tryz.prog GL 66 [.agg [vi r.dev, encIs (seenL out), .fs 15 (out.map opC).length (out.map opC)]] (vi (repE (joined r out))) := by rw [List.length_map]; exact hC
    have hx : exL [.box zeroRepC, .box [vi 0], .box [vi r.dev, encIs (seenL out), .os 3 out.length], .own out.length 74 15 (out.map opC)] [.lag [vi r.dev, encIs (seenL out), .os 3 out.length]] = [.agg [vi r.dev, encIs (seenL out), .fs 15 (out.map opC).length (out.map opC)]] := by simp [exL, ex]
    by_cases he : repE (joined r out) = 0
    · have c2 : (!decide (repE (joined r out) = 0)) = false := by simp [he]
      rw [merge_ok hu he]
      repeat' (first
       | ((with_reducible refine is_un ?_); refine awpL_callS rfl hx hC' rfl rfl ?_)
       | refine stn [4, 5, 6] ?_
       | fail)
      refine retP rfl ?_
      simp [ex, exL, mergeV, joined, repC]
    · have c2 : (!decide (repE (joined r out) = 0)) = true := by simp [he]
      rw [merge_bad hu he]
      repeat' (first
       | ((with_reducible refine is_un ?_); refine awpL_callS rfl hx hC' rfl rfl ?_)
       | refine stn [4, 5, 6] ?_
       | fail)
      exact retLe rfl (le_zeroM _)
end Go.Proofs.YtnacjdaoiepbhaaGreatDoor
end
section
namespace Go.Proofs.YtnacjdaoiepbhaaGreatDoor
open Go.Ac Go.MapKept
attribute [local irreducible] awp awpL Ev Ev2 EvS thenQ blockQ retQ PCalls OCalls YieldOk IterC ICalls
def agree (a b : Replica) : Bool := decide (behind a.ops b.ops = 0) && decide (behind b.ops a.ops = 0)
end Go.Proofs.YtnacjdaoiepbhaaGreatDoor
end
section
namespace Go.Proofs.YtnacjdaoiepbhaaGreatDoor
open Go.Ac Go.MapKept
attribute [local irreducible] awp awpL Ev Ev2 EvS thenQ blockQ retQ PCalls OCalls YieldOk IterC ICalls
def tBa : ByteArray := ⟨#[98, 97]⟩
def tMi : ByteArray := ⟨#[109, 105]⟩
def tPa : ByteArray := ⟨#[112, 97]⟩
def opA : Op := addOp 1 1 tBa
def opB : Op := addOp 1 2 tMi
def opP : Op := addOp 1 3 tPa
def opD : Op := addOp 1 1 tPa
def opS : Op := ⟨⟨3, 3⟩, 1, 1, ⟨19, 0, 0, ⟨0, 0⟩, 0, .empty⟩, 0, 0, ⟨#[120]⟩, [⟨1, 3⟩]⟩
def vec (a b c : Int) : List Int := [a, b, c, 0, 0, 0, 0, 0, 0, 0, 0, 0, 0, 0, 0]
def rA : Replica := ⟨1, vec 1 0 0, [opA]⟩
def rB : Replica := ⟨2, vec 0 1 0, [opB]⟩
def rC : Replica := ⟨3, vec 0 0 3, [opP, opS]⟩
def rX : Replica := ⟨1, vec 1 1 0, [opA, opB]⟩
def rY : Replica := ⟨2, vec 1 1 0, [opA, opB]⟩
def rV : Replica := ⟨2, vec 1 1 3, [opA, opB, opP, opS]⟩
def rZ : Replica := ⟨3, vec 1 1 3, [opA, opB, opP, opS]⟩
theorem m1 : merge (start 1) [opA] = (rA, 0) := by kernel_rfl
theorem m2 : merge (start 2) [opB] = (rB, 0) := by kernel_rfl
theorem m3 : merge (start 1) [opS] = (zeroRep, 9) := by kernel_rfl
theorem m4 : merge (start 3) [opS, opP] = (rC, 0) := by kernel_rfl
theorem m5 : merge (start 1) [opA, opD] = (zeroRep, 8) := by kernel_rfl
theorem s1 : sync rA rB = (rX, rY, 0) := by kernel_rfl
theorem s2 : sync rY rC = (rV, rZ, 0) := by kernel_rfl
theorem g1 : agree rX rY = true := by kernel_rfl
theorem g2 : agree rA rB = false := by kernel_rfl
theorem g3 : behind rA.ops rB.ops = 1 := by kernel_rfl
theorem g4 : (missing rZ.ops rA.seen 2).length = 2 := by kernel_rfl
theorem g5 : (missing rZ.ops rA.seen 9).length = 3 := by kernel_rfl
def opF (o : Op) : Bool := decide (o.over.length ≤ 1000) && (decide (-9223372036854775808 ≤ o.note.id) && decide (o.note.id ≤ 9223372036854775807))
def fitB (a b : List Op) : Bool := decide (a.length + b.length ≤ 1000) && (a.all opF && b.all opF)
theorem opF_ov {o : Op} (h : opF o = true) : o.over.length ≤ 100000 ∧ I64 o.note.id := by
  simp [opF] at h
  exact ⟨by omega, h.2⟩
theorem FitM.of {a b : List Op} (h : fitB a b = true) : FitM a b := by
  simp only [fitB, Bool.and_eq_true, decide_eq_true_eq, List.all_eq_true] at h
  refine ⟨h.1, fun o ho => (opF_ov (ho.elim (h.2.1 o) (h.2.2 o))).1, fun o ho => (opF_ov (ho.elim (h.2.1 o) (h.2.2 o))).2⟩
theorem Inc.of {l : List Op} (h : (decide (l.Pairwise fun a b => less a.at_ b.at_ = true)) = true) : Inc l := (of_decide_eq_true h : l.Pairwise fun a b => less a.at_ b.at_ = true)
def fitRB (r : Replica) : Bool := decide (r.ops.length ≤ 1000) && (r.ops.all opF && decide (r.seen.length ≤ 1000))
theorem FitR.of {r : Replica} (h : fitRB r = true) : FitR r := by
  simp only [fitRB, Bool.and_eq_true, decide_eq_true_eq, List.all_eq_true] at h
  exact ⟨⟨by omega, fun o ho => (opF_ov (h.2.1 o ho)).1⟩, by omega⟩
end Go.Proofs.YtnacjdaoiepbhaaGreatDoor
end
section
namespace Go.Proofs.YtnacjdaoiepbhaaGreatDoor
open Go.Ac Go.MapKept
attribute [local irreducible] awp awpL Ev Ev2 EvS thenQ blockQ retQ PCalls OCalls YieldOk IterC ICalls
theorem light_rep {r : Replica} (h : light r = true) : repE r = 0 ∧ r.ops.length ≤ 16 ∧ r.seen.length ≤ 100 := by
  simp only [light, Bool.and_eq_true, decide_eq_true_eq] at h
  exact ⟨h.2.2, h.1, h.2.1⟩
theorem rep_op {r : Replica} (h : repE r = 0) : ∀ o ∈ r.ops, opE o = 0 := by
  intro o ho
  obtain ⟨k, hk⟩ := List.getElem?_of_mem ho
  exact oneE_opE (allE_split r.ops [] (repE_all h).1 k o hk)
theorem light_fit {r : Replica} (h : light r = true) : FitR r := by
  obtain ⟨h1, h2, h3⟩ := light_rep h
  exact ⟨⟨by omega, fun o ho => by have := opE_over (rep_op h1 o ho); omega⟩, by omega⟩
theorem light_inc {r : Replica} (h : light r = true) : Inc r.ops := repE_inc (light_rep h).1
theorem miss_mem (seen : List Int) (most : Int) : ∀ (l out : List Op) (o : Op), o ∈ l.foldl (missStep seen most) out → o ∈ out ∨ o ∈ l
  | [], out, o, h => .inl h
  | x :: r, out, o, h => by
    rw [List.foldl_cons] at h
    rcases miss_mem seen most r _ o h with h | h
    · unfold missStep at h
      split at h
      · rcases List.mem_append.1 h with h | h
        · exact .inl h
        · simp only [List.mem_singleton] at h; subst h; exact .inr (List.mem_cons_self ..)
      · exact .inl h
    · exact .inr (List.mem_cons_of_mem _ h)
theorem missing_mem {l : List Op} {seen : List Int} {most : Int} {o : Op} (h : o ∈ missing l seen most) : o ∈ l := by
  rcases miss_mem seen most l [] o h with h | h
  · cases h
  · exact h
theorem fitM_of {a b : List Op} (ha : Fit a) (hb : Fit b) (hl : a.length + b.length ≤ 1000) (ia : Ids a) (ib : Ids b) : FitM a b :=
  ⟨hl, fun o ho => ho.elim (ha.2 o) (hb.2 o), fun o ho => ho.elim (ia o) (ib o)⟩
theorem merge_fit {r : Replica} {l : List Op} (h : FitM r.ops l) : FitR (merge r l).1 := by
  cases hu : unite r.ops l with
  | none => rw [merge_none hu]; exact ⟨⟨by simp [zeroRep], fun o ho => by cases ho⟩, by simp [zeroRep]⟩
  | some m =>
    by_cases hr : repE (joined r m) = 0
    · rw [merge_ok hu hr]
      refine ⟨⟨?_, fun o ho => ?_⟩, by simp only [joined]; rw [seenL_len]; omega⟩
      · have := unite_len l r.ops m hu
        have := h.len
        simp only [joined]; omega
      · have := opE_over (rep_op hr o ho); omega
    · rw [merge_bad hu hr]; exact ⟨⟨by simp [zeroRep], fun o ho => by cases ho⟩, by simp [zeroRep]⟩
end Go.Proofs.YtnacjdaoiepbhaaGreatDoor
end
section
namespace Go.Proofs.YtnacjdaoiepbhaaGreatDoor
theorem missing_take (seen : List Int) (most : Int) (l : List Op) : missing l seen most = (l.filter fun o => !covers seen o.at_).take most.toNat := by
  have H : ∀ (l out : List Op), l.foldl (missStep seen most) out = out ++ (l.filter fun o => !covers seen o.at_).take (most - out.length).toNat := by
    intro l
    induction l with
    | nil => intro out; simp
    | cons o r ih =>
      intro out
      rw [List.foldl_cons]
      by_cases hm : (out.length : Int) < most
      · cases hc : covers seen o.at_ with
        | true =>
          have : missStep seen most out o = out := by unfold missStep; rw [if_neg (by simp [hc])]
          rw [this, ih, List.filter_cons_of_neg (by simp [hc])]
        | false =>
          have : missStep seen most out o = out ++ [o] := by unfold missStep; rw [if_pos ⟨hm, hc⟩]
          rw [this, ih, List.filter_cons_of_pos (by simp [hc])]
          have e : (most - (out.length : Int)).toNat = (most - ((out ++ [o]).length : Int)).toNat + 1 := by simp; omega
          rw [e, List.take_succ_cons]; simp
      · rw [miss_full seen most r _ (by have : missStep seen most out o = out := by unfold missStep; rw [if_neg (by omega)]
                                        rw [this]; omega)]
        have : missStep seen most out o = out := by unfold missStep; rw [if_neg (by omega)]
        rw [this, show (most - (out.length : Int)).toNat = 0 by omega]; simp
  have := H l []
  simpa [missing] using this
theorem num_see {v : List Int} (hl : v.length = 15) (hn : ∀ x ∈ v, 0 ≤ x) {s : Stamp} (hs : right s = true) (i : Nat) : num (see v s) i = if i = (s.dev - 1).toNat then max (num v i) s.count else num v i := by
  rw [see, if_pos hs, join_self hl hn]
  have hd : (s.dev - 1).toNat < 15 := by simp only [right, Bool.and_eq_true, decide_eq_true_eq] at hs; omega
  have h0 := num_nonneg v (s.dev - 1).toNat
  unfold num at *
  rw [List.getElem?_set]
  by_cases h : (s.dev - 1).toNat = i
  · subst h
    rw [if_pos rfl, if_pos (by omega), if_pos rfl]
    simp only [Option.getD_some]; omega
  · rw [if_neg h, if_neg (fun e => h e.symm)]
theorem covers_seenL {l : List Op} (hr : ∀ o ∈ l, right o.at_ = true) {s : Stamp} (hs : right s = true) : covers (seenL l) s = true ↔ ∃ o ∈ l, o.at_.dev = s.dev ∧ s.count ≤ o.at_.count := by
  have H : ∀ (n : Nat) (l : List Op), l.length = n → (∀ o ∈ l, right o.at_ = true) → (s.count ≤ num (seenL l) (s.dev - 1).toNat ↔ ∃ o ∈ l, o.at_.dev = s.dev ∧ s.count ≤ o.at_.count) := by
    intro n
    have hc : 1 ≤ s.count ∧ 1 ≤ s.dev := by simp only [right, Bool.and_eq_true, decide_eq_true_eq] at hs; omega
    induction n with
    | zero =>
      intro l hl _
      have : l = [] := List.eq_nil_of_length_eq_zero hl
      subst this
      rw [seenL_nil]
      constructor
      · intro h
        exfalso
        have : num (List.replicate 15 0) (s.dev - 1).toNat = 0 := by
          unfold num
          rw [List.getElem?_replicate]
          split <;> simp
        omega
      · rintro ⟨o, ho, _⟩; cases ho
    | succ n ih =>
      intro l hl hr
      have hne : l ≠ [] := by intro e; rw [e] at hl; cases hl
      obtain ⟨q, o, rfl⟩ : ∃ q o, l = q ++ [o] := ⟨_, _, (List.dropLast_concat_getLast hne).symm⟩
      have ho := hr o (List.mem_append_right _ (List.mem_singleton_self _))
      have hI := ih q (by simp at hl; exact hl) fun p hp => hr p (List.mem_append_left _ hp)
      rw [seenL_snoc, num_see (seenL_len q) (seenL_nonneg q) ho]
      have hod : 1 ≤ o.at_.dev := by simp only [right, Bool.and_eq_true, decide_eq_true_eq] at ho; omega
      constructor
      · intro h
        split at h
        · rename_i he
          rcases Int.le_total s.count o.at_.count with g | g
          · exact ⟨o, List.mem_append_right _ (List.mem_singleton_self _), by omega, g⟩
          · by_cases g2 : s.count ≤ o.at_.count
            · exact ⟨o, List.mem_append_right _ (List.mem_singleton_self _), by omega, g2⟩
            · obtain ⟨p, hp, h2⟩ := hI.1 (by omega)
              exact ⟨p, List.mem_append_left _ hp, h2⟩
        · obtain ⟨p, hp, h2⟩ := hI.1 h
          exact ⟨p, List.mem_append_left _ hp, h2⟩
      · rintro ⟨p, hp, h1, h2⟩
        rcases List.mem_append.1 hp with hp | hp
        · have := hI.2 ⟨p, hp, h1, h2⟩
          split <;> omega
        · simp only [List.mem_singleton] at hp; subst hp
          rw [if_pos (by omega)]; omega
  have := H _ l rfl hr
  unfold covers
  rw [hs]
  simpa using this
theorem nodup_len {l m : List Op} (hl : l.Nodup) (h : ∀ o ∈ l, o ∈ m) : l.length ≤ m.length := by
  induction l generalizing m with
  | nil => simp
  | cons o r ih =>
    obtain ⟨h1, h2⟩ := List.nodup_cons.1 hl
    have ho := h o (List.mem_cons_self ..)
    have := ih (m := m.erase o) h2 fun p hp => (List.mem_erase_of_ne (fun (e : p = o) => h1 (by rw [← e]; exact hp))).2 (h p (List.mem_cons_of_mem _ hp))
    rw [List.length_erase_of_mem ho] at this
    have : 0 < m.length := List.length_pos_of_mem ho
    simp only [List.length_cons]; omega
theorem Inc.nodup {l : List Op} (h : Inc l) : l.Nodup := h.imp fun g e => by rw [e, less_irr] at g; cases g
structure Cons (x y : Replica) : Prop where
  rx : repE x = 0
  ry : repE y = 0
  hx : ∀ o ∈ y.ops, covers x.seen o.at_ = true → o ∈ x.ops
  hy : ∀ o ∈ x.ops, covers y.seen o.at_ = true → o ∈ y.ops
theorem half_iff {a b : Replica} : half a b = true ↔ ∀ o ∈ b.ops, covers a.seen o.at_ = true → o ∈ a.ops := by
  unfold half
  rw [List.all_eq_true]
  constructor
  · intro h o ho hc
    have := h o ho
    rw [hc] at this
    exact has_iff.1 (by simpa using this)
  · intro h o ho
    cases hc : covers a.seen o.at_ with
    | false => rfl
    | true => rw [has_iff.2 (h o ho hc)]; rfl
theorem Cons.symm {x y : Replica} (h : Cons x y) : Cons y x := ⟨h.ry, h.rx, h.hy, h.hx⟩
theorem rep_right {r : Replica} (h : repE r = 0) {o : Op} (ho : o ∈ r.ops) : right o.at_ = true := opE_right (repE_ops h o ho)
theorem rep_covers {r : Replica} (h : repE r = 0) {o : Op} (ho : o ∈ r.ops) : covers r.seen o.at_ = true := by
  rw [(repE_all h).2.1]
  exact (covers_seenL (fun p hp => rep_right h hp) (rep_right h ho)).2 ⟨o, ho, rfl, Int.le_refl _⟩
theorem Cons.cov {x y : Replica} (h : Cons x y) {o : Op} (ho : o ∈ y.ops) : covers x.seen o.at_ = has x.ops o := by
  cases hc : covers x.seen o.at_ with
  | true => rw [has_iff.2 (h.hx o ho hc)]
  | false =>
    cases hh : has x.ops o with
    | false => rfl
    | true => rw [rep_covers h.rx (has_iff.1 hh)] at hc; cases hc
def news (x y : List Op) : List Op := y.filter fun o => !has x o
theorem mem_news {x y : List Op} {o : Op} : o ∈ news x y ↔ o ∈ y ∧ o ∉ x := by
  unfold news
  rw [List.mem_filter]
  simp [← has_iff]
theorem Inc.news {x y : List Op} (h : Inc y) : Inc (news x y) := h.filter _
theorem news_behind (x y : List Op) : (news x y).length = behind x y := by
  unfold news behind; rw [List.countP_eq_length_filter]
theorem Cons.missing {x y : Replica} (h : Cons x y) (n : Int) : missing y.ops x.seen n = (news x.ops y.ops).take n.toNat := by
  rw [missing_take]
  congr 1
  unfold news
  exact List.filter_congr fun o ho => by rw [h.cov ho]
theorem Inc.sub {l m : List Op} (h : Inc m) (hs : l.Sublist m) : Inc l := List.Pairwise.sublist hs h
theorem Cons.part {x y : Replica} (h : Cons x y) {n : Int} (hn : 1 ≤ n) (hlen : x.ops.length + y.ops.length ≤ 400) :
    (merge x (Go.Proofs.YtnacjdaoiepbhaaGreatDoor.missing y.ops x.seen n)).2 = 0 ∧ Cons (merge x (Go.Proofs.YtnacjdaoiepbhaaGreatDoor.missing y.ops x.seen n)).1 y ∧
    (∀ o, o ∈ (merge x (Go.Proofs.YtnacjdaoiepbhaaGreatDoor.missing y.ops x.seen n)).1.ops ↔ o ∈ x.ops ∨ o ∈ Go.Proofs.YtnacjdaoiepbhaaGreatDoor.missing y.ops x.seen n) ∧
    behind (merge x (Go.Proofs.YtnacjdaoiepbhaaGreatDoor.missing y.ops x.seen n)).1.ops y.ops ≤ behind x.ops y.ops - 1 ∧
    behind y.ops (merge x (Go.Proofs.YtnacjdaoiepbhaaGreatDoor.missing y.ops x.seen n)).1.ops = behind y.ops x.ops ∧ (merge x (Go.Proofs.YtnacjdaoiepbhaaGreatDoor.missing y.ops x.seen n)).1.dev = x.dev := by
  rw [h.missing]
  have hix := repE_inc h.rx
  have hiy := repE_inc h.ry
  have hin := hiy.news (x := x.ops)
  generalize hT : (news x.ops y.ops).take n.toNat = T
  have hTm : ∀ o ∈ T, o ∈ y.ops ∧ o ∉ x.ops := fun o ho => mem_news.1 (List.mem_of_mem_take (hT ▸ ho))
  obtain ⟨m, hu⟩ : ∃ m, unite x.ops T = some m := by
    have hU := unite_U T x.ops hix
    cases hu : unite x.ops T with
    | some m => exact ⟨m, rfl⟩
    | none =>
      rw [hu] at hU
      obtain ⟨a, b, ha, hb, e, hne⟩ := hU
      exfalso
      have key : ∀ a b : Op, a ∈ x.ops → b ∈ y.ops → a.at_ = b.at_ → a = b := by
        intro a b ha hb e
        have := rep_covers h.ry hb
        rw [← e] at this
        exact hiy.uniq (h.hy a ha this) hb e
      rcases ha with ha | ha
      · rcases hb with hb | hb
        · exact hne (hix.uniq ha hb e)
        · exact hne (key a b ha (hTm b hb).1 e)
      · rcases hb with hb | hb
        · exact hne (key b a hb (hTm a ha).1 e.symm).symm
        · exact hne (hiy.uniq (hTm a ha).1 (hTm b hb).1 e)
  have hU := unite_U T x.ops hix
  rw [hu] at hU
  obtain ⟨him, hm⟩ := hU
  have hml := unite_len T x.ops m hu
  have hTl : T.length ≤ y.ops.length := by
    rw [← hT, List.length_take]
    have : (news x.ops y.ops).length ≤ y.ops.length := List.length_filter_le ..
    omega
  obtain ⟨ax, sx, dx1, dx2, lx⟩ := repE_all h.rx
  obtain ⟨ay, sy, dy1, dy2, ly⟩ := repE_all h.ry
  have hTdown : ∀ o ∈ T, ∀ p ∈ y.ops, less p.at_ o.at_ = true → p ∈ m := by
    intro o ho p hp hlt
    by_cases hpx : p ∈ x.ops
    · exact (hm p).2 (.inl hpx)
    · refine (hm p).2 (.inr ?_)
      have hpn := mem_news.2 ⟨hp, hpx⟩
      rw [← List.take_append_drop n.toNat (news x.ops y.ops), hT] at hpn
      rcases List.mem_append.1 hpn with g | g
      · exact g
      · have hin2 := hin
        rw [← List.take_append_drop n.toNat (news x.ops y.ops), hT] at hin2
        have := (List.pairwise_append.1 hin2).2.2 o ho p g
        rw [less_asym this] at hlt; cases hlt
  have hall : allE [] m = 0 := allE_of him fun o ho => by
    rcases (hm o).1 ho with g | g
    · exact ⟨x.ops, ax, g, fun p hp _ => (hm p).2 (.inl hp)⟩
    · exact ⟨y.ops, ay, (hTm o g).1, hTdown o g⟩
  have hrep : repE (joined x m) = 0 := by
    unfold repE joined
    rw [if_neg (by simp [within]; omega), if_neg (by simp only; omega), if_neg (by simpa using hall), if_neg (by simp)]
  rw [merge_ok hu hrep]
  have hrm : ∀ o ∈ m, right o.at_ = true := fun o ho => rep_right hrep ho
  have hcons : Cons (joined x m) y := by
    refine ⟨hrep, h.ry, fun o ho hc => ?_, fun o ho hc => ?_⟩
    · have hro := rep_right h.ry ho
      obtain ⟨p, hp, hd, hle⟩ := (covers_seenL hrm hro).1 hc
      rcases (hm p).1 hp with g | g
      · refine (hm o).2 (.inl (h.hx o ho ?_))
        rw [sx]
        exact (covers_seenL (fun q hq => rep_right h.rx hq) hro).2 ⟨p, g, hd, hle⟩
      · have hpy := (hTm p g).1
        rcases less_tri o.at_ p.at_ with q | q | q
        · exact hTdown p g o ho q
        · rw [hiy.uniq ho hpy q]; exact hp
        · simp [less] at q; omega
    · rcases (hm o).1 ho with g | g
      · exact h.hy o g hc
      · exact (hTm o g).1
  refine ⟨rfl, hcons, hm, ?_, ?_, rfl⟩
  · rw [← news_behind, ← news_behind]
    have e : news (joined x m).ops y.ops = (news x.ops y.ops).drop n.toNat := by
      refine Inc.ext hiy.news (hin.sub (List.drop_sublist ..)) fun o => ?_
      rw [mem_news]
      constructor
      · rintro ⟨h1, h2⟩
        have hx : o ∉ x.ops := fun g => h2 ((hm o).2 (.inl g))
        have hpn := mem_news.2 ⟨h1, hx⟩
        rw [← List.take_append_drop n.toNat (news x.ops y.ops), hT] at hpn
        rcases List.mem_append.1 hpn with g | g
        · exact absurd ((hm o).2 (.inr g)) h2
        · exact g
      · intro g
        obtain ⟨h1, h2⟩ := mem_news.1 (List.mem_of_mem_drop g)
        refine ⟨h1, fun h3 => ?_⟩
        rcases (hm o).1 h3 with g2 | g2
        · exact h2 g2
        · have hin2 := hin
          rw [← List.take_append_drop n.toNat (news x.ops y.ops), hT] at hin2
          exact less_ne ((List.pairwise_append.1 hin2).2.2 o g2 o g) rfl
    rw [e, List.length_drop]; omega
  · rw [← news_behind, ← news_behind]
    have e : news y.ops (joined x m).ops = news y.ops x.ops := by
      refine Inc.ext (Inc.news him) (Inc.news hix) fun o => ?_
      rw [mem_news, mem_news]
      constructor
      · rintro ⟨h1, h2⟩
        rcases (hm o).1 h1 with g | g
        · exact ⟨g, h2⟩
        · exact absurd (hTm o g).1 h2
      · rintro ⟨h1, h2⟩
        exact ⟨(hm o).2 (.inl h1), h2⟩
    rw [e]
theorem behind_le (a b : List Op) : behind a b ≤ b.length := List.countP_le_length
structure Rounds (a b x y : Replica) (i : Nat) : Prop where
  c : Cons x y
  ax : ∀ o ∈ a.ops, o ∈ x.ops
  xab : ∀ o ∈ x.ops, o ∈ a.ops ∨ o ∈ b.ops
  bY : ∀ o ∈ b.ops, o ∈ y.ops
  yab : ∀ o ∈ y.ops, o ∈ a.ops ∨ o ∈ b.ops
  bx : behind x.ops y.ops ≤ 16 - i
  bY2 : behind y.ops x.ops ≤ 16 - i
theorem Rounds.len {a b x y : Replica} {i : Nat} (h : Rounds a b x y i) : x.ops.length ≤ a.ops.length + b.ops.length ∧ y.ops.length ≤ a.ops.length + b.ops.length := by
  have h1 := nodup_len (m := a.ops ++ b.ops) (repE_inc h.c.rx).nodup fun o ho => List.mem_append.2 (h.xab o ho)
  have h2 := nodup_len (m := a.ops ++ b.ops) (repE_inc h.c.ry).nodup fun o ho => List.mem_append.2 (h.yab o ho)
  rw [List.length_append] at h1 h2
  exact ⟨h1, h2⟩
theorem Rounds.zero {a b : Replica} (ha : light a = true) (hb : light b = true) (h1 : half a b = true) (h2 : half b a = true) : Rounds a b a b 0 := by
  obtain ⟨a1, a2, _⟩ := light_rep ha
  obtain ⟨b1, b2, _⟩ := light_rep hb
  refine ⟨⟨a1, b1, half_iff.1 h1, half_iff.1 h2⟩, fun _ h => h, fun _ h => .inl h, fun _ h => h, fun _ h => .inr h, ?_, ?_⟩
  · have := behind_le a.ops b.ops; omega
  · have := behind_le b.ops a.ops; omega
theorem Rounds.left {a b x y : Replica} {i : Nat} (h : Rounds a b x y i) (hl : a.ops.length + b.ops.length ≤ 32) {n : Int} (hn : 1 ≤ n) :
    (merge x (missing y.ops x.seen n)).2 = 0 ∧ Rounds a b (merge x (missing y.ops x.seen n)).1 y i ∧ behind (merge x (missing y.ops x.seen n)).1.ops y.ops ≤ 16 - (i + 1) := by
  have hlen := h.len
  obtain ⟨p1, p2, p3, p4, p5, _⟩ := h.c.part hn (by omega)
  have h1 := h.bx
  have h2 := h.bY2
  refine ⟨p1, ⟨p2, fun o ho => (p3 o).2 (.inl (h.ax o ho)), fun o ho => ?_, h.bY, h.yab, by omega, by omega⟩, by omega⟩
  rcases (p3 o).1 ho with g | g
  · exact h.xab o g
  · exact h.yab o (missing_mem g)
theorem Rounds.right {a b x y : Replica} {i : Nat} (h : Rounds a b x y i) (hb : behind x.ops y.ops ≤ 16 - (i + 1)) (hl : a.ops.length + b.ops.length ≤ 32) {n : Int} (hn : 1 ≤ n) :
    (merge y (missing x.ops y.seen n)).2 = 0 ∧ Rounds a b x (merge y (missing x.ops y.seen n)).1 (i + 1) := by
  have hlen := h.len
  obtain ⟨p1, p2, p3, p4, p5, _⟩ := h.c.symm.part hn (by omega)
  have h1 := h.bY2
  refine ⟨p1, ⟨p2.symm, h.ax, h.xab, fun o ho => (p3 o).2 (.inl (h.bY o ho)), fun o ho => ?_, by omega, by omega⟩⟩
  rcases (p3 o).1 ho with g | g
  · exact h.yab o g
  · exact h.xab o (missing_mem g)
end Go.Proofs.YtnacjdaoiepbhaaGreatDoor
end
section
namespace Go.Proofs.YtnacjdaoiepbhaaGreatDoor
open Go.Ac
theorem good_of {r : Replica} (h : repE r = 0) : Good r.ops := ⟨repE_inc h, repE_ops h⟩
theorem overd_snoc (l : List Op) (o : Op) (s : Stamp) (k note f : Int) : overd (l ++ [o]) s k note f = (overd l s k note f || overO k note f s o) := by simp [overd]
theorem overO_mem {k note f : Int} {s : Stamp} {o : Op} (h : overO k note f s o = true) : o.kind = k ∧ o.note.id = note ∧ s ∈ o.over := by
  unfold overO at h
  simp only [Bool.and_eq_true, decide_eq_true_eq, List.any_eq_true] at h
  obtain ⟨h1, h2, _, q, h3, h4⟩ := h
  exact ⟨h1, h2, h4 ▸ h3⟩
theorem overd_mem {l : List Op} {k note f : Int} {s : Stamp} (h : overd l s k note f = true) : ∃ o ∈ l, o.kind = k ∧ o.note.id = note ∧ s ∈ o.over := by
  unfold overd at h
  rw [List.any_eq_true] at h
  obtain ⟨o, ho, h⟩ := h
  exact ⟨o, ho, overO_mem h⟩
theorem overd_new {l : List Op} (hg : ∀ o ∈ l, opE o = 0) {s : Stamp} (h : ∀ o ∈ l, less o.at_ s = true) (k note f : Int) : overd l s k note f = false := by
  cases hc : overd l s k note f with
  | false => rfl
  | true =>
    obtain ⟨o, ho, _, _, hs⟩ := overd_mem hc
    have h1 := over_less (hg o ho) _ hs
    have h2 := less_asym (h o ho)
    rw [h1] at h2; cases h2
theorem mem_values {l : List Op} {note f : Int} {v : Val} (h : v ∈ valuesL l note f) : ∃ o ∈ l, writes o note f = true ∧ overd l o.at_ 1 note f = false ∧ v = valueOf o f ∧ v.at_ = o.at_ := by
  obtain ⟨o, ho, rfl⟩ := List.mem_map.1 h
  obtain ⟨h1, h2⟩ := List.mem_filter.1 ho
  simp only [keepV, Bool.and_eq_true, Bool.not_eq_true'] at h2
  exact ⟨o, h1, h2.1, h2.2, rfl, valueOf_at (writes_wrt h2.1)⟩
theorem added_snoc {l : List Op} {o a : Op} {note : Int} (h : addedO l note = some a) : addedO (l ++ [o]) note = some a := by
  unfold addedO at *
  rw [find_snoc, h]; rfl
theorem saved_iff {l : List Op} {note f : Int} : saved l note f = true ↔ ∃ v ∈ valuesL l note f, overd l v.at_ 2 note f = false := by
  unfold saved
  rw [List.any_eq_true]
  constructor
  · rintro ⟨v, h1, h2⟩; exact ⟨v, h1, by simpa using h2⟩
  · rintro ⟨v, h1, h2⟩; exact ⟨v, h1, by rw [h2]; rfl⟩
theorem lives_of {l : List Op} {note f : Int} {a : Op} (ha : addedO l note = some a) (hf : within f 0 2 = true) (h : saved l note f = true) : cell l note = some (cellOf l note a) := by
  unfold cell
  rw [ha]
  simp only
  rw [if_pos]
  simp only [within, Bool.and_eq_true, decide_eq_true_eq] at hf
  rcases (show f = 0 ∨ f = 1 ∨ f = 2 by omega) with rfl | rfl | rfl <;> simp [h]
theorem cell_lives {l : List Op} {note : Int} : (cell l note).isSome = lives l note := by
  unfold cell lives
  cases addedO l note with
  | none => rfl
  | some a => simp only [Option.isSome_some, Bool.true_and]; split <;> simp_all
theorem setE_zero {o : Op} (h : opE o = 0) (hk : o.kind = 1) : within o.set 0 2 = true ∧ (o.set = 0 → o.n = 0) ∧ (o.set ≠ 0 → o.text = .empty) := by
  unfold opE at h
  rw [if_neg (by simp [opE_right h]), if_neg (by omega), if_pos hk] at h
  split at h
  · omega
  · obtain ⟨_, h2, _⟩ := firstE3' _ _ _ h
    unfold setE at h2
    split at h2
    · rename_i h0
      split at h2
      · omega
      · rename_i hn
        exact ⟨by simp [within, h0], fun _ => by omega, fun h => absurd h0 h⟩
    · rename_i h0
      split at h2
      · rename_i h1
        split at h2
        · omega
        · split at h2
          · omega
          · rename_i ht
            refine ⟨?_, fun h => absurd h h0, fun _ => Decidable.of_not_not ht⟩
            simp only [within, Bool.and_eq_true, decide_eq_true_eq]
            omega
      · omega
theorem set_values {l : List Op} {o : Op} (hg : Good (l ++ [o])) (hk : o.kind = 1) {note : Int} (hn : o.note.id = note) (hov : o.over = atsV (valuesL l note o.set)) : valuesL (l ++ [o]) note o.set = [⟨o.at_, o.n, o.text⟩] := by
  obtain ⟨hi, ha⟩ := hg
  obtain ⟨i1, _, i3⟩ := List.pairwise_append.1 hi
  have hlt : ∀ p ∈ l, less p.at_ o.at_ = true := fun p hp => i3 p hp o (List.mem_singleton_self _)
  have hal : ∀ p ∈ l, opE p = 0 := fun p hp => ha p (List.mem_append_left _ hp)
  have ho := ha o (List.mem_append_right _ (List.mem_singleton_self _))
  obtain ⟨hf, h0, h1⟩ := setE_zero ho hk
  have hw : writes o note o.set = true := by simp [writes, wrt, hf, hk, hn]
  have hq : l.filter (keepV (l ++ [o]) note o.set) = [] := by
    rw [List.filter_eq_nil_iff]
    intro p hp hc
    simp only [keepV, Bool.and_eq_true, Bool.not_eq_true', overd_snoc, Bool.or_eq_false_iff] at hc
    obtain ⟨hwp, hc1, hc2⟩ := hc
    have hkp : p ∈ l.filter (keepV l note o.set) := List.mem_filter.2 ⟨hp, by simp [keepV, hwp, hc1]⟩
    have hm : p.at_ ∈ o.over := by
      rw [hov]
      refine List.mem_map.2 ⟨valueOf p o.set, List.mem_map.2 ⟨p, hkp, rfl⟩, valueOf_at (writes_wrt hwp)⟩
    have : overO 1 note o.set p.at_ o = true := by
      unfold overO
      simp only [hk, hn, decide_true, Bool.true_and, Bool.or_true, List.any_eq_true, decide_eq_true_eq]
      exact ⟨p.at_, hm, rfl⟩
    rw [this] at hc2; cases hc2
  have hk2 : keepV (l ++ [o]) note o.set o = true := by
    unfold keepV
    rw [hw, overd_snoc, overd_new hal hlt]
    have : overO 1 note o.set o.at_ o = false := by
      cases hc : overO 1 note o.set o.at_ o with
      | false => rfl
      | true =>
        have := over_less ho _ (overO_mem hc).2.2
        rw [less_irr] at this; cases this
    rw [this]; rfl
  unfold valuesL
  rw [List.filter_append, hq, List.nil_append, List.filter_cons_of_pos hk2, List.filter_nil, List.map_singleton]
  congr 1
  unfold valueOf
  rw [if_neg (by simp [writes_wrt hw])]
  have hk0 : ¬ o.kind = 0 := by omega
  by_cases hs : o.set = 0
  · simp only [if_pos hs, if_neg hk0, h0 hs]
  · simp only [if_neg hs, if_neg hk0, h1 hs]
theorem set_lives {l : List Op} {o a : Op} (hg : Good (l ++ [o])) (hk : o.kind = 1) {note : Int} (hn : o.note.id = note) (hov : o.over = atsV (valuesL l note o.set)) (hadd : addedO l note = some a) : cell (l ++ [o]) note = some (cellOf (l ++ [o]) note a) := by
  have hv := set_values hg hk hn hov
  obtain ⟨hi, ha⟩ := hg
  obtain ⟨_, _, i3⟩ := List.pairwise_append.1 hi
  have hlt : ∀ p ∈ l, less p.at_ o.at_ = true := fun p hp => i3 p hp o (List.mem_singleton_self _)
  have hal : ∀ p ∈ l, opE p = 0 := fun p hp => ha p (List.mem_append_left _ hp)
  have ho := ha o (List.mem_append_right _ (List.mem_singleton_self _))
  refine lives_of (added_snoc hadd) (setE_zero ho hk).1 (saved_iff.2 ⟨⟨o.at_, o.n, o.text⟩, by rw [hv]; exact List.mem_singleton_self _, ?_⟩)
  rw [overd_snoc, overd_new hal hlt]
  cases hc : overO 2 note o.set o.at_ o with
  | false => rfl
  | true =>
    have := (overO_mem hc).1
    omega
def cellsF (l : List Op) (rc : Int) (o : Op) : Option Cell := if o.kind = 0 ∧ o.rec_ = rc then cell l o.note.id else none
theorem cell_inv {l : List Op} {note : Int} {c : Cell} (h : cell l note = some c) : ∃ a, addedO l note = some a ∧ c = cellOf l note a ∧ c.note.id = note ∧ c.rec_ = a.rec_ := by
  unfold cell at h
  cases ha : addedO l note with
  | none => rw [ha] at h; cases h
  | some a =>
    rw [ha] at h
    simp only at h
    split at h
    · cases h
      have := List.find?_some ha
      simp only [Bool.and_eq_true, decide_eq_true_eq] at this
      exact ⟨a, rfl, rfl, this.2, rfl⟩
    · cases h
end Go.Proofs.YtnacjdaoiepbhaaGreatDoor
end
section
namespace Go.Proofs.YtnacjdaoiepbhaaGreatDoor
open Go.Ac
def current (c : Cell) : Note :=
  { c.note with
    text := match c.text.getLast? with | some v => v.text | none => c.note.text
    span := ⟨match c.fro.getLast? with | some v => v.n | none => c.note.span.fro, match c.til.getLast? with | some v => v.n | none => c.note.span.til⟩ }
def two (a b : Op) : List Op := if less b.at_ a.at_ then [b, a] else [a, b]
def bothR (r : Replica) (a b : Op) : Replica := ⟨r.dev, join (see r.seen a.at_) (see r.seen b.at_), r.ops ++ two a b⟩
end Go.Proofs.YtnacjdaoiepbhaaGreatDoor
end
section
namespace Go.Proofs.YtnacjdaoiepbhaaGreatDoor
open Go.Ac
def IncS (l : List Stamp) : Prop := l.Pairwise fun a b => less a b = true
theorem IncS.ext : ∀ {l m : List Stamp}, IncS l → IncS m → (∀ o, o ∈ l ↔ o ∈ m) → l = m
  | [], [], _, _, _ => rfl
  | [], y :: s, _, _, h => by have := (h y).2 (List.mem_cons_self ..); cases this
  | x :: r, [], _, _, h => by have := (h x).1 (List.mem_cons_self ..); cases this
  | x :: r, y :: s, hl, hm, h => by
    obtain ⟨l1, l2⟩ := List.pairwise_cons.1 hl
    obtain ⟨m1, m2⟩ := List.pairwise_cons.1 hm
    have hxy : x = y := by
      rcases List.mem_cons.1 ((h x).1 (List.mem_cons_self ..)) with e | hx
      · exact e
      · rcases List.mem_cons.1 ((h y).2 (List.mem_cons_self ..)) with e | hy
        · exact e.symm
        · have := less_asym (l1 _ hy); rw [m1 _ hx] at this; cases this
    subst hxy
    have : r = s := by
      refine IncS.ext l2 m2 fun o => ⟨fun ho => ?_, fun ho => ?_⟩
      · rcases List.mem_cons.1 ((h o).1 (List.mem_cons_of_mem _ ho)) with e | g
        · subst e; exact absurd rfl (less_ne (l1 _ ho))
        · exact g
      · rcases List.mem_cons.1 ((h o).2 (List.mem_cons_of_mem _ ho)) with e | g
        · subst e; exact absurd rfl (less_ne (m1 _ ho))
        · exact g
    rw [this]
def addS (out : List Stamp) (s : Stamp) : List Stamp := if s ∈ out then out else out ++ [s]
def uniqS (l : List Stamp) : List Stamp := l.foldl addS []
theorem uniqS_snoc (l : List Stamp) (s : Stamp) : uniqS (l ++ [s]) = addS (uniqS l) s := by simp [uniqS]
theorem addS_in {out : List Stamp} {s : Stamp} (h : s ∈ out) : addS out s = out := if_pos h
theorem addS_new {out : List Stamp} {s : Stamp} (h : s ∉ out) : addS out s = out ++ [s] := if_neg h
theorem mem_addS {out : List Stamp} {s q : Stamp} : q ∈ addS out s ↔ q ∈ out ∨ q = s := by
  unfold addS
  split
  · rename_i h
    constructor
    · exact .inl
    · rintro (g | rfl)
      · exact g
      · exact h
  · simp
theorem uniq_all (l : List Stamp) : ∀ out : List Stamp, out.Nodup → (l.foldl addS out).Nodup ∧ (l.foldl addS out).length ≤ out.length + l.length ∧ ∀ q, q ∈ l.foldl addS out ↔ q ∈ out ∨ q ∈ l := by
  induction l with
  | nil => intro out h; exact ⟨h, by simp, fun q => by simp⟩
  | cons s r ih =>
    intro out h
    have hn : (addS out s).Nodup := by
      unfold addS
      split
      · exact h
      · rename_i hs
        rw [List.nodup_append]
        exact ⟨h, by simp, fun a ha b hb => by simp only [List.mem_singleton] at hb; subst hb; intro e; exact hs (e ▸ ha)⟩
    have hl : (addS out s).length ≤ out.length + 1 := by unfold addS; split <;> simp
    obtain ⟨h1, h2, h3⟩ := ih (addS out s) hn
    refine ⟨h1, by simp only [List.foldl_cons, List.length_cons]; omega, fun q => ?_⟩
    rw [List.foldl_cons, h3, mem_addS, List.mem_cons, or_assoc]
theorem uniqS_nd (l : List Stamp) : (uniqS l).Nodup := (uniq_all l [] List.nodup_nil).1
theorem uniqS_len (l : List Stamp) : (uniqS l).length ≤ l.length := by simpa [uniqS] using (uniq_all l [] List.nodup_nil).2.1
theorem mem_uniqS {l : List Stamp} {s : Stamp} : s ∈ uniqS l ↔ s ∈ l := by simpa [uniqS] using (uniq_all l [] List.nodup_nil).2.2 s
theorem stamps_sorted {l m d : List Stamp} (hp : d.Perm (uniqS l)) (hs : d.Pairwise fun a b => less b a = false) (hm : IncS m) (he : ∀ s, s ∈ m ↔ s ∈ l) : d = m := by
  refine IncS.ext ?_ hm fun s => by rw [hp.mem_iff, mem_uniqS, he]
  have hnd : d.Nodup := hp.nodup_iff.2 (uniqS_nd l)
  exact (List.Pairwise.and hs hnd).imp fun {a b} h => by
    rcases nless_iff.1 h.1 with g | g
    · exact g
    · exact absurd g h.2
theorem ats_eq {l : List Op} {note f : Int} : atsV (valuesL l note f) = (l.filter (keepV l note f)).map (·.at_) := by
  unfold atsV valuesL
  rw [List.map_map]
  refine List.map_congr_left fun o ho => ?_
  have h2 := (List.mem_filter.1 ho).2
  simp only [keepV, Bool.and_eq_true] at h2
  exact valueOf_at (writes_wrt h2.1)
theorem Inc.ats {l : List Op} (h : Inc l) : IncS (l.map (·.at_)) := List.pairwise_map.2 h
theorem ats_inc {l : List Op} (hg : Good l) (note f : Int) : IncS (atsV (valuesL l note f)) := by
  rw [ats_eq]
  exact Inc.ats (hg.1.sublist List.filter_sublist)
end Go.Proofs.YtnacjdaoiepbhaaGreatDoor
end
section
namespace Go.Proofs.YtnacjdaoiepbhaaGreatDoor
open Go.Ac
def topK (v : List Int) (k : Nat) : Int := (List.range k).foldl (fun m i => max m (num v i)) 0
theorem topK_succ (v : List Int) (k : Nat) : topK v (k + 1) = max (topK v k) (num v k) := by
  unfold topK
  rw [List.range_succ, List.foldl_append]; rfl
theorem topK_all (v : List Int) : topK v 15 = topV v := rfl
theorem next_right (v : List Int) (d : Int) : right ⟨min (topV v) 1048576 + 1, d⟩ = (nextS v d).isSome := by
  have h0 := (topV_le v).1
  unfold nextS
  split
  · rename_i h
    simp only [right, Option.isSome_some, Bool.and_eq_true, decide_eq_true_eq]
    omega
  · rename_i h
    cases hr : right ⟨min (topV v) 1048576 + 1, d⟩ with
    | false => rfl
    | true =>
      simp only [right, Bool.and_eq_true, decide_eq_true_eq] at hr
      exact absurd ⟨by omega, by omega, by omega⟩ h
theorem next_get {v : List Int} {d : Int} (h : (nextS v d).isSome = true) : nextS v d = some ⟨min (topV v) 1048576 + 1, d⟩ := by
  unfold nextS at h ⊢
  split at h
  · rename_i hc
    rw [if_pos hc, show min (topV v) 1048576 = topV v by omega]
  · cases h
end Go.Proofs.YtnacjdaoiepbhaaGreatDoor
end
section
namespace Go.Proofs.YtnacjdaoiepbhaaGreatDoor
open Go.Ac
abbrev valsK (l : List Op) (note f : Int) (k : Nat) : List Val := ((l.take k).filter (keepV l note f)).map (valueOf · f)
theorem valuesL_len (l : List Op) (note f : Int) : (valuesL l note f).length ≤ l.length := by
  unfold valuesL
  rw [List.length_map]
  exact List.length_filter_le ..
def inAll (l : List Op) (note : Int) (o : Op) : Bool := ([0, 1, 2] : List Int).any fun f => (atsV (valuesL l note f)).contains o.at_
abbrev ovK (l : List Op) (note : Int) (k : Nat) : List Stamp := ((l.take k).filter (inAll l note)).map (·.at_)
theorem atsV_len (l : List Val) : (atsV l).length = l.length := List.length_map ..
def sizeF (n : Int) (o : Op) : Int := n + 20 + (o.text.size : Int) + (o.note.text.size : Int) + (o.over.length : Int)
def sizeL (l : List Op) : Int := l.foldl sizeF 0
def fewR (r : Replica) : Bool := decide (r.seen.length ≤ 100) && (decide (r.ops.length ≤ 420) && decide (sizeL r.ops ≤ 30000))
end Go.Proofs.YtnacjdaoiepbhaaGreatDoor
end
section
namespace Go.Ac
section
variable {P : Program} {td : TDs} [T : TOK P td] {G : Glo} {N : Nat} {Q : AQ} {S Sb D : SL} {L : List LB} {ops : Array Oper} {rest : List Oper}
  {op : Op} {ty : TypeId} {pos : String} {af : Array Edge} {d i : Nat} {x : AV} {nb : Nat} {W : DW}
end
end Go.Ac
end
section
namespace Go.Ac
section
variable {P : Program} {td : TDs} [T : TOK P td] {G : Glo} {N : Nat} {Q : AQ} {S : SL} {L : List LB} {ops : Array Oper} {rest : List Oper}
  {ty : TypeId} {pos : String} {af : Array Edge} {d : Nat}
theorem awpL_eqnil {t t' e sz n : Nat} {dd : TD} {u : Operand} {es : List (List AV)} (hu : val G S u = some (.fs sz n es)) (ht : lk td t = some dd) (hs : dd.k = .slice e) (hd : Nat.blt d N = true)
    (k0 : n = 0 → awpL P G N ops rest Q ((d, .v (.bool true)) :: S) L) (k1 : awpL P G N ops rest Q ((d, .v (.bool false)) :: S) L) :
    awpL P G N ops (⟨some d, .binOp .eql t u (.const (.slice none 0 0)) t', ty, pos, af, none⟩ :: rest) Q S L := by
  intro cx a hc
  have e1 := val_R hc hu
  simp only [R, RF] at e1
  obtain ⟨hlen, ad, cap, e1, hcap, hmem⟩ := e1
  have hsd := slice_desc (P := P) ht hs
  have hrun : (execOp a.eval ⟨some d, .binOp .eql t u (.const (.slice none 0 0)) t', ty, pos, af, none⟩).run P cx.w = .ok (.value (.bool ad.isNone)) cx.w := by
    have c0 : a.eval (.const (.slice none 0 0)) = .slice none 0 0 := rfl
    have := Go.Lib.run_eql_slice_nil (P := P) cx.w t e ad n cap 0 0 hsd
    simp only [execOp, e1, c0, Sem.run_bind]
    simp [eqGuard, Result.andThen_ok, Sem.run_pure, this]
  refine wpListIn_plain rfl fun K hK => wpIn_of_run rfl ?_
  rw [hrun, Oper.uponIn_value]
  cases had : ad with
  | none =>
    have hn : n = 0 := Decidable.byContradiction fun h => by
      obtain ⟨b, off, h1, _⟩ := hmem h
      rw [had] at h1; cases h1
    exact hK _ _ (k0 hn cx _ (hc.put hd (by simp only [R]; rfl)))
  | some x => exact hK _ _ (k1 cx _ (hc.put hd (by simp only [R]; rfl)))
end
end Go.Ac
namespace Go.Ac
section
variable {P : Program} {td : TDs} [T : TOK P td] {G : Glo} {N : Nat} {Q : AQ} {S Sb D D' : SL} {L : List LB} {rest : List Oper} {C : SL → List LB → Prop}
  {ty : TypeId} {pos : String} {af : Array Edge} {d nb : Nat} {W : DW}
theorem awp_retA {t E sz : Nat} (hg : get S t = some (.v (.slice none 0 0))) (h : Q .ret ((t, .os L.length 0) :: S) (L ++ [.own 0 E sz []])) : awp P G N .ret Q S L :=
  awp_adopt (E := E) (sz := sz) hg rfl rfl (awp_ret h)
theorem pev_ocall {f : FuncId} {us : Array Operand} {ats : Array TypeId} {args : List AV} {E sz k : Nat} {es : List (List AV)} {L' : List LB} (hargs : vals G S us.toList = some args) (hF : args.all isF = true) (h : OCalls P G.g f args E sz es) (hk : L.length = k) (hL : L ++ [.own 0 E sz es] = L') :
    PEv P G N (.call { callee := .value (.func f), args := us, argTypes := ats }) ty S L (.os k 0) L' := by
  subst hk hL
  intro o ho ht cx a hc K Q hK
  have ha := TF_of_TR hF (vals_R hc hargs)
  refine wpIn_of_run (by rw [ho]; rfl) ?_
  rw [run_call h.1 (o := o) ho a cx.w, Oper.uponIn_enter]
  refine ⟨fun h => by simp at h, CallsIn.mono (h.2 cx.F cx.w (us.map a.eval) hc.st.bare (by simpa using ha)) ?_⟩
  rintro e w' ⟨y, c', rfl, hr, st', ex, rfl, hφ⟩
  obtain ⟨c2, hst, hR, hw⟩ := hc.st.afterO hr st' ex hφ
  rw [← hw]
  exact hK y c2 hR hst
theorem awpD_oc {M : List LB} {f : FuncId} {us : Array Operand} {ats : Array TypeId} {args : List AV} {E sz k : Nat} {es : List (List AV)} {L' : List LB} {T' : TL} (hq : W.sq = false) (hM : Msk af.toList nb W.L W.T M) (hargs : vals G (pvS af D Sb) us.toList = some args) (hF : args.all isF = true) (h : OCalls P G.g f args E sz es)
    (hk : M.length = k) (hx : noid (okid (M ++ [.own 0 E sz es]) nb) (.os k 0) = true) (hT : addT af.toList D.length W.T ++ [(D.length, [D.length])] = T') (hL : W.L ++ [.own 0 E sz es] = L') (hD : D ++ [(d, .os k 0)] = D')
    (kk : awpD P G N C Sb nb rest D' ⟨L', T', D.length :: W.Z, false⟩) :
    awpD P G N C Sb nb (⟨some d, .call { callee := .value (.func f), args := us, argTypes := ats }, ty, pos, af, none⟩ :: rest) D W := by
  subst hD hk hL hT
  exact .step (r := (d, .os M.length 0, .op (some (W.L.length, .own 0 E sz es)))) (.new rfl rfl hq hM.eq (pev_ocall hargs hF h rfl rfl) hx rfl) kk
end
end Go.Ac
end
section
namespace Go.Proofs.YtnacjdaoiepbhaaGreatDoor
open Go.Ac Go.MapKept
attribute [local irreducible] awp awpL Ev Ev2 EvS thenQ blockQ retQ PCalls OCalls YieldOk IterC ICalls
set_option maxHeartbeats 1000000 in
theorem Clone_spec {g : List (Nat × List AV)} (l : List Op) (hl : l.length ≤ 100000) : OCalls Tryz.prog g 99 [encOps l] 74 15 (l.map opC) := by
  have hj : ([] : List (List AV)) ++ l.map opC = l.map opC := rfl
  refine ocalls' Tryz.func99 Tryz.ntmps99 rfl rfl rfl ?_
  repeat' (first
   | refine awp_retA (t := 2) (E := 74) (sz := 15) rfl ?_
   | ((with_reducible refine is_un ?_); (first | refine awpL_eqnil rfl rfl rfl rfl (fun h0 => ?_) ?_ | refine awpL_ev2 (ev_bslice_o (t := 35) (n := 0) (es := []) rfl rfl rfl rfl rfl rfl rfl rfl rfl rfl rfl (by (try simp only [List.length_nil, List.length_cons, Nat.reduceAdd]); (try rfl)) (by (try simp only [List.set_cons_zero, List.set_cons_succ, List.nil_append, List.cons_append, List.append_nil, cellsOf, List.take_zero, List.drop_zero, List.take_succ_cons, List.drop_succ_cons, Nat.zero_add, Nat.reduceAdd, List.drop_nil, List.map_cons, List.map_nil]); (try rfl))) rfl ?_ | refine awpL_ev2 (ev_app (es' := l.map opC) rfl rfl rfl rfl rfl rfl rfl rfl rfl rfl rfl rfl rfl (by simp only [List.length_map, List.length_cons, List.length_nil, List.length_append, List.length_take]; omega) hj rfl) rfl ?_))
   | refine stn [4] ?_
   | ((with_reducible refine is_gd ?_); refine awpL_split rfl rfl (fun h => ?_) (fun h => ?_))
   | ((with_reducible refine is_awp ?_); refine awp_cond rfl (fun h => ?_) (fun h => ?_))
   | fail)
  · have hl0 : l = [] := List.eq_nil_of_length_eq_zero h0
    subst hl0
    exact retO rfl rfl
  · exact retO rfl rfl
theorem ids_snoc {l : List Op} {o : Op} (h : Ids l) (ho : I64 o.note.id) : Ids (l ++ [o]) := fun p hp => by
  rcases List.mem_append.1 hp with g | g
  · exact h p g
  · simp only [List.mem_singleton] at g; subst g; exact ho
theorem withR_good {r : Replica} {o : Op} (h : repE (longerR r o) = 0) : withR r o = (longerR r o, 0) := if_pos h
theorem withR_err {r : Replica} {o : Op} (h : repE (longerR r o) ≠ 0) : withR r o = (zeroRep, repE (longerR r o)) := if_neg h
set_option maxRecDepth 8000 in
set_option maxHeartbeats 4000000 in
theorem with_spec (r : Replica) (o : Op) (hs : r.seen.length ≤ 1000000) (hl : r.ops.length ≤ 10000) (hid : Ids r.ops) (ho : I64 o.note.id) : PCalls Tryz.prog GL 68 [.agg (repC r), .agg (opC o)] (mergeV (withR r o)) := by
  have hS := SeeP (g := GL) r.seen o.at_ hs
  have hC := Clone_spec (g := GL) r.ops (by omega)
  have hK := Check_spec (longerR r o) (by rw [longerR, see_len]; omega) (ids_snoc hid ho)
  have hK' : PCalls Tryz.prog GL 66 [.agg [vi r.dev, encIs (see r.seen o.at_), .fs 15 ((r.ops ++ [o]).map opC).length ((r.ops ++ [o]).map opC)]] (vi (repE (longerR r o))) := by rw [List.length_map]; exact hK
  have hj : r.ops.map opC ++ [opC o] = (r.ops ++ [o]).map opC := by simp
  have hx : exL [.box zeroRepC, .own 1 74 15 ((r.ops ++ [o]).map opC), .box [vi r.dev, encIs (see r.seen o.at_), .os 1 1]] [.lag [vi r.dev, encIs (see r.seen o.at_), .os 1 1]] = [.agg [vi r.dev, encIs (see r.seen o.at_), .fs 15 ((r.ops ++ [o]).map opC).length ((r.ops ++ [o]).map opC)]] := by simp [exL, ex]
  refine pcalls' Tryz.func68 Tryz.ntmps68 rfl rfl rfl ?_
  by_cases he : repE (longerR r o) = 0
  · have c2 : (!decide (repE (longerR r o) = 0)) = false := by simp [he]
    rw [withR_good he]
    repeat' (first
     | refine awpD_oc rfl (by repeat' (first | exact Msk.nil | apply Msk.base | apply Msk.vis rfl | apply Msk.hid rfl)) rfl rfl hC rfl rfl rfl (by (try simp only [List.set_cons_zero, List.set_cons_succ, List.nil_append, List.cons_append, List.append_nil, cellsOf, List.take_zero, List.drop_zero, List.take_succ_cons, List.drop_succ_cons, Nat.zero_add, Nat.reduceAdd, List.drop_nil, List.map_cons, List.map_nil]); (try rfl)) (by (try simp only [List.nil_append, List.cons_append]); (try rfl)) ?_
     | refine awpD_up (kk := 1) rfl (by repeat' (first | exact Msk.nil | apply Msk.base | apply Msk.vis rfl | apply Msk.hid rfl)) rfl rfl rfl rfl (ev_app (es' := (r.ops ++ [o]).map opC) rfl rfl rfl rfl rfl rfl rfl rfl rfl rfl rfl rfl rfl (by simp only [List.length_map, List.length_cons, List.length_nil, List.length_append, List.length_take]; omega) hj rfl) rfl rfl rfl rfl rfl rfl (by (try simp only [List.nil_append, List.cons_append]); (try rfl)) ?_
     | ((with_reducible refine is_un ?_); refine awpL_callS rfl hx hK' rfl rfl ?_)
     | refine st [4] ?_
     | ((with_reducible refine is_gd ?_); refine awpL_split rfl rfl (fun h => ?_) (fun h => ?_))
     | ((with_reducible refine isD_gd ?_); ((fail_if_success (refine isD_kn (c := true) rfl (by first | with_reducible rfl | with_reducible assumption) ?_)); (fail_if_success (refine isD_kn (c := false) rfl (by first | with_reducible rfl | with_reducible assumption) ?_)); refine awpD_split rfl (fun h => ?_) (fun h => ?_)))
     | ((with_reducible refine is_awp ?_); refine awp_cond rfl (fun h => ?_) (fun h => ?_))
     | fail)
    refine retP rfl ?_
    simp [ex, exL, mergeV, longerR, repC]
  · have c2 : (!decide (repE (longerR r o) = 0)) = true := by simp [he]
    rw [withR_err he]
    repeat' (first
     | refine awpD_oc rfl (by repeat' (first | exact Msk.nil | apply Msk.base | apply Msk.vis rfl | apply Msk.hid rfl)) rfl rfl hC rfl rfl rfl (by (try simp only [List.set_cons_zero, List.set_cons_succ, List.nil_append, List.cons_append, List.append_nil, cellsOf, List.take_zero, List.drop_zero, List.take_succ_cons, List.drop_succ_cons, Nat.zero_add, Nat.reduceAdd, List.drop_nil, List.map_cons, List.map_nil]); (try rfl)) (by (try simp only [List.nil_append, List.cons_append]); (try rfl)) ?_
     | refine awpD_up (kk := 1) rfl (by repeat' (first | exact Msk.nil | apply Msk.base | apply Msk.vis rfl | apply Msk.hid rfl)) rfl rfl rfl rfl (ev_app (es' := (r.ops ++ [o]).map opC) rfl rfl rfl rfl rfl rfl rfl rfl rfl rfl rfl rfl rfl (by simp only [List.length_map, List.length_cons, List.length_nil, List.length_append, List.length_take]; omega) hj rfl) rfl rfl rfl rfl rfl rfl (by (try simp only [List.nil_append, List.cons_append]); (try rfl)) ?_
     | ((with_reducible refine is_un ?_); refine awpL_callS rfl hx hK' rfl rfl ?_)
     | refine st [4] ?_
     | ((with_reducible refine is_gd ?_); refine awpL_split rfl rfl (fun h => ?_) (fun h => ?_))
     | ((with_reducible refine isD_gd ?_); ((fail_if_success (refine isD_kn (c := true) rfl (by first | with_reducible rfl | with_reducible assumption) ?_)); (fail_if_success (refine isD_kn (c := false) rfl (by first | with_reducible rfl | with_reducible assumption) ?_)); refine awpD_split rfl (fun h => ?_) (fun h => ?_)))
     | ((with_reducible refine is_awp ?_); refine awp_cond rfl (fun h => ?_) (fun h => ?_))
     | fail)
    exact retLe rfl (le_zeroM _)
end Go.Proofs.YtnacjdaoiepbhaaGreatDoor
end
section
namespace Go.Ac
section
variable {P : Program} {td : TDs} [T : TOK P td] {G : Glo} {N : Nat} {Q : AQ} {S Sb D : SL} {L : List LB} {ops : Array Oper} {rest : List Oper}
  {op : Op} {ty ty2 : TypeId} {pos pos2 : String} {af af2 : Array Edge} {d i : Nat} {x : AV} {nb : Nat} {W : DW}
theorem run_callC {f : FuncId} (hf : Callable P f) {o : Oper} {p : Operand} {us : Array Operand} {ats : Array TypeId} (ho : o.op = .call { callee := .value p, args := us, argTypes := ats }) (a : Act) (w : World) {cs : Array Value} (hp : a.eval p = .func (.func f) #[] cs) :
    (execOp a.eval o).run P w = .ok (.enter f (us.map a.eval ++ cs)) w := by
  obtain ⟨fn, h1, h2, h3⟩ := hf
  have h3' : ¬ fn.name = "runtime.NumGoroutine" := by simpa using h3
  have h2' : ¬ fn.body = none := by intro e; rw [e] at h2; cases h2
  simp [execOp, ho, resolve, hp, Deferred.ofValue, invoke, callFunc, h1, h2', h3']
theorem TR_append {c : Cx} : ∀ {xs ys : List AV} {vs ws : List Value}, TR c xs vs → TR c ys ws → TR c (xs ++ ys) (vs ++ ws)
  | [], ys, vs, ws, h, g => by simp only [TR] at h; subst h; simpa using g
  | x :: r, ys, vs, ws, h, g => by
    simp only [TR] at h
    obtain ⟨y, s, rfl, hx, h⟩ := h
    simp only [List.cons_append, TR]
    exact ⟨y, _, rfl, hx, TR_append h g⟩
theorem pev_callC {f : FuncId} {p : Operand} {us : Array Operand} {ats : Array TypeId} {args cap : List AV} {r : AV} (hp : val G S p = some (.fn f [] cap)) (hargs : vals G S us.toList = some args) (hF : (args ++ cap).all isF = true) (h : PCalls P G.g f (args ++ cap) r) :
    PEv P G N (.call { callee := .value p, args := us, argTypes := ats }) ty S L r L := by
  intro o ho ht cx a hc K Q hK
  have hv := val_R hc hp
  simp only [R, TR] at hv
  obtain ⟨xs, ys, hv, e1, e2⟩ := hv
  have hx : xs = #[] := by simpa using e1
  subst hx
  have ha := TF_of_TR hF (TR_append (vals_R hc hargs) e2)
  refine wpIn_of_run (by rw [ho]; rfl) ?_
  rw [run_callC h.1 (o := o) ho a cx.w hv, Oper.uponIn_enter]
  refine ⟨fun h => by simp at h, CallsIn.mono (h.2 cx.F cx.w (us.map a.eval ++ ys) hc.st.bare (by simpa using ha)) ?_⟩
  rintro e w' ⟨y, F', rfl, hr, st', ex⟩
  exact hK y { cx with F := F', w := w' } (R.of_RF _ _ _ hr) (hc.st.after ex st')
theorem awpL_callC {f : FuncId} {p : Operand} {us : Array Operand} {ats : Array TypeId} {args cap : List AV} {r : AV} (hp : val G S p = some (.fn f [] cap)) (hargs : vals G S us.toList = some args) (hF : (args ++ cap).all isF = true) (h : PCalls P G.g f (args ++ cap) r) (hd : Nat.blt d N = true)
    (k : awpL P G N ops rest Q ((d, r) :: S) L) : awpL P G N ops (⟨some d, .call { callee := .value p, args := us, argTypes := ats }, ty, pos, af, none⟩ :: rest) Q S L := by
  intro cx a hc
  refine wpListIn_plain rfl fun K hK => ?_
  refine pev_callC hp hargs hF h _ rfl rfl cx a hc _ _ fun y cx' hx hst => ?_
  exact hK _ _ (wpListIn_mono (fun e a w q => q.trans hst.ext) _ _ _ (k cx' _ ((hst.cn hc).put hd hx)))
theorem ev_slice_pre {t e k v E sz : Nat} {dd ed : TD} {u hi : Operand} {m : Nat} {es : List (List AV)} {L' : List LB} (hu : val G S u = some (.os k v)) (hk : L[k]? = some (.own v E sz es)) (hhi : val G S hi = some (.v (.int .i64 m))) (hm : m ≤ es.length)
    (ht : lk td t = some dd) (hs : dd.k = .slice e) (he : lk td e = some ed) (hL : L.set k (.own (v + 1) E sz (es.take m)) = L') : Ev2 P G N (.slice t u none (some hi) none) ty S L (.os k (v + 1)) L' := by
  subst hL
  intro o ho _ cx a hc
  have e1 := val_R hc hu
  have e2 := val_R hc hhi
  have hb := hc.st.blk _ _ hk
  simp only [R] at e1 e2
  simp only [BR] at hb
  obtain ⟨hv0, hsz, hln, hb⟩ := hb
  obtain ⟨hk', _, ho1, e1⟩ := e1
  have hos := e1 hv0
  have hsd := slice_desc (P := P) ht hs
  have hst : Stp G cx (cx.upd k (cx.φ k) m cx.w) (L.set k (.own (v + 1) E sz (es.take m))) := by
    refine hc.st.upd rfl rfl rfl (Nat.le_refl _) (fun b _ _ => rfl) (.inl rfl) hk' (by rw [hk]; simp) fun hS => ?_
    simp only [BR, Cx.upd, if_true]
    refine ⟨by rw [hv0], hsz, by rw [List.length_take]; omega, ?_⟩
    rcases hb with ⟨h0, h1⟩ | ⟨b, arr, h1, h2, h3, h4⟩
    · exact .inl ⟨h0, by rw [h1]; simp⟩
    · refine .inr ⟨b, arr, h1, h2, Nat.le_trans (Nat.mul_le_mul_right _ (by rw [List.length_take]; omega)) h3, ?_⟩
      refine EF.mk fun j f hj => ?_
      rw [List.getElem?_take] at hj
      split at hj
      · exact h4.get hj
      · cases hj
  simp only [OS] at hos
  have key : ∃ y, (execOp a.eval o).run P cx.w = .ok (.value y) cx.w ∧ R (cx.upd k (cx.φ k) m cx.w) (.os k (v + 1)) y := by
    rcases hos with ⟨h0, h1, h2⟩ | ⟨b, cap, arr, T', h1, h2, h3, h4, h5, h6⟩
    · have hm0 : m = 0 := by omega
      subst hm0
      refine ⟨.slice none 0 0, ?_, ?_⟩
      · simp [execOp, ho, h1, e2, Instr.sliceAt, Instr.slice, run_underlying hsd, Result.andThen, Instr.sliceBounds, Instr.sliceBound, asIntOf, run_sizeOf' (P := P) he]
      · simp only [R, OS, Cx.upd, if_true]
        exact ⟨hk', by omega, rfl, fun _ => .inl (by simpa using h2)⟩
    · have hmc : m ≤ cap := by omega
      refine ⟨.slice (some ⟨b, 0, none⟩) m cap, ?_, ?_⟩
      · simp [execOp, ho, h2, e2, Instr.sliceAt, Instr.slice, run_underlying hsd, Result.andThen, Instr.sliceBounds, Instr.sliceBound, asIntOf, run_sizeOf' (P := P) he, hmc, Addr.add]
      · simp only [R, OS, Cx.upd, if_true]
        exact ⟨hk', by omega, rfl, fun _ => .inr ⟨b, cap, arr, T', h1, rfl, h3, hmc, h5, h6⟩⟩
  obtain ⟨y, hy, hR⟩ := key
  exact ⟨y, cx.upd k (cx.φ k) m cx.w, hy, hR, hst⟩
theorem zeroCells_len (z : Array Value) (n : Nat) : (Builtin.zeroCells z n).toList.length = n * z.size := by simp [Builtin.zeroCells]
theorem zeroCells_get (z : Array Value) (n : Nat) {j : Nat} (h : j < n * z.size) : (Builtin.zeroCells z n).toList[j]? = some (z[j % z.size]!) := by
  simp [Builtin.zeroCells, h]
theorem awpL_clrs {t e k v E sz d1 : Nat} {dd ed : TD} {u lo : Operand} {m : Nat} {es es' : List (List AV)} {L' : List LB} (hu : val G S u = some (.os k v)) (hk : L[k]? = some (.own v E sz es)) (hlo : val G S lo = some (.v (.int .i64 m))) (hm : m ≤ es.length)
    (ht : lk td t = some dd) (hs : dd.k = .slice e) (he : lk td e = some ed) (hsz : ed.size = sz) (hzl : ed.zero.length = sz) (hz : ed.zero.all (·.oneCell') = true) (hpos : Nat.blt 0 sz = true) (hd1 : Nat.blt d1 N = true) (hes : es.take m ++ List.replicate (es.length - m) (ed.zero.map .v) = es') (hL : L.set k (.own v E sz es') = L')
    (kk : awpL P G N ops rest Q ((d1, .any) :: S) L') :
    awpL P G N ops (⟨some d1, .slice t u (some lo) none none, ty, pos, af, none⟩ :: ⟨none, .call { callee := .builtin .clear, args := #[.tmp d1], argTypes := #[t] }, ty2, pos2, af2, none⟩ :: rest) Q S L := by
  subst hes hL
  intro cx a hc
  have e1 := val_R hc hu
  have e2 := val_R hc hlo
  have hb := hc.st.blk _ _ hk
  simp only [R] at e1 e2
  simp only [BR] at hb
  obtain ⟨hv0, hsz0, hln, hb⟩ := hb
  obtain ⟨hk', _, ho1, e1⟩ := e1
  have hos := e1 hv0
  have hsd := slice_desc (P := P) ht hs
  obtain ⟨iz, ud, zz, g1, g2, g3, g4, g5, g6, g7⟩ := tok_parts (P := P) he
  have hzr : ∀ w, (zeroValue e).run P w = .ok zz w := fun w => by simp [zeroValue, typeInfo, g1, g3]
  have hzz : zz.cells.toList = ed.zero := g7
  have hzsz : zz.cells.size = sz := by rw [← hzl, ← hzz]; simp
  have hone : ∀ q ∈ ed.zero, q.oneCell' = true := fun q hq => List.all_eq_true.1 hz q hq
  simp only [OS] at hos
  have key : ∃ y cx2, (execOp a.eval ⟨some d1, .slice t u (some lo) none none, ty, pos, af, none⟩).run P cx.w = .ok (.value y) cx.w ∧ (execOp (a.put (some d1) y).eval ⟨none, .call { callee := .builtin .clear, args := #[.tmp d1], argTypes := #[t] }, ty2, pos2, af2, none⟩).run P cx.w = .ok (.value (.tuple #[])) cx2.w ∧
      Stp G cx cx2 (L.set k (.own v E sz (es.take m ++ List.replicate (es.length - m) (ed.zero.map .v)))) := by
    have hd1' : d1 < a.tmps.size := by rw [hc.sz]; exact Nat.le_of_ble_eq_true hd1
    have hput : ∀ y, (a.put (some d1) y).eval (.tmp d1) = y := fun y => by simp [Act.put, Act.eval, Array.getElem?_setIfInBounds, hd1']
    rcases hb with ⟨h0, h1⟩ | ⟨b, arr, h1, h2, h3, h4⟩
    · subst h1
      have hm0 : m = 0 := by simpa using hm
      subst hm0
      rcases hos with ⟨q0, q1, q2⟩ | ⟨b, cap, arr, T', q1, _⟩
      · refine ⟨.slice none 0 0, cx, ?_, ?_, ?_⟩
        · simp [execOp, q1, e2, Instr.sliceAt, Instr.slice, run_underlying hsd, Result.andThen, Instr.sliceBounds, Instr.sliceBound, asIntOf, run_sizeOf' (P := P) he]
        · simp only [execOp, resolve, invoke, builtin, Sem.run_bind, Sem.run_pure, Result.andThen_ok, List.map_toArray, List.map_cons, List.map_nil, hput]
          simp [Builtin.clear_, run_underlying hsd, Result.andThen]
        · have hset : L.set k (.own v E sz (([] : List (List AV)).take 0 ++ List.replicate (([] : List (List AV)).length - 0) (ed.zero.map .v))) = L := by
            rw [List.take_nil, List.nil_append]; exact set_same hk
          rw [hset]
          exact Stp.refl hc.st
      · rw [h0] at q1; cases q1
    · rcases hos with ⟨_, _, q2⟩ | ⟨b2, cap, arr2, T', q1, q2, q3, q4, q5, q6⟩
      · rw [q2] at h1; cases h1
      · rw [h1] at q1; injection q1 with q1; subst q1
        rw [h2] at q3
        injection q3 with q3
        injection q3 with q3 _ _
        subst q3
        rw [hsz0] at q6
        rw [hln] at q2 q4
        have hsd1 : ∀ (w : World), (sizeOf e).run P w = .ok sz w := fun w => by rw [← hsz]; exact run_sizeOf' (P := P) he w
        rcases Nat.lt_or_ge m es.length with hlt | hge
        · have hcm : ¬ cap = m := by omega
          have hmn : m * sz ≤ es.length * sz := Nat.mul_le_mul_right _ hm
          have hsub : (es.length - m) * sz = es.length * sz - m * sz := by rw [Nat.sub_mul]
          obtain ⟨Z, hZ⟩ : ∃ Z, Z = (Builtin.zeroCells zz.cells (es.length - m)).toList := ⟨_, rfl⟩
          have hZl : Z.length = (es.length - m) * sz := by rw [hZ, zeroCells_len, hzsz]
          have hZg : ∀ j, j < (es.length - m) * sz → Z[j]? = some (zz.cells[j % sz]!) := fun j hj => by rw [hZ, zeroCells_get _ _ (by rw [hzsz]; exact hj), hzsz]
          have hspos : 0 < sz := Nat.le_of_ble_eq_true hpos
          have hzg : ∀ r, r < sz → zz.cells[r]! ∈ ed.zero ∧ ed.zero[r]? = some (zz.cells[r]!) := fun r hr => by
            have hr' : r < zz.cells.size := by rw [hzsz]; exact hr
            rw [← hzz]
            rw [getElem!_pos zz.cells r hr']
            exact ⟨by simp, by simp⟩
          have hZ1 : ∀ q ∈ Z, q.oneCell' = true := fun q hq => by
            obtain ⟨j, hj, hq'⟩ := List.getElem_of_mem hq
            have := hZg j (by omega)
            rw [List.getElem?_eq_getElem hj, hq'] at this
            injection this with this
            rw [this]
            exact hone _ (hzg _ (Nat.mod_lt _ hspos)).1
          have hrun := run_storeCells_at (P := P) b (m * sz) E Z 0 arr cx.w h2 (by rw [Nat.add_zero, hZl]; omega) hZ1
          simp only [Nat.add_zero] at hrun
          generalize hcur : (arr.toList.take (m * sz) ++ Z ++ arr.toList.drop (m * sz + Z.length)).toArray = cur at hrun
          have hcs' : cur.size = arr.size := by rw [← hcur]; simp; omega
          have hh' := setRow_heap cx.w b arr cur E (0, 0) h2
          have hget : ∀ j, cur[j]? = if j < m * sz then arr[j]? else if j < m * sz + Z.length then Z[j - m * sz]? else arr[j]? := by
            intro j
            have := splice_get (arr := arr.toList) (vs := Z) (off := m * sz) (j := j) (by simp; omega)
            rw [← hcur]
            simpa using this
          refine ⟨.slice (some ⟨b, 0 + m * sz, none⟩) (es.length - m) (cap - m), { cx with w := cx.w.setRow b cur }, ?_, ?_, ?_⟩
          · simp [execOp, q2, e2, Instr.sliceAt, Instr.slice, run_underlying hsd, Result.andThen, Instr.sliceBounds, Instr.sliceBound, asIntOf, hsd1, hcm, hm, q4, Addr.add]
            intro h
            omega
          · simp only [execOp, resolve, invoke, builtin, Sem.run_bind, Sem.run_pure, Result.andThen_ok, List.map_toArray, List.map_cons, List.map_nil, hput]
            have hne : ¬ es.length - m = 0 := by omega
            simp [Builtin.clear_, run_underlying hsd, Result.andThen, hzr, ← hZ, hrun, hne]
          · refine hc.st.write h1 h2 hcs' (by rw [hk]; simp) fun hS => ?_
            simp only [BR]
            refine ⟨hv0, hsz0, by simp; omega, .inr ⟨b, cur, h1, hh', (by rw [List.length_append, List.length_take, List.length_replicate, hcs', show min m es.length + (es.length - m) = es.length by omega]; exact h3), ?_⟩⟩
            refine EF.mk fun j f hj => ?_
            rw [Nat.zero_add]
            have htk : (es.take m).length = m := by rw [List.length_take]; omega
            rcases Nat.lt_or_ge j m with hjm | hjm
            · rw [List.getElem?_append_left (by omega), List.getElem?_take, if_pos hjm] at hj
              obtain ⟨l1, l2⟩ := h4.get hj
              rw [Nat.zero_add] at l2
              refine ⟨l1, MF.mk fun r z hz => ?_⟩
              have hr' : r < sz := by have := (List.getElem?_eq_some_iff.1 hz).1; omega
              have hjj : (j + 1) * sz ≤ m * sz := Nat.mul_le_mul_right _ hjm
              rw [Nat.add_mul] at hjj
              obtain ⟨y, y2, y3, y4⟩ := l2.get hz
              rw [cell_of_row _ _ _ _ _ _ h2] at y2
              exact ⟨y, by rw [cell_of_row _ _ _ _ _ _ hh', hget, if_pos (by omega)]; exact y2, RF.mono hS.F hS.heap _ _ y3, y4⟩
            · rw [List.getElem?_append_right (by omega), htk, List.getElem?_replicate] at hj
              split at hj
              · rename_i hjn
                injection hj with hj
                subst hj
                refine ⟨by simp [hzl], MF.mk fun r z hz => ?_⟩
                have hr' : r < sz := by have := (List.getElem?_eq_some_iff.1 hz).1; simpa [hzl] using this
                have e1 : j * sz = m * sz + (j - m) * sz := by rw [← Nat.add_mul]; congr 1; omega
                have e2 : (j - m + 1) * sz ≤ (es.length - m) * sz := Nat.mul_le_mul_right _ (by omega)
                rw [Nat.add_mul] at e2
                obtain ⟨w1, w2⟩ := hzg r hr'
                have hz' : z = .v (zz.cells[r]!) := by
                  rw [List.getElem?_map, w2] at hz
                  exact (Option.some.inj hz).symm
                subst hz'
                refine ⟨zz.cells[r]!, ?_, by simp only [RF], hone _ w1⟩
                rw [cell_of_row _ _ _ _ _ _ hh', hget, if_neg (by omega), if_pos (by omega), hZg _ (by omega)]
                congr 2
                rw [show j * sz + r - m * sz = r + sz * (j - m) by rw [Nat.mul_comm sz]; omega, Nat.add_mul_mod_self_left, Nat.mod_eq_of_lt hr']
              · cases hj
        · have hmn : m = es.length := by omega
          subst hmn
          have hset : L.set k (.own v E sz (es.take es.length ++ List.replicate (es.length - es.length) (ed.zero.map .v))) = L := by
            rw [List.take_length, Nat.sub_self, List.replicate_zero, List.append_nil]; exact set_same hk
          rw [hset]
          refine ⟨.slice (if cap = es.length then some ⟨b, 0, none⟩ else some ⟨b, 0 + es.length * sz, none⟩) 0 (cap - es.length), cx, ?_, ?_, Stp.refl hc.st⟩
          · simp [execOp, q2, e2, Instr.sliceAt, Instr.slice, run_underlying hsd, Result.andThen, Instr.sliceBounds, Instr.sliceBound, asIntOf, hsd1, q4, Addr.add]
            by_cases h0 : cap = es.length
            · simp [h0]
            · simp [h0]; intro h; omega
          · simp only [execOp, resolve, invoke, builtin, Sem.run_bind, Sem.run_pure, Result.andThen_ok, List.map_toArray, List.map_cons, List.map_nil, hput]
            by_cases h0 : cap = es.length <;> simp [Builtin.clear_, run_underlying hsd, Result.andThen, h0]
  obtain ⟨y, cx2, hr1, hr2, hst⟩ := key
  refine wpListIn_plain rfl fun K hK => wpIn_of_run rfl ?_
  rw [hr1, Oper.uponIn_value]
  refine hK _ _ ?_
  refine wpListIn_plain rfl fun K hK => wpIn_of_run rfl ?_
  rw [hr2, Oper.uponIn_value]
  refine hK _ _ (wpListIn_mono (fun e a w q => q.trans hst.ext) _ _ _ (kk cx2 _ ?_))
  have := hst.cn hc
  have := this.put hd1 (x := .any) (y := y) (by simp only [R])
  exact ⟨this.st, this.de, by simpa [Act.put] using this.sz, by simpa [Act.put] using this.sr⟩
end
end Go.Ac
end
