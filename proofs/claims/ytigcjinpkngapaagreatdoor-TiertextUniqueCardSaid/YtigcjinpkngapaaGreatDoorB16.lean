/- A logic of trees over the model's steps, and the contracts of the functions that the laws reach: part 16 of 16. -/
import Derived.Test.YtigcjinpkngapaaGreatDoorB15
import Derived.Test.YtigcjinpkngapaaGreatDoorRows
import Derived.Lib.LaidU8T
import Derived.Lib.LaidTab
import Derived.LaidLaws
import Derived.LaidHandle
import Derived.Lay
import Derived.Shelf.Vars
import Derived.SizedLaws
import Derived.Handed
import Derived.ChangeArms
set_option linter.unusedVariables false
set_option linter.unusedSimpArgs false
set_option linter.unusedSectionVars false
section
namespace Go.Proofs.YtigcjinpkngapaaGreatDoor
open Go.Ac Go.Lib Go.RowKit Go.ChangeShapes Go.WideShapes
theorem var_block {P : Program} {W : World} {n : String} {b : Nat} {cs : Array Value} (hg : P.globalNamed n = some b) (h : W.var? P n = some cs) : below W b ∧ ∀ k, cs.size = k → Exact W k b := by
  simp only [World.var?, hg, Option.bind_some] at h
  split at h
  · rename_i c T z hb
    cases h
    refine ⟨?_, fun k hk => ⟨_, _, _, hb, hk⟩⟩
    rcases Nat.lt_or_ge b W.heap.size with q | q
    · exact q
    · exfalso
      have : W.heap[b]? = none := Array.getElem?_eq_none q
      rw [this] at hb
      cases hb
  · cases h
theorem tab_glob {P : Program} {W : World} {name : String} {b t e n : Nat} {k : IntKind} {zs : List Int} (hn : P.globalNamed name = some b) (hy : (P.globals[b]?).map (·.type) = some t) (ht : P.underlying t = some (.array n e)) (he : P.underlying e = some (.int k)) (hce : P.cellsOf e = 1) (hct : P.cellsOf t = n)
    (h : VarReads P W name (tabData k zs)) : below W b ∧ MF (below W) W (zs.map fun z => AV.v (.int k z)) b 0 ∧ Exact W (zs.map fun z => AV.v (.int k z)).length b := by
  obtain ⟨g, t', cs, fuel, p, hg, hty, hvar, hd⟩ := h
  obtain rfl : g = b := Option.some.inj (hg.symm.trans hn)
  obtain rfl : t' = t := Option.some.inj (hty.symm.trans hy)
  have hcs := cells_of_tab (zs := zs) ht he hce hct hd
  obtain ⟨h1, h2⟩ := var_block hg hvar
  have hsz : cs.size = zs.length := by rw [← Array.length_toList, hcs, List.length_map]
  refine ⟨h1, MF.mk fun i x hx => ?_, h2 _ (by rw [List.length_map]; exact hsz)⟩
  rw [List.getElem?_map, Option.map_eq_some_iff] at hx
  obtain ⟨z, hz, rfl⟩ := hx
  refine ⟨.int k z, ?_, by simp [RF], rfl⟩
  rw [Nat.zero_add, World.var?_cell hg hvar i, ← Array.getElem?_toList, hcs, List.getElem?_map, hz]
  rfl
theorem err_type (u : TypeId) (hu : Tryz.prog.typeName? 3 u = some "*errors.errorString") : u = 232 :=
  typeName_ptr_named (nm := "errors.errorString") (by kernel_rfl) (by kernel_rfl) (by decide) u hu
theorem err_glob {W : World} {name : String} {b t : Nat} {ms : Array (String × TypeId)} (hn : Tryz.prog.globalNamed name = some b) (hy : (Tryz.prog.globals[b]?).map (·.type) = some t) (hi : Tryz.prog.underlying t = some (.interface ms)) {d : DataW Unit}
    (h : VarReads Tryz.prog W name (.iface "*errors.errorString" d)) : below W b ∧ MF (below W) W errCs b 0 ∧ Exact W errCs.length b := by
  obtain ⟨g, t', cs, fuel, p, hg, hty, hvar, hd⟩ := h
  obtain rfl : g = b := Option.some.inj (hg.symm.trans hn)
  obtain rfl : t' = t := Option.some.inj (hty.symm.trans hy)
  obtain ⟨_, u, v, hcs, hu, _⟩ := iface_of_trod hi hd
  obtain rfl := err_type u hu
  obtain ⟨h1, h2⟩ := var_block hg hvar
  have hsz : cs.size = 1 := by rw [← Array.length_toList, hcs]; rfl
  refine ⟨h1, MF.mk fun i x hx => ?_, h2 _ hsz⟩
  have hi0 : i = 0 := by have := (List.getElem?_eq_some_iff.1 hx).1; simpa using this
  subst hi0
  cases hx
  refine ⟨.iface 232 v, ?_, by simp [RF], rfl⟩
  rw [Nat.zero_add, World.var?_cell hg hvar 0, ← Array.getElem?_toList, hcs]
  rfl
abbrev laidP : List (String × DataW Unit) := [("math/bits.deBruijn32tab", Rows.laid_math_bits_deBruijn32tab), ("math/bits.deBruijn64tab", Rows.laid_math_bits_deBruijn64tab), ("internal/strconv.uint64pow10", Rows.laid_internal_strconv_uint64pow10), ("unicode/utf8.acceptRanges", Rows.laid_unicode_utf8_acceptRanges), ("strconv.ErrRange", Rows.laid_strconv_ErrRange), ("strconv.ErrSyntax", Rows.laid_strconv_ErrSyntax), ("langdoc/num.limits", Rows.laid_langdoc_num_limits), ("unicode/utf8.first", Rows.laid_unicode_utf8_first)]
abbrev laidT : List (String × DataW Unit) := [("math/bits.deBruijn32tab", Rows.laid_math_bits_deBruijn32tab), ("math/bits.deBruijn64tab", Rows.laid_math_bits_deBruijn64tab), ("internal/strconv.uint64pow10", Rows.laid_internal_strconv_uint64pow10), ("unicode/utf8.acceptRanges", Rows.laid_unicode_utf8_acceptRanges), ("errors.errorType", Rows.laid_errors_errorType), ("strconv.ErrRange", Rows.laid_strconv_ErrRange), ("strconv.ErrSyntax", Rows.laid_strconv_ErrSyntax), ("langdoc/num.limits", Rows.laid_langdoc_num_limits), ("unicode/utf8.first", Rows.laid_unicode_utf8_first)]
theorem pow_same : (Rows.laid_internal_strconv_uint64pow10 : DataW Unit) = tabData .u64 pow10Tab := by kernel_rfl
theorem lim_same : (Rows.laid_langdoc_num_limits : DataW Unit) = tabData .i64 [-1099511627776, 1099511627776] := by kernel_rfl
theorem num_reads {W : World} (h1 : VarReads Tryz.prog W "internal/strconv.uint64pow10" Rows.laid_internal_strconv_uint64pow10) (h2 : VarReads Tryz.prog W "langdoc/num.limits" Rows.laid_langdoc_num_limits)
    (h3 : VarReads Tryz.prog W "strconv.ErrSyntax" Rows.laid_strconv_ErrSyntax) (h4 : VarReads Tryz.prog W "strconv.ErrRange" Rows.laid_strconv_ErrRange) : ∀ q ∈ GN, below W q.1 ∧ MF (below W) W q.2 q.1 0 ∧ Exact W q.2.length q.1 := by
  rw [pow_same] at h1
  rw [lim_same] at h2
  intro q hq
  simp only [GN, List.mem_cons, List.not_mem_nil, or_false] at hq
  rcases hq with rfl | rfl | rfl | rfl
  · exact tab_glob (b := 1) (by kernel_rfl) (by kernel_rfl) Tryz.underlying169 Tryz.underlying3 (by kernel_rfl) (by kernel_rfl) h2
  · exact tab_glob (b := 4) (by kernel_rfl) (by kernel_rfl) Tryz.underlying207 Tryz.underlying153 (by kernel_rfl) (by kernel_rfl) h1
  · exact err_glob (b := 6) (by kernel_rfl) (by kernel_rfl) Tryz.underlying60 h3
  · exact err_glob (b := 7) (by kernel_rfl) (by kernel_rfl) Tryz.underlying60 h4
theorem u8x : U8Extra Tryz.prog laysValid_ren := { n3 := by kernel_rfl, n4 := by kernel_rfl, y3 := by kernel_rfl, y4 := by kernel_rfl, c5 := by kernel_rfl, c119 := by kernel_rfl, c138 := by kernel_rfl }
theorem first_same : Rows.laid_unicode_utf8_first = Go.Lib.firstData := by kernel_rfl
theorem accept_same : (Rows.laid_unicode_utf8_acceptRanges : DataW Unit) = Go.Lib.acceptData := by kernel_rfl
theorem below_of_cell {W : World} {b o : Nat} {u : Value} (h : W.cell? ⟨b, o, none⟩ = some u) : b < W.heap.size := by
  rcases Nat.lt_or_ge b W.heap.size with g | g
  · exact g
  · exfalso
    have : W.heap[b]? = none := Array.getElem?_eq_none g
    simp [World.cell?, this] at h
theorem trod_len {P : Program} {W : World} {fuel t n e : Nat} {cs : List Value} {x : DataW Unit × List MemPlace} (ht : P.underlying t = some (.array n e)) (h : DataW.trod (fun _ => ()) P W 0 (fun _ => true) false fuel t cs = some x) : cs.length = P.cellsOf t := by
  cases fuel with
  | zero => simp [DataW.trod] at h
  | succ fuel =>
    simp only [DataW.trod, ht] at h
    split at h
    · rename_i hl; exact hl
    · cases h
theorem exact_of {P : Program} {W : World} {name : String} {b t e n k : Nat} {d : DataW Unit} (hn : P.globalNamed name = some b) (hy : (P.globals[b]?).map (·.type) = some t) (ht : P.underlying t = some (.array n e)) (hct : P.cellsOf t = k)
    (h : VarReads P W name d) : Exact W k b := by
  obtain ⟨g, t', cs, fuel, p, hg, hty, hvar, hd⟩ := h
  obtain rfl : g = b := Option.some.inj (hg.symm.trans hn)
  obtain rfl : t' = t := Option.some.inj (hty.symm.trans hy)
  exact (var_block hg hvar).2 k (by rw [← Array.length_toList, trod_len ht hd, hct])
def GT (m : Int) : List (Nat × List AV) := (2, firstCs) :: (3, acceptCs) :: (0, [AV.ifc 129 (.agg [.v (hT 60)])]) :: (5, [AV.v (.int .i64 m)]) :: GN
theorem GT_tg (m : Int) : TG (GT m) := ⟨⟨by simp [GT, GN], by simp [GT, GN], by simp [GT, GN], by simp [GT, GN]⟩, ⟨m, by simp [GT]⟩, by simp [GT, ErrG], ⟨by simp [GT], by simp [GT]⟩⟩
theorem rt_row : (Tryz.prog.cutTypes.find? (·.1 == "internal/reflectlite.rtype")).map (·.2) = some 129 := by kernel_rfl
theorem ty_size : Tryz.prog.types.size = 262 := by kernel_rfl
theorem one_row : ((List.range 262).filter fun t => Tryz.prog.rowNamed t [101, 114, 114, 111, 114]) = [60] := by kernel_rfl
theorem handle_err {W : World} (h : laidMetH Tryz.prog laidT W) : laidMet Tryz.prog laidP W ∧ W.var? Tryz.prog "errors.errorType" = some #[rT 60] := by
  have h' : laidMet Tryz.prog laidP W ∧ handlesMet Tryz.prog [("errors.errorType", Rows.laid_errors_errorType)] W := h
  refine ⟨h'.1, ?_⟩
  obtain ⟨name, u, ty, e1, e2, e3, e4, e5⟩ := h'.2 _ (List.mem_singleton.2 rfl)
  have en : name = [101, 114, 114, 111, 114] := (Option.some.inj e1).symm
  subst en
  obtain rfl := Option.some.inj (rt_row.symm.trans e2)
  have hm : ty ∈ (List.range 262).filter fun t => Tryz.prog.rowNamed t [101, 114, 114, 111, 114] := List.mem_filter.2 ⟨List.mem_range.2 (by rw [← ty_size]; exact e3), e4⟩
  rw [one_row] at hm
  obtain rfl := List.mem_singleton.1 hm
  have hh : typeHandle Tryz.prog 60 = hT 60 := by kernel_rfl
  rw [hh] at e5
  exact e5
theorem max_cell {W : World} (h : W.ShapedOpen Tryz.prog) : ∃ m : Int, below W 5 ∧ MF (below W) W [AV.v (.int .i64 m)] 5 0 ∧ Exact W 1 5 := by
  have h0 : ((begin Tryz.prog (fun _ _ => 0) default).world.heap[5]?).bind Obj.row? = some (#[.int .i64 0], 3) := by kernel_rfl
  have hlt : 5 < Tryz.prog.globals.size := of_decide_eq_true (by kernel_rfl)
  obtain ⟨m, hm⟩ := cell_of_shapedOpen_int h hlt h0 rfl (by kernel_rfl) (by kernel_rfl) Tryz.underlying3
  obtain ⟨cs, hh, hs, _⟩ := h.1 _ _ _ hlt h0
  refine ⟨m, ?_, MF.mk fun i x hx => ?_, ⟨cs, _, _, hh, hs⟩⟩
  · rcases Nat.lt_or_ge 5 W.heap.size with q | q
    · exact q
    · rw [Array.getElem?_eq_none q] at hh; cases hh
  · have hi0 : i = 0 := by have := (List.getElem?_eq_some_iff.1 hx).1; simpa using this
    subst hi0
    cases hx
    exact ⟨.int .i64 m, by rw [Nat.zero_add]; exact hm, by simp [RF], rfl⟩
theorem laid_globT {W : World} (h : laidMetH Tryz.prog laidT W) (hS : W.ShapedOpen Tryz.prog) : ∃ m, ∀ q ∈ GT m, below W q.1 ∧ MF (below W) W q.2 q.1 0 ∧ Exact W q.2.length q.1 := by
  obtain ⟨h, hv⟩ := handle_err h
  obtain ⟨m, hm⟩ := max_cell hS
  refine ⟨m, ?_⟩
  have r3 : VarReads Tryz.prog W "unicode/utf8.first" firstData := by
    rw [← first_same]; exact laidMet.reads h (by simp [laidP])
  have r4 : VarReads Tryz.prog W "unicode/utf8.acceptRanges" acceptData := by
    rw [← accept_same]; exact laidMet.reads h (by simp [laidP])
  have ht := utf8Tabs_of_readsT (U8Types.of196 laysValid) u8x r3 r4
  have hnum := num_reads (laidMet.reads h (by simp [laidP])) (laidMet.reads h (by simp [laidP])) (laidMet.reads h (by simp [laidP])) (laidMet.reads h (by simp [laidP]))
  have l3 : firstCs.length = 256 := by simp [firstCs]
  have l4 : acceptCs.length = 32 := by simp [acceptCs]
  have e3 : Exact W firstCs.length 2 := by
    rw [l3]
    exact exact_of (by kernel_rfl) (by kernel_rfl) Tryz.underlying195 (by kernel_rfl) r3
  have e4 : Exact W acceptCs.length 3 := by
    rw [l4]
    exact exact_of (by kernel_rfl) (by kernel_rfl) Tryz.underlying198 (by kernel_rfl) r4
  intro q hq
  simp only [GT, List.mem_cons] at hq
  rcases hq with rfl | rfl | rfl | rfl | hq
  · refine ⟨below_of_cell (ht.1 0 (by omega)), MF.mk fun i x hx => ?_, e3⟩
    have hi : i < 256 := by have := (List.getElem?_eq_some_iff.1 hx).1; simpa [firstCs] using this
    refine ⟨_, by rw [Nat.zero_add]; exact ht.1 i hi, ?_, rfl⟩
    simp only [firstCs, List.getElem?_map, List.getElem?_range hi, Option.map_some, Option.some.injEq] at hx
    subst hx; simp [RF]
  · refine ⟨below_of_cell (ht.2 0 (by omega)).1, MF.mk fun i x hx => ?_, e4⟩
    have hi : i < 32 := by have := (List.getElem?_eq_some_iff.1 hx).1; simpa [acceptCs] using this
    simp only [acceptCs, List.getElem?_map, List.getElem?_range hi, Option.map_some, Option.some.injEq] at hx
    subst hx
    have h2 := ht.2 (i / 2) (by omega)
    by_cases he : i % 2 = 0
    · refine ⟨_, by rw [Nat.zero_add, show i = 2 * (i / 2) by omega]; exact h2.1, ?_, rfl⟩
      simp [RF, he]
    · refine ⟨_, by rw [Nat.zero_add, show i = 2 * (i / 2) + 1 by omega]; exact h2.2, ?_, rfl⟩
      simp [RF, he]
  · have hg : Tryz.prog.globalNamed "errors.errorType" = some 0 := by kernel_rfl
    obtain ⟨h1, h2⟩ := var_block hg hv
    refine ⟨h1, MF.mk fun i x hx => ?_, h2 1 rfl⟩
    have hi0 : i = 0 := by have := (List.getElem?_eq_some_iff.1 hx).1; simpa using this
    subst hi0
    cases hx
    refine ⟨rT 60, ?_, ?_, rfl⟩
    · rw [Nat.zero_add, World.var?_cell hg hv 0]; rfl
    · simp only [RF]
      exact ⟨_, rfl, _, rfl, by simp only [LF, RF]; exact ⟨_, _, rfl, rfl, rfl, rfl⟩⟩
  · exact hm
  · exact hnum q hq
noncomputable def worldT0 (os : Os) : World :=
  let w0 := World.holding Tryz.prog os ⟨#[], #[], []⟩
  { w0 with heap := w0.heap.modify 0 fun
      | .cells _ t frozen => .cells #[rT 60] t frozen
      | o => o }
noncomputable def worldT (os : Os) : World := (worldT0 os).layVars Tryz.prog laidP
theorem worldT_os (os : Os) : (worldT os).os = os := World.layVars_os _ _ _
theorem worldT_met (os : Os) (args : Array Value) : laidMetH Tryz.prog laidT ((worldT os).forCall (fun _ _ => 0) ⟨#[], args, []⟩).memory := by
  refine laidMetH_of_parts ?_ (by kernel_rfl)
  show laidMet Tryz.prog laidP _
  have e1 : (laidP.filter fun x => (laidP.map (·.1)).contains x.1) = laidP := List.filter_eq_self.2 fun x hx => List.contains_iff_mem.2 (List.mem_map.2 ⟨x, hx, rfl⟩)
  have e2 : (laidP.filter fun x => !(laidP.map (·.1)).contains x.1) = [] := List.filter_eq_nil_iff.2 fun x hx => by rw [List.contains_iff_mem.2 (List.mem_map.2 ⟨x, hx, rfl⟩)]; simp
  have h : laidMet Tryz.prog laidP (worldT os) := laidMet_layVars (w0 := worldT0 os) (laidP.map (·.1)) [] (by rw [e1]; rfl) (by rw [e1]; kernel_rfl) (by rw [e1]; kernel_rfl) (by rw [e2]; exact LaidIn.none)
  exact h.of_heap (by simp [World.memory, World.forCall, Input.heap])
section
variable {H : Type} {enc : TypeId × Value → H}
theorem handed_shaped {a : Assume} {C : Checked} {os : Os} {f : FuncId} {fn : Func} {s : ChangeSpec} {conds : List PathCond} {apart fresh handsOn again : Bool} {X : World → Array Value → Prop}
    (hX : ∀ (w w' : World) (args : Array Value), w.heap = w'.heap → X w args → X w' args)
    (own : ownKnob C.prog.godebug = none) (started : os.Started) (noInit : C.prog.inits.idxOf? f = none) (hfn : C.prog.funcs[f]? = some fn)
    (witness : ∃ (w : World) (tape : Tape) (i : Input), w.os = os ∧ (w.forCall tape i).Shaped C.prog ∧ i.vars = [] ∧ Input.okWide C.prog (w.forCall tape i) .any w.heap.size f i ∧
      ((s.pre enc C.prog fn conds apart (w.forCall tape i).memory i.args ∧ X (w.forCall tape i).memory i.args) ∧ sizedMet enc C.prog fn (OpenSpec.ofChange s) apart (w.forCall tape i).memory i.args) ∧ a.holds C.prog (lone (Frame.enter C.prog f i.args .normal) [] (w.forCall tape i)))
    (contract : ∀ (W : World) (base : Nat) (args : Array Value) (ds gs : List (DataW H)) (before : List MemPlace),
      (∀ (j : Nat) t v, fn.params[j]? = some t → args[j]? = some v → Value.okWide C.prog W .any base t v) →
      DataW.Whole enc C.prog fn.params.toList s.vars apart W args.toList ds gs before →
      conds.all (PathCond.test C.prog ⟨fn.params.toList, ds, s.plain.varTypes C.prog, gs⟩) = true →
      (DataW.weightsEach C.prog (fn.params.toList ++ s.plain.varTypes C.prog) (ds ++ gs)).all (· ≤ reachBytes) = true → X W args →
      W.ShapedOpen C.prog →
      a.holds C.prog (lone (Frame.enter C.prog f args .normal) [] W) →
      Calls C.prog f args W fun e W' => ∃ v, e = .returned v ∧ s.post enc C.prog fn apart fresh handsOn again W args v W') :
    ReturnsInHanded a C os f .any (fun w args => (s.pre enc C.prog fn conds apart w args ∧ X w args) ∧ sizedMet enc C.prog fn (OpenSpec.ofChange s) apart w args) (s.post enc C.prog fn apart fresh handsOn again) := by
  refine returnsInHanded_of_calls own started noInit witness ?_
  intro w tape i _ hsh _ hok hpre hholds
  obtain ⟨_, _, _, fn', hfn', _, _, _, _, hval⟩ := hok
  have e : fn' = fn := Option.some.inj (hfn'.symm.trans hfn)
  subst e
  obtain ⟨⟨⟨ds, gs, before, hw, hc⟩, hx⟩, hz⟩ := hpre
  have hw' := DataW.Whole.of_heap (w' := w.forCall tape i) (by rfl) hw
  refine (contract (w.forCall tape i) w.heap.size i.args ds gs before hval hw' hc (hz.weights hw) (hX _ _ _ (by rfl) hx) hsh hholds).mono fun e W' ⟨v, he, hp⟩ => ?_
  subst he
  exact ChangeSpec.post_blind hp
end
end Go.Proofs.YtigcjinpkngapaaGreatDoor
end
section
namespace Go.Ac
def ShpB (td : TDs) (B : Nat) : Nat → TypeId → List AV → Prop
  | 0, _, _ => False
  | f + 1, t, cas => match (lk td t).map (fun d : TD => d.k) with
    | some .bool => ∃ b, cas = [.v (.bool b)]
    | some (.int k) => ∃ n, cas = [.v (.int k n)] ∧ (Lit.int k n).wf = true
    | some .str => ∃ s, cas = [.v (.string s)] ∧ s.size ≤ B
    | some (.slice e) => ∃ sz es, (lk td e).map (fun d : TD => d.size) = some sz ∧ cas = [.fs sz es.length es] ∧ es.length ≤ B ∧ ∀ x ∈ es, ShpB td B f e x
    | some (.struct fs) => ∃ parts : List (List AV), cas = parts.flatten ∧ parts.length = fs.length ∧ ∀ (i : Nat) (x : List AV) (q : TypeId × Nat), parts[i]? = some x → fs[i]? = some q → ShpB td B f q.1 x
    | some (.arr n e) => ∃ parts : List (List AV), cas = parts.flatten ∧ parts.length = n ∧ ∀ x ∈ parts, ShpB td B f e x
    | _ => False
theorem weightsAll_mem {H : Type} {P : Program} {e : TypeId} {B : Nat} : ∀ {l : List (DataW H)}, (DataW.weightsAll P e l).all (· ≤ B) = true → ∀ d ∈ l, (d.weights P e).all (· ≤ B) = true
  | [], _, d, hd => by cases hd
  | x :: r, h, d, hd => by
    simp only [DataW.weightsAll, List.all_append, Bool.and_eq_true] at h
    rcases List.mem_cons.1 hd with rfl | hd
    · exact h.1
    · exact weightsAll_mem h.2 d hd
theorem weightsEach_get {H : Type} {P : Program} {B : Nat} : ∀ {ts : List TypeId} {l : List (DataW H)}, (DataW.weightsEach P ts l).all (· ≤ B) = true → ∀ (i : Nat) t d, ts[i]? = some t → l[i]? = some d → (d.weights P t).all (· ≤ B) = true
  | [], l, _, i, t, d, ht, hd => by simp at ht
  | t :: ts, [], _, i, u, d, ht, hd => by simp at hd
  | t :: ts, x :: r, h, i, u, d, ht, hd => by
    simp only [DataW.weightsEach, List.all_append, Bool.and_eq_true] at h
    cases i with
    | zero => simp at ht hd; subst ht hd; exact h.1
    | succ i => exact weightsEach_get h.2 i u d (by simpa using ht) (by simpa using hd)
def byteT (td : TDs) (C : List Nat) : Bool := C.all fun t => match lk td t with
  | some d => (match d.k with | .slice e => (match lk td e with | some ed => Nat.blt 0 ed.bytes | none => false) | _ => true)
  | none => true
section
variable {P : Program} {td : TDs} [T : TOK P td] {H : Type} {enc : TypeId × Value → H} {W : World} {sp : Nat → Bool} {B : Nat}
theorem consec_partsB {f : Nat} {F : Nat → Prop} {w : World} {cs : List Value} {n : Nat} (hl : cs.length = n) : ∀ {fs : List (TypeId × Nat)} {o : Nat}, consec td o fs n = true → o ≤ n →
    (∀ q ∈ fs, ∃ cas, ShpB td B f q.1 cas ∧ LF F w cas ((cs.drop q.2).take (P.cellsOf q.1))) → ∃ parts : List (List AV), parts.length = fs.length ∧ LF F w parts.flatten (cs.drop o) ∧
      ∀ (i : Nat) (x : List AV) (q : TypeId × Nat), parts[i]? = some x → fs[i]? = some q → LF F w x ((cs.drop q.2).take (P.cellsOf q.1)) ∧ ShpB td B f q.1 x
  | [], o, h, ho, _ => by
    simp only [consec] at h
    have := Nat.eq_of_beq_eq_true h; subst this
    refine ⟨[], rfl, ?_, fun i x q hi => by simp at hi⟩
    rw [List.drop_of_length_le (by omega)]; simp only [List.flatten_nil, LF]
  | (t, off) :: r, o, h, ho, hp => by
    simp only [consec, Bool.and_eq_true] at h
    have := Nat.eq_of_beq_eq_true h.1; subst this
    obtain ⟨cas, hs, hLF⟩ := hp (t, off) (List.mem_cons_self ..)
    cases hlk : lk td t with
    | none => rw [hlk] at h; cases h.2
    | some d =>
      rw [hlk] at h
      have hcs := cellsOf_td (P := P) hlk
      have hle : off + d.size ≤ n := by
        have key : ∀ {fs : List (TypeId × Nat)} {o : Nat}, consec td o fs n = true → o ≤ n := by
          intro fs
          induction fs with
          | nil => intro o h; simp only [consec] at h; exact Nat.le_of_eq (Nat.eq_of_beq_eq_true h)
          | cons q r ih =>
            intro o h
            obtain ⟨t, off⟩ := q
            simp only [consec, Bool.and_eq_true] at h
            cases hq : lk td t with
            | none => rw [hq] at h; cases h.2
            | some d => rw [hq] at h; have := ih h.2; omega
        exact key h.2
      obtain ⟨parts, q1, q2, q3⟩ := consec_partsB hl h.2 hle (fun q hq => hp q (List.mem_cons_of_mem _ hq))
      refine ⟨cas :: parts, by simp [q1], ?_, fun i x q hi hq => ?_⟩
      · rw [List.flatten_cons]
        simp only [hcs] at hLF
        have := LF_append hLF q2
        have e : (cs.drop off).take d.size ++ cs.drop (off + d.size) = cs.drop off := by
          rw [← List.drop_drop]; exact List.take_append_drop ..
        rwa [e] at this
      · cases i with
        | zero => simp at hi hq; subst hi hq; exact ⟨hLF, hs⟩
        | succ i => exact q3 i x q (by simpa using hi) (by simpa using hq)
theorem trod_LFB {C : List Nat} (hC : closedT td C = true) (hB : byteT td C = true) : ∀ (f : Nat) (t : Nat) (cs : List Value) (r : DataW H × List MemPlace), t ∈ C → DataW.trod enc P W 0 sp true f t cs = some r → (r.1.weights P t).all (· ≤ B) = true →
    ∃ cas, ShpB td B f t cas ∧ LF (below W) W cas cs := by
  intro f
  induction f with
  | zero => intro t cs r _ h _; simp [DataW.trod] at h
  | succ f ih =>
    intro t cs r ht h hw
    have hc := List.all_eq_true.1 hC t ht
    cases hl : lk td t with
    | none => simp [hl] at hc
    | some d =>
      simp only [hl] at hc
      obtain ⟨i, u, z, h1, h2, h3, h4, h5, h6, h7⟩ := tok_parts (P := P) hl
      cases hk : d.k with
      | bool =>
        rw [hk] at h4
        cases u <;> simp only [tk, reduceCtorEq] at h4
        obtain ⟨b, rfl, _⟩ := DataW.trod_bool h2 h
        exact ⟨[.v (.bool b)], by simp only [ShpB, hl, Option.map_some, hk]; exact ⟨b, rfl⟩, by simp only [LF, RF]; exact ⟨_, [], rfl, rfl, rfl, rfl⟩⟩
      | int k =>
        rw [hk] at h4
        cases u <;> simp only [tk, reduceCtorEq, TK.int.injEq] at h4
        subst h4
        obtain ⟨n, rfl, _, hwf⟩ := DataW.trod_int h2 h
        exact ⟨[.v (.int _ n)], by simp only [ShpB, hl, Option.map_some, hk]; exact ⟨n, rfl, hwf⟩, by simp only [LF, RF]; exact ⟨_, [], rfl, rfl, rfl, rfl⟩⟩
      | str =>
        rw [hk] at h4
        cases u <;> simp only [tk, reduceCtorEq] at h4
        obtain ⟨s, rfl, hx, _⟩ := DataW.trod_string h2 h
        have hs : s.size ≤ B := by
          subst hx
          simp only [DataW.weights, List.all_cons, List.all_nil, Bool.and_true, decide_eq_true_eq, Array.length_toList] at hw
          exact hw
        exact ⟨[.v (.string s)], by simp only [ShpB, hl, Option.map_some, hk]; exact ⟨s, rfl, hs⟩, by simp only [LF, RF]; exact ⟨_, [], rfl, rfl, rfl, rfl⟩⟩
      | slice e =>
        rw [hk] at h4
        cases u <;> simp only [tk, reduceCtorEq, TK.slice.injEq] at h4
        subst h4
        rename_i e
        simp only [hk, Bool.and_eq_true] at hc
        obtain ⟨⟨_, he⟩, hsz⟩ := hc
        have he' : e ∈ C := List.contains_iff_mem.1 he
        cases hle : lk td e with
        | none => rw [hle] at hsz; cases hsz
        | some ed =>
          rw [hle] at hsz
          have hpos : 0 < ed.size := Nat.le_of_ble_eq_true hsz
          have hce := cellsOf_td (P := P) hle
          rcases DataW.trod_slice h2 h with ⟨rfl, _⟩ | ⟨a, len, cap, elems, rest, n, hf, rfl, hx, _, hlc, hcm, hel, hget, _⟩
          · refine ⟨[.fs ed.size 0 []], ?_, ?_⟩
            · simp only [ShpB, hl, Option.map_some, hk]
              exact ⟨ed.size, [], by simp [hle], rfl, Nat.zero_le _, fun x hx => by cases hx⟩
            · simp only [LF, RF]
              exact ⟨_, [], rfl, ⟨rfl, none, 0, rfl, Nat.le_refl _, fun h => absurd rfl h⟩, rfl, rfl⟩
          · injection hf with hf; subst hf
            have hbt := List.all_eq_true.1 hB t ht
            simp only [hl, hk, hle] at hbt
            have hby : 0 < P.bytesOf e := by
              obtain ⟨i', u', z', k1, _, _, _, _, k6, _⟩ := tok_parts (P := P) hle
              simp only [Program.bytesOf, k1, Option.map_some, Option.getD_some]
              rw [k6]; exact Nat.le_of_ble_eq_true hbt
            subst hx
            simp only [DataW.weights, h2, List.all_cons, List.all_append, Bool.and_eq_true, decide_eq_true_eq, List.length_map] at hw
            obtain ⟨hw1, hw2, _⟩ := hw
            have hlenB : len ≤ B := by
              have := Nat.le_mul_of_pos_right (elems.length + rest.length) hby
              omega
            have hwe : ∀ i (y : DataW H × List MemPlace), elems[i]? = some y → (y.1.weights P e).all (· ≤ B) = true := fun i y hy =>
              weightsAll_mem hw2 y.1 (List.mem_map_of_mem (List.mem_of_getElem? hy))
            have key : ∀ i, i < len → ∃ x, ShpB td B f e x ∧ ∃ ys, LF (below W) W x ys ∧ ys.length = ed.size ∧ W.cells? 0 (a.add (i * ed.size)) ed.size = some ys := by
              intro i hi
              have hg := hget i hi
              rw [List.getElem?_eq_getElem (by omega), hce] at hg
              cases hcl : W.cells? 0 (a.add (i * ed.size)) ed.size with
              | none => rw [hcl] at hg; cases hg
              | some ys =>
                rw [hcl] at hg
                simp only [Option.bind_some] at hg
                obtain ⟨x, g1, g2⟩ := ih e ys _ he' hg (hwe i _ (List.getElem?_eq_getElem (by omega)))
                exact ⟨x, g1, ys, g2, (cells?_spec hpos hcl).2.2.1, rfl⟩
            have hes : ∃ es : List (List AV), es.length = len ∧ ∀ i, i < len → ∃ x, es[i]? = some x ∧ ShpB td B f e x ∧ ∃ ys, LF (below W) W x ys ∧ ys.length = ed.size ∧ W.cells? 0 (a.add (i * ed.size)) ed.size = some ys := by
              have : ∀ m, m ≤ len → ∃ es : List (List AV), es.length = m ∧ ∀ i, i < m → ∃ x, es[i]? = some x ∧ ShpB td B f e x ∧ ∃ ys, LF (below W) W x ys ∧ ys.length = ed.size ∧ W.cells? 0 (a.add (i * ed.size)) ed.size = some ys := by
                intro m
                induction m with
                | zero => intro _; exact ⟨[], rfl, fun i h => by omega⟩
                | succ m ihm =>
                  intro hm
                  obtain ⟨es, q1, q2⟩ := ihm (by omega)
                  obtain ⟨x, k1, k2⟩ := key m (by omega)
                  refine ⟨es ++ [x], by simp [q1], fun i hi => ?_⟩
                  by_cases e' : i = m
                  · subst e'; exact ⟨x, by rw [← q1]; simp, k1, k2⟩
                  · obtain ⟨x', r1, r2⟩ := q2 i (by omega)
                    exact ⟨x', by rw [List.getElem?_append_left (by omega)]; exact r1, r2⟩
              exact this len (Nat.le_refl _)
            obtain ⟨es, q1, q2⟩ := hes
            refine ⟨[.fs ed.size len es], ?_, ?_⟩
            · simp only [ShpB, hl, Option.map_some, hk]
              refine ⟨ed.size, es, by simp [hle], by rw [q1], by omega, fun x hx => ?_⟩
              obtain ⟨i, hi⟩ := List.getElem?_of_mem hx
              have hil : i < len := by rcases Nat.lt_or_ge i es.length with h' | h'; omega; rw [List.getElem?_eq_none h'] at hi; cases hi
              obtain ⟨x', r1, r2, _⟩ := q2 i hil
              rw [hi] at r1; injection r1 with r1; subst r1; exact r2
            · simp only [LF, RF]
              refine ⟨_, [], rfl, ⟨q1, some a, cap, rfl, hlc, fun hne => ?_⟩, rfl, rfl⟩
              obtain ⟨x0, _, _, ys0, _, _, hc0⟩ := q2 0 (by omega)
              have hadd0 : a.add (0 * ed.size) = a := by simp [Addr.add]
              rw [hadd0] at hc0
              obtain ⟨hsp, hbl, _, _⟩ := cells?_spec hpos hc0
              obtain ⟨b, off, spot⟩ := a
              simp only at hsp hbl; subst hsp
              refine ⟨b, off, rfl, hbl, ?_⟩
              have : ∀ (es' : List (List AV)) (k : Nat), k + es'.length = len → (∀ i x, es'[i]? = some x → es[k + i]? = some x) → EF (below W) W ed.size es' b (off + k * ed.size) := by
                intro es'
                induction es' with
                | nil => intro k _ _; simp only [EF]
                | cons x r ihr =>
                  intro k hk' hx
                  simp only [EF]
                  obtain ⟨x', r1, _, ys, r2, r3, r4⟩ := q2 k (by simp at hk'; omega)
                  have := hx 0 x rfl
                  rw [Nat.add_zero, r1] at this; injection this with this; subst this
                  rw [Addr.add_mid] at r4
                  obtain ⟨_, _, _, hra⟩ := cells?_spec hpos r4
                  refine ⟨by rw [← r2.length, r3], MF.of r2 hra, ?_⟩
                  have := ihr (k + 1) (by simp at hk'; omega) (fun i z hz => by have := hx (i + 1) z (by simpa using hz); rwa [show k + (i + 1) = k + 1 + i by omega] at this)
                  rwa [show off + (k + 1) * ed.size = off + k * ed.size + ed.size by rw [Nat.add_mul]; omega] at this
              have := this es 0 (by omega) (fun i x h => by simpa using h)
              simpa using this
      | struct fs =>
        rw [hk] at h4
        cases u <;> simp only [tk, reduceCtorEq, TK.struct.injEq] at h4
        subst h4
        rename_i fields
        simp only [hk, Bool.and_eq_true] at hc
        obtain ⟨xs, n, hf, hx, hlen, hxl, hget⟩ := DataW.trod_struct h2 h
        injection hf with hf; subst hf
        subst hx
        simp only [DataW.weights, h2] at hw
        have hcd := cellsOf_td (P := P) hl
        have hin := List.all_eq_true.1 hc.1
        obtain ⟨parts, p1, p2, p3⟩ := consec_partsB (P := P) (f := f) (F := below W) (w := W) (cs := cs) (n := d.size) (by rw [hlen, hcd]) hc.2 (Nat.zero_le _) (fun q hq => by
          obtain ⟨j, hj⟩ := List.getElem?_of_mem hq
          simp only [List.getElem?_map, Array.getElem?_toList] at hj
          cases hfj : fields[j]? with
          | none => simp [hfj] at hj
          | some fl =>
            simp only [hfj, Option.map_some, Option.some.injEq] at hj
            subst hj
            have hg := hget j fl hfj
            have hjl : j < xs.length := by rw [hxl]; exact (Array.getElem?_eq_some_iff.1 hfj).1
            rw [List.getElem?_eq_getElem hjl] at hg
            exact ih _ _ _ (List.contains_iff_mem.1 (hin _ hq)) hg (weightsEach_get hw j _ _ (by simp [hfj]) (by rw [List.getElem?_map, List.getElem?_eq_getElem hjl]; rfl)))
        refine ⟨parts.flatten, ?_, by simpa using p2⟩
        simp only [ShpB, hl, Option.map_some, hk]
        exact ⟨parts, rfl, p1, fun i x q hi hq => (p3 i x q hi hq).2⟩
      | arr n e => simp [hk] at hc
      | ptr e => simp [hk] at hc
      | map k e => simp [hk] at hc
      | iface => simp [hk] at hc
      | other => simp [hk] at hc
end
end Go.Ac
end
section
namespace Go.Proofs.YtigcjinpkngapaaGreatDoor
open Go.Ac
variable {B : Nat}
theorem shpB_str {td : TDs} {f t : Nat} {cs : List AV} (hk : (lk td t).map (fun d : TD => d.k) = some .str) (h : ShpB td B f t cs) : ∃ s, cs = [.v (.string s)] ∧ s.size ≤ B := by
  cases f with
  | zero => exact absurd h (by simp [ShpB])
  | succ f => simp only [ShpB, hk] at h; exact h
theorem shpB_int {td : TDs} {f t : Nat} {k : IntKind} {cs : List AV} (hk : (lk td t).map (fun d : TD => d.k) = some (.int k)) (h : ShpB td B f t cs) : ∃ n, cs = [.v (.int k n)] ∧ (Lit.int k n).wf = true := by
  cases f with
  | zero => exact absurd h (by simp [ShpB])
  | succ f => simp only [ShpB, hk] at h; exact h
theorem shpB_slice {α : Type} {e f t sz0 : Nat} {cs : List AV} {enc : α → List AV} {ok : α → Prop} (hk : (lk td t).map (fun d : TD => d.k) = some (.slice e)) (hz : (lk td e).map (fun d : TD => d.size) = some sz0)
    (he : ∀ {f : Nat} {x : List AV}, ShpB td B f e x → ∃ a, x = enc a ∧ ok a) (h : ShpB td B f t cs) : ∃ l : List α, cs = [.fs sz0 l.length (l.map enc)] ∧ l.length ≤ B ∧ ∀ a ∈ l, ok a := by
  cases f with
  | zero => exact absurd h (by simp [ShpB])
  | succ f =>
    simp only [ShpB, hk] at h
    obtain ⟨sz, es, h1, rfl, hlen, hx⟩ := h
    rw [hz] at h1
    injection h1 with h1
    subst h1
    have : ∃ l : List α, es = l.map enc ∧ ∀ a ∈ l, ok a := by
      clear hlen
      induction es with
      | nil => exact ⟨[], rfl, by simp⟩
      | cons x r ih =>
        obtain ⟨t, rfl, ht⟩ := he (hx x (by simp))
        obtain ⟨l, rfl, hl⟩ := ih (fun y hy => hx y (by simp [hy]))
        refine ⟨t :: l, rfl, fun u hu => ?_⟩
        rcases List.mem_cons.1 hu with rfl | hu
        · exact ht
        · exact hl u hu
    obtain ⟨l, rfl, hl⟩ := this
    exact ⟨l, by simp, by simpa using hlen, hl⟩
end Go.Proofs.YtigcjinpkngapaaGreatDoor
end
section
namespace Go.Proofs.YtigcjinpkngapaaGreatDoor
open Go.Ac
variable {B : Nat}
theorem fitB_span {f : Nat} {cs : List AV} (h : ShpB td B f 53 cs) : ∃ t : Span, cs = spanC t ∧ (InI t.fro ∧ InI t.til) := by
  cases f with
  | zero => exact absurd h (by simp [ShpB])
  | succ f =>
    have hk : (lk td 53).map (fun d : TD => d.k) = some (.struct [(3, 0), (3, 1)]) := rfl
    simp only [ShpB, hk] at h
    obtain ⟨parts, rfl, hl, hp⟩ := h
    match parts, hl with
    | [a, b], _ =>
      obtain ⟨n1, rfl, w1⟩ := shpB_int (k := .i64) rfl (hp 0 a _ rfl rfl)
      obtain ⟨n2, rfl, w2⟩ := shpB_int (k := .i64) rfl (hp 1 b _ rfl rfl)
      exact ⟨⟨n1, n2⟩, rfl, wf64 w1, wf64 w2⟩
theorem fitB_note {f : Nat} {cs : List AV} (h : ShpB td B f 55 cs) : ∃ t : Note, cs = noteC t ∧ InNote t := by
  cases f with
  | zero => exact absurd h (by simp [ShpB])
  | succ f =>
    have hk : (lk td 55).map (fun d : TD => d.k) = some (.struct [(3, 0), (3, 1), (3, 2), (53, 3), (3, 5), (9, 6)]) := rfl
    simp only [ShpB, hk] at h
    obtain ⟨parts, rfl, hl, hp⟩ := h
    match parts, hl with
    | [a, b, c, d, e, g], _ =>
      obtain ⟨n1, rfl, w1⟩ := shpB_int (k := .i64) rfl (hp 0 a _ rfl rfl)
      obtain ⟨n2, rfl, w2⟩ := shpB_int (k := .i64) rfl (hp 1 b _ rfl rfl)
      obtain ⟨n3, rfl, w3⟩ := shpB_int (k := .i64) rfl (hp 2 c _ rfl rfl)
      obtain ⟨s, rfl, w4, w5⟩ := fitB_span (hp 3 d _ rfl rfl)
      obtain ⟨n4, rfl, w6⟩ := shpB_int (k := .i64) rfl (hp 4 e _ rfl rfl)
      obtain ⟨t, rfl, _⟩ := shpB_str rfl (hp 5 g _ rfl rfl)
      exact ⟨⟨n1, n2, n3, s, n4, t⟩, rfl, wf64 w1, wf64 w2, wf64 w3, w4, w5, wf64 w6⟩
theorem fitB_tier {f : Nat} {cs : List AV} (h : ShpB td B f 51 cs) : ∃ t : Tier, cs = tierC t ∧ (InTier t ∧ t.name.size ≤ B) := by
  cases f with
  | zero => exact absurd h (by simp [ShpB])
  | succ f =>
    have hk : (lk td 51).map (fun d : TD => d.k) = some (.struct [(9, 0), (3, 1), (3, 2), (3, 3)]) := rfl
    simp only [ShpB, hk] at h
    obtain ⟨parts, rfl, hl, hp⟩ := h
    match parts, hl with
    | [a, b, c, d], _ =>
      obtain ⟨s, rfl, hs⟩ := shpB_str rfl (hp 0 a _ rfl rfl)
      obtain ⟨n1, rfl, w1⟩ := shpB_int (k := .i64) rfl (hp 1 b _ rfl rfl)
      obtain ⟨n2, rfl, w2⟩ := shpB_int (k := .i64) rfl (hp 2 c _ rfl rfl)
      obtain ⟨n3, rfl, w3⟩ := shpB_int (k := .i64) rfl (hp 3 d _ rfl rfl)
      exact ⟨⟨s, n1, n2, n3⟩, rfl, ⟨wf64 w1, wf64 w2, wf64 w3⟩, hs⟩
theorem fitB_int {f : Nat} {cs : List AV} (h : ShpB td B f 3 cs) : ∃ n : Int, cs = intC n ∧ InI n := by
  obtain ⟨n, rfl, w⟩ := shpB_int (k := .i64) rfl h
  exact ⟨n, rfl, wf64 w⟩
theorem fitB_rec {f : Nat} {cs : List AV} (h : ShpB td B f 24 cs) : ∃ r : Recording, cs = [.v (.int .i64 r.id), .v (.string r.name), .v (.int .i64 r.length), .v (.int .i64 r.day), encIs r.speakers] ∧ ((InI r.id ∧ InI r.length ∧ InI r.day ∧ ∀ n ∈ r.speakers, InI n) ∧ r.name.size ≤ B) := by
  cases f with
  | zero => exact absurd h (by simp [ShpB])
  | succ f =>
    have hk : (lk td 24).map (fun d : TD => d.k) = some (.struct [(3, 0), (9, 1), (3, 2), (3, 3), (22, 4)]) := rfl
    simp only [ShpB, hk] at h
    obtain ⟨parts, rfl, hl, hp⟩ := h
    match parts, hl with
    | [a, b, c, d, e], _ =>
      obtain ⟨n1, rfl, w1⟩ := shpB_int (k := .i64) rfl (hp 0 a _ rfl rfl)
      obtain ⟨s, rfl, hs⟩ := shpB_str rfl (hp 1 b _ rfl rfl)
      obtain ⟨n2, rfl, w2⟩ := shpB_int (k := .i64) rfl (hp 2 c _ rfl rfl)
      obtain ⟨n3, rfl, w3⟩ := shpB_int (k := .i64) rfl (hp 3 d _ rfl rfl)
      obtain ⟨l, rfl, _, hl⟩ := shpB_slice (enc := intC) (ok := InI) rfl rfl (fun h => fitB_int h) (hp 4 e _ rfl rfl)
      exact ⟨⟨n1, s, n2, n3, l⟩, rfl, ⟨wf64 w1, wf64 w2, wf64 w3, hl⟩, hs⟩
theorem fitB_doc (hB : B ≤ 9223372036854775807) {f : Nat} {cs : List AV} (h : ShpB td B f 28 cs) : ∃ d : Doc, cs = docC d ∧ FitI d := by
  cases f with
  | zero => exact absurd h (by simp [ShpB])
  | succ f =>
    have hk : (lk td 28).map (fun d : TD => d.k) = some (.struct [(24, 0), (25, 5), (26, 6)]) := rfl
    simp only [ShpB, hk] at h
    obtain ⟨parts, rfl, hl, hp⟩ := h
    match parts, hl with
    | [a, b, c], _ =>
      obtain ⟨r, rfl, ⟨r1, r2, r3, r4⟩, r5⟩ := fitB_rec (hp 0 a _ rfl rfl)
      obtain ⟨l, rfl, _, hT⟩ := shpB_slice (enc := tierC) (ok := fun t => InTier t ∧ t.name.size ≤ B) rfl rfl (fun h => fitB_tier h) (hp 1 b _ rfl rfl)
      obtain ⟨m, rfl, _, hN⟩ := shpB_slice (enc := noteC) (ok := InNote) rfl rfl (fun h => fitB_note h) (hp 2 c _ rfl rfl)
      exact ⟨⟨r, l, m⟩, rfl, ⟨r1, r2, r3, r4, fun t ht => (hT t ht).1, hN, Nat.le_trans r5 hB, fun t ht => Nat.le_trans (hT t ht).2 hB⟩⟩
end Go.Proofs.YtigcjinpkngapaaGreatDoor
end
