/- A logic of trees over the model's steps, and the contracts of the functions that the laws reach: part 8 of 15. -/
import Derived.Test.YtnacjdaoiepbhaaGreatDoorC7
import Derived.Maps.RangeRun
set_option linter.unusedVariables false
set_option linter.unusedSimpArgs false
set_option linter.unusedSectionVars false
section
namespace Go.Proofs.YtnacjdaoiepbhaaGreatDoor
open Go.Ac Go.MapKept
def GL : List (Nat × List AV) := [(1, [vi 0, vi 1, vi 2]), (7, firstCs), (8, acceptCs), (0, limCs), (2, powCs), (3, errCs), (4, errCs)]
theorem GL_utf : Utf GL := ⟨List.mem_cons_of_mem _ (List.mem_cons_self ..), List.mem_cons_of_mem _ (List.mem_cons_of_mem _ (List.mem_cons_self ..))⟩
abbrev intV (n : Int) : Value := .int .i64 n
theorem intKey : KeyOk Tryz.prog 3 (IsKey (.int .i64)) := KeyOk.plain Tryz.underlying3
theorem intV_inj (a b : Int) (h : intV a = intV b) : a = b := by simpa [intV] using h
theorem intV_R (n : Int) : ∀ c y, R c (vi n) y → y = intV n := by
  intro c y h; simpa only [R] using h
theorem intV_ok (n : Int) : IsKey (.int .i64) (intV n) := rfl
def wkV (k : WK) : Value := .agg #[.int .i64 k.at_.count, .int .i64 k.at_.dev, .int .i64 k.note, .int .i64 k.f]
def isWkV (v : Value) : Prop := ∃ a b c d, v = .agg #[.int .i64 a, .int .i64 b, .int .i64 c, .int .i64 d]
abbrev wkC (s : Stamp) (n f : Int) : List AV := [.v (.int .i64 s.count), .v (.int .i64 s.dev), .v (.int .i64 n), .v (.int .i64 f)]
def wkEq : List Value → List Value → Option Bool
  | [.int .i64 a, .int .i64 b, .int .i64 c, .int .i64 d], [.int .i64 a', .int .i64 b', .int .i64 c', .int .i64 d'] => some ((a == a' && b == b') && (c == c' && d == d'))
  | _, _ => none
theorem wkEq_T : EqT Tryz.prog 172 wkEq := by
  intro xs ys b w h
  unfold wkEq at h
  split at h
  · rename_i a b c d a' b' c' d'
    have h := Option.some.inj h
    subst h
    have u3 := Tryz.underlying3
    have a3 := Tryz.isAgg3
    have z3 := Tryz.sizeOf3
    have a7 := Tryz.isAgg23
    have z7 := Tryz.sizeOf23
    have hS : Tryz.prog.underlying 172 = some (.struct (Tryz.prog.fieldsOf 172)) := by kernel_rfl
    have hsp : ∀ w, (Op.equalIn 9999 23 (.agg #[.int .i64 a, .int .i64 b]) (.agg #[.int .i64 a', .int .i64 b'])).run Tryz.prog w = .ok (a == a' && b == b') w := by
      intro w
      rw [show (9999 : Nat) = 9998 + 1 from rfl, run_equalIn_agg w 9998 _ _ _ (show Tryz.prog.underlying 23 = some (.struct (Tryz.prog.fieldsOf 23)) by kernel_rfl) (by kernel_rfl)]
      simp only [Program.fieldsOf, Tryz.underlying23]
      go_simp
      by_cases h1 : a = a' <;> by_cases h2 : b = b' <;> simp [h1, h2]
    rw [show (10000 : Nat) = 9999 + 1 from rfl, run_equalIn_agg w 9999 _ _ _ hS (by kernel_rfl)]
    simp only [Program.fieldsOf, Tryz.underlying172]
    go_simp
    by_cases h1 : a = a' <;> by_cases h2 : b = b' <;> by_cases h3 : c = c' <;> by_cases h4 : d = d' <;> simp [h1, h2, h3, h4]
  · cases h
theorem stamp_chkN (b : Bool) (n : Nat) (a c : Int) (w : World) : (Instr.checkKey b (n + 2) 23 (.agg #[.int .i64 a, .int .i64 c])).run Tryz.prog w = .ok () w := by
  have h1 := int_chk b n a w
  have h2 := int_chk b n c w
  have a3 := Tryz.isAgg3
  have z3 := Tryz.sizeOf3
  unfold Instr.checkKey
  simp only [Sem.run_bind, run_underlying Tryz.underlying23, Result.andThen_ok]
  have p0 : (part 3 #[Value.int IntKind.i64 a, Value.int IntKind.i64 c] 0).run Tryz.prog w = .ok (.int .i64 a) w := by simp [part, a3, Result.andThen]
  have p1 : (part 3 #[Value.int IntKind.i64 a, Value.int IntKind.i64 c] 1).run Tryz.prog w = .ok (.int .i64 c) w := by simp [part, a3, Result.andThen]
  simp [p0, p1, h1, h2, Result.andThen]
theorem wk_chk (b : Bool) (x y c d : Int) (w : World) : (Instr.checkKey b 10000 172 (.agg #[.int .i64 x, .int .i64 y, .int .i64 c, .int .i64 d])).run Tryz.prog w = .ok () w := by
  have h0 := stamp_chkN b 9997 x y w
  have h1 := int_chk b 9998 c w
  have h2 := int_chk b 9998 d w
  have a3 := Tryz.isAgg3
  have z3 := Tryz.sizeOf3
  have a7 := Tryz.isAgg23
  have z7 := Tryz.sizeOf23
  rw [show (10000 : Nat) = 9999 + 1 from rfl]
  unfold Instr.checkKey
  simp only [Sem.run_bind, run_underlying Tryz.underlying172, Result.andThen_ok]
  have p0 : (part 23 #[Value.int IntKind.i64 x, Value.int IntKind.i64 y, Value.int IntKind.i64 c, Value.int IntKind.i64 d] 0).run Tryz.prog w = .ok (.agg #[.int .i64 x, .int .i64 y]) w := by simp [part, a7, z7, Result.andThen]
  have p1 : (part 3 #[Value.int IntKind.i64 x, Value.int IntKind.i64 y, Value.int IntKind.i64 c, Value.int IntKind.i64 d] 2).run Tryz.prog w = .ok (.int .i64 c) w := by simp [part, a3, Result.andThen]
  have p2 : (part 3 #[Value.int IntKind.i64 x, Value.int IntKind.i64 y, Value.int IntKind.i64 c, Value.int IntKind.i64 d] 3).run Tryz.prog w = .ok (.int .i64 d) w := by simp [part, a3, Result.andThen]
  simp [p0, p1, p2, h0, h1, h2, Result.andThen]
theorem wkKey : KeyOk Tryz.prog 172 isWkV := by
  refine KeyOk.asks Tryz.underlying172 (fun a b _ _ => by rfl) (fun x y w hx hy => ?_) (fun b k w hk => ?_) (fun k hk => ?_)
  · obtain ⟨a, b, c, d, rfl⟩ := hx
    obtain ⟨a', b', c', d', rfl⟩ := hy
    refine ⟨_, wkEq_T [.int .i64 a, .int .i64 b, .int .i64 c, .int .i64 d] [.int .i64 a', .int .i64 b', .int .i64 c', .int .i64 d'] _ w rfl, ?_⟩
    simp [and_assoc]
  · obtain ⟨a, b', c, d, rfl⟩ := hk
    exact wk_chk b a b' c d w
  · obtain ⟨a, b', c, d, rfl⟩ := hk
    simp [Instr.sameBits]
theorem wkV_inj (a b : WK) (h : wkV a = wkV b) : a = b := by
  rcases a with ⟨⟨a1, a2⟩, a3, a4⟩
  rcases b with ⟨⟨b1, b2⟩, b3, b4⟩
  simp [wkV] at h
  obtain ⟨h1, h2, h3, h4⟩ := h
  subst h1 h2 h3 h4; rfl
theorem agg_scal {cs : List AV} {xs : List Value} (h : scalL cs = some xs) : ∀ c y, R c (.agg cs) y → y = .agg xs.toArray := by
  intro c y hy
  simp only [R, RF] at hy
  obtain ⟨ys, rfl, h2⟩ := hy
  have := scalL_LF h h2
  congr 1
  apply Array.ext'
  rw [this]
theorem wkV_R (s : Stamp) (n f : Int) : ∀ c y, R c (.agg (wkC s n f)) y → y = wkV ⟨s, n, f⟩ := agg_scal rfl
theorem wkV_ok (k : WK) : isWkV (wkV k) := ⟨_, _, _, _, rfl⟩
def aks (m : List (Int × Int)) : List Value := m.map fun p => intV p.1
def axs (m : List (Int × Int)) : List AV := m.map fun p => vi p.2
def wks (m : List (WK × Unit)) : List Value := m.map fun p => wkV p.1
def wxs (m : List (WK × Unit)) : List AV := m.map fun _ => vb true
theorem aks_ok (m : List (Int × Int)) : ∀ k ∈ aks m, IsKey (.int .i64) k := by
  intro k hk
  obtain ⟨p, _, rfl⟩ := List.mem_map.1 hk
  exact intV_ok _
theorem wks_ok (m : List (WK × Unit)) : ∀ k ∈ wks m, isWkV k := by
  intro k hk
  obtain ⟨p, _, rfl⟩ := List.mem_map.1 hk
  exact wkV_ok _
theorem aks_nd {m : List (Int × Int)} (h : ANd m) : (aks m).Nodup := h.kv intV_inj
theorem wks_nd {m : List (WK × Unit)} (h : ANd m) : (wks m).Nodup := h.kv wkV_inj
theorem a_look (m : List (Int × Int)) (n : Int) : MLook (aks m) (axs m) (intV n) (vi 0) (vi ((aget m n).getD 0)) (aget m n).isSome := by
  have := look_data (kv := intV) (va := fun v : Int => vi v) intV_inj m n (vi 0)
  cases h : aget m n with
  | none => rw [h] at this; exact this
  | some v => rw [h] at this; exact this
theorem w_look (m : List (WK × Unit)) (k : WK) : MLook (wks m) (wxs m) (wkV k) (vb false) (vb (aget m k).isSome) (aget m k).isSome := by
  have := look_data (kv := wkV) (va := fun _ : Unit => vb true) wkV_inj m k (vb false)
  cases h : aget m k with
  | none => rw [h] at this; exact this
  | some v => rw [h] at this; exact this
theorem a_put (m : List (Int × Int)) (n v : Int) : MPut (aks m) (axs m) (intV n) (vi v) (aks (aput m n v)) (axs (aput m n v)) := put_data (kv := intV) (va := fun v : Int => vi v) intV_inj m n v
theorem w_put (m : List (WK × Unit)) (k : WK) : MPut (wks m) (wxs m) (wkV k) (vb true) (wks (aput m k ())) (wxs (aput m k ())) := put_data (kv := wkV) (va := fun _ : Unit => vb true) wkV_inj m k ()
end Go.Proofs.YtnacjdaoiepbhaaGreatDoor
end
section
namespace Go.Proofs.YtnacjdaoiepbhaaGreatDoor
open Go.Ac Go.MapKept
attribute [local irreducible] awp awpL Ev Ev2 EvS thenQ blockQ retQ PCalls OCalls YieldOk IterC ICalls
def lastS (pre : List Op) : Stamp := match pre.getLast? with
  | some p => p.at_
  | none => ⟨0, 0⟩
abbrev chkL (pre : List Op) : List LB := [.map (aks (addedM pre)) (axs (addedM pre)), .map (wks (writesM pre)) (wxs (writesM pre)), .box [.mp 0, .mp 1, vi (lastS pre).count, vi (lastS pre).dev], .dead]
theorem ord_last {pre : List Op} {o : Op} (h : opE o = 0) : (match pre.getLast? with | some p => less p.at_ o.at_ | none => true) = less (lastS pre) o.at_ := by
  unfold lastS
  cases pre.getLast? with
  | some p => rfl
  | none =>
    have := right_dev (opE_right h)
    simp [less]; omega
theorem lastS_snoc (pre : List Op) (o : Op) : lastS (pre ++ [o]) = o.at_ := by simp [lastS]
theorem rec_get {pre : List Op} (hp : Good pre) (o : Op) : (match addedO pre o.note.id with | some a => decide (a.rec_ = o.rec_) | none => false) = ((aget (addedM pre) o.note.id).isSome && decide ((aget (addedM pre) o.note.id).getD 0 = o.rec_)) := by
  rw [get_added hp]
  cases addedO pre o.note.id with
  | none => rfl
  | some a => simp
theorem fld_get {j : Nat} (h : j < 3) : 0 ≤ (j : Int) ∧ (j : Int) < (3 : Nat) ∧ [vi 0, vi 1, vi 2][(j : Int).toNat]? = some (vi j) := by
  have : j = 0 ∨ j = 1 ∨ j = 2 := by omega
  rcases this with rfl | rfl | rfl <;> exact ⟨by omega, by omega, rfl⟩
theorem wr_upd {o : Op} {m : List (WK × Unit)} {j : Nat} (hj : j < 3) : wrK o m (j + 1) = if writes o o.note.id j then aput (wrK o m j) ⟨o.at_, o.note.id, j⟩ () else wrK o m j := wrK_succ o m j hj
set_option maxRecDepth 8000 in
set_option maxHeartbeats 8000000 in
theorem one_spec (pre : List Op) (o : Op) (hp : Good pre) (hid : I64 o.note.id) : ICalls Tryz.prog (Glo.of GL) 96 [.lp 2 0, .agg (opC o)] (chkL pre) (chkL (if oneE pre o = 0 then pre ++ [o] else pre)) (vi (oneE pre o)) := by
  have hC := Op_spec (g := GL) GL_utf o hid
  refine icalls Tryz.func96 rfl Tryz.ntmps96 rfl rfl rfl rfl rfl rfl ?_
  have n1 : (!true) = false := rfl
  have n2 : (!false) = true := rfl
  by_cases hE : opE o = 0
  case neg =>
    have c0 : (!decide (opE o = 0)) = true := by simp [hE]
    rw [oneE_bad hE, if_neg hE]
    refine runn [0] ?_
    exact retI rfl ⟨rfl, rfl⟩
  case pos =>
  have c0 : (!decide (opE o = 0)) = false := by simp [hE]
  have hL := Less_spec (g := GL) (lastS pre) o.at_
  have hord := ord_last (pre := pre) hE
  cases ha : less (lastS pre) o.at_ with
  | false =>
    rw [ha] at hL hord
    rw [oneE_10 hE hord, if_neg (by omega)]
    refine run [0] ?_
    exact retI rfl ⟨rfl, rfl⟩
  | true =>
  rw [ha] at hL hord
  have hrec := rec_get hp o
  have hlook := a_look (addedM pre) o.note.id
  have hand := aks_nd (addedM_nd pre)
  have hwnd := wks_nd (writesM_nd pre)
  have hwr : ∀ s n f, (aget (writesM pre) ⟨s, n, f⟩).isSome = writer pre s n f := get_writes pre
  have h16 := opE_over hE
  have z3 : zeroOf Tryz.prog 3 = some (.int .i64 0) := by kernel_rfl
  have z4 : zeroOf Tryz.prog 4 = some (.bool false) := by kernel_rfl
  refine run [0] ?_
  have rest : o.kind ≠ 0 → ∀ b, ((aget (addedM pre) o.note.id).isSome && decide ((aget (addedM pre) o.note.id).getD 0 = o.rec_)) = b → (match addedO pre o.note.id with | some a => decide (a.rec_ = o.rec_) | none => false) = b := fun _ b h => hrec.trans h
  by_cases hbad : o.kind ≠ 0 ∧ ((aget (addedM pre) o.note.id).isSome && decide ((aget (addedM pre) o.note.id).getD 0 = o.rec_)) = false
  case pos =>
    obtain ⟨hk, hb⟩ := hbad
    have d0 : (!decide (o.kind = 0)) = true := by simp [hk]
    rw [oneE_9 hE hord hk (hrec.trans hb), if_neg (by omega)]
    cases hs : (aget (addedM pre) o.note.id).isSome with
    | false =>
      rw [hs] at hlook
      repeat' (first
       | ((with_reducible refine isD_un ?_); refine awpD_un (as_pure rfl (by repeat' (first | exact Msk.nil | apply Msk.base | apply Msk.vis rfl | apply Msk.hid rfl)) (ev_lookup intKey rfl rfl rfl (intV_R _) rfl rfl z3 rfl (aks_ok _) (intV_ok _) hlook hand rfl) rfl rfl rfl) (by (try simp only [List.nil_append, List.cons_append]); (try rfl)) ?_)
       | refine st [0] ?_
       | fail)
      exact retI rfl ⟨rfl, rfl⟩
    | true =>
      rw [hs, Bool.true_and] at hb
      rw [hs] at hlook
      have d1 : (!decide ((aget (addedM pre) o.note.id).getD 0 = o.rec_)) = true := by rw [hb]; rfl
      repeat' (first
       | ((with_reducible refine isD_un ?_); refine awpD_un (as_pure rfl (by repeat' (first | exact Msk.nil | apply Msk.base | apply Msk.vis rfl | apply Msk.hid rfl)) (ev_lookup intKey rfl rfl rfl (intV_R _) rfl rfl z3 rfl (aks_ok _) (intV_ok _) hlook hand rfl) rfl rfl rfl) (by (try simp only [List.nil_append, List.cons_append]); (try rfl)) ?_)
       | refine st [0] ?_
       | fail)
      exact retI rfl ⟨rfl, rfl⟩
  case neg =>
  have hgood : o.kind ≠ 0 → (aget (addedM pre) o.note.id).isSome = true ∧ (aget (addedM pre) o.note.id).getD 0 = o.rec_ := fun hk => by
    cases hb : ((aget (addedM pre) o.note.id).isSome && decide ((aget (addedM pre) o.note.id).getD 0 = o.rec_)) with
    | false => exact absurd ⟨hk, hb⟩ hbad
    | true => simpa using hb
  refine awp_cut 5 [(0, .lp 2 0), (3, .fp (opC o))] (chkL pre ++ [.pin]) ?_ ?_
  · by_cases hk : o.kind = 0
    · have d0 : (!decide (o.kind = 0)) = false := by simp [hk]
      refine runn [0] ?_
      exact ⟨(.cons rfl rfl (.cons rfl rfl .nil)), rfl, rfl, rfl⟩
    · have d0 : (!decide (o.kind = 0)) = true := by simp [hk]
      obtain ⟨g1, g2⟩ := hgood hk
      rw [g1] at hlook
      have d1 : (!decide ((aget (addedM pre) o.note.id).getD 0 = o.rec_)) = false := by simp [g2]
      repeat' (first
       | ((with_reducible refine isD_un ?_); refine awpD_un (as_pure rfl (by repeat' (first | exact Msk.nil | apply Msk.base | apply Msk.vis rfl | apply Msk.hid rfl)) (ev_lookup intKey rfl rfl rfl (intV_R _) rfl rfl z3 rfl (aks_ok _) (intV_ok _) hlook hand rfl) rfl rfl rfl) (by (try simp only [List.nil_append, List.cons_append]); (try rfl)) ?_)
       | refine st [0] ?_
       | fail)
      exact ⟨(.cons rfl rfl (.cons rfl rfl .nil)), rfl, rfl, rfl⟩
  have hone : oneE pre o = if o.over.all (overOk pre o) = true then 0 else 27 := by
    by_cases hk : o.kind = 0
    · have h0 : o.over = [] := by
        have : wanted (decide (o.over.length = 0)) = 0 := by
          have h := hE
          unfold opE at h
          rw [if_neg (by simp [opE_right hE]), if_pos hk] at h
          split at h
          · omega
          · exact (firstE3' _ _ _ h).2.2
        unfold wanted at this
        split at this
        · rename_i q; simpa using q
        · omega
      rw [oneE_add hE hord hk, h0]; rfl
    · obtain ⟨g1, g2⟩ := hgood hk
      have hb : (match addedO pre o.note.id with | some a => decide (a.rec_ = o.rec_) | none => false) = true := hrec.trans (by rw [g1, g2]; simp)
      cases hc : o.over.all (overOk pre o) with
      | true => rw [oneE_0 hE hord hk hb hc]; rfl
      | false => rw [oneE_27 hE hord hk hb hc]; rfl
  repeat' (first
   | refine stn [0] ?_
   | ((with_reducible refine is_awp ?_); refine awp_cond rfl (fun h => ?_) (fun h => ?_))
   | fail)
  refine awp_cutBP 5 (o.over.all (overOk pre o) = true) [(0, .lp 2 0), (3, .fp (opC o))] (chkL pre ++ [.pin]) ?_ ?_
  · refine awp_for (α := Nat) 5 (fun k => [(0, .lp 2 0), (3, .fp (opC o)), (51, encStamps o.over), (52, vi o.over.length), (53, vi k)]) (fun _ => chkL pre ++ [.pin]) (fun k => k ≤ o.over.length ∧ o.over.all (overOk pre o) = (o.over.drop k).all (overOk pre o)) (fun k => o.over.length - k) 0
      ⟨(.cons rfl rfl (.cons rfl rfl (.cons rfl rfl (.cons rfl rfl (.cons rfl rfl .nil))))), rfl, rfl, rfl⟩ ⟨Nat.zero_le _, rfl⟩ ?_
    rintro k ⟨hkl, hall⟩
    cases ht : o.over[k]? with
    | none =>
      have hge : o.over.length ≤ k := by simpa using ht
      have c1 : decide ((k : Int) < o.over.length) = false := decide_eq_false (by omega)
      rw [List.drop_of_length_le hge] at hall
      refine runn [0] ?_
      exact ⟨hall, ⟨(.cons rfl rfl (.cons rfl rfl .nil)), rfl, rfl, rfl⟩⟩
    | some t =>
      have hltk : k < o.over.length := (List.getElem?_eq_some_iff.1 ht).1
      have c1 : decide ((k : Int) < o.over.length) = true := decide_eq_true (by omega)
      have g3 := stamp_get ht
      rw [all_drop _ _ k t ht] at hall
      repeat' (first
       | refine stn [0] ?_
       | ((with_reducible refine is_awp ?_); refine awp_cond rfl (fun h => ?_) (fun h => ?_))
       | fail)
      refine awp_cutB 5 [(0, .lp 2 0), (3, .fp (opC o)), (51, encStamps o.over), (52, vi o.over.length), (53, vi k), (10, vb (overOk pre o t))] (chkL pre ++ [.pin]) ?_ ?_
      · refine awp_for (α := Nat) 5 (fun j => [(0, .lp 2 0), (3, .fp (opC o)), (51, encStamps o.over), (52, vi o.over.length), (53, vi k), (9, .fp (stampC t)), (57, .agg [vi 0, vi 1, vi 2]), (58, vi j), (10, vb (anyK (okF pre o t) j))]) (fun _ => chkL pre ++ [.pin]) (fun j => j ≤ 3) (fun j => 3 - j) 0
          ⟨(.cons rfl rfl (.cons rfl rfl (.cons rfl rfl (.cons rfl rfl (.cons rfl rfl (.cons rfl rfl (.cons rfl rfl (.cons rfl rfl (.cons rfl rfl .nil))))))))), rfl, rfl, rfl⟩ (by omega) ?_
        intro j hj
        by_cases hj3 : j = 3
        · subst hj3
          have c2 : decide (((3 : Nat) : Int) < 3) = false := rfl
          refine runn [0] ?_
          exact ⟨(.cons rfl rfl (.cons rfl rfl (.cons rfl rfl (.cons rfl rfl (.cons rfl rfl (.cons rfl rfl .nil)))))), rfl, rfl, rfl⟩
        · have c2 : decide ((j : Int) < 3) = true := decide_eq_true (by omega)
          have hfj := fld_get (j := j) (by omega)
          have hS := anyK_succ (okF pre o t) (j := j) (by omega)
          have hw := w_look (writesM pre) ⟨t, o.note.id, j⟩
          rw [hwr] at hw
          cases hacc : anyK (okF pre o t) j with
          | true =>
            rw [hacc, Bool.true_or] at hS
            repeat' (first
             | ((with_reducible refine is_un ?_); refine awpL_ev (ev_index_arr rfl rfl rfl rfl rfl rfl rfl hfj) rfl ?_)
             | ((with_reducible refine is_draw ?_); refine awp_drawT 25 (by simp only [List.take_succ_cons, List.take_zero, List.take_nil]; rfl) (by simp only [List.drop_succ_cons, List.drop_zero, List.drop_nil]; rfl) (by kernel_rfl) rfl rfl rfl rfl (by repeat' (first | exact Strip.nil | apply Strip.keep rfl | apply Strip.drop rfl)) ?_)
             | refine st [0] ?_
             | fail)
            exact ⟨j + 1, ⟨(.cons rfl rfl (.cons rfl rfl (.cons rfl rfl (.cons rfl rfl (.cons rfl rfl (.cons rfl rfl (.cons rfl rfl (.cons rfl rfl (.cons rfl (by rw [hS]; rfl) .nil))))))))), rfl, rfl, rfl⟩, by omega, by omega⟩
          | false =>
            rw [hacc, Bool.false_or] at hS
            by_cases k2 : o.kind = 2
            · have e1 : decide (o.kind = 2) = true := decide_eq_true k2
              rw [okF, e1, Bool.true_or, Bool.true_and] at hS
              repeat' (first
               | ((with_reducible refine is_un ?_); refine awpL_ev (ev_index_arr rfl rfl rfl rfl rfl rfl rfl hfj) rfl ?_)
               | ((with_reducible refine isD_un ?_); refine awpD_un (as_pure rfl (by repeat' (first | exact Msk.nil | apply Msk.base | apply Msk.vis rfl | apply Msk.hid rfl)) (ev_lookup wkKey rfl rfl rfl (wkV_R _ _ _) rfl rfl z4 rfl (wks_ok _) (wkV_ok _) hw hwnd rfl) rfl rfl rfl) (by (try simp only [List.nil_append, List.cons_append]); (try rfl)) ?_)
               | ((with_reducible refine isD_gd ?_); refine awpD_gd rfl rfl (by first | with_reducible rfl | with_reducible assumption) (as_pure rfl (by repeat' (first | exact Msk.nil | apply Msk.base | apply Msk.vis rfl | apply Msk.hid rfl)) (ev_lookup wkKey rfl rfl rfl (wkV_R _ _ _) rfl rfl z4 rfl (wks_ok _) (wkV_ok _) hw hwnd rfl) rfl rfl rfl) (by (try simp only [List.nil_append, List.cons_append]); (try rfl)) ?_)
               | ((with_reducible refine is_draw ?_); refine awp_drawT 25 (by simp only [List.take_succ_cons, List.take_zero, List.take_nil]; rfl) (by simp only [List.drop_succ_cons, List.drop_zero, List.drop_nil]; rfl) (by kernel_rfl) rfl rfl rfl rfl (by repeat' (first | exact Strip.nil | apply Strip.keep rfl | apply Strip.drop rfl)) ?_)
               | refine st [0] ?_
               | fail)
              exact ⟨j + 1, ⟨(.cons rfl rfl (.cons rfl rfl (.cons rfl rfl (.cons rfl rfl (.cons rfl rfl (.cons rfl rfl (.cons rfl rfl (.cons rfl rfl (.cons rfl (by rw [hS]; rfl) .nil))))))))), rfl, rfl, rfl⟩, by omega, by omega⟩
            · have e1 : decide (o.kind = 2) = false := decide_eq_false k2
              by_cases k3 : (j : Int) = o.set
              · have e2 : decide ((j : Int) = o.set) = true := decide_eq_true k3
                rw [okF, e1, e2, Bool.false_or, Bool.true_and] at hS
                repeat' (first
                 | ((with_reducible refine is_un ?_); refine awpL_ev (ev_index_arr rfl rfl rfl rfl rfl rfl rfl hfj) rfl ?_)
                 | ((with_reducible refine isD_un ?_); refine awpD_un (as_pure rfl (by repeat' (first | exact Msk.nil | apply Msk.base | apply Msk.vis rfl | apply Msk.hid rfl)) (ev_lookup wkKey rfl rfl rfl (wkV_R _ _ _) rfl rfl z4 rfl (wks_ok _) (wkV_ok _) hw hwnd rfl) rfl rfl rfl) (by (try simp only [List.nil_append, List.cons_append]); (try rfl)) ?_)
                 | ((with_reducible refine isD_gd ?_); refine awpD_gd rfl rfl (by first | with_reducible rfl | with_reducible assumption) (as_pure rfl (by repeat' (first | exact Msk.nil | apply Msk.base | apply Msk.vis rfl | apply Msk.hid rfl)) (ev_lookup wkKey rfl rfl rfl (wkV_R _ _ _) rfl rfl z4 rfl (wks_ok _) (wkV_ok _) hw hwnd rfl) rfl rfl rfl) (by (try simp only [List.nil_append, List.cons_append]); (try rfl)) ?_)
                 | ((with_reducible refine is_draw ?_); refine awp_drawT 25 (by simp only [List.take_succ_cons, List.take_zero, List.take_nil]; rfl) (by simp only [List.drop_succ_cons, List.drop_zero, List.drop_nil]; rfl) (by kernel_rfl) rfl rfl rfl rfl (by repeat' (first | exact Strip.nil | apply Strip.keep rfl | apply Strip.drop rfl)) ?_)
                 | refine st [0] ?_
                 | fail)
                exact ⟨j + 1, ⟨(.cons rfl rfl (.cons rfl rfl (.cons rfl rfl (.cons rfl rfl (.cons rfl rfl (.cons rfl rfl (.cons rfl rfl (.cons rfl rfl (.cons rfl (by rw [hS]; rfl) .nil))))))))), rfl, rfl, rfl⟩, by omega, by omega⟩
              · have e2 : decide ((j : Int) = o.set) = false := decide_eq_false k3
                rw [okF, e1, e2, Bool.false_or, Bool.false_and] at hS
                repeat' (first
                 | ((with_reducible refine is_un ?_); refine awpL_ev (ev_index_arr rfl rfl rfl rfl rfl rfl rfl hfj) rfl ?_)
                 | ((with_reducible refine is_draw ?_); refine awp_drawT 25 (by simp only [List.take_succ_cons, List.take_zero, List.take_nil]; rfl) (by simp only [List.drop_succ_cons, List.drop_zero, List.drop_nil]; rfl) (by kernel_rfl) rfl rfl rfl rfl (by repeat' (first | exact Strip.nil | apply Strip.keep rfl | apply Strip.drop rfl)) ?_)
                 | refine st [0] ?_
                 | fail)
                exact ⟨j + 1, ⟨(.cons rfl rfl (.cons rfl rfl (.cons rfl rfl (.cons rfl rfl (.cons rfl rfl (.cons rfl rfl (.cons rfl rfl (.cons rfl rfl (.cons rfl (by rw [hS]; rfl) .nil))))))))), rfl, rfl, rfl⟩, by omega, by omega⟩
      · cases hov : overOk pre o t with
        | true =>
          rw [hov, Bool.true_and] at hall
          refine runn [0] ?_
          exact ⟨k + 1, ⟨(.cons rfl rfl (.cons rfl rfl (.cons rfl rfl (.cons rfl rfl (.cons rfl rfl .nil))))), rfl, rfl, rfl⟩, ⟨by omega, hall⟩, by omega⟩
        | false =>
          rw [hov, Bool.false_and] at hall
          rw [hone, if_neg (by rw [hall]; simp), if_neg (by omega)]
          refine runn [0] ?_
          exact retI rfl ⟨rfl, rfl⟩
  intro hall
  rw [hone, if_pos hall, if_pos rfl]
  refine runn [0] ?_
  refine awp_cut 5 [(0, .lp 2 0), (3, .fp (opC o))] [.map (aks (addedM (pre ++ [o]))) (axs (addedM (pre ++ [o]))), .map (wks (writesM pre)) (wxs (writesM pre)), .box [.mp 0, .mp 1, vi o.at_.count, vi o.at_.dev], .dead, .pin] ?_ ?_
  · rw [addedM_snoc, addM]
    by_cases hk : o.kind = 0
    · have d0 : decide (o.kind = 0) = true := decide_eq_true hk
      rw [if_pos hk]
      have hput := a_put (addedM pre) o.note.id o.rec_
      repeat' (first
       | ((with_reducible refine is_un ?_); refine awpL_evS (ev_mapUpd (L' := [.map (aks (aput (addedM pre) o.note.id o.rec_)) (axs (aput (addedM pre) o.note.id o.rec_)), .map (wks (writesM pre)) (wxs (writesM pre)), .box [.mp 0, .mp 1, vi o.at_.count, vi o.at_.dev], .dead, .pin]) intKey rfl rfl rfl (intV_R _) rfl rfl rfl rfl (aks_ok _) (intV_ok _) hput hand rfl) ?_)
       | ((with_reducible refine is_draw ?_); refine awp_drawT 9 (by simp only [List.take_succ_cons, List.take_zero, List.take_nil]; rfl) (by simp only [List.drop_succ_cons, List.drop_zero, List.drop_nil]; rfl) (by kernel_rfl) rfl rfl rfl rfl (by repeat' (first | exact Strip.nil | apply Strip.keep rfl | apply Strip.drop rfl)) ?_)
       | refine st [0] ?_
       | fail)
      exact ⟨(.cons rfl rfl (.cons rfl rfl .nil)), rfl, rfl, rfl⟩
    · have d0 : decide (o.kind = 0) = false := decide_eq_false hk
      rw [if_neg hk]
      refine runn [0] ?_
      exact ⟨(.cons rfl rfl (.cons rfl rfl .nil)), rfl, rfl, rfl⟩
  generalize hA : addedM (pre ++ [o]) = A at *
  repeat' (first
   | refine stn [0] ?_
   | ((with_reducible refine is_awp ?_); refine awp_cond rfl (fun h => ?_) (fun h => ?_))
   | fail)
  refine awp_for (α := Nat) 5 (fun j => [(0, .lp 2 0), (3, .fp (opC o)), (107, .agg [vi 0, vi 1, vi 2]), (108, vi j)]) (fun j => [.map (aks A) (axs A), .map (wks (wrK o (writesM pre) j)) (wxs (wrK o (writesM pre) j)), .box [.mp 0, .mp 1, vi o.at_.count, vi o.at_.dev], .dead, .pin]) (fun j => j ≤ 3) (fun j => 3 - j) 0
    ⟨(.cons rfl rfl (.cons rfl rfl (.cons rfl rfl (.cons rfl rfl .nil)))), rfl, rfl, rfl⟩ (by omega) ?_
  intro j hj
  by_cases hj3 : j = 3
  · subst hj3
    have c2 : decide (((3 : Nat) : Int) < 3) = false := rfl
    refine runn [0] ?_
    refine retI rfl ⟨rfl, ?_⟩
    simp only [chkL, hA, writesM_snoc, lastS_snoc]; rfl
  · have c2 : decide ((j : Int) < 3) = true := decide_eq_true (by omega)
    have hfj := fld_get (j := j) (by omega)
    have hW := Writes_spec (g := GL) o o.note.id j
    have hS := wr_upd (o := o) (m := writesM pre) (j := j) (by omega)
    have hnd2 := wks_nd (wrK_nd (o := o) (writesM_nd pre) j)
    cases hw : writes o o.note.id j with
    | false =>
      rw [hw] at hW hS
      rw [if_neg (by simp)] at hS
      repeat' (first
       | ((with_reducible refine is_un ?_); refine awpL_ev (ev_index_arr rfl rfl rfl rfl rfl rfl rfl hfj) rfl ?_)
       | refine stn [0] ?_
       | fail)
      exact ⟨j + 1, ⟨(.cons rfl rfl (.cons rfl rfl (.cons rfl rfl (.cons rfl rfl .nil)))), by rw [hS]; rfl, rfl, rfl⟩, by omega, by omega⟩
    | true =>
      rw [hw] at hW hS
      rw [if_pos rfl] at hS
      have hput := w_put (wrK o (writesM pre) j) ⟨o.at_, o.note.id, j⟩
      rw [← hS] at hput
      repeat' (first
       | ((with_reducible refine is_un ?_); (first | refine awpL_ev (ev_index_arr rfl rfl rfl rfl rfl rfl rfl hfj) rfl ?_ | refine awpL_evS (ev_mapUpd (L' := [.map (aks A) (axs A), .map (wks (wrK o (writesM pre) (j + 1))) (wxs (wrK o (writesM pre) (j + 1))), .box [.mp 0, .mp 1, vi o.at_.count, vi o.at_.dev], .dead, .pin]) wkKey rfl rfl rfl (wkV_R _ _ _) rfl rfl rfl rfl (wks_ok _) (wkV_ok _) hput hnd2 rfl) ?_))
       | ((with_reducible refine is_draw ?_); refine awp_drawT 11 (by simp only [List.take_succ_cons, List.take_zero, List.take_nil]; rfl) (by simp only [List.drop_succ_cons, List.drop_zero, List.drop_nil]; rfl) (by kernel_rfl) rfl rfl rfl rfl (by repeat' (first | exact Strip.nil | apply Strip.keep rfl | apply Strip.drop rfl)) ?_)
       | refine st [0] ?_
       | fail)
      exact ⟨j + 1, ⟨(.cons rfl rfl (.cons rfl rfl (.cons rfl rfl (.cons rfl rfl .nil)))), rfl, rfl, rfl⟩, by omega, by omega⟩
end Go.Proofs.YtnacjdaoiepbhaaGreatDoor
end
section
namespace Go.Proofs.YtnacjdaoiepbhaaGreatDoor
open Go.Ac Go.MapKept
attribute [local irreducible] awp awpL Ev Ev2 EvS thenQ blockQ retQ PCalls OCalls YieldOk IterC ICalls
theorem JoinP_nn {g : List (Nat × List AV)} : PCalls Tryz.prog g 61 [nilS, nilS] (encIs (seenL [])) := by
  have := (Join_nn (g := g)).toP
  rw [List.length_map] at this
  exact this
theorem SeeP {g : List (Nat × List AV)} (v : List Int) (s : Stamp) (hv : v.length ≤ 1000000) : PCalls Tryz.prog g 65 [encIs v, .agg (stampC s)] (encIs (see v s)) := by
  have := (See_spec (g := g) v s hv).toP
  rw [List.length_map] at this
  exact this
set_option maxRecDepth 4000 in
set_option maxHeartbeats 4000000 in
theorem Check_spec (r : Replica) (hs : r.seen.length ≤ 1000000) (hid : Ids r.ops) : PCalls Tryz.prog GL 66 [.agg (repC r)] (vi (repE r)) := by
  refine pcalls' Tryz.func66 Tryz.ntmps66 rfl rfl rfl ?_
  have n1 : (!true) = false := rfl
  have n2 : (!false) = true := rfl
  by_cases h1 : r.dev < 1
  · have c1 : decide (r.dev < 1) = true := decide_eq_true h1
    refine runn [3] ?_
    refine retP rfl ?_
    rw [repE, if_pos (by simp [within]; omega)]; rfl
  have c1 : decide (r.dev < 1) = false := decide_eq_false h1
  by_cases h2 : 15 < r.dev
  · have c2 : decide (15 < r.dev) = true := decide_eq_true h2
    refine runn [3] ?_
    refine retP rfl ?_
    rw [repE, if_pos (by simp [within]; omega)]; rfl
  have c2 : decide (15 < r.dev) = false := decide_eq_false h2
  have hw : ¬ within r.dev 1 15 = false := by simp [within]; omega
  by_cases h4 : 400 < r.ops.length
  · have c3 : decide ((400 : Int) < r.ops.length) = true := decide_eq_true (by omega)
    refine runn [3] ?_
    refine retP rfl ?_
    rw [repE, if_neg hw, if_pos h4]; rfl
  have c3 : decide ((400 : Int) < r.ops.length) = false := decide_eq_false (by omega)
  have hE : repE r = if allE [] r.ops ≠ 0 then allE [] r.ops else if r.seen ≠ seenL r.ops then 1 else 0 := by rw [repE, if_neg hw, if_neg h4]
  rw [hE]
  have hJ := JoinP_nn (g := GL)
  repeat' (first
   | ((with_reducible refine is_un ?_); refine awpL_ev2 (ev_mkmap (by (try simp only [List.length_nil, List.length_cons, Nat.reduceAdd]); (try rfl)) (by (try simp only [List.set_cons_zero, List.set_cons_succ, List.nil_append, List.cons_append, List.append_nil, cellsOf, List.take_zero, List.drop_zero, List.take_succ_cons, List.drop_succ_cons, Nat.zero_add, Nat.reduceAdd, List.drop_nil, List.map_cons, List.map_nil]); (try rfl))) rfl ?_)
   | refine stn [3] ?_
   | ((with_reducible refine is_awp ?_); refine awp_cond rfl (fun h => ?_) (fun h => ?_))
   | fail)
  refine awp_for (α := Nat) 3 (fun k => [(1, .fp (repC r)), (3, .lp 2 0), (4, encIs (seenL (r.ops.take k))), (25, encOps r.ops), (26, vi r.ops.length), (27, vi k)])
    (fun k => [.map (aks (addedM (r.ops.take k))) (axs (addedM (r.ops.take k))), .map (wks (writesM (r.ops.take k))) (wxs (writesM (r.ops.take k))), .box [.mp 0, .mp 1, vi (lastS (r.ops.take k)).count, vi (lastS (r.ops.take k)).dev]])
    (fun k => k ≤ r.ops.length ∧ allE [] r.ops = allE (r.ops.take k) (r.ops.drop k) ∧ Good (r.ops.take k)) (fun k => r.ops.length - k) 0
    ⟨(.cons rfl rfl (.cons rfl rfl (.cons rfl rfl (.cons rfl rfl (.cons rfl rfl (.cons rfl rfl .nil)))))), rfl, rfl, rfl⟩ ⟨Nat.zero_le _, rfl, Good.nil⟩ ?_
  rintro k ⟨hk, hf, hg⟩
  cases ht : r.ops[k]? with
  | none =>
    have hge : r.ops.length ≤ k := by simpa using ht
    have c4 : decide ((k : Int) < r.ops.length) = false := decide_eq_false (by omega)
    rw [List.drop_of_length_le hge, allE_nil] at hf
    have hQ := eqInts_spec (g := GL) r.seen (seenL (r.ops.take k)) hs (by rw [seenL_len]; omega)
    rw [hf, if_neg (by simp)]
    have hte : r.ops.take k = r.ops := List.take_of_length_le hge
    by_cases he : r.seen = seenL r.ops
    · have he2 : decide (r.seen = seenL (r.ops.take k)) = true := by rw [hte]; exact decide_eq_true he
      rw [he2] at hQ
      rw [if_neg (by simpa using he)]
      refine runn [3] ?_
      exact retP rfl rfl
    · have he2 : decide (r.seen = seenL (r.ops.take k)) = false := by rw [hte]; exact decide_eq_false he
      rw [he2] at hQ
      rw [if_pos he]
      refine runn [3] ?_
      exact retP rfl rfl
  | some o =>
    have hlt : k < r.ops.length := (List.getElem?_eq_some_iff.1 ht).1
    have c4 : decide ((k : Int) < r.ops.length) = true := decide_eq_true (by omega)
    have g1 := op_get ht
    have hO := one_spec (r.ops.take k) o hg (hid o (List.mem_of_getElem? ht))
    have hS := SeeP (g := GL) (seenL (r.ops.take k)) o.at_ (by rw [seenL_len]; omega)
    rw [drop_get ht] at hf
    by_cases he : oneE (r.ops.take k) o = 0
    · have c5 : (!decide (oneE (r.ops.take k) o = 0)) = false := by simp [he]
      rw [allE_ok he, ← take_snoc ht] at hf
      rw [if_pos he, ← take_snoc ht] at hO
      rw [← seenL_snoc, ← take_snoc ht] at hS
      repeat' (first
       | ((with_reducible refine is_un ?_); refine awpL_icall rfl hO rfl ?_)
       | refine stn [3] ?_
       | fail)
      exact ⟨k + 1, ⟨(.cons rfl rfl (.cons rfl rfl (.cons rfl rfl (.cons rfl rfl (.cons rfl rfl (.cons rfl rfl .nil)))))), rfl, rfl, rfl⟩, ⟨by omega, hf, by rw [take_snoc ht]; exact hg.snoc he⟩, by omega⟩
    · have c5 : (!decide (oneE (r.ops.take k) o = 0)) = true := by simp [he]
      rw [allE_bad he] at hf
      rw [if_neg he] at hO
      repeat' (first
       | ((with_reducible refine is_un ?_); refine awpL_icall rfl hO rfl ?_)
       | refine stn [3] ?_
       | fail)
      refine retP rfl ?_
      rw [hf, if_pos he]; rfl
end Go.Proofs.YtnacjdaoiepbhaaGreatDoor
end
section
namespace Go.Proofs.YtnacjdaoiepbhaaGreatDoor
open Go.Ac
attribute [local irreducible] awp awpL Ev Ev2 EvS thenQ blockQ retQ PCalls OCalls YieldOk IterC
variable {g : List (Nat × List AV)}
abbrev valC (v : Val) : List AV := [vi v.at_.count, vi v.at_.dev, vi v.n, vs v.text]
abbrev encVals (l : List Val) : AV := .fs 4 l.length (l.map valC)
theorem val_get {l : List Val} {k : Nat} {x : Val} (h : l[k]? = some x) : 0 ≤ (k : Int) ∧ (l.map valC)[(k : Int).toNat]? = some (valC x) := ⟨by omega, by simp [h]⟩
set_option maxHeartbeats 2000000 in
theorem Value_spec (o : Op) (f : Int) : PCalls Tryz.prog g 50 [.agg (opC o), vi f] (.agg (valC (valueOf o f))) := by
  have h1 := wr_spec (g := g) o f
  have n1 : (!true) = false := rfl
  have n2 : (!false) = true := rfl
  refine pcalls' Tryz.func50 Tryz.ntmps50 rfl rfl rfl ?_
  cases hw : wrt o f with
  | false =>
    rw [hw] at h1
    repeat' (first
     | refine st [4, 5] ?_
     | ((with_reducible refine is_gd ?_); refine awpL_split rfl rfl (fun h => ?_) (fun h => ?_))
     | ((with_reducible refine isD_gd ?_); ((fail_if_success (refine isD_kn (c := true) rfl (by first | with_reducible rfl | with_reducible assumption) ?_)); (fail_if_success (refine isD_kn (c := false) rfl (by first | with_reducible rfl | with_reducible assumption) ?_)); refine awpD_split rfl (fun h => ?_) (fun h => ?_)))
     | ((with_reducible refine is_awp ?_); refine awp_cond rfl (fun h => ?_) (fun h => ?_))
     | fail)
    refine retP rfl ?_
    unfold valueOf
    rw [if_pos hw]
    rfl
  | true =>
    rw [hw] at h1
    have hv : valueOf o f = ⟨o.at_, if f = 0 then 0 else if o.kind = 0 then (if f = 1 then o.note.span.fro else o.note.span.til) else o.n, if f = 0 then (if o.kind = 0 then o.note.text else o.text) else .empty⟩ := by unfold valueOf; rw [if_neg (by simp [hw])]
    have hf : f = 0 ∨ f = 1 ∨ f = 2 := by
      simp only [wrt, within, Bool.and_eq_true, decide_eq_true_eq] at hw
      omega
    by_cases hk : o.kind = 0
    · have k1 : decide (o.kind = 0) = true := decide_eq_true hk
      rcases hf with rfl | rfl | rfl
      · have f0 : decide ((0 : Int) = 0) = true := rfl
        have f1 : decide ((0 : Int) = 1) = false := rfl
        have f2 : decide ((0 : Int) = 2) = false := rfl
        rw [show valueOf o 0 = ⟨o.at_, 0, o.note.text⟩ by rw [hv]; simp [hk]]
        repeat' (first
         | ((with_reducible refine is_draw ?_); refine awp_drawT 5 (by simp only [List.take_succ_cons, List.take_zero, List.take_nil]; rfl) (by simp only [List.drop_succ_cons, List.drop_zero, List.drop_nil]; rfl) (by kernel_rfl) rfl rfl rfl rfl (by repeat' (first | exact Strip.nil | apply Strip.keep rfl | apply Strip.drop rfl)) ?_)
         | refine st [4, 5] ?_
         | ((with_reducible refine is_gd ?_); refine awpL_split rfl rfl (fun h => ?_) (fun h => ?_))
         | ((with_reducible refine isD_gd ?_); ((fail_if_success (refine isD_kn (c := true) rfl (by first | with_reducible rfl | with_reducible assumption) ?_)); (fail_if_success (refine isD_kn (c := false) rfl (by first | with_reducible rfl | with_reducible assumption) ?_)); refine awpD_split rfl (fun h => ?_) (fun h => ?_)))
         | ((with_reducible refine is_awp ?_); refine awp_cond rfl (fun h => ?_) (fun h => ?_))
         | fail)
        exact retP rfl rfl
      · have f0 : decide ((1 : Int) = 0) = false := rfl
        have f1 : decide ((1 : Int) = 1) = true := rfl
        rw [show valueOf o 1 = ⟨o.at_, o.note.span.fro, .empty⟩ by rw [hv]; simp [hk]]
        repeat' (first
         | ((with_reducible refine is_draw ?_); refine awp_drawT 5 (by simp only [List.take_succ_cons, List.take_zero, List.take_nil]; rfl) (by simp only [List.drop_succ_cons, List.drop_zero, List.drop_nil]; rfl) (by kernel_rfl) rfl rfl rfl rfl (by repeat' (first | exact Strip.nil | apply Strip.keep rfl | apply Strip.drop rfl)) ?_)
         | refine st [4, 5] ?_
         | ((with_reducible refine is_gd ?_); refine awpL_split rfl rfl (fun h => ?_) (fun h => ?_))
         | ((with_reducible refine isD_gd ?_); ((fail_if_success (refine isD_kn (c := true) rfl (by first | with_reducible rfl | with_reducible assumption) ?_)); (fail_if_success (refine isD_kn (c := false) rfl (by first | with_reducible rfl | with_reducible assumption) ?_)); refine awpD_split rfl (fun h => ?_) (fun h => ?_)))
         | ((with_reducible refine is_awp ?_); refine awp_cond rfl (fun h => ?_) (fun h => ?_))
         | fail)
        exact retP rfl rfl
      · have f0 : decide ((2 : Int) = 0) = false := rfl
        have f1 : decide ((2 : Int) = 1) = false := rfl
        have f2 : decide ((2 : Int) = 2) = true := rfl
        rw [show valueOf o 2 = ⟨o.at_, o.note.span.til, .empty⟩ by rw [hv]; simp [hk]]
        repeat' (first
         | ((with_reducible refine is_draw ?_); refine awp_drawT 5 (by simp only [List.take_succ_cons, List.take_zero, List.take_nil]; rfl) (by simp only [List.drop_succ_cons, List.drop_zero, List.drop_nil]; rfl) (by kernel_rfl) rfl rfl rfl rfl (by repeat' (first | exact Strip.nil | apply Strip.keep rfl | apply Strip.drop rfl)) ?_)
         | refine st [4, 5] ?_
         | ((with_reducible refine is_gd ?_); refine awpL_split rfl rfl (fun h => ?_) (fun h => ?_))
         | ((with_reducible refine isD_gd ?_); ((fail_if_success (refine isD_kn (c := true) rfl (by first | with_reducible rfl | with_reducible assumption) ?_)); (fail_if_success (refine isD_kn (c := false) rfl (by first | with_reducible rfl | with_reducible assumption) ?_)); refine awpD_split rfl (fun h => ?_) (fun h => ?_)))
         | ((with_reducible refine is_awp ?_); refine awp_cond rfl (fun h => ?_) (fun h => ?_))
         | fail)
        exact retP rfl rfl
    · have k1 : decide (o.kind = 0) = false := decide_eq_false hk
      by_cases hf0 : f = 0
      · have f0 : decide (f = 0) = true := decide_eq_true hf0
        rw [show valueOf o f = ⟨o.at_, 0, o.text⟩ by rw [hv]; simp [hk, hf0]]
        repeat' (first
         | refine st [4, 5] ?_
         | ((with_reducible refine is_gd ?_); refine awpL_split rfl rfl (fun h => ?_) (fun h => ?_))
         | ((with_reducible refine isD_gd ?_); ((fail_if_success (refine isD_kn (c := true) rfl (by first | with_reducible rfl | with_reducible assumption) ?_)); (fail_if_success (refine isD_kn (c := false) rfl (by first | with_reducible rfl | with_reducible assumption) ?_)); refine awpD_split rfl (fun h => ?_) (fun h => ?_)))
         | ((with_reducible refine is_awp ?_); refine awp_cond rfl (fun h => ?_) (fun h => ?_))
         | fail)
        exact retP rfl rfl
      · have f0 : decide (f = 0) = false := decide_eq_false hf0
        rw [show valueOf o f = ⟨o.at_, o.n, .empty⟩ by rw [hv]; simp [hk, hf0]]
        repeat' (first
         | refine st [4, 5] ?_
         | ((with_reducible refine is_gd ?_); refine awpL_split rfl rfl (fun h => ?_) (fun h => ?_))
         | ((with_reducible refine isD_gd ?_); ((fail_if_success (refine isD_kn (c := true) rfl (by first | with_reducible rfl | with_reducible assumption) ?_)); (fail_if_success (refine isD_kn (c := false) rfl (by first | with_reducible rfl | with_reducible assumption) ?_)); refine awpD_split rfl (fun h => ?_) (fun h => ?_)))
         | ((with_reducible refine is_awp ?_); refine awp_cond rfl (fun h => ?_) (fun h => ?_))
         | fail)
        exact retP rfl rfl
set_option maxHeartbeats 1000000 in
theorem Added_spec (r : Replica) (n : Int) (hl : r.ops.length ≤ 1000000) : PCalls Tryz.prog g 58 [.agg (repC r), vi n] (addedV (addedO r.ops n)) := by
  refine pcalls' Tryz.func58 Tryz.ntmps58 rfl rfl rfl ?_
  repeat' (first
   | refine stn [4] ?_
   | ((with_reducible refine is_gd ?_); refine awpL_split rfl rfl (fun h => ?_) (fun h => ?_))
   | ((with_reducible refine is_awp ?_); refine awp_cond rfl (fun h => ?_) (fun h => ?_))
   | fail)
  refine awp_for (α := Nat) 1 (fun k => [(1, vi n), (4, .lp 0 0), (9, encOps r.ops), (10, vi r.ops.length), (11, vi k)]) (fun k => [.box zeroOpC]) (fun k => k ≤ r.ops.length ∧ addedO r.ops n = (r.ops.drop k).find? fun o => decide (o.kind = 0) && decide (o.note.id = n)) (fun k => r.ops.length - k) 0
    ⟨(.cons rfl rfl (.cons rfl rfl (.cons rfl rfl (.cons rfl rfl (.cons rfl rfl .nil))))), rfl, rfl, rfl⟩ ⟨Nat.zero_le _, rfl⟩ ?_
  rintro k ⟨hk, hf⟩
  cases ht : r.ops[k]? with
  | none =>
    have hge : r.ops.length ≤ k := by simpa using ht
    have c1 : decide ((k : Int) < r.ops.length) = false := decide_eq_false (by omega)
    rw [List.drop_of_length_le hge] at hf
    repeat' (first
     | refine stn [4] ?_
     | ((with_reducible refine is_gd ?_); refine awpL_split rfl rfl (fun h => ?_) (fun h => ?_))
     | ((with_reducible refine is_awp ?_); refine awp_cond rfl (fun h => ?_) (fun h => ?_))
     | fail)
    refine retLe rfl ?_
    rw [hf]
    exact Le.tup (.cons (Le.agg le_zeroOp) (.cons (Le.rfl' _) .nil))
  | some x =>
    have hlt : k < r.ops.length := (List.getElem?_eq_some_iff.1 ht).1
    have c1 : decide ((k : Int) < r.ops.length) = true := decide_eq_true (by omega)
    have h1 := op_get ht
    rw [find_drop _ r.ops k x ht] at hf
    by_cases hk0 : x.kind = 0
    · have d1 : decide (x.kind = 0) = true := decide_eq_true hk0
      by_cases hid : x.note.id = n
      · have d2 : decide (x.note.id = n) = true := decide_eq_true hid
        rw [d1, d2] at hf
        repeat' (first
         | refine stn [4] ?_
         | ((with_reducible refine is_gd ?_); refine awpL_split rfl rfl (fun h => ?_) (fun h => ?_))
         | ((with_reducible refine is_awp ?_); refine awp_cond rfl (fun h => ?_) (fun h => ?_))
         | fail)
        refine retP rfl ?_
        rw [hf]; rfl
      · have d2 : decide (x.note.id = n) = false := decide_eq_false hid
        rw [d1, d2] at hf
        repeat' (first
         | refine stn [4] ?_
         | ((with_reducible refine is_gd ?_); refine awpL_split rfl rfl (fun h => ?_) (fun h => ?_))
         | ((with_reducible refine is_awp ?_); refine awp_cond rfl (fun h => ?_) (fun h => ?_))
         | fail)
        exact ⟨k + 1, ⟨(.cons rfl rfl (.cons rfl rfl (.cons rfl rfl (.cons rfl rfl (.cons rfl rfl .nil))))), rfl, rfl, rfl⟩, ⟨by omega, hf⟩, by omega⟩
    · have d1 : decide (x.kind = 0) = false := decide_eq_false hk0
      rw [d1] at hf
      repeat' (first
       | refine stn [4] ?_
       | ((with_reducible refine is_gd ?_); refine awpL_split rfl rfl (fun h => ?_) (fun h => ?_))
       | ((with_reducible refine is_awp ?_); refine awp_cond rfl (fun h => ?_) (fun h => ?_))
       | fail)
      exact ⟨k + 1, ⟨(.cons rfl rfl (.cons rfl rfl (.cons rfl rfl (.cons rfl rfl (.cons rfl rfl .nil))))), rfl, rfl, rfl⟩, ⟨by omega, hf⟩, by omega⟩
end Go.Proofs.YtnacjdaoiepbhaaGreatDoor
end
section
namespace Go.Ac
open Go.MapKept Go.ChangeMaps
section
variable {P : Program} {td : TDs} [T : TOK P td] {G : Glo} {N : Nat} {Q : AQ} {S : SL} {L : List LB} {ops : Array Oper} {rest : List Oper}
  {op : Op} {ty : TypeId} {pos : String} {af : Array Edge} {d : Nat} {x : AV}
theorem births_nodup {clock : Nat} {es : List MapEntry} (h : Births clock es) : (es.map (·.born)).Nodup := by
  rw [List.nodup_iff_pairwise_ne, List.pairwise_map]
  exact h.1.imp fun g e => by omega
theorem awpL_bare {km : Nat} {ks : List Value} {xs : List AV} {l : List Oper} (hm : L[km]? = some (.map ks xs))
    (kk : ∀ (m ck : Nat) (bs : List Nat), bs.Nodup → bs.length = xs.length → ks.length = xs.length → awpL P G N ops l Q S (L.set km (.mapb m ck bs ks xs))) : awpL P G N ops l Q S L := by
  intro cx a hc
  have hb := hc.st.blk _ _ hm
  simp only [BR] at hb
  obtain ⟨h0, b, es, clock, h1, h2, h3, h4⟩ := hb
  obtain ⟨p1, p2, p3⟩ := h4.get
  have hst := hc.st.wr (k := km) (b := b) (w' := cx.w) h1 rfl rfl rfl rfl (fun _ _ => rfl) (fun arr T h => ⟨arr, h, rfl⟩) (by rw [hm]; simp) (x := .mapb b clock (es.toList.map (·.born)) ks xs)
    (fun _ => by simp only [BR]; exact ⟨h0, h1, es, h2, h3, rfl, h4⟩)
  exact wpListIn_mono (fun e a w q => q.trans hst.ext) _ _ _ (kk b clock _ (births_nodup h3) (by rw [List.length_map, p2]) (by rw [p1, List.length_map, p2]) cx a (hst.cn hc))
theorem mapb_R {cx : Cx} (st : St G cx L) {km m ck : Nat} {bs : List Nat} {ks : List Value} {xs : List AV} (hm : L[km]? = some (.mapb m ck bs ks xs)) :
    cx.ver km = 0 ∧ cx.φ km = some m ∧ ∃ es, cx.w.heap[m]? = some (.map es ck) ∧ Births ck es.toList ∧ es.toList.map (·.born) = bs ∧ PF cx.F cx.w ks xs es.toList := by
  have hb := st.blk _ _ hm
  simpa only [BR] using hb
theorem ev_range_mapb {t kt e km m ck k : Nat} {dd : TD} {u : Operand} {bs : List Nat} {ks : List Value} {xs : List AV} {L' : List LB} (h : val G S u = some (.mp km)) (hm : L[km]? = some (.mapb m ck bs ks xs)) (ht : lk td t = some dd) (hs : dd.k = .map kt e)
    (hk : L.length = k) (hL : L ++ [.obj (.mapIter (some m) ck #[] ck)] = L') : Ev2 P G N (.range t u) ty S L (.lp k 0) L' := by
  subst hk hL
  intro o ho _ cx a hc
  have e1 := val_R hc h
  obtain ⟨h0, h1, es, h2, h3, h5, h4⟩ := mapb_R hc.st hm
  simp only [R] at e1
  obtain ⟨hd, _, hx⟩ := e1
  obtain ⟨b, g1, e1⟩ := hx h0
  rw [h1] at g1; injection g1 with g1; subst g1
  have A := Alloc.alloc cx.w (.mapIter (some m) ck #[] ck)
  have hb : BR G (cx.new L.length (cx.w.alloc (.mapIter (some m) ck #[] ck)) 0 0) L.length (.obj (.mapIter (some m) ck #[] ck)) := by
    simp only [BR]
    exact ⟨by simp [Cx.new], cx.w.heap.size, by simp [Cx.new], A.new⟩
  refine ⟨.pointer (some ⟨cx.w.heap.size, 0, none⟩), cx.new L.length (cx.w.alloc (.mapIter (some m) ck #[] ck)) 0 0, ?_, ?_, hc.st.new A 0 0 hb⟩
  · have q1 := map_desc (P := P) ht hs
    have hg : (getObj m).run P cx.w = .ok (.map es ck) cx.w := by simp [getObj, Sem.run, h2]
    simp [execOp, ho, e1, Instr.range, run_underlying q1, Result.andThen, hg, run_newObj, Cx.new]
  · simp only [R]; exact ⟨by simp [Cx.new], rfl, fun _ => ⟨cx.w.heap.size, by simp [Cx.new], rfl⟩⟩
theorem awpL_nextM {u : Operand} {k km m ck : Nat} {bs seen : List Nat} {ks : List Value} {xs : List AV} (h : val G S u = some (.lp k 0)) (hk : L[k]? = some (.obj (.mapIter (some m) ck seen.toArray ck))) (km' : Nat) (hkm : km' = km) (hm : L[km]? = some (.mapb m ck bs ks xs)) (hd : Nat.blt d N = true)
    (hT : ∀ (i b : Nat) (x : AV), bs[i]? = some b → b ∉ seen → xs[i]? = some x → awpL P G N ops rest Q ((d, .tup [.v (.bool true), .any, x]) :: S) (L.set k (.obj (.mapIter (some m) ck (seen ++ [b]).toArray ck))))
    (hF : (∀ b ∈ bs, b ∈ seen) → awpL P G N ops rest Q ((d, .tup [.v (.bool false)]) :: S) L) :
    awpL P G N ops (⟨some d, .next u false, ty, pos, af, none⟩ :: rest) Q S L := by
  intro cx a hc
  obtain ⟨bi, e1, h1, h2, h3⟩ := iter_R hc h hk
  obtain ⟨g0, g1, es, g2, g3, g5, g4⟩ := mapb_R hc.st hm
  obtain ⟨p1, p2, p3⟩ := g4.get
  have hne : bi ≠ m := fun e => by rw [e, g2] at h3; cases h3
  refine wpListIn_plain rfl fun K hK => wpIn_of_run rfl ?_
  rcases run_next_at (P := P) cx.w ty bi m ck ck seen.toArray es ck h3 g2 (fun x hx => g3.2 x hx) (Nat.le_refl _) with ⟨hz, hr⟩ | ⟨e, he, w1, hw1, hr⟩
  · have hrun : (execOp a.eval ⟨some d, .next u false, ty, pos, af, none⟩).run P cx.w = .ok (.value (.tuple #[.bool false])) cx.w := by simp [execOp, e1, hr, Result.andThen]
    rw [hrun, Oper.uponIn_value]
    refine hK _ _ (hF (fun b hb => ?_) cx _ (hc.put hd (by simp only [R]; exact ⟨_, rfl, by simp only [TR, R]; exact ⟨_, _, rfl, rfl, rfl⟩⟩)))
    rw [← g5] at hb
    obtain ⟨x, hx, rfl⟩ := List.mem_map.1 hb
    have : (leftOf es seen.toArray) = #[] := Array.eq_empty_of_size_eq_zero hz
    unfold leftOf at this
    rw [Array.filter_eq_empty_iff] at this
    have := this x (by simpa using hx)
    simpa using this
  · have hrun : (execOp a.eval ⟨some d, .next u false, ty, pos, af, none⟩).run P cx.w = .ok (.value (.tuple #[.bool true, e.key, e.val])) (setBlock w1 bi (.mapIter (some m) ck (seen ++ [e.born]).toArray ck)) := by
      rw [show (seen ++ [e.born]).toArray = seen.toArray.push e.born by simp]
      simp [execOp, e1, hr, Result.andThen]
    rw [hrun, Oper.uponIn_value]
    have hlt : bi < cx.w.heap.size := (hc.st.loc k bi h1).2.2
    have hheap : w1.heap = cx.w.heap ∧ w1.os = cx.w.os ∧ w1.tape = cx.w.tape ∧ w1.output = cx.w.output := by rcases hw1 with rfl | rfl <;> exact ⟨rfl, rfl, rfl, rfl⟩
    obtain ⟨q1, q2, q3, q4⟩ := hheap
    have hst := hc.st.wr (k := k) (b := bi) (w' := setBlock w1 bi (.mapIter (some m) ck (seen ++ [e.born]).toArray ck)) h1 q2 q3 q4 (by simp [setBlock, q1]) (fun b' h => by simp [setBlock, q1, Ne.symm h]) (fun arr T h => by rw [h3] at h; cases h) (by rw [hk]; simp) (x := .obj (.mapIter (some m) ck (seen ++ [e.born]).toArray ck))
      (fun _ => by simp only [BR]; exact ⟨h2, bi, h1, by simp [setBlock, q1, hlt]⟩)
    unfold leftOf at he
    simp only [Array.toList_filter, List.mem_filter] at he
    obtain ⟨hem, hes⟩ := he
    obtain ⟨i, hi⟩ := List.getElem?_of_mem hem
    obtain ⟨x, hx, hrx⟩ := p3 i e hi
    refine hK _ _ (wpListIn_mono (fun e a w q => q.trans hst.ext) _ _ _ (hT i e.born x (by rw [← g5, List.getElem?_map, hi]; rfl) (by simpa using hes) hx _ _ ((hst.cn hc).put hd ?_)))
    simp only [R]
    refine ⟨_, rfl, ?_⟩
    simp only [TR, R]
    refine ⟨_, _, rfl, rfl, _, _, rfl, trivial, _, _, rfl, ?_, rfl⟩
    have hrx' := RF.mono hst.sub.F hst.sub.heap x e.val hrx
    exact R.of_RF _ _ _ hrx'
end
end Go.Ac
namespace Go.Ac
open Go.MapKept Go.ChangeMaps
section
variable {P : Program} {td : TDs} [T : TOK P td] {G : Glo} {N : Nat} {Q : AQ} {S : SL} {L : List LB} {ty : TypeId}
theorem ev_entry {u : Operand} {k km m ck i b : Nat} {bs seen : List Nat} {ks : List Value} {xs : List AV} {x : AV} (h : val G S u = some (.lp k 0)) (hk : L[k]? = some (.obj (.mapIter (some m) ck (seen ++ [b]).toArray ck))) (km' : Nat) (hkm : km' = km) (hm : L[km]? = some (.mapb m ck bs ks xs))
    (hn : bs.Nodup) (hb : bs[i]? = some b) (hx : xs[i]? = some x) : Ev P G N (.entry u) ty S L (.tup [.any, x]) := by
  intro o ho _ cx a hc
  obtain ⟨bi, e1, h1, h2, h3⟩ := iter_R hc h hk
  obtain ⟨g0, g1, es, g2, g3, g5, g4⟩ := mapb_R hc.st hm
  obtain ⟨p1, p2, p3⟩ := g4.get
  rw [← g5, List.getElem?_map] at hb
  cases he : es.toList[i]? with
  | none => rw [he] at hb; cases hb
  | some e =>
    rw [he] at hb
    have hb : e.born = b := by simpa using hb
    obtain ⟨y, hy, hry⟩ := p3 i e he
    rw [hx] at hy; cases hy
    have hr := run_entry_at (P := P) cx.w bi m ck seen.toArray es ck e (by rw [h3, ← hb]; simp) g2 (List.mem_of_getElem? he) (by rw [g5]; exact hn)
    refine ⟨.tuple #[e.key, e.val], by simp [execOp, ho, e1, hr, Result.andThen], ?_⟩
    simp only [R]
    refine ⟨_, rfl, ?_⟩
    simp only [TR, R]
    exact ⟨_, _, rfl, trivial, _, _, rfl, R.of_RF _ _ _ hry, rfl⟩
end
end Go.Ac
namespace Go.Ac
section
variable {P : Program} {td : TDs} [T : TOK P td] {G : Glo} {N : Nat} {Q : AQ} {S : SL} {L L' : List LB} {ops : Array Oper} {rest : List Oper}
  {op : Op} {ty : TypeId} {pos : String} {af : Array Edge} {x : AV}
theorem awpL_ev2n (h : Ev2 P G N op ty S L x L') (k : awpL P G N ops rest Q S L') (hnd : nd op = true := by rfl) :
    awpL P G N ops (⟨none, op, ty, pos, af, none⟩ :: rest) Q S L := by
  intro cx a hc
  obtain ⟨y, cx', hr, hx, hst⟩ := h ⟨none, op, ty, pos, af, none⟩ rfl rfl cx a hc
  refine wpListIn_plain rfl fun K hK => wpIn_of_run hnd ?_
  rw [hr, Oper.uponIn_value]
  refine hK _ _ (wpListIn_mono (fun e a w q => q.trans hst.ext) _ _ _ (k cx' _ ?_))
  have := hst.cn hc
  exact ⟨this.st, this.de, by simpa [Act.put] using this.sz, by simpa [Act.put] using this.sr⟩
end
def seenOf (bs ord : List Nat) : List Nat := ord.map fun i => (bs[i]?).getD 0
theorem seenOf_snoc {bs ord : List Nat} {i b : Nat} (hb : bs[i]? = some b) : seenOf bs (ord ++ [i]) = seenOf bs ord ++ [b] := by simp [seenOf, hb]
theorem seenOf_new {bs ord : List Nat} {i b : Nat} (hb : bs[i]? = some b) (h : b ∉ seenOf bs ord) : i ∉ ord := fun hi => h (List.mem_map.2 ⟨i, hi, by rw [hb]; rfl⟩)
theorem seenOf_all {bs ord : List Nat} (hn : bs.Nodup) (hlt : ∀ j ∈ ord, j < bs.length) (h : ∀ b ∈ bs, b ∈ seenOf bs ord) : ∀ i, i < bs.length → i ∈ ord := by
  intro i hi
  obtain ⟨j, hj, e⟩ := List.mem_map.1 (h bs[i] (List.getElem_mem hi))
  have hjl := hlt j hj
  rw [List.getElem?_eq_getElem hjl] at e
  have : j = i := nodup_idx hn (x := bs[i]) (by rw [List.getElem?_eq_getElem hjl]; exact congrArg some e) (List.getElem?_eq_getElem hi)
  exact this ▸ hj
structure Ord (n : Nat) (ord : List Nat) : Prop where
  nd : ord.Nodup
  lt : ∀ i ∈ ord, i < n
theorem Ord.nil (n : Nat) : Ord n [] := ⟨List.nodup_nil, fun _ h => by cases h⟩
theorem Ord.snoc {n : Nat} {ord : List Nat} (h : Ord n ord) {i : Nat} (hi : i < n) (hn : i ∉ ord) : Ord n (ord ++ [i]) :=
  ⟨List.nodup_append.2 ⟨h.nd, by simp, fun a ha b hb e => by simp only [List.mem_singleton] at hb; subst hb e; exact hn ha⟩, fun j hj => by
    rcases List.mem_append.1 hj with g | g
    · exact h.lt j g
    · simp only [List.mem_singleton] at g; omega⟩
theorem Ord.len {n : Nat} : ∀ {ord : List Nat}, Ord n ord → ord.length ≤ n := by
  induction n with
  | zero =>
    intro ord h
    cases ord with
    | nil => exact Nat.le_refl _
    | cons i r => exact absurd (h.lt i (List.mem_cons_self ..)) (by omega)
  | succ n ih =>
    intro ord h
    have h2 : Ord n (ord.filter (· ≠ n)) := ⟨h.nd.sublist List.filter_sublist, fun i hi => by
      obtain ⟨h1, h2⟩ := List.mem_filter.1 hi
      have := h.lt i h1
      have h2 : i ≠ n := by simpa using h2
      omega⟩
    have h3 := ih h2
    have : ord.length ≤ (ord.filter (· ≠ n)).length + 1 := by
      have hc : ord.count n ≤ 1 := List.nodup_iff_count.1 h.nd n
      have he := List.length_eq_countP_add_countP (p := fun i => decide (i ≠ n)) (l := ord)
      rw [← List.countP_eq_length_filter, he]
      have : ord.countP (fun i => decide ¬(decide (i ≠ n) = true)) = ord.count n := by
        unfold List.count
        exact List.countP_congr fun i _ => by simp
      omega
    omega
theorem Ord.perm {n : Nat} {ord : List Nat} (h : Ord n ord) (hall : ∀ i, i < n → i ∈ ord) : ord.Perm (List.range n) :=
  (List.perm_ext_iff_of_nodup h.nd List.nodup_range).2 fun i => by rw [List.mem_range]; exact ⟨h.lt i, hall i⟩
theorem range_get {α : Type} (l : List α) (d : α) : (List.range l.length).map (fun i => (l[i]?).getD d) = l := by
  apply List.ext_getElem?
  intro i
  rw [List.getElem?_map]
  rcases Nat.lt_or_ge i l.length with h | h
  · rw [List.getElem?_range h]; simp [List.getElem?_eq_getElem h]
  · rw [List.getElem?_eq_none (by simpa using h), List.getElem?_eq_none h]; rfl
def come {α : Type} [Inhabited α] (l : List α) (ord : List Nat) : List α := ord.map fun i => (l[i]?).getD default
theorem come_snoc {α : Type} [Inhabited α] {l : List α} {ord : List Nat} {i : Nat} {x : α} (h : l[i]? = some x) : come l (ord ++ [i]) = come l ord ++ [x] := by simp [come, h]
theorem come_perm {α : Type} [Inhabited α] {l : List α} {ord : List Nat} (h : Ord l.length ord) (hall : ∀ i, i < l.length → i ∈ ord) : (come l ord).Perm l := by
  have h1 := (h.perm hall).map fun i => (l[i]?).getD default
  rw [range_get] at h1
  exact h1
end Go.Ac
end
