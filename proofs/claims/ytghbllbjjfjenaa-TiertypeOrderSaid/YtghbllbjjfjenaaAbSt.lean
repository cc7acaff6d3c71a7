/- A store into an element of an own slice. -/
import Derived.Test.YtghbllbjjfjenaaAbGo
namespace Go.Ab
set_option linter.unusedSectionVars false
set_option linter.unusedVariables false
set_option linter.unusedSimpArgs false
set_option linter.unnecessarySimpa false

theorem MF.mk {F : Nat → Prop} {w : World} : ∀ {cs : List AV} {b off : Nat}, (∀ i x, cs[i]? = some x → ∃ u, w.cell? ⟨b, off + i, none⟩ = some u ∧ RF F w x u ∧ u.oneCell' = true) → MF F w cs b off
  | [], _, _, _ => by simp only [MF]
  | x0 :: r, b, off, h => by
    simp only [MF]
    exact ⟨h 0 x0 rfl, MF.mk fun i x hi => by have := h (i + 1) x (by simpa using hi); rwa [show off + (i + 1) = off + 1 + i by omega] at this⟩
theorem EF.mk {F : Nat → Prop} {w : World} {sz : Nat} : ∀ {es : List (List AV)} {b off : Nat}, (∀ i e, es[i]? = some e → e.length = sz ∧ MF F w e b (off + i * sz)) → EF F w sz es b off
  | [], _, _, _ => by simp only [EF]
  | e :: r, b, off, h => by
    simp only [EF]
    have h0 := h 0 e rfl
    refine ⟨h0.1, by simpa using h0.2, EF.mk fun i x hi => ?_⟩
    have := h (i + 1) x (by simpa using hi)
    rwa [show off + (i + 1) * sz = off + sz + i * sz by rw [Nat.add_mul]; omega] at this

section
variable {P : Program} {td : TDs} [T : TOK P td] {G : List (Nat × List AV)} {N : Nat} {Q : AQ} {S : SL} {L : List LB}
  {op : Op} {ty : TypeId} {x : AV}

theorem ev_st_ep {t : Nat} {d : TD} {u e : Operand} {k i q E sz : Nat} {es : List (List AV)} {el el' : List AV} {L' : List LB} (h : val G S u = some (.ep k i q)) (hk : L[k]? = some (.own E sz es)) (he : val G S e = some x) (hfx : fit x = true) (hF : (cellsOf x).all isF = true)
    (ht : lk td t = some d) (hn : (cellsOf x).length = d.size) (hq : Nat.ble (q + d.size) sz = true) (hel : es[i]? = some el) (hel' : el.take q ++ cellsOf x ++ el.drop (q + d.size) = el') (hL : L.set k (.own E sz (es.set i el')) = L') :
    EvS P G N (.store t u e) ty S L S L' := by
  subst hL
  replace hq := Nat.le_of_ble_eq_true hq
  intro o ho _ cx a hc
  have e1 := val_R hc h
  have hx := val_R hc he
  have hcs := cells_R hx (fit_cells hfx)
  have hLF := LF_of_LR hF hcs
  have hb := hc.st.blk _ _ hk
  simp only [R] at e1
  simp only [BR] at hb
  obtain ⟨hk', b, hb', e1⟩ := e1
  obtain ⟨hsz, hln, hb⟩ := hb
  rcases hb with ⟨h0, _⟩ | ⟨b2, arr, hb2, hh, hl, hm⟩
  · rw [h0] at hb'; cases hb'
  rw [hb'] at hb2; injection hb2 with hb2; subst hb2
  rw [hsz] at e1
  have hil := (List.getElem?_eq_some_iff.1 hel).1
  have hfit : i * sz + sz ≤ arr.size := by
    have : (i + 1) * sz ≤ es.length * sz := Nat.mul_le_mul_right _ hil
    rw [Nat.add_mul] at this; omega
  obtain ⟨hell, hmel⟩ := hm.get hel
  rw [Nat.zero_add] at hmel
  have hvl : (a.eval e).cells.size = d.size := by rw [← hn, ← hcs.length]; simp
  have hr := run_storeAt' (P := P) (off := i * sz + q) ht hh hvl (by omega) hcs.one
  generalize hcur : (arr.toList.take (i * sz + q) ++ (a.eval e).cells.toList ++ arr.toList.drop (i * sz + q + (a.eval e).cells.size)).toArray = cur at hr
  have hcs' : cur.size = arr.size := by rw [← hcur]; simp; omega
  have hs := SubX.row' hc.st hb' hh hcs'
  have hh' := setRow_heap cx.w b arr cur E (0, 0) hh
  have hget : ∀ j, cur[j]? = if j < i * sz + q then arr[j]? else if j < i * sz + q + (a.eval e).cells.size then (a.eval e).cells[j - (i * sz + q)]? else arr[j]? := by
    intro j
    have := splice_get (arr := arr.toList) (vs := (a.eval e).cells.toList) (off := i * sz + q) (j := j) (by simp; omega)
    rw [← hcur]
    simpa using this
  have old : ∀ {cs : List AV} {r : Nat} {z : AV} {off : Nat}, MF cx.F cx.w cs b off → cs[r]? = some z → cur[off + r]? = arr[off + r]? → ∃ u, (cx.w.setRow b cur).cell? ⟨b, off + r, none⟩ = some u ∧ RF cx.F (cx.w.setRow b cur) z u ∧ u.oneCell' = true := by
    intro cs r z off hM hz heq
    obtain ⟨y, h2, h3, h4⟩ := hM.get hz
    rw [cell_of_row _ _ _ _ _ _ hh] at h2
    exact ⟨y, by rw [cell_of_row _ _ _ _ _ _ hh', heq]; exact h2, RF.mono hs.F hs.heap _ _ h3, h4⟩
  have hbr : BR { cx with w := cx.w.setRow b cur } k (.own E sz (es.set i el')) := by
    simp only [BR]
    refine ⟨hsz, by simpa using hln, .inr ⟨b, cur, hb', hh', by simpa [hcs'] using hl, ?_⟩⟩
    refine EF.mk fun j f hj => ?_
    rw [Nat.zero_add]
    rw [List.getElem?_set] at hj
    split at hj
    · rename_i hij
      subst hij
      injection hj with hj; subst hj
      refine ⟨by rw [← hel']; simp; omega, MF.mk fun r z hz => ?_⟩
      rw [← hel'] at hz
      have hl2 : (el.take q).length = q := by rw [List.length_take]; omega
      by_cases c1 : r < q
      · rw [List.append_assoc, List.getElem?_append_left (by omega), List.getElem?_take, if_pos c1] at hz
        exact old hmel hz (by rw [hget, if_pos (by omega)])
      · by_cases c2 : r < q + d.size
        · rw [List.append_assoc, List.getElem?_append_right (by omega), hl2, List.getElem?_append_left (by omega)] at hz
          obtain ⟨y, h3, h4, h5⟩ := hcs.get hz
          have hisz : isF z = true := List.all_eq_true.1 hF z (List.mem_of_getElem? hz)
          refine ⟨y, ?_, RF.mono hs.F hs.heap _ _ (RF_of_R hisz h4), h5⟩
          rw [cell_of_row _ _ _ _ _ _ hh', hget, if_neg (by omega), if_pos (by omega)]
          rw [show i * sz + r - (i * sz + q) = r - q by omega]
          simpa using h3
        · rw [List.getElem?_append_right (by simp; omega), List.getElem?_drop] at hz
          have : q + d.size + (r - (el.take q ++ cellsOf x).length) = r := by simp; omega
          rw [this] at hz
          exact old hmel hz (by rw [hget, if_neg (by omega), if_neg (by omega)])
    · rename_i hij
      obtain ⟨g1, g2⟩ := hm.get hj
      rw [Nat.zero_add] at g2
      refine ⟨g1, MF.mk fun r z hz => old g2 hz ?_⟩
      have hr' : r < sz := by have := (List.getElem?_eq_some_iff.1 hz).1; omega
      rw [hget]
      rcases Nat.lt_or_ge j i with h5 | h5
      · have : (j + 1) * sz ≤ i * sz := Nat.mul_le_mul_right _ h5
        rw [Nat.add_mul] at this
        rw [if_pos (by omega)]
      · have : (i + 1) * sz ≤ j * sz := Nat.mul_le_mul_right _ (by omega)
        rw [Nat.add_mul] at this
        rw [if_neg (by omega), if_neg (by omega)]
  obtain ⟨st', ex⟩ := hc.st.write hb' hh hcs' hbr
  exact ⟨{ cx with w := cx.w.setRow b cur }, by simp only [execOp, ho, e1, Sem.run_bind, hr, Result.andThen_ok, Sem.run_pure], st', ex, hc.sr.mono_all hs⟩
end

section
variable {P : Program} {G : List (Nat × List AV)} {N : Nat} {Q : AQ} {S : SL} {L : List LB} {ops : Array Oper} {rest : List Oper}
  {ty : TypeId} {pos : String} {af : Array Edge} {dst : Option Tmp} {u v : Operand} {t : Nat} {lo hi mx : Option Operand}
theorem is_slice (k : awpL P G N ops (⟨dst, .slice t u lo hi mx, ty, pos, af, none⟩ :: rest) Q S L) : awpL P G N ops (⟨dst, .slice t u lo hi mx, ty, pos, af, none⟩ :: rest) Q S L := k
theorem is_store (k : awpL P G N ops (⟨dst, .store t u v, ty, pos, af, none⟩ :: rest) Q S L) : awpL P G N ops (⟨dst, .store t u v, ty, pos, af, none⟩ :: rest) Q S L := k
theorem is_mks (k : awpL P G N ops (⟨dst, .makeSlice t u v, ty, pos, af, none⟩ :: rest) Q S L) : awpL P G N ops (⟨dst, .makeSlice t u v, ty, pos, af, none⟩ :: rest) Q S L := k
end
end Go.Ab
