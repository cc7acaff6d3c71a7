/- What a list of tiers that comes in looks like. -/
import Derived.Test.YtghbllbjjfjenaaC11
import Derived.Test.YtghbllbjjfjenaaAbRead
namespace Go.Proofs.Ytghbllbjjfjenaa
open Go.Ab
set_option linter.unusedSimpArgs false
set_option linter.unusedVariables false

theorem shp_str {td : TDs} {f t : Nat} {cs : List AV} (hk : (lk td t).map (fun d : TD => d.k) = some .str) (h : Shp td f t cs) : ∃ s, cs = [.v (.string s)] ∧ s.size ≤ maxLen := by
  cases f with
  | zero => exact absurd h (by simp [Shp])
  | succ f => simp only [Shp, hk] at h; exact h
theorem shp_int {td : TDs} {f t : Nat} {k : IntKind} {cs : List AV} (hk : (lk td t).map (fun d : TD => d.k) = some (.int k)) (h : Shp td f t cs) : ∃ n, cs = [.v (.int k n)] ∧ (Lit.int k n).wf = true := by
  cases f with
  | zero => exact absurd h (by simp [Shp])
  | succ f => simp only [Shp, hk] at h; exact h
theorem shp_tier {f : Nat} {cs : List AV} (h : Shp td f 38 cs) : ∃ t : Tier, cs = encT t ∧ t.name.size ≤ maxLen := by
  cases f with
  | zero => exact absurd h (by simp [Shp])
  | succ f =>
    have hk : (lk td 38).map (fun d : TD => d.k) = some (.struct [(9, 0), (3, 1), (3, 2), (3, 3)]) := rfl
    simp only [Shp, hk] at h
    obtain ⟨parts, rfl, hl, hp⟩ := h
    match parts, hl with
    | [a, b, c, d], _ =>
      obtain ⟨s, rfl, hs⟩ := shp_str rfl (hp 0 a _ rfl rfl)
      obtain ⟨n1, rfl, _⟩ := shp_int (k := .i64) rfl (hp 1 b _ rfl rfl)
      obtain ⟨n2, rfl, _⟩ := shp_int (k := .i64) rfl (hp 2 c _ rfl rfl)
      obtain ⟨n3, rfl, _⟩ := shp_int (k := .i64) rfl (hp 3 d _ rfl rfl)
      exact ⟨⟨s, n1, n2, n3⟩, rfl, hs⟩
theorem shp_tiers {f : Nat} {cs : List AV} (h : Shp td f 22 cs) : ∃ l : List Tier, cs = [encTs l] ∧ ∀ (k : Nat) (t : Tier), l[k]? = some t → t.name.size ≤ maxLen := by
  cases f with
  | zero => exact absurd h (by simp [Shp])
  | succ f =>
    have hk : (lk td 22).map (fun d : TD => d.k) = some (.slice 38) := rfl
    simp only [Shp, hk] at h
    obtain ⟨sz, es, h1, rfl, hlen, he⟩ := h
    have hsz : sz = 4 := by
      have : (lk td 38).map (fun d : TD => d.size) = some 4 := rfl
      rw [this] at h1; injection h1 with h1; exact h1.symm
    subst hsz
    have : ∃ l : List Tier, es = l.map encT ∧ ∀ t ∈ l, t.name.size ≤ maxLen := by
      clear hlen
      induction es with
      | nil => exact ⟨[], rfl, by simp⟩
      | cons x r ih =>
        obtain ⟨t, rfl, ht⟩ := shp_tier (he x (by simp))
        obtain ⟨l, rfl, hl⟩ := ih (fun y hy => he y (by simp [hy]))
        refine ⟨t :: l, rfl, fun u hu => ?_⟩
        rcases List.mem_cons.1 hu with rfl | hu
        · exact ht
        · exact hl u hu
    obtain ⟨l, rfl, hl⟩ := this
    exact ⟨l, by simp, fun k t h => hl t (List.mem_of_getElem? h)⟩
end Go.Proofs.Ytghbllbjjfjenaa
