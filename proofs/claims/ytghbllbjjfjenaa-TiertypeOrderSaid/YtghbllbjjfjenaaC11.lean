/- The laws: plain facts and walks. -/
import Derived.Test.YtghbllbjjfjenaaC10
namespace Go.Proofs.Ytghbllbjjfjenaa
open Go.Ab
attribute [local irreducible] awp awpL Ev Ev2 EvS thenQ blockQ retQ PCalls OCalls awpD
set_option linter.unusedSimpArgs false
set_option linter.unusedVariables false

theorem checkFrom_all {l : List Tier} : ∀ (n i : Nat), checkFrom l n i = 0 → i + n = l.length → ∀ k, i ≤ k → ∀ t, l[k]? = some t → one (l.take k) t = 0
  | 0, i, _, hn, k, hk, t, ht => by
    have := (List.getElem?_eq_some_iff.1 ht).1
    omega
  | n + 1, i, h, hn, k, hk, t, ht => by
    have hi : i < l.length := by omega
    have hti : l[i]? = some l[i] := by simp [hi]
    rw [checkFrom_step hti] at h
    split at h
    · rename_i h'; exact absurd h h'
    · rename_i h'
      simp only [ne_eq, Decidable.not_not] at h'
      rcases Nat.eq_or_lt_of_le hk with rfl | hlt
      · rw [hti] at ht; injection ht with ht; subst ht; exact h'
      · exact checkFrom_all n (i + 1) h (by omega) k hlt t ht
theorem check_len {l : List Tier} (h : check l = 0) : l.length ≤ 12 := by
  unfold check at h
  split at h
  · cases h
  · omega
theorem check_one {l : List Tier} (h : check l = 0) {k : Nat} {t : Tier} (ht : l[k]? = some t) : one (l.take k) t = 0 := by
  have hl := check_len h
  have : check l = checkFrom l l.length 0 := by simp [check]; omega
  rw [this] at h
  exact checkFrom_all l.length 0 h (by omega) k (by omega) t ht
theorem one_parent {b : List Tier} {t : Tier} (h : one b t = 0) : t.kind = 0 ∧ t.parent = -1 ∨ t.kind ≠ 0 ∧ 0 ≤ t.parent ∧ t.parent < b.length := by
  unfold one at h
  split at h
  · cases h
  split at h
  · cases h
  split at h
  · cases h
  split at h
  · cases h
  split at h
  · cases h
  split at h
  · split at h
    · cases h
    · left; constructor <;> first | assumption | omega
  split at h
  · cases h
  · right; rename_i h1 h2; exact ⟨h1, by omega, by omega⟩
theorem check_down {l : List Tier} (h : check l = 0) : Down l := by
  intro k t ht
  have hk := (List.getElem?_eq_some_iff.1 ht).1
  have := one_parent (check_one h ht)
  simp only [List.length_take] at this
  omega
end Go.Proofs.Ytghbllbjjfjenaa
