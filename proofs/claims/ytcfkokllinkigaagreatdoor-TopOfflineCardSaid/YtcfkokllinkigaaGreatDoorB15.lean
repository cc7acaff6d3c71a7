/- A logic of trees over the model's steps, and the contracts of the functions that the laws reach: part 15 of 29. -/
import Derived.Test.YtcfkokllinkigaaGreatDoorB14
import Derived.WideLaws
set_option linter.unusedVariables false
set_option linter.unusedSimpArgs false
set_option linter.unusedSectionVars false
set_option linter.unnecessarySimpa false
namespace Go.Proofs.YtcfkokllinkigaaGreatDoor
section
def vz (z : Nat) : List UInt8 := if z < 128 then [UInt8.ofNat z] else UInt8.ofNat (z % 128 + 128) :: vz (z / 128)
termination_by z
decreasing_by omega
theorem vz_lt {z : Nat} (h : z < 128) : vz z = [UInt8.ofNat z] := by rw [vz, if_pos h]
theorem vz_ge {z : Nat} (h : ¬ z < 128) : vz z = UInt8.ofNat (z % 128 + 128) :: vz (z / 128) := by rw [vz, if_neg h]
theorem WX (z : Nat) : 0 < (vz z).length := by
 by_cases h : z < 128
 ·rw [vz_lt h]; simp
 ·rw [vz_ge h]; simp
theorem WY : ∀ (i z : Nat), i < (vz z).length → (vz z)[i]? = some (UInt8.ofNat (if z / 128 ^ i < 128 then z / 128 ^ i else z / 128 ^ i % 128 + 128)) ∧ (i + 1 = (vz z).length ↔ z / 128 ^ i < 128) ∧ (0 < i → 1 ≤ z / 128 ^ i)
 | 0, z, h => by
  rw [Nat.pow_zero, Nat.div_one]
  by_cases hz : z < 128
  ·rw [vz_lt hz, if_pos hz]; simp [hz]
  ·rw [vz_ge hz, if_neg hz]
   have := WX (z / 128)
   refine ⟨rfl, ?_, fun h => by omega⟩
   simp only [List.length_cons]
   omega
 | i + 1, z, h => by
  by_cases hz : z < 128
  ·rw [vz_lt hz] at h; simp at h
  ·rw [vz_ge hz] at h ⊢
   have hi : i < (vz (z / 128)).length := by simpa using h
   have := WY i (z / 128) hi
   have e : z / 128 / 128 ^ i = z / 128 ^ (i + 1) := by rw [Nat.div_div_eq_div_mul, Nat.pow_succ, Nat.mul_comm]
   rw [e] at this
   refine ⟨by simpa using this.1, by simpa using this.2.1, fun _ => ?_⟩
   rcases Nat.eq_zero_or_pos i with q | q
   ·subst q; rw [Nat.zero_add, Nat.pow_one]; omega
   ·exact this.2.2 q
theorem vz_len : ∀ (k z : Nat), z < 128 ^ (k + 1) → (vz z).length ≤ k + 1
 | 0, z, h => by rw [vz_lt (by simpa using h)]; simp
 | k + 1, z, h => by
  by_cases hz : z < 128
  ·rw [vz_lt hz]; simp
  ·rw [vz_ge hz]
   have := vz_len k (z / 128) (by rw [Nat.div_lt_iff_lt_mul (by omega), Nat.mul_comm, ← Nat.pow_succ']; exact h)
   simpa using this
def vint (n : Int) : List UInt8 := vz (2 * n).toNat
theorem vint_pos (n : Int) : 0 < (vint n).length := WX _
theorem jc {n : Int} (h : n < 4611686018427387904) : (vint n).length ≤ 9 := vz_len 8 _ (by omega)
theorem zN {n : Int} (h : n ≤ 1099511627776) : (vint n).length ≤ 6 := vz_len 5 _ (by omega)
def lstB (s : ByteArray) : List UInt8 := s.data.toList
def vtext (s : ByteArray) : List UInt8 := vint s.size ++ lstB s
def vstamp (s : Stamp) : List UInt8 := vint s.count ++ vint s.dev
def headN (o : Op) : List Int := [o.at_.count, o.at_.dev, o.kind, o.rec_, o.note.id, o.note.tier, o.note.parent, o.note.span.fro, o.note.span.til, o.note.rank]
def opBy (o : Op) : List UInt8 := (headN o).flatMap vint ++ vtext o.note.text ++ vint o.set ++ vint o.n ++ vtext o.text ++ vint o.over.length ++ o.over.flatMap vstamp
end
section
def Nm (n : Int) : Prop := 0 ≤ n ∧ n ≤ 1099511627776
structure OpF (o : Op) : Prop where
 head : ∀ n ∈ headN o, Nm n
 set : 0 ≤ o.set ∧ o.set ≤ 2
 n : 0 ≤ o.n ∧ o.n ≤ 86400000
 nt : o.note.text.size ≤ 200
 tx : o.text.size ≤ 200
 ol : o.over.length ≤ 16
 over : ∀ s ∈ o.over, right s = true
theorem textE_sz {s : ByteArray} (h : textE s = 0) : s.size ≤ 200 := by
 unfold textE at h
 split at h
 ·omega
 ·omega
theorem jj {at_ : Stamp} : ∀ (l : List Stamp) (p : Option Stamp), overK at_ p l = 0 → ∀ s ∈ l, right s = true
 | [], _, _, s, hs => by cases hs
 | x :: r, p, h, s, hs => by
  unfold overK at h
  split at h
  ·omega
  ·rename_i h1
   have hx : right x = true := by
    cases q : right x with
    | true => rfl
    | false => exact absurd (Or.inl q) h1
   have hr : ∀ s ∈ r, right s = true := by
    split at h
    ·split at h
     ·omega
     ·exact jj r _ h
    ·exact jj r _ h
   rcases List.mem_cons.1 hs with rfl | hs
   ·exact hx
   ·exact hr s hs
theorem overE_fit {o : Op} (h : overE o = 0) : o.over.length ≤ 16 ∧ ∀ s ∈ o.over, right s = true := by
 unfold overE at h
 split at h
 ·omega
 split at h
 ·omega
 ·exact ⟨by omega, jj _ _ h⟩
theorem qb {s : Stamp} (h : right s = true) : (1 ≤ s.count ∧ s.count ≤ 1048576) ∧ (1 ≤ s.dev ∧ s.dev ≤ 15) := by
 simp only [right, Bool.and_eq_true, decide_eq_true_eq] at h
 omega
theorem idOf_nm {s : Stamp} (h : right s = true) : Nm (idOf s) := by
 have := qb h
 rw [idOf, if_pos h]
 unfold Nm; omega
theorem stampOf_nm {n : Int} (h : right (stampOf n) = true) : Nm n := by
 have := qb h
 simp only [stampOf] at this
 have e := Int.mul_tdiv_add_tmod n 16
 unfold Nm; omega
theorem addedE_fit {o : Op} (h : addedE o = 0) (hr : right o.at_ = true) : Nm o.note.id ∧ Nm o.note.tier ∧ Nm o.note.parent ∧ Nm o.note.span.fro ∧ Nm o.note.span.til ∧ Nm o.note.rank ∧ o.note.text.size ≤ 200 := by
 unfold addedE at h
 split at h
 ·omega
 rename_i h1
 split at h
 ·omega
 rename_i h2
 split at h
 ·omega
 rename_i h3
 have hid : o.note.id = idOf o.at_ := by simpa using h1
 have hn : noteOk o.note = true := by simpa using h2
 simp only [noteOk, within, Bool.and_eq_true, decide_eq_true_eq] at hn
 have hs : Nm o.note.span.fro ∧ Nm o.note.span.til := by
  by_cases q : o.note.span = ⟨0, 0⟩
  ·rw [q]; unfold Nm; simp only; omega
  ·have : spanRight o.note.span = true := by
    cases e : spanRight o.note.span with
    | true => rfl
    | false => exact absurd ⟨q, e⟩ h3
   simp only [spanRight, Bool.and_eq_true, decide_eq_true_eq] at this
   unfold Nm; omega
 refine ⟨by rw [hid]; exact idOf_nm hr, ?_, ?_, hs.1, hs.2, ?_, textE_sz h⟩ <;> unfold Nm <;> omega
theorem yE {o : Op} (h : namedE o = 0) : Nm o.note.id ∧ Nm o.note.tier ∧ Nm o.note.parent ∧ Nm o.note.span.fro ∧ Nm o.note.span.til ∧ Nm o.note.rank ∧ o.note.text.size ≤ 200 := by
 unfold namedE at h
 split at h
 ·omega
 rename_i h1
 have h2 : right (stampOf o.note.id) = true := by
  cases e : right (stampOf o.note.id) with
  | true => rfl
  | false => exact absurd (Or.inl e) h1
 have h3 : o.note = bareNote o.note.id := by
  by_cases q : o.note = bareNote o.note.id
  ·exact q
  ·exact absurd (Or.inr (Or.inr q)) h1
 have hid := stampOf_nm h2
 refine ⟨hid, ?_⟩
 rw [h3]
 simp only [bareNote]
 unfold Nm
 exact ⟨by omega, by omega, by omega, by omega, by omega, by decide⟩
theorem yw {o : Op} (h : plainE o = 0) : o.set = 0 ∧ o.n = 0 ∧ o.text = .empty := by
 unfold plainE wanted at h
 split at h
 ·rename_i q
  simp only [Bool.and_eq_true, decide_eq_true_eq] at q
  exact ⟨q.1, q.2.1, q.2.2⟩
 ·omega
theorem setE_fit {o : Op} (h : setE o = 0) : (0 ≤ o.set ∧ o.set ≤ 2) ∧ (0 ≤ o.n ∧ o.n ≤ 86400000) ∧ o.text.size ≤ 200 := by
 unfold setE at h
 split at h
 ·rename_i h0
  split at h
  ·omega
  ·rename_i h1
   exact ⟨by omega, by omega, textE_sz h⟩
 split at h
 ·rename_i h0
  split at h
  ·omega
  rename_i h1
  split at h
  ·omega
  rename_i h2
  have hw : within o.n 0 86400000 = true := by simpa using h1
  simp only [within, Bool.and_eq_true, decide_eq_true_eq] at hw
  have ht : o.text = .empty := by simpa using h2
  exact ⟨by omega, hw, by rw [ht]; decide⟩
 ·omega
theorem emp_size : ByteArray.empty.size = 0 := rfl
theorem jP {o : Op} (h : opE o = 0) : OpF o := by
 have hr := zO h
 have hc := qb hr
 have hrec : o.kind = 0 ∨ o.kind = 1 ∨ o.kind = 2 := by
  unfold opE at h
  rw [if_neg (by simp [hr])] at h
  split at h
  ·left; assumption
  split at h
  ·right; left; assumption
  split at h
  ·right; right; assumption
  ·omega
 have mk : within o.rec_ 1 1099511627776 = true → (Nm o.note.id ∧ Nm o.note.tier ∧ Nm o.note.parent ∧ Nm o.note.span.fro ∧ Nm o.note.span.til ∧ Nm o.note.rank ∧ o.note.text.size ≤ 200) → ∀ n ∈ headN o, Nm n := by
  intro hw ⟨q1, q2, q3, q4, q5, q6, _⟩ n hn
  simp only [within, Bool.and_eq_true, decide_eq_true_eq] at hw
  simp only [headN, List.mem_cons, List.not_mem_nil, or_false] at hn
  rcases hn with rfl | rfl | rfl | rfl | rfl | rfl | rfl | rfl | rfl | rfl
  ·unfold Nm; omega
  ·unfold Nm; omega
  ·unfold Nm; omega
  ·unfold Nm; omega
  all_goals assumption
 unfold opE at h
 rw [if_neg (by simp [hr])] at h
 rcases hrec with hk | hk | hk
 ·rw [if_pos hk] at h
  split at h
  ·omega
  rename_i hw
  have hw : within o.rec_ 1 1099511627776 = true := by simpa using hw
  obtain ⟨h1, h2, h3⟩ := firstE3' _ _ _ h
  have f1 := addedE_fit h1 hr
  obtain ⟨p1, p2, p3⟩ := yw h2
  have ho : o.over.length = 0 := by
   unfold wanted at h3
   split at h3
   ·rename_i q; simpa using q
   ·omega
  have ho2 : o.over = [] := List.eq_nil_of_length_eq_zero ho
  exact ⟨mk hw f1, by omega, by omega, f1.2.2.2.2.2.2, by rw [p3, emp_size]; omega, by omega, by rw [ho2]; intro s hs; cases hs⟩
 ·rw [if_neg (by omega), if_pos hk] at h
  split at h
  ·omega
  rename_i hw
  have hw : within o.rec_ 1 1099511627776 = true := by simpa using hw
  obtain ⟨h1, h2, h3⟩ := firstE3' _ _ _ h
  have f1 := yE h1
  obtain ⟨p1, p2, p3⟩ := setE_fit h2
  obtain ⟨q1, q2⟩ := overE_fit h3
  exact ⟨mk hw f1, p1, p2, f1.2.2.2.2.2.2, p3, q1, q2⟩
 ·rw [if_neg (by omega), if_neg (by omega), if_pos hk] at h
  split at h
  ·omega
  rename_i hw
  have hw : within o.rec_ 1 1099511627776 = true := by simpa using hw
  obtain ⟨h1, h2, h3⟩ := firstE3' _ _ _ h
  have f1 := yE h1
  obtain ⟨p1, p2, p3⟩ := yw h2
  obtain ⟨q1, q2⟩ := overE_fit h3
  exact ⟨mk hw f1, by omega, by omega, f1.2.2.2.2.2.2, by rw [p3, emp_size]; omega, q1, q2⟩
theorem vint_len6' {n : Int} (h : Nm n) : (vint n).length ≤ 6 := zN h.2
theorem wI : ∀ {l : List Int}, (∀ n ∈ l, Nm n) → (l.flatMap vint).length ≤ 6 * l.length
 | [], _ => by simp
 | x :: r, h => by
  have := wI fun n hn => h n (List.mem_cons_of_mem _ hn)
  have hx := vint_len6' (h x (List.mem_cons_self ..))
  simp only [List.flatMap_cons, List.length_append, List.length_cons]
  omega
theorem jJ {s : ByteArray} (h : s.size ≤ 200) : (vtext s).length ≤ 206 := by
 have hz : s.size = (lstB s).length := by rw [lstB, Array.length_toList]; rfl
 have := zN (n := s.size) (by omega)
 rw [vtext, List.length_append]; omega
theorem ja : ∀ {l : List Stamp}, (∀ s ∈ l, right s = true) → (l.flatMap vstamp).length ≤ 12 * l.length
 | [], _ => by simp
 | x :: r, h => by
  have := ja fun n hn => h n (List.mem_cons_of_mem _ hn)
  have hx := qb (h x (List.mem_cons_self ..))
  have h1 := zN (n := x.count) (by omega)
  have h2 := zN (n := x.dev) (by omega)
  simp only [List.flatMap_cons, vstamp, List.length_append, List.length_cons]
  omega
theorem jk {o : Op} (h : OpF o) : (opBy o).length ≤ 1000 := by
 have h1 := wI h.head
 have h2 := jJ h.nt
 have h3 := jJ h.tx
 have h4 := zN (n := o.set) (by have := h.set; omega)
 have h5 := zN (n := o.n) (by have := h.n; omega)
 have h6 := zN (n := o.over.length) (by have := h.ol; omega)
 have h7 := ja h.over
 have h8 : (headN o).length = 10 := rfl
 have h9 := h.ol
 unfold opBy
 simp only [List.length_append]
 omega
end
section
open Go.Ac
attribute [local irreducible] awp awpL Ev Ev2 EvS thenQ blockQ retQ PCalls OCalls ICalls
variable {g : List (Nat × List AV)}
def hasD (a : List Op) (o : Op) : Bool := a.any fun p => decide (p = o)
def knowsD (a b : List Op) : Bool := b.all (hasD a)
theorem hasD_succ {a : List Op} {k : Nat} {p o : Op} (h : a[k]? = some p) : hasD (a.take (k + 1)) o = (hasD (a.take k) o || decide (p = o)) := by
 unfold hasD
 rw [List.take_add_one, h]; simp
set_option maxRecDepth 4000 in
set_option maxHeartbeats 2000000 in
theorem QS (a b : Replica) (ha : Fit a.ops) (hb : Fit b.ops) : PCalls Tryz.prog g 9 [.agg (repC a), .agg (repC b)] (vb (knowsD a.ops b.ops)) := by
 have n1 : (!true) = false := rfl
 have n2 : (!false) = true := rfl
 have ha1 := ha.1
 have hb1 := hb.1
 refine pcalls' Tryz.func9 Tryz.ntmps9 rfl rfl rfl ?_
 repeat' (first
  | refine stn [] ?_
  | ((with_reducible refine zr ?_); refine zf rfl rfl (fun h => ?_) (fun h => ?_))
  | ((with_reducible refine zl ?_); refine ze rfl (fun h => ?_) (fun h => ?_))
  | fail)
 refine zi (α := Nat) 0 (fun i => [(2, .fp (repC a)), (3, .fp (repC b)), (5, vi i)]) (fun _ => []) (fun i => i ≤ b.ops.length ∧ (b.ops.take i).all (hasD a.ops) = true) (fun i => b.ops.length - i) 0
  qw ⟨Nat.zero_le _, rfl⟩ ?_
 rintro i ⟨hi, hall⟩
 cases hx : b.ops[i]? with
 | none =>
  have hge : b.ops.length ≤ i := by simpa using hx
  have c1 : decide ((i : Int) < b.ops.length) = false := decide_eq_false (by omega)
  rw [List.take_of_length_le hge] at hall
  rw [show knowsD a.ops b.ops = true from hall]
  repeat' (first
   | refine stn [] ?_
   | ((with_reducible refine zr ?_); refine zf rfl rfl (fun h => ?_) (fun h => ?_))
   | ((with_reducible refine zl ?_); refine ze rfl (fun h => ?_) (fun h => ?_))
   | fail)
  exact retP rfl rfl
 | some o =>
  have hlt := (List.getElem?_eq_some_iff.1 hx).1
  have c1 : decide ((i : Int) < b.ops.length) = true := decide_eq_true (by omega)
  repeat' (first
   | refine stn [] ?_
   | ((with_reducible refine zr ?_); refine zf rfl rfl (fun h => ?_) (fun h => ?_))
   | ((with_reducible refine zl ?_); refine ze rfl (fun h => ?_) (fun h => ?_))
   | fail)
  refine zi (α := Nat) 0 (fun k => [(2, .fp (repC a)), (3, .fp (repC b)), (5, vi i), (6, vb (hasD (a.ops.take k) o)), (7, vi k)]) (fun _ => []) (fun k => k ≤ a.ops.length) (fun k => a.ops.length - k) 0
   qw (Nat.zero_le _) ?_
  intro k hk
  cases hy : a.ops[k]? with
  | none =>
   have hge : a.ops.length ≤ k := by simpa using hy
   have d1 : decide ((k : Int) < a.ops.length) = false := decide_eq_false (by omega)
   rw [List.take_of_length_le hge]
   cases hk2 : hasD a.ops o with
   | true =>
    repeat' (first
     | refine stn [] ?_
     | ((with_reducible refine zr ?_); refine zf rfl rfl (fun h => ?_) (fun h => ?_))
     | ((with_reducible refine zl ?_); refine ze rfl (fun h => ?_) (fun h => ?_))
     | fail)
    refine ⟨i + 1, qw, ⟨by omega, ?_⟩, by omega⟩
    rw [List.take_add_one, hx]
    simp only [Option.toList, List.all_append, hall, List.all_cons, List.all_nil, hk2, Bool.and_self]
   | false =>
    have : knowsD a.ops b.ops = false := by
     unfold knowsD
     rw [List.all_eq_false]
     exact ⟨o, List.mem_of_getElem? hx, by rw [hk2]; simp⟩
    rw [this]
    repeat' (first
     | refine stn [] ?_
     | ((with_reducible refine zr ?_); refine zf rfl rfl (fun h => ?_) (fun h => ?_))
     | ((with_reducible refine zl ?_); refine ze rfl (fun h => ?_) (fun h => ?_))
     | fail)
    exact retP rfl rfl
  | some p =>
   have hly := (List.getElem?_eq_some_iff.1 hy).1
   have d1 : decide ((k : Int) < a.ops.length) = true := decide_eq_true (by omega)
   have g1 := Za hx
   have g2 := Za hy
   have hS := rSame_spec (g := g) p o (ha.get hy) (hb.get hx)
   have hs := hasD_succ (o := o) hy
   cases hf : hasD (a.ops.take k) o with
   | true =>
    rw [hf, Bool.true_or] at hs
    repeat' (first
     | ((with_reducible refine zJ ?_); refine zC 14 (by simp only [List.take_succ_cons, List.take_zero, List.take_nil]; rfl) (by simp only [List.drop_succ_cons, List.drop_zero, List.drop_nil]; rfl) (by kernel_rfl) rfl rfl rfl rfl (by repeat' (first | exact Strip.nil | apply Strip.keep rfl | apply Strip.drop rfl)) ?_)
     | refine st [] ?_
     | ((with_reducible refine zr ?_); refine zf rfl rfl (fun h => ?_) (fun h => ?_))
     | ((with_reducible refine zp ?_); ((fail_if_success (refine isD_kn (c := true) rfl qa0 ?_)); (fail_if_success (refine isD_kn (c := false) rfl qa0 ?_)); refine zI rfl (fun h => ?_) (fun h => ?_)))
     | ((with_reducible refine zl ?_); refine ze rfl (fun h => ?_) (fun h => ?_))
     | fail)
    exact ⟨k + 1, by rw [hs]; exact qw, by omega, by omega⟩
   | false =>
    rw [hf, Bool.false_or] at hs
    repeat' (first
     | ((with_reducible refine zJ ?_); refine zC 14 (by simp only [List.take_succ_cons, List.take_zero, List.take_nil]; rfl) (by simp only [List.drop_succ_cons, List.drop_zero, List.drop_nil]; rfl) (by kernel_rfl) rfl rfl rfl rfl (by repeat' (first | exact Strip.nil | apply Strip.keep rfl | apply Strip.drop rfl)) ?_)
     | refine st [] ?_
     | ((with_reducible refine zr ?_); refine zf rfl rfl (fun h => ?_) (fun h => ?_))
     | ((with_reducible refine zp ?_); ((fail_if_success (refine isD_kn (c := true) rfl qa0 ?_)); (fail_if_success (refine isD_kn (c := false) rfl qa0 ?_)); refine zI rfl (fun h => ?_) (fun h => ?_)))
     | ((with_reducible refine zl ?_); refine ze rfl (fun h => ?_) (fun h => ?_))
     | fail)
    exact ⟨k + 1, by rw [hs]; exact qw, by omega, by omega⟩
theorem hasD_has (a : List Op) (o : Op) : hasD a o = has a o := by
 rw [Bool.eq_iff_iff, qe]
 unfold hasD
 rw [List.any_eq_true]
 constructor
 ·rintro ⟨x, hx, e⟩; rw [decide_eq_true_eq] at e; exact e ▸ hx
 ·intro h; exact ⟨o, h, by simp⟩
theorem covers_seen {v : List Int} {s : Stamp} {x : Int} (hr : right s = true) (hx : v[(s.dev - 1).toNat]? = some x) : covers v s = !decide (x < s.count) := by
 have hn := qb hr
 unfold covers num
 rw [hr, hx, Bool.true_and]
 simp only [Option.getD_some]
 by_cases h : x < s.count
 ·rw [decide_eq_true h, decide_eq_false (by omega)]; rfl
 ·rw [decide_eq_false h, decide_eq_true (by omega)]; rfl
set_option maxRecDepth 4000 in
set_option maxHeartbeats 4000000 in
theorem yS (a b : Replica) (ha : Fit a.ops) (hb : Fit b.ops) (ho : ∀ o ∈ a.ops, right o.at_ = true) (hs : b.seen.length = 15) : PCalls Tryz.prog g 29 [.agg (repC a), .agg (repC b)] (vb (half b a)) := by
 have n1 : (!true) = false := rfl
 have n2 : (!false) = true := rfl
 have ha1 := ha.1
 refine pcalls' Tryz.func29 Tryz.ntmps29 rfl rfl rfl ?_
 repeat' (first
  | refine stn [] ?_
  | ((with_reducible refine zr ?_); refine zf rfl rfl (fun h => ?_) (fun h => ?_))
  | ((with_reducible refine zl ?_); refine ze rfl (fun h => ?_) (fun h => ?_))
  | fail)
 refine zi (α := Nat) 0 (fun k => [(2, .fp (repC a)), (3, .fp (repC b)), (5, vi k)]) (fun _ => []) (fun k => k ≤ a.ops.length ∧ half b a = (a.ops.drop k).all fun o => !(covers b.seen o.at_ && !has b.ops o)) (fun k => a.ops.length - k) 0
  qw ⟨Nat.zero_le _, rfl⟩ ?_
 rintro k ⟨hk, hf⟩
 cases ht : a.ops[k]? with
 | none =>
  have hge : a.ops.length ≤ k := by simpa using ht
  have c1 : decide ((k : Int) < a.ops.length) = false := decide_eq_false (by omega)
  rw [List.drop_of_length_le hge] at hf
  repeat' (first
   | refine stn [] ?_
   | ((with_reducible refine zr ?_); refine zf rfl rfl (fun h => ?_) (fun h => ?_))
   | ((with_reducible refine zl ?_); refine ze rfl (fun h => ?_) (fun h => ?_))
   | fail)
  refine retP rfl ?_
  rw [hf]; rfl
 | some x =>
  have hlt : k < a.ops.length := (List.getElem?_eq_some_iff.1 ht).1
  have c1 : decide ((k : Int) < a.ops.length) = true := decide_eq_true (by omega)
  have g1 := Za ht
  have hr := ho x (List.mem_of_getElem? ht)
  have hn := qb hr
  obtain ⟨y, hy⟩ : ∃ y, b.seen[(x.at_.dev - 1).toNat]? = some y := ⟨_, List.getElem?_eq_getElem (by omega)⟩
  have g2 : 0 ≤ x.at_.dev - 1 ∧ (b.seen.map intC)[(x.at_.dev - 1).toNat]? = some (intC y) := ⟨by omega, by rw [List.getElem?_map, hy]; rfl⟩
  have hcv := covers_seen hr hy
  have d1 : decide ((b.seen.length : Int) < x.at_.dev) = false := decide_eq_false (by omega)
  have hK := QS (g := g) b ⟨0, [], [x]⟩ hb ⟨by simp, fun o h => by rw [List.mem_singleton.1 h]; exact ha.2 x (List.mem_of_getElem? ht)⟩
  have hkn : knowsD b.ops [x] = has b.ops x := by unfold knowsD; simp [hasD_has]
  rw [hkn] at hK
  replace hK := hK.args (asv := [.agg (repC b), .agg [vi 0, .v (.slice none 0 0), encOps [x]]]) (.cons (Le.rfl' _) (.cons (Le.agg (.cons (Le.rfl' _) (.cons (Le.nil 1) (.cons (Le.rfl' _) .nil)))) .nil))
  rw [Yh _ _ k x ht] at hf
  by_cases hc : y < x.at_.count
  ·have d2 : decide (y < x.at_.count) = true := decide_eq_true hc
   rw [d2] at hcv
   rw [hcv] at hf
   repeat' (first
    | refine st [] ?_
    | ((with_reducible refine zr ?_); refine zf rfl rfl (fun h => ?_) (fun h => ?_))
    | ((with_reducible refine zp ?_); ((fail_if_success (refine isD_kn (c := true) rfl qa0 ?_)); (fail_if_success (refine isD_kn (c := false) rfl qa0 ?_)); refine zI rfl (fun h => ?_) (fun h => ?_)))
    | ((with_reducible refine zl ?_); refine ze rfl (fun h => ?_) (fun h => ?_))
    | fail)
   exact ⟨k + 1, qw, ⟨by omega, hf⟩, by omega⟩
  ·have d2 : decide (y < x.at_.count) = false := decide_eq_false hc
   rw [d2] at hcv
   rw [hcv] at hf
   cases hh : has b.ops x with
   | true =>
    rw [hh] at hK hf
    repeat' (first
     | refine st [] ?_
     | ((with_reducible refine zr ?_); refine zf rfl rfl (fun h => ?_) (fun h => ?_))
     | ((with_reducible refine zp ?_); ((fail_if_success (refine isD_kn (c := true) rfl qa0 ?_)); (fail_if_success (refine isD_kn (c := false) rfl qa0 ?_)); refine zI rfl (fun h => ?_) (fun h => ?_)))
     | ((with_reducible refine zl ?_); refine ze rfl (fun h => ?_) (fun h => ?_))
     | fail)
    exact ⟨k + 1, qw, ⟨by omega, hf⟩, by omega⟩
   | false =>
    rw [hh] at hK hf
    repeat' (first
     | refine st [] ?_
     | ((with_reducible refine zr ?_); refine zf rfl rfl (fun h => ?_) (fun h => ?_))
     | ((with_reducible refine zp ?_); ((fail_if_success (refine isD_kn (c := true) rfl qa0 ?_)); (fail_if_success (refine isD_kn (c := false) rfl qa0 ?_)); refine zI rfl (fun h => ?_) (fun h => ?_)))
     | ((with_reducible refine zl ?_); refine ze rfl (fun h => ?_) (fun h => ?_))
     | fail)
    refine retP rfl ?_
    rw [hf]; rfl
theorem consT_spec (a b : Replica) (ha : Fit a.ops) (hb : Fit b.ops) (hoa : ∀ o ∈ a.ops, right o.at_ = true) (hob : ∀ o ∈ b.ops, right o.at_ = true) (hsa : a.seen.length = 15) (hsb : b.seen.length = 15) : PCalls Tryz.prog g 10 [.agg (repC a), .agg (repC b)] (vb (half b a && half a b)) := by
 have h1 := yS (g := g) a b ha hb hoa hsb
 have h2 := yS (g := g) b a hb ha hob hsa
 refine pcalls' Tryz.func10 Tryz.ntmps10 rfl rfl rfl ?_
 repeat' (first
  | refine stn [] ?_
  | ((with_reducible refine zr ?_); refine zf rfl rfl (fun h => ?_) (fun h => ?_))
  | ((with_reducible refine zl ?_); refine ze rfl (fun h => ?_) (fun h => ?_))
  | fail)
 all_goals refine retP rfl ?_
 all_goals clear h1 h2
 all_goals simp_all [ex]
end
section
open Go.Ac Go.MapKept
attribute [local irreducible] awp awpL Ev Ev2 EvS thenQ blockQ retQ PCalls OCalls ICalls YieldOk IterC
def partsR : Nat → Replica → Replica → Int → Replica
 | 0, a, _, _ => a
 | k + 1, a, b, n => if missing b.ops a.seen n = [] then a else partsR k (merge a (missing b.ops a.seen n)).1 b n
structure Recv (a b x : Replica) : Prop where
 c : Cons x b
 up : ∀ o, o ∈ a.ops → o ∈ x.ops
 of : ∀ o, o ∈ x.ops → o ∈ a.ops ∨ o ∈ b.ops
 dev : x.dev = a.dev
theorem Recv.len {a b x : Replica} (h : Recv a b x) : x.ops.length ≤ a.ops.length + b.ops.length := by
 have := nodup_len (l := x.ops) (m := a.ops ++ b.ops) (Zo h.c.rx).nodup fun o ho => List.mem_append.2 (h.of o ho)
 rwa [List.length_append] at this
theorem Recv.start {a b : Replica} (h : Cons a b) : Recv a b a := ⟨h, fun _ h => h, fun _ h => .inl h, rfl⟩
theorem yH {x y : Replica} (h : Cons x y) {n : Int} (hn : 1 ≤ n) : missing y.ops x.seen n = [] ↔ behind x.ops y.ops = 0 := by
 rw [h.missing, ← qv, List.length_eq_zero_iff]
 constructor
 ·intro q
  cases hz : news x.ops y.ops with
  | nil => rfl
  | cons o r =>
   rw [hz] at q
   obtain ⟨m, hm⟩ : ∃ m, n.toNat = m + 1 := ⟨n.toNat - 1, by omega⟩
   rw [hm] at q; cases q
 ·intro q; rw [q]; simp
theorem Recv.step {a b x : Replica} (h : Recv a b x) {n : Int} (hn : 1 ≤ n) (hl : a.ops.length + 2 * b.ops.length ≤ 400) :
  (merge x (missing b.ops x.seen n)).2 = 0 ∧ Recv a b (merge x (missing b.ops x.seen n)).1 ∧ behind (merge x (missing b.ops x.seen n)).1.ops b.ops ≤ behind x.ops b.ops - 1 := by
 have hx := h.len
 obtain ⟨p1, p2, p3, p4, p5, p6⟩ := h.c.part (n := n) hn (by omega)
 refine ⟨p1, ⟨p2, fun o ho => (p3 o).2 (.inl (h.up o ho)), fun o ho => ?_, p6.trans h.dev⟩, p4⟩
 rcases (p3 o).1 ho with q | q
 ·exact h.of o q
 ·exact .inr (jm q)
theorem ji {a b : Replica} {n : Int} (hn : 1 ≤ n) (hl : a.ops.length + 2 * b.ops.length ≤ 400) : ∀ (k : Nat) (x : Replica), Recv a b x → behind x.ops b.ops ≤ k → Recv a b (partsR (k + 1) x b n) ∧ behind (partsR (k + 1) x b n).ops b.ops = 0
 | 0, x, h, hb => by
  have hb0 : behind x.ops b.ops = 0 := by omega
  rw [partsR, if_pos ((yH h.c hn).2 hb0)]
  exact ⟨h, hb0⟩
 | k + 1, x, h, hb => by
  rw [partsR]
  split
  ·rename_i q
   exact ⟨h, (yH h.c hn).1 q⟩
  ·rename_i q
   obtain ⟨p1, p2, p3⟩ := h.step hn hl
   exact ji hn hl k _ p2 (by omega)
set_option maxRecDepth 8000 in
set_option maxHeartbeats 8000000 in
theorem JU (a b : Replica) (n : Int) (hn : 1 ≤ n) (hc : Cons a b) (hl : a.ops.length + 2 * b.ops.length ≤ 400) (ia : Ids a.ops) (ib : Ids b.ops) : PCalls Tryz.prog GL 12 [.agg (repC a), .agg (repC b), vi n] (.tup [.agg (repC (partsR (b.ops.length + 1) a b n)), vb true]) := by
 have z0 : (!decide ((0 : Int) = 0)) = false := rfl
 have fb := Zv hc.ry
 refine pcalls' Tryz.func12 Tryz.ntmps12 rfl rfl rfl ?_
 refine runn [3, 6, 10] ?_
 refine J8 (α := Nat) (β := Replica) 2 (fun k _ => [(2, vi n), (3, .lp 0 0), (4, .fp (repC b)), (6, .lp 1 0), (8, vi k)]) (fun _ x => [.box (repC x), .box [vi 0, .v (.slice none 0 0), .v (.slice none 0 0)]]) (fun k x => k ≤ b.ops.length ∧ Recv a b x ∧ behind x.ops b.ops ≤ b.ops.length - k ∧ partsR (b.ops.length + 1 - k) x b n = partsR (b.ops.length + 1) a b n) (fun k _ => b.ops.length - k) 0 a
  qw ⟨Nat.zero_le _, Recv.start hc, wP _ _, rfl⟩ ?_
 rintro k x ⟨hk, hR, hbh, hfin⟩
 have c1 : decide ((k : Int) ≤ b.ops.length) = true := decide_eq_true (by omega)
 have fx := Zv hR.c.rx
 have hMi := MissingP (g := GL) b x.seen n fb (by have := fx.2; omega)
 have hml := Wg b.ops x.seen n
 rw [show b.ops.length + 1 - k = (b.ops.length - k) + 1 by omega, partsR] at hfin
 by_cases hm : missing b.ops x.seen n = []
 ·rw [if_pos hm] at hfin
  rw [hm] at hMi
  rw [← hfin]
  have d1 : decide ((([] : List Op).length : Int) = 0) = true := rfl
  refine runn [3, 6, 10] ?_
  refine retP rfl ?_
  simp [ex, exL, repC]
 ·rw [if_neg hm] at hfin
  obtain ⟨p1, p2, p3⟩ := hR.step hn hl
  have hx := hR.len
  have ix : Ids x.ops := fun o ho => (hR.of o ho).elim (ia o) (ib o)
  have hMe := qo x (missing b.ops x.seen n) (WL fx.1 (missing_fit fb.1 _ _) (by omega) ix fun o ho => ib o (jm ho)) (Zo hR.c.rx)
  rw [mergeV, p1] at hMe
  have hbz : behind x.ops b.ops ≠ 0 := fun q => hm ((yH hR.c hn).2 q)
  have d1 : decide (((missing b.ops x.seen n).length : Int) = 0) = false := decide_eq_false (fun q => hm (List.eq_nil_of_length_eq_zero (by omega)))
  generalize (merge x (missing b.ops x.seen n)).1 = y at *
  generalize missing b.ops x.seen n = ml at *
  refine runn [3, 6, 10] ?_
  exact ⟨k + 1, y, qw, ⟨by omega, p2, by omega, by rw [show b.ops.length + 1 - (k + 1) = b.ops.length - k by omega]; exact hfin⟩, by omega⟩
end
section
theorem y8 {r : Replica} (h : repE r = 0) {s : Stamp} (hs : right s = true) : covers r.seen s = true ↔ ∃ o ∈ r.ops, o.at_.dev = s.dev ∧ s.count ≤ o.at_.count := by
 rw [(Zy h).2.1]
 exact qK (fun p hp => ZN h hp) hs
theorem Recv.cons {a b c x : Replica} (h : Recv a b x) (hb : ∀ o ∈ b.ops, o ∈ x.ops) (hac : Cons a c) (hbc : Cons b c) : Cons x c := by
 refine ⟨h.c.rx, hac.ry, fun o ho hc => ?_, fun o ho hc => ?_⟩
 ·have hr := ZN hac.ry ho
  obtain ⟨p, hp, e1, e2⟩ := (y8 h.c.rx hr).1 hc
  rcases h.of p hp with q | q
  ·exact h.up o (hac.hx o ho ((y8 hac.rx hr).2 ⟨p, q, e1, e2⟩))
  ·exact hb o (hbc.hx o ho ((y8 hbc.rx hr).2 ⟨p, q, e1, e2⟩))
 ·rcases h.of o ho with q | q
  ·exact hac.hy o q hc
  ·exact hbc.hy o q hc
def partOne (d0 d2 : Replica) (n : Int) : Replica := partsR (d0.ops.length + 1) d2 d0 n
def partTwo (d0 d1 d2 : Replica) (n : Int) : Replica := partsR (d1.ops.length + 1) (partOne d0 d2 n) d1 n
def oneR (d0 d1 : Replica) : Replica := (merge d0 d1.ops).1
def twoR (d0 d1 d2 : Replica) : Replica := (merge (oneR d0 d1) d2.ops).1
structure ThreeR (d0 d1 d2 : Replica) (n : Int) : Prop where
 c1 : Cons d2 d0
 c2 : Cons (partOne d0 d2 n) d1
 i1 : Ids (partOne d0 d2 n).ops
 l1 : (partOne d0 d2 n).ops.length ≤ 32
 r2 : repE (partTwo d0 d1 d2 n) = 0
 ro : repE (twoR d0 d1 d2) = 0
 ops : (partTwo d0 d1 d2 n).ops = (twoR d0 d1 d2).ops
 seen : (partTwo d0 d1 d2 n).seen = (twoR d0 d1 d2).seen
 mem : ∀ o, o ∈ (twoR d0 d1 d2).ops ↔ o ∈ d0.ops ∨ o ∈ d1.ops ∨ o ∈ d2.ops
 len : (twoR d0 d1 d2).ops.length ≤ 48
theorem three_of {d0 d1 d2 : Replica} {n : Int} (hn : 1 ≤ n) (h01 : Cons d0 d1) (h02 : Cons d0 d2) (h12 : Cons d1 d2) (l0 : d0.ops.length ≤ 16) (l1 : d1.ops.length ≤ 16) (l2 : d2.ops.length ≤ 16) (i0 : Ids d0.ops) (i2 : Ids d2.ops)
  (m1 : (merge d0 d1.ops).2 = 0) (m2 : (merge (oneR d0 d1) d2.ops).2 = 0) : ThreeR d0 d1 d2 n := by
 have c1 := h02.symm
 obtain ⟨p1, p2⟩ := ji (b := d0) hn (by omega) d0.ops.length d2 (Recv.start c1) (wP _ _)
 have q1 := jG.1 p2
 have c2 : Cons (partOne d0 d2 n) d1 := Recv.cons p1 q1 h12.symm h01
 have len1 : (partOne d0 d2 n).ops.length ≤ 32 := by have := p1.len; show (partsR (d0.ops.length + 1) d2 d0 n).ops.length ≤ 32; omega
 obtain ⟨p3, p4⟩ := ji (b := d1) hn (by omega) d1.ops.length (partOne d0 d2 n) (Recv.start c2) (wP _ _)
 have q2 := jG.1 p4
 obtain ⟨a1, a2, a3, a4, a5, a6⟩ := wA (Zo h01.rx) m1
 obtain ⟨b1, b2, b3, b4, b5, b6⟩ := wA (r := oneR d0 d1) (l := d2.ops) a1 m2
 have hmem : ∀ o, o ∈ (twoR d0 d1 d2).ops ↔ o ∈ d0.ops ∨ o ∈ d1.ops ∨ o ∈ d2.ops := fun o => by
  refine (b2 o).trans ⟨?_, ?_⟩
  ·rintro (h | h)
   ·rcases (a2 o).1 h with h | h
    ·exact .inl h
    ·exact .inr (.inl h)
   ·exact .inr (.inr h)
  ·rintro (h | h | h)
   ·exact .inl ((a2 o).2 (.inl h))
   ·exact .inl ((a2 o).2 (.inr h))
   ·exact .inr h
 have hops : (partTwo d0 d1 d2 n).ops = (twoR d0 d1 d2).ops := by
  refine Inc.ext (Zo p3.c.rx) b1 fun o => Iff.trans ?_ (hmem o).symm
  constructor
  ·intro h
   rcases p3.of o h with h | h
   ·rcases p1.of o h with h | h
    ·exact .inr (.inr h)
    ·exact .inl h
   ·exact .inr (.inl h)
  ·rintro (h | h | h)
   ·exact p3.up o (q1 o h)
   ·exact q2 o h
   ·exact p3.up o (p1.up o h)
 refine ⟨c1, c2, fun o ho => ?_, len1, p3.c.rx, b4, hops, ?_, hmem, ?_⟩
 ·exact (p1.of o ho).elim (i2 o) (i0 o)
 ·have e1 : (partTwo d0 d1 d2 n).seen = _ := (Zy p3.c.rx).2.1
  rw [e1]
  show _ = (merge (oneR d0 d1) d2.ops).1.seen
  rw [b5]
  exact congrArg seenL hops
 ·show (merge (oneR d0 d1) d2.ops).1.ops.length ≤ 48
  have : (oneR d0 d1).ops.length ≤ d0.ops.length + d1.ops.length := a6
  omega
end
end Go.Proofs.YtcfkokllinkigaaGreatDoor
namespace Go.Ac
section
open Go.RowKit
section
variable {P : Program} {G : Glo} {N : Nat} {S : SL} {L : List LB} {ty : TypeId} {u : Operand}
end
end
section
open Go.RowKit
section
variable {P : Program} {G : Glo} {N : Nat} {S : SL} {L : List LB} {ty : TypeId}
theorem ev_remK {xt yt : TypeId} {u e : Operand} {k : IntKind} {p q r : Int} (h1 : val G S u = some (.v (.int k p))) (h2 : val G S e = some (.v (.int k q))) (hq : q ≠ 0) (hr : p.tmod q = r) : Ev P G N (.binOp .rem xt u e yt) ty S L (.v (.int k r)) := by
 subst hr
 intro o ho _ cx a hc
 have e1 := zn hc h1
 have e2 := zn hc h2
 simp only [R] at e1 e2
 refine ⟨_, ?_, by simp only [R]; rfl⟩
 simp only [execOp, ho, e1, e2]
 simp [eqGuard, binOp, Op.intDiv, hq]
end
end
section
section
variable {P : Program} {G : Glo} {N : Nat} {S : SL} {L : List LB} {ty : TypeId}
theorem j5 {xt yt : TypeId} {u e : Operand} {k j : IntKind} {p q r : Int} (h1 : val G S u = some (.v (.int k p))) (h2 : val G S e = some (.v (.int j q))) (hq : 0 ≤ q) (hr : k.wrap (p * 2 ^ min q.toNat k.bits) = r) : Ev P G N (.binOp .shl xt u e yt) ty S L (.v (.int k r)) := by
 subst hr
 intro o ho _ cx a hc
 have e1 := zn hc h1
 have e2 := zn hc h2
 simp only [R] at e1 e2
 refine ⟨_, ?_, by simp only [R]; rfl⟩
 simp only [execOp, ho, e1, e2]
 simp [eqGuard, binOp, Op.shift, Int.not_lt.mpr hq]
theorem ZU {xt yt : TypeId} {u e : Operand} {k j : IntKind} {p q r : Int} (h1 : val G S u = some (.v (.int k p))) (h2 : val G S e = some (.v (.int j q))) (hq : 0 ≤ q) (hr : p.fdiv (2 ^ min q.toNat k.bits) = r) : Ev P G N (.binOp .shr xt u e yt) ty S L (.v (.int k r)) := by
 subst hr
 intro o ho _ cx a hc
 have e1 := zn hc h1
 have e2 := zn hc h2
 simp only [R] at e1 e2
 refine ⟨_, ?_, by simp only [R]; rfl⟩
 simp only [execOp, ho, e1, e2]
 simp [eqGuard, binOp, Op.shift, Int.not_lt.mpr hq]
theorem wK {xt yt : TypeId} {u e : Operand} {k : IntKind} {p q r : Int} (h1 : val G S u = some (.v (.int k p))) (h2 : val G S e = some (.v (.int k q))) (hr : k.wrap (BitVec.ofInt k.bits p ||| BitVec.ofInt k.bits q).toNat = r) : Ev P G N (.binOp .or xt u e yt) ty S L (.v (.int k r)) := by
 subst hr
 intro o ho _ cx a hc
 have e1 := zn hc h1
 have e2 := zn hc h2
 simp only [R] at e1 e2
 refine ⟨_, ?_, by simp only [R]; rfl⟩
 simp only [execOp, ho, e1, e2]
 simp [eqGuard, binOp, Op.intBits]
theorem Qm {xt yt : TypeId} {u e : Operand} {k : IntKind} {p q r : Int} (h1 : val G S u = some (.v (.int k p))) (h2 : val G S e = some (.v (.int k q))) (hr : k.wrap (BitVec.ofInt k.bits p &&& BitVec.ofInt k.bits q).toNat = r) : Ev P G N (.binOp .and xt u e yt) ty S L (.v (.int k r)) := by
 subst hr
 intro o ho _ cx a hc
 have e1 := zn hc h1
 have e2 := zn hc h2
 simp only [R] at e1 e2
 refine ⟨_, ?_, by simp only [R]; rfl⟩
 simp only [execOp, ho, e1, e2]
 simp [eqGuard, binOp, Op.intBits]
end
end
section
section
variable {P : Program} {G : Glo} {N : Nat} {S : SL} {L : List LB} {ty : TypeId}
theorem j4 {xt yt : TypeId} {u e : Operand} {k : IntKind} {p q r : Int} (h1 : val G S u = some (.v (.int k p))) (h2 : val G S e = some (.v (.int k q))) (hr : k.wrap (BitVec.ofInt k.bits p ^^^ BitVec.ofInt k.bits q).toNat = r) : Ev P G N (.binOp .xor xt u e yt) ty S L (.v (.int k r)) := by
 subst hr
 intro o ho _ cx a hc
 have e1 := zn hc h1
 have e2 := zn hc h2
 simp only [R] at e1 e2
 refine ⟨_, ?_, by simp only [R]; rfl⟩
 simp only [execOp, ho, e1, e2]
 simp [eqGuard, binOp, Op.intBits]
end
end
section
section
variable {P : Program} {G : Glo} {N : Nat} {S : SL} {L : List LB} {ty : TypeId}
theorem ev_cplK {xt : TypeId} {u : Operand} {k : IntKind} {p r : Int} (h1 : val G S u = some (.v (.int k p))) (hr : k.wrap (BitVec.ofInt k.bits (if k.signed then -1 else k.max) ^^^ BitVec.ofInt k.bits p).toNat = r) : Ev P G N (.unOp .xor xt u) ty S L (.v (.int k r)) := by
 subst hr
 intro o ho _ cx a hc
 have e1 := zn hc h1
 simp only [R] at e1
 refine ⟨_, ?_, by simp only [R]; rfl⟩
 simp only [execOp, ho, e1]
 simp [Op.unary, Op.intBits]
theorem ev_eqK {xt yt : TypeId} {u e : Operand} {k : IntKind} {p q : Int} (h1 : val G S u = some (.v (.int k p))) (h2 : val G S e = some (.v (.int k q))) : Ev P G N (.binOp .eql xt u e yt) ty S L (.v (.bool (decide (p = q)))) := by
 intro o ho _ cx a hc
 have e1 := zn hc h1
 have e2 := zn hc h2
 simp only [R] at e1 e2
 refine ⟨_, ?_, by simp only [R]; rfl⟩
 simp only [execOp, ho, e1, e2]
 simp [eqGuard, binOp, Op.intCmp] <;> (first | rfl | skip)
theorem ev_geK {xt yt : TypeId} {u e : Operand} {k : IntKind} {p q : Int} (h1 : val G S u = some (.v (.int k p))) (h2 : val G S e = some (.v (.int k q))) : Ev P G N (.binOp .geq xt u e yt) ty S L (.v (.bool (decide (q ≤ p)))) := by
 intro o ho _ cx a hc
 have e1 := zn hc h1
 have e2 := zn hc h2
 simp only [R] at e1 e2
 refine ⟨_, ?_, by simp only [R]; rfl⟩
 simp only [execOp, ho, e1, e2]
 simp [eqGuard, binOp, Op.intCmp] <;> (first | rfl | skip)
end
theorem or_nat {n a b : Nat} (ha : a < 2 ^ n) (hb : b < 2 ^ n) : (BitVec.ofInt n (a : Int) ||| BitVec.ofInt n (b : Int)).toNat = a ||| b := by
 rw [BitVec.ofInt_natCast, BitVec.ofInt_natCast, BitVec.toNat_or, BitVec.toNat_ofNat, BitVec.toNat_ofNat, Nat.mod_eq_of_lt ha, Nat.mod_eq_of_lt hb]
theorem and_nat {n a b : Nat} (ha : a < 2 ^ n) (hb : b < 2 ^ n) : (BitVec.ofInt n (a : Int) &&& BitVec.ofInt n (b : Int)).toNat = a &&& b := by
 rw [BitVec.ofInt_natCast, BitVec.ofInt_natCast, BitVec.toNat_and, BitVec.toNat_ofNat, BitVec.toNat_ofNat, Nat.mod_eq_of_lt ha, Nat.mod_eq_of_lt hb]
theorem xor_nat {n a b : Nat} (ha : a < 2 ^ n) (hb : b < 2 ^ n) : (BitVec.ofInt n (a : Int) ^^^ BitVec.ofInt n (b : Int)).toNat = a ^^^ b := by
 rw [BitVec.ofInt_natCast, BitVec.ofInt_natCast, BitVec.toNat_xor, BitVec.toNat_ofNat, BitVec.toNat_ofNat, Nat.mod_eq_of_lt ha, Nat.mod_eq_of_lt hb]
end
end Go.Ac
