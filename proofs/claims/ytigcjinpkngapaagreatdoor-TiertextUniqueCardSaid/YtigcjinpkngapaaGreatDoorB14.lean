/- A logic of trees over the model's steps, and the contracts of the functions that the laws reach: part 14 of 16. -/
import Derived.Test.YtigcjinpkngapaaGreatDoorB13
import Derived.Test.YtigcjinpkngapaaGreatDoorProg
import Derived.WalkKit
import Derived.LaidEql
import Derived.Stop.Asserts
import Derived.RowKitTokens
set_option linter.unusedVariables false
set_option linter.unusedSimpArgs false
set_option linter.unusedSectionVars false
section
namespace Go.Proofs.YtigcjinpkngapaaGreatDoor
theorem linesW_fit {s : List UInt8} {ls : List (List UInt8)} (h : linesW s = some ls) : ls.length ≤ s.length + 1 ∧ ∀ x ∈ ls, x.length ≤ s.length := by
  unfold linesW at h
  split at h
  · injection h with h; subst h; simp
  split at h
  · injection h with h
    subst h
    have hd : s.dropLast.length ≤ s.length := by rw [List.length_dropLast]; omega
    exact ⟨Nat.le_trans (splitOn_len 10 _) (by omega), fun x hx => Nat.le_trans (splitOn_part 10 _ x hx) hd⟩
  · cases h
theorem lines_fit {s : ByteArray} {ls : List (List UInt8)} (h : linesW (lst s) = some ls) : (ls.map toB).length ≤ s.size + 1 ∧ ∀ x ∈ ls.map toB, x.size ≤ s.size := by
  obtain ⟨h1, h2⟩ := linesW_fit h
  have hl : (lst s).length = s.size := size_list s
  rw [hl] at h1 h2
  refine ⟨by simpa using h1, fun w hw => ?_⟩
  obtain ⟨x, hx, rfl⟩ := List.mem_map.1 hw
  rw [toB_size]
  exact h2 x hx
theorem inNum_I {n : Int} (h : inNum n) : InI n := by unfold inNum at h; exact ⟨by omega, by omega⟩
theorem numsP_in : ∀ {l : List ByteArray} {m : List Int}, numsP l = some m → ∀ n ∈ m, inNum n
  | [], m, h, n, hn => by simp [numsP] at h; subst h; cases hn
  | s :: r, m, h, n, hn => by
    rw [numsP] at h
    cases hs : numP s with
    | none => rw [hs] at h; cases h
    | some k =>
      rw [hs] at h
      cases hr : numsP r with
      | none => rw [hr] at h; cases h
      | some m' =>
        rw [hr] at h
        simp at h
        subst h
        rcases List.mem_cons.1 hn with rfl | hn
        · exact numP_in hs
        · exact numsP_in hr n hn
structure RecIn (r : Recording) : Prop where
  i : inNum r.id
  l : inNum r.length
  d : inNum r.day
  s : ∀ n ∈ r.speakers, inNum n
structure TierIn (t : Tier) : Prop where
  k : inNum t.kind
  r : inNum t.role
  p : inNum t.parent
structure NoteIn (n : Note) : Prop where
  i : inNum n.id
  t : inNum n.tier
  p : inNum n.parent
  f : inNum n.span.fro
  e : inNum n.span.til
  r : inNum n.rank
structure DocIn (d : Doc) : Prop where
  r : RecIn d.rec_
  t : ∀ t ∈ d.tiers, TierIn t
  n : ∀ n ∈ d.notes, NoteIn n
theorem recP_spec {w : List ByteArray} {r : Recording} (h : recP w = some r) : ∃ k a nm b, w = k :: a :: nm :: b ∧ k = kRec ∧ 2 ≤ b.length ∧ r.name = nm ∧ numsP (a :: b) = some (r.id :: r.length :: r.day :: r.speakers) := by
  unfold recP at h
  split at h
  · rename_i k a nm b
    split at h
    · rename_i hc
      split at h
      · rename_i id x y sp hq
        injection h with h; subst h
        exact ⟨k, a, nm, b, rfl, hc.1, hc.2, rfl, hq⟩
      · cases h
    · cases h
  · cases h
theorem tierP_spec {w : List ByteArray} {t : Tier} (h : tierP w = some t) : ∃ a b c, w = [kTier, t.name, a, b, c] ∧ numsP [a, b, c] = some [t.kind, t.role, t.parent] := by
  unfold tierP at h
  split at h
  · rename_i k nm a b c
    split at h
    · rename_i hk
      split at h
      · rename_i x y z hq
        injection h with h; subst h
        exact ⟨a, b, c, by rw [hk], hq⟩
      · cases h
    · cases h
  · cases h
theorem noteP_spec {w : List ByteArray} {n : Note} (h : noteP w = some n) : ∃ a b c d e f, w = [kNote, a, b, c, d, e, f, n.text] ∧ numsP [a, b, c, d, e, f] = some [n.id, n.tier, n.parent, n.span.fro, n.span.til, n.rank] := by
  unfold noteP at h
  split at h
  · rename_i k a b c d e f t
    split at h
    · rename_i hk
      split at h
      · rename_i x1 x2 x3 x4 x5 x6 hq
        injection h with h; subst h
        exact ⟨a, b, c, d, e, f, by rw [hk], hq⟩
      · cases h
    · cases h
  · cases h
theorem recP_in {w : List ByteArray} {r : Recording} (h : recP w = some r) : RecIn r := by
  obtain ⟨k, a, nm, b, _, _, _, _, hq⟩ := recP_spec h
  have hi := numsP_in hq
  exact ⟨hi _ (by simp), hi _ (by simp), hi _ (by simp), fun n hn => hi n (by simp [hn])⟩
theorem tierP_in {w : List ByteArray} {t : Tier} (h : tierP w = some t) : TierIn t := by
  obtain ⟨a, b, c, _, hq⟩ := tierP_spec h
  have hi := numsP_in hq
  exact ⟨hi _ (by simp), hi _ (by simp), hi _ (by simp)⟩
theorem noteP_in {w : List ByteArray} {n : Note} (h : noteP w = some n) : NoteIn n := by
  obtain ⟨a, b, c, d, e, f, _, hq⟩ := noteP_spec h
  have hi := numsP_in hq
  exact ⟨hi _ (by simp), hi _ (by simp), hi _ (by simp), hi _ (by simp), hi _ (by simp), hi _ (by simp)⟩
theorem furP_in {d d' : Doc} {w : List ByteArray} (hd : DocIn d) (h : furP d w = some d') : DocIn d' := by
  unfold furP at h
  split at h
  · rename_i t ht
    split at h
    · injection h with h; subst h
      refine ⟨hd.r, fun x hx => ?_, hd.n⟩
      rcases List.mem_append.1 hx with hx | hx
      · exact hd.t x hx
      · simp only [List.mem_singleton] at hx; subst hx; exact tierP_in ht
    · cases h
  · split at h
    · rename_i n hn
      injection h with h; subst h
      refine ⟨hd.r, hd.t, fun x hx => ?_⟩
      rcases List.mem_append.1 hx with hx | hx
      · exact hd.n x hx
      · simp only [List.mem_singleton] at hx; subst hx; exact noteP_in hn
    · cases h
theorem lineP_in {i : Nat} {d d' : Doc} {x : ByteArray} (hd : DocIn d) (h : lineP i d x = some d') : DocIn d' := by
  unfold lineP at h
  split at h
  · cases h
  · split at h
    · obtain ⟨r, hr, rfl⟩ := Option.map_eq_some_iff.1 h
      exact ⟨recP_in hr, hd.t, hd.n⟩
    · exact furP_in hd h
theorem readF_in : ∀ (l : List ByteArray) (i : Nat) (d : Doc), DocIn d → DocIn (readF i d l).1
  | [], _, _, h => h
  | x :: r, i, d, h => by
    rw [readF]
    cases hq : lineP i d x with
    | none => exact h
    | some d' => exact readF_in r (i + 1) d' (lineP_in h hq)
theorem zero_in : DocIn zeroDoc := ⟨⟨by decide, by decide, by decide, fun n hn => (by cases hn)⟩, fun t ht => (by cases ht), fun t ht => (by cases ht)⟩
theorem readF_len : ∀ (l : List ByteArray) (i : Nat) (d : Doc), (readF i d l).1.tiers.length + (readF i d l).1.notes.length ≤ d.tiers.length + d.notes.length + l.length
  | [], _, _ => by simp [readF]
  | x :: r, i, d => by
    rw [readF]
    cases hq : lineP i d x with
    | none => simp
    | some d' =>
      have ih := readF_len r (i + 1) d'
      have : d'.tiers.length + d'.notes.length ≤ d.tiers.length + d.notes.length + 1 := by
        unfold lineP at hq
        split at hq
        · cases hq
        · split at hq
          · obtain ⟨r, hr, rfl⟩ := Option.map_eq_some_iff.1 hq
            simp only; omega
          · rw [furP_len hq]; omega
      simp only [List.length_cons]
      omega
theorem readF_rec {i : Nat} : ∀ (l : List ByteArray) (d : Doc), (readF (i + 1) d l).1.rec_ = d.rec_
  | [], _ => rfl
  | x :: r, d => by
    rw [readF]
    cases hq : lineP (i + 1) d x with
    | none => rfl
    | some d' =>
      rw [readF_rec r d']
      unfold lineP at hq
      split at hq
      · cases hq
      · rw [if_neg (by omega)] at hq
        unfold furP at hq
        split at hq
        · split at hq
          · injection hq with hq; subst hq; rfl
          · cases hq
        · split at hq
          · injection hq with hq; subst hq; rfl
          · cases hq
theorem readF_spk {l : List ByteArray} {m : Nat} (h : ∀ x ∈ l, x.size ≤ m) : (readF 0 zeroDoc l).1.rec_.speakers.length ≤ m + 1 := by
  cases l with
  | nil => simp [readF, zeroDoc, zeroRec]
  | cons x r =>
    rw [readF]
    cases hq : lineP 0 zeroDoc x with
    | none => simp [zeroDoc, zeroRec]
    | some d' =>
      simp only
      rw [readF_rec r d']
      unfold lineP at hq
      split at hq
      · cases hq
      · rename_i ws hw
        rw [if_pos rfl] at hq
        obtain ⟨r', hr, rfl⟩ := Option.map_eq_some_iff.1 hq
        obtain ⟨k, a, nm, b, e1, _, _, _, hn⟩ := recP_spec hr
        have h1 := (words_fit hw).1
        have h2 := numsP_len hn
        have h3 := h x (by simp)
        rw [e1] at h1
        simp only [List.length_cons] at h1 h2 ⊢
        omega
def parseD (s : List UInt8) : Doc × Int × Int :=
  if s = [] then (zeroDoc, 0, 4)
  else match linesW s with
    | none => (zeroDoc, 0, 3)
    | some ls =>
      if (readF 0 zeroDoc (ls.map toB)).2 ≠ 0 then (zeroDoc, ((readF 0 zeroDoc (ls.map toB)).2 : Int), 3)
      else if printE (readF 0 zeroDoc (ls.map toB)).1 ≠ 0 then (zeroDoc, 0, printE (readF 0 zeroDoc (ls.map toB)).1)
      else ((readF 0 zeroDoc (ls.map toB)).1, 0, 0)
end Go.Proofs.YtigcjinpkngapaaGreatDoor
end
section
namespace Go.Ac
section
variable {P : Program} {td : TDs} [T : TOK P td] {G : Glo} {N : Nat} {Q : AQ} {S : SL} {L : List LB} {ops : Array Oper} {rest : List Oper}
  {ty : TypeId} {pos : String} {af : Array Edge} {dd : Nat}
theorem awpL_tgt {f : FuncId} {us : Array Operand} {ats : Array TypeId} {te tp : TypeId} {k gv : Nat} {gx : AV} {gy n m r : Value} {L' : List LB}
    (hargs : vals G S us.toList = some [.ifc te (.agg [.v n]), .ifc tp (.lp k 0)]) (hk : L[k]? = some (.box [.v m])) (h1 : n.oneCell' = true) (hC : Callable P f)
    (hg : (gv, [gx]) ∈ G.g) (hgx : ∀ F w u, RF F w gx u → u = gy)
    (hS : ∀ (b : Nat) (w : World), w.cell? ⟨gv, 0, none⟩ = some gy → w.cell? ⟨b, 0, none⟩ = some m → w.frozen? ⟨b, 0, none⟩ = false → Calls P f #[.iface te (.agg #[n]), .iface tp (.pointer (some ⟨b, 0, none⟩))] w fun e w' => e = .returned r ∧ ∃ c os, w' = (Go.Sort.grow (Go.Sort.ahead w c) os).setCell ⟨b, 0, none⟩ n)
    (hd : Nat.blt dd N = true) (hL : L.set k (.box [.v n]) = L')
    (kk : awpL P G N ops rest Q ((dd, .v r) :: S) L') :
    awpL P G N ops (⟨some dd, .call { callee := .value (.func f), args := us, argTypes := ats }, ty, pos, af, none⟩ :: rest) Q S L := by
  subst hL
  intro cx a hc
  have hr := vals_R hc hargs
  have hb := hc.st.blk k _ hk
  simp only [BR] at hb
  obtain ⟨b0, b, arr, T', e1, e2, e3, e4⟩ := hb
  simp only [TR, R, RF, LF] at hr
  obtain ⟨y1, s1, hs, ⟨u1, rfl, xs, rfl, z1, z2, hz1, rfl, _, rfl⟩, y2, s2, rfl, ⟨u2, rfl, o1, o2, o3⟩, rfl⟩ := hr
  obtain ⟨b', e1', rfl⟩ := o3 b0
  rw [e1] at e1'; injection e1' with e1'; subst e1'
  have hvs : us.map a.eval = #[.iface te (.agg #[z1]), .iface tp (.pointer (some ⟨b, 0, none⟩))] := by
    have hx : xs = #[z1] := by rw [← Array.toArray_toList (xs := xs), hz1]
    subst hx
    have : (us.map a.eval).toList = [.iface te (.agg #[z1]), .iface tp (.pointer (some ⟨b, 0, none⟩))] := by simpa using hs
    rw [← Array.toArray_toList (xs := us.map a.eval), this]
  have hblk : b < cx.w.heap.size := (hc.st.loc k b e1).2.2
  obtain ⟨u, q1, q2, q3⟩ := e4.get (i := 0) (x := .v m) rfl
  simp only [R] at q2
  subst q2
  have hgc : cx.w.cell? ⟨gv, 0, none⟩ = some gy := by
    obtain ⟨u, g1, g2, _⟩ := MF.get (hc.st.glob _ hg).2.1 (i := 0) (x := gx) rfl
    have g1 : cx.w.cell? ⟨gv, 0, none⟩ = some u := by simpa using g1
    rw [g1, hgx _ _ _ g2]
  refine wpListIn_plain rfl fun K hK => wpIn_of_run rfl ?_
  rw [run_call hC (o := ⟨some dd, .call { callee := .value (.func f), args := us, argTypes := ats }, ty, pos, af, none⟩) rfl a cx.w, Oper.uponIn_enter, hvs]
  refine ⟨fun h => by simp at h, CallsIn.mono (callsIn_wide.2 (hS b cx.w hgc q1 (by simp [World.frozen?, e2]))) ?_⟩
  rintro e w' ⟨rfl, c, os, rfl⟩
  have hst1 := hc.st.afterS (F := cx.F) (F' := cx.F) (ext_grow cx.F cx.w hc.st.inF c os)
  generalize hw1 : Go.Sort.grow (Go.Sort.ahead cx.w c) os = w1 at *
  have hh1 : w1.heap[b]? = some (.cells arr T' (0, 0)) := by rw [← hw1, ← e2]; simp [Go.Sort.grow, Go.Sort.ahead, Array.getElem?_append_left hblk]
  have hheap : ∀ b', (w1.setCell ⟨b, 0, none⟩ z1).heap[b']? = if b = b' then some (.cells (arr.setIfInBounds 0 z1) T' (0, 0)) else w1.heap[b']? := by
    intro b'
    simp only [World.setCell, Array.getElem?_modify]
    by_cases e : b = b'
    · subst e; simp [hh1]
    · simp [e]
  have hst2 := hst1.st.wr (k := k) (b := b) (w' := w1.setCell ⟨b, 0, none⟩ z1) e1 rfl rfl rfl (by simp [World.setCell]) (fun b' h => by rw [hheap, if_neg (Ne.symm h)])
    (fun arr' T'' h => by
      have h : w1.heap[b]? = some (.cells arr' T'' (0, 0)) := h
      rw [hh1] at h; cases h
      exact ⟨_, by rw [hheap, if_pos rfl], by simp⟩) (by rw [hk]; simp) (x := .box [.v z1])
    (fun _ => by
      simp only [BR]
      refine ⟨b0, b, _, T', e1, by rw [hheap, if_pos rfl], by simpa using e3, MR.mk fun j x hx => ?_⟩
      match j, hx with
      | 0, hx =>
        have hx : AV.v z1 = x := by simpa using hx
        subst hx
        have h0 : 0 < arr.size := by simp at e3; omega
        exact ⟨z1, by simp [World.cell?, hheap, h0], by simp only [R], h1⟩)
  have htup : ∀ c : Cx, R c (.v r) r := fun c => by simp only [R]
  exact hK _ _ (wpListIn_mono (fun e a w q => q.trans (hst1.ext.trans hst2.ext)) _ _ _ (kk _ _ ((hst2.cn (hst1.cn hc)).put hd (htup _))))
end
end Go.Ac
namespace Go.Ac
section
variable {P : Program} {G : Glo} {N : Nat} {S : SL} {L : List LB} {ty : TypeId} {x : AV}
theorem ev_mkifc {xt : TypeId} {u : Operand} {d : TypeDesc} (h : val G S u = some x) (hu : P.underlying xt = some d) (hn : (match d with | .interface _ => false | _ => true) = true) : Ev P G N (.makeInterface xt u) ty S L (.ifc xt x) := by
  intro o ho _ cx a hc
  have e1 := val_R hc h
  refine ⟨.iface xt (a.eval u), ?_, by simp only [R]; exact ⟨_, rfl, e1⟩⟩
  have : (Instr.makeInterface xt (a.eval u)).run P cx.w = .ok (.iface xt (a.eval u)) cx.w := by
    cases d <;> simp_all [Instr.makeInterface, run_underlying hu, Result.andThen]
  simp only [execOp, ho, Sem.run_bind, this, Result.andThen_ok, Sem.run_pure]
end
end Go.Ac
end
section
namespace Go.Proofs.YtigcjinpkngapaaGreatDoor
open Go.Ac
attribute [local irreducible] awp awpL Ev Ev2 EvS thenQ blockQ retQ PCalls OCalls ICalls
variable {g : List (Nat × List AV)}
abbrev refV (n : Int) : AV := .ifc 64 (.agg [.v (.int .i64 n)])
def readV (p : Doc × Nat) : AV := if p.2 = 0 then .tup [.agg (docC p.1), .v .nilIface] else .tup [.agg (docC zeroDoc), refV p.2]
abbrev stL : Nat → Doc → List LB
  | 0, _ => docL0
  | _ + 1, d => docLB d
theorem le_zeroDoc : LeA zeroB (docC zeroDoc) := .cons (Le.rfl' _) (.cons (Le.rfl' _) (.cons (Le.rfl' _) (.cons (Le.rfl' _) (.cons (Le.nil 1) (.cons (Le.nil 4) (.cons (Le.nil 7) .nil))))))
set_option maxRecDepth 8000 in
set_option maxHeartbeats 8000000 in
theorem wread_spec (hN : NumG g) (hM : MaxG g) (l : List ByteArray) (hl : l.length ≤ 80000000) (hx : ∀ s ∈ l, s.size ≤ 80000000) : PCalls Tryz.prog g 39 [encSs l] (readV (readF 0 zeroDoc l)) := by
  have n1 : (!true) = false := rfl
  have n2 : (!false) = true := rfl
  refine pcalls' Tryz.func39 Tryz.ntmps39 rfl rfl rfl ?_
  repeat' (first
   | refine stn [2, 4] ?_
   | ((with_reducible refine is_gd ?_); refine awpL_split rfl rfl (fun h => ?_) (fun h => ?_))
   | ((with_reducible refine is_awp ?_); refine awp_cond rfl (fun h => ?_) (fun h => ?_))
   | fail)
  refine awp_adoptC 1 5 51 4 rfl rfl rfl rfl ?_
  refine awp_adoptC 1 6 55 7 rfl rfl rfl rfl ?_
  refine awp_for (α := Nat × Doc) 4 (fun p => [(2, .lp 0 0), (4, .lp 1 0), (9, encSs l), (10, vi l.length), (11, vi p.1)]) (fun p => stL p.1 p.2) (fun p => p.1 ≤ l.length ∧ readF 0 zeroDoc l = readF p.1 p.2 (l.drop p.1) ∧ (p.1 = 0 → p.2 = zeroDoc) ∧ p.2.tiers.length + p.2.notes.length ≤ p.1) (fun p => l.length - p.1) (0, zeroDoc)
    ⟨(.cons rfl rfl (.cons rfl rfl (.cons rfl rfl (.cons rfl rfl (.cons rfl rfl .nil))))), rfl, rfl, rfl⟩ ⟨Nat.zero_le _, rfl, fun _ => rfl, Nat.le_refl _⟩ ?_
  rintro ⟨k, d⟩ ⟨hk, hf, h0, hsz⟩
  simp only at hk hf h0 hsz
  cases ht : l[k]? with
  | none =>
    have hge : l.length ≤ k := by simpa using ht
    have c1 : decide ((k : Int) < l.length) = false := decide_eq_false (by omega)
    rw [List.drop_of_length_le hge] at hf
    have hf : readF 0 zeroDoc l = (d, 0) := hf
    rw [hf]
    cases k with
    | zero =>
      rw [h0 rfl]
      simp only [stL]
      repeat' (first
       | refine stn [2, 4] ?_
       | ((with_reducible refine is_gd ?_); refine awpL_split rfl rfl (fun h => ?_) (fun h => ?_))
       | ((with_reducible refine is_awp ?_); refine awp_cond rfl (fun h => ?_) (fun h => ?_))
       | fail)
      refine retLe rfl ?_
      exact Le.tup (.cons (Le.agg (.cons (Le.rfl' _) (.cons (Le.rfl' _) (.cons (Le.rfl' _) (.cons (Le.rfl' _) (.cons (Le.nil 1) (.cons (Le.rfl' _) (.cons (Le.rfl' _) .nil)))))))) (.cons (Le.rfl' _) .nil))
    | succ k =>
      simp only [stL]
      repeat' (first
       | refine stn [2, 4] ?_
       | ((with_reducible refine is_gd ?_); refine awpL_split rfl rfl (fun h => ?_) (fun h => ?_))
       | ((with_reducible refine is_awp ?_); refine awp_cond rfl (fun h => ?_) (fun h => ?_))
       | fail)
      refine retP rfl ?_
      simp [ex, exL, readV, docC]
  | some x =>
    have hlt : k < l.length := (List.getElem?_eq_some_iff.1 ht).1
    have c1 : decide ((k : Int) < l.length) = true := decide_eq_true (by omega)
    have ik := word_get ht
    have hxs := hx x (List.mem_of_getElem? ht)
    have hS := wSplit_spec hM x hxs
    rw [readF_drop ht] at hf
    have hle : Le (.tup [.agg zeroB, refV ((k + 1 : Nat) : Int)]) (readV (d, k + 1)) := by
      unfold readV
      rw [if_neg (by simp)]
      exact Le.tup (.cons (Le.agg le_zeroDoc) (.cons (Le.rfl' _) .nil))
    cases k with
    | zero =>
      have c2 : decide (((0 : Nat) : Int) = 0) = true := rfl
      have c3 : decide ((0 : Int) < ((0 : Nat) : Int)) = false := rfl
      obtain rfl := h0 rfl
      simp only [stL]
      cases hw : splitW (lst x) with
      | none =>
        rw [hw] at hS
        replace hS : PCalls _ _ _ _ (.tup [encSs [], vb false]) := hS
        have hf : readF 0 zeroDoc l = (zeroDoc, 0 + 1) := by rw [hf]; unfold lineP; rw [hw]
        rw [hf]
        repeat' (first
         | ((with_reducible refine is_un ?_); refine awpL_ev (ev_mkifc rfl Tryz.underlying64 rfl) rfl ?_)
         | refine stn [2, 4] ?_
         | ((with_reducible refine is_gd ?_); refine awpL_split rfl rfl (fun h => ?_) (fun h => ?_))
         | ((with_reducible refine is_awp ?_); refine awp_cond rfl (fun h => ?_) (fun h => ?_))
         | fail)
        exact retLe rfl hle
      | some ws =>
        rw [hw] at hS
        replace hS : PCalls _ _ _ _ (.tup [encSs (ws.map toB), vb true]) := hS
        obtain ⟨w1, w2⟩ := words_fit hw
        have hR := wrecording_I hN (ws.map toB) (by omega) (fun s hs => by have := w2 s hs; omega)
        cases hr : recP (ws.map toB) with
        | none =>
          rw [hr] at hR
          replace hR : ICalls _ _ _ [.lp 1 0, encSs (ws.map toB)] docL0 docL0 (vb false) := hR
          have hf : readF 0 zeroDoc l = (zeroDoc, 0 + 1) := by rw [hf]; unfold lineP; rw [hw]; simp only [hr, if_true, Option.map_none]
          rw [hf]
          repeat' (first
           | ((with_reducible refine is_un ?_); (first | refine awpL_ev (ev_mkifc rfl Tryz.underlying64 rfl) rfl ?_ | refine awpL_icall rfl hR rfl ?_))
           | refine stn [2, 4] ?_
           | ((with_reducible refine is_gd ?_); refine awpL_split rfl rfl (fun h => ?_) (fun h => ?_))
           | ((with_reducible refine is_awp ?_); refine awp_cond rfl (fun h => ?_) (fun h => ?_))
           | fail)
          exact retLe rfl hle
        | some r =>
          rw [hr] at hR
          replace hR : ICalls _ _ _ [.lp 1 0, encSs (ws.map toB)] docL0 (docLB ⟨r, [], []⟩) (vb true) := hR
          have hf : readF 0 zeroDoc l = readF 1 ⟨r, [], []⟩ (l.drop 1) := by rw [hf]; unfold lineP; rw [hw]; simp only [hr, if_true, Option.map_some]; rfl
          repeat' (first
           | ((with_reducible refine is_un ?_); refine awpL_icall rfl hR rfl ?_)
           | refine stn [2, 4] ?_
           | ((with_reducible refine is_gd ?_); refine awpL_split rfl rfl (fun h => ?_) (fun h => ?_))
           | ((with_reducible refine is_awp ?_); refine awp_cond rfl (fun h => ?_) (fun h => ?_))
           | fail)
          exact ⟨(1, ⟨r, [], []⟩), ⟨(.cons rfl rfl (.cons rfl rfl (.cons rfl rfl (.cons rfl rfl (.cons rfl rfl .nil))))), rfl, rfl, rfl⟩, ⟨by simp only; omega, hf, fun h => by simp at h, by simp⟩, by simp only; omega⟩
    | succ k =>
      have c2 : decide (((k + 1 : Nat) : Int) = 0) = false := decide_eq_false (by omega)
      have c3 : decide ((0 : Int) < ((k + 1 : Nat) : Int)) = true := decide_eq_true (by omega)
      simp only [stL]
      cases hw : splitW (lst x) with
      | none =>
        rw [hw] at hS
        replace hS : PCalls _ _ _ _ (.tup [encSs [], vb false]) := hS
        have hf : readF 0 zeroDoc l = (d, k + 1 + 1) := by rw [hf]; unfold lineP; rw [hw]
        rw [hf]
        repeat' (first
         | ((with_reducible refine is_un ?_); refine awpL_ev (ev_mkifc rfl Tryz.underlying64 rfl) rfl ?_)
         | refine stn [2, 4] ?_
         | ((with_reducible refine is_gd ?_); refine awpL_split rfl rfl (fun h => ?_) (fun h => ?_))
         | ((with_reducible refine is_awp ?_); refine awp_cond rfl (fun h => ?_) (fun h => ?_))
         | fail)
        exact retLe rfl hle
      | some ws =>
        rw [hw] at hS
        replace hS : PCalls _ _ _ _ (.tup [encSs (ws.map toB), vb true]) := hS
        obtain ⟨w1, w2⟩ := words_fit hw
        have hR := wfurther_I hN d (ws.map toB) (by omega) (fun s hs => by have := w2 s hs; omega) (by omega) (by omega)
        unfold furD furA furB at hR
        cases hr : furP d (ws.map toB) with
        | none =>
          rw [hr] at hR
          simp only [Option.isSome_none, Bool.false_eq_true, false_and, if_false, Option.getD_none] at hR
          have hf : readF 0 zeroDoc l = (d, k + 1 + 1) := by rw [hf]; unfold lineP; rw [hw]; simp only [hr, Nat.add_one_ne_zero, if_false]
          rw [hf]
          repeat' (first
           | ((with_reducible refine is_un ?_); (first | refine awpL_ev (ev_mkifc rfl Tryz.underlying64 rfl) rfl ?_ | refine awpL_icall rfl hR rfl ?_))
           | refine stn [2, 4] ?_
           | ((with_reducible refine is_gd ?_); refine awpL_split rfl rfl (fun h => ?_) (fun h => ?_))
           | ((with_reducible refine is_awp ?_); refine awp_cond rfl (fun h => ?_) (fun h => ?_))
           | fail)
          exact retLe rfl hle
        | some d' =>
          have hfl := furP_len hr
          rw [hr] at hR
          have hf : readF 0 zeroDoc l = readF (k + 1 + 1) d' (l.drop (k + 1 + 1)) := by rw [hf]; unfold lineP; rw [hw]; simp only [hr, Nat.add_one_ne_zero, if_false]
          cases htp : (tierP (ws.map toB)).isSome with
          | true =>
            rw [htp] at hR
            replace hR : ICalls _ _ _ [.lp 1 0, encSs (ws.map toB)] (docLB d) (docLV 1 0 d') (vb true) := hR
            repeat' (first
             | ((with_reducible refine is_un ?_); refine awpL_icall rfl hR rfl ?_)
             | refine stn [2, 4] ?_
             | ((with_reducible refine is_gd ?_); refine awpL_split rfl rfl (fun h => ?_) (fun h => ?_))
             | ((with_reducible refine is_awp ?_); refine awp_cond rfl (fun h => ?_) (fun h => ?_))
             | fail)
            exact ⟨(k + 1 + 1, d'), ⟨(.cons rfl rfl (.cons rfl rfl (.cons rfl rfl (.cons rfl rfl (.cons rfl rfl .nil))))), rfl, rfl, rfl⟩, ⟨by simp only; omega, hf, fun h => by simp at h, by simp only; omega⟩, by simp only; omega⟩
          | false =>
            rw [htp] at hR
            replace hR : ICalls _ _ _ [.lp 1 0, encSs (ws.map toB)] (docLB d) (docLV 0 1 d') (vb true) := hR
            repeat' (first
             | ((with_reducible refine is_un ?_); refine awpL_icall rfl hR rfl ?_)
             | refine stn [2, 4] ?_
             | ((with_reducible refine is_gd ?_); refine awpL_split rfl rfl (fun h => ?_) (fun h => ?_))
             | ((with_reducible refine is_awp ?_); refine awp_cond rfl (fun h => ?_) (fun h => ?_))
             | fail)
            exact ⟨(k + 1 + 1, d'), ⟨(.cons rfl rfl (.cons rfl rfl (.cons rfl rfl (.cons rfl rfl (.cons rfl rfl .nil))))), rfl, rfl, rfl⟩, ⟨by simp only; omega, hf, fun h => by simp at h, by simp only; omega⟩, by simp only; omega⟩
end Go.Proofs.YtigcjinpkngapaaGreatDoor
end
section
namespace Go.Proofs.YtigcjinpkngapaaGreatDoor
open Go.RowKit Go.Extern.Stop Go.Stop Go.Extern
theorem zAsNil (t : Value) (w : World) :
    Calls Tryz.prog 40 #[.nilIface, t] w fun e w' => e = .returned (.bool false) ∧ w' = w := by
  go_enter Tryz.func40, Tryz.ntmps40
  go_wp2
  go_ret
  exact ⟨rfl, rfl⟩
abbrev hT (t : Nat) : Value := .pointer (some ⟨10, t, none⟩)
abbrev rT (t : Nat) : Value := .iface 129 (.agg #[hT t])
abbrev vT (t : Nat) (a : Addr) (fl : Int) : Value := .agg #[hT t, .pointer (some a), .int .u64 fl]
theorem zValueOfP (t : Addr) (w : World) : (ReflectliteValue.unpack (.iface 66 (.pointer (some t)))).run Tryz.prog w
    = .ok (vT 66 ⟨w.heap.size, 0, none⟩ 150) (w.alloc (.cells #[.pointer (some t)] 66)) := by kernel_rfl
theorem zTypeP (a : Addr) (w : World) : (ReflectliteValue.methodAny (ReflectliteValue.valueError "reflectlite.Value.Type" 0) (fun t _ _ _ => ReflectliteType.toType t) #[vT 66 a 150]).run Tryz.prog w
    = .ok (rT 66) w := by kernel_rfl
theorem zMethodKind (h : Value) (w : World) : (Go.method 362 129 (.agg #[h]) "Kind").run Tryz.prog w = .ok (217, h) w := by kernel_rfl
theorem zKindP (w : World) : ((ReflectliteType.abiMethod fun t => (fun a : Nat => Value.int IntKind.u8 (a : Int)) <$> Rtype.kind t) #[hT 66]).run Tryz.prog w = .ok (.int .u8 22) w := by kernel_rfl
theorem zKindE (w : World) : ((ReflectliteType.abiMethod fun t => (fun a : Nat => Value.int IntKind.u8 (a : Int)) <$> Rtype.kind t) #[hT 64]).run Tryz.prog w = .ok (.int .u8 25) w := by kernel_rfl
theorem zrlm (z : Sem Value) (f : TypeId → Addr → Nat → Nat → Sem Value) (v : Value) :
    ReflectliteValue.method z f #[v] = (do match ← ReflectliteValue.parts v with | none => z | some (t, a, fl) => f t a fl (fl % 32)) := rfl
theorem zPartsP (a : Addr) (w : World) : (ReflectliteValue.parts (vT 66 a 150)).run Tryz.prog w = .ok (some (66, a, 150)) w := by kernel_rfl
theorem zIsNilP (a p : Addr) (W : World) (ha : W.cell? a = some (.pointer (some p))) :
    (ReflectliteValue.method (ReflectliteValue.valueError "reflectlite.Value.IsNil" 0) ReflectliteValue.isNil #[vT 66 a 150]).run Tryz.prog W = .ok (.bool false) W := by
  rw [zrlm]
  simp only [Sem.run_bind, zPartsP, Result.andThen]
  simp [ReflectliteValue.isNil, loadVar, isAgg, underlying, Tryz.underlying66, ha, Result.andThen]
theorem zMethodElem (h : Value) (w : World) : (Go.method 362 129 (.agg #[h]) "Elem").run Tryz.prog w = .ok (228, .agg #[h]) w := by kernel_rfl
theorem zMethodImplements (h : Value) (w : World) : (Go.method 362 129 (.agg #[h]) "Implements").run Tryz.prog w = .ok (229, .agg #[h]) w := by kernel_rfl
theorem zMethodAssignableTo (h : Value) (w : World) : (Go.method 362 129 (.agg #[h]) "AssignableTo").run Tryz.prog w = .ok (226, .agg #[h]) w := by kernel_rfl
theorem zElemP (w : World) : (ReflectliteType.method ReflectliteType.elem #[.agg #[hT 66]]).run Tryz.prog w = .ok (rT 64) w := by kernel_rfl
theorem zImplementsE (w : World) : (ReflectliteType.relation "Implements" ReflectliteType.implements_ #[.agg #[hT 64], rT 60]).run Tryz.prog w = .ok (.bool true) w := by kernel_rfl
theorem zTypeOfE (v : Value) (w : World) : (ReflectliteType.typeOf #[.iface 64 v]).run Tryz.prog w = .ok (rT 64) w := by kernel_rfl
theorem zAssignableE (w : World) : (ReflectliteType.relation "AssignableTo" ReflectliteType.assignableTo #[.agg #[hT 64], rT 64]).run Tryz.prog w = .ok (.bool true) w := by kernel_rfl
theorem zValueOfE (n : Int) (w : World) : (ReflectliteValue.unpack (.iface 64 (.agg #[.int .i64 n]))).run Tryz.prog w
    = .ok (vT 64 ⟨w.heap.size, 0, none⟩ 153) (w.alloc (.cells #[.int .i64 n] 64)) := by kernel_rfl
theorem zElemOfP (w : World) : (Rtype.elem? 66).run Tryz.prog w = .ok (some 64) w := by kernel_rfl
theorem zMkE (p : Addr) (w : World) : (ReflectliteValue.mk 64 p ReflectliteValue.flagAddr).run Tryz.prog w = .ok (vT 64 p 409) w := by kernel_rfl
theorem zElemVP (a p : Addr) (W : World) (ha : W.cell? a = some (.pointer (some p))) :
    (ReflectliteValue.method (ReflectliteValue.valueError "reflectlite.Value.Elem" 0) ReflectliteValue.elem #[vT 66 a 150]).run Tryz.prog W
      = .ok (vT 64 p 409) W := by
  rw [zrlm]
  simp only [Sem.run_bind, zPartsP, Result.andThen]
  simp [ReflectliteValue.elem, loadVar, isAgg, underlying, Tryz.underlying66, ha, Result.andThen, zElemOfP, zMkE]
theorem zrls (v x : Value) : ReflectliteValue.set #[v, x] = (do
    let (some (dst, a, fl), some (src, b, _)) := (← ReflectliteValue.parts v, ← ReflectliteValue.parts x)
      | unsupported (.noEntry "extern/(internal/reflectlite.Value).Set.zeroValue")
    if fl / ReflectliteValue.flagAddr % 2 == 0 then unsupported (.noEntry "extern/(internal/reflectlite.Value).Set.unaddressable")
    let val ← loadVar src b
    if ← Rtype.directlyAssignable dst src then storeVar dst a val
    else if ← Rtype.implements dst src then
      if (← Rtype.kind src) == 20 then
        match val with
        | .nilIface => unsupported (.noEntry "extern/reflectlite: a nil value of one interface type handed on as a value of another")
        | _ => storeVar dst a val
      else storeVar dst a (.iface src val)
    else panicString ("reflectlite.Set: value of type " ++ (← Rtype.spelt src) ++ " is not assignable to type " ++ (← Rtype.spelt dst))
    pure (.tuple #[])) := rfl
theorem zPartsEa (a : Addr) (w : World) : (ReflectliteValue.parts (vT 64 a 409)).run Tryz.prog w = .ok (some (64, a, 409)) w := by kernel_rfl
theorem zPartsE (a : Addr) (w : World) : (ReflectliteValue.parts (vT 64 a 153)).run Tryz.prog w = .ok (some (64, a, 153)) w := by kernel_rfl
theorem zDirectE (w : World) : (Rtype.directlyAssignable 64 64).run Tryz.prog w = .ok true w := by kernel_rfl
theorem zSizeE (w : World) : (sizeOf 64).run Tryz.prog w = .ok 1 w := by kernel_rfl
theorem zIsAggE (w : World) : (isAgg 64).run Tryz.prog w = .ok true w := by kernel_rfl
theorem zLoadE (b : Addr) (n : Int) (W : World) (hb : W.cell? b = some (.int .i64 n)) : (loadVar 64 b).run Tryz.prog W = .ok (.agg #[.int .i64 n]) W := by
  have hl : (loadCells b 1).run Tryz.prog W = .ok #[.int .i64 n] W := by
    have := run_loadCells_list (P := Tryz.prog) (w := W) b [.int .i64 n] (fun j v hj => by
      match j, hj with
      | 0, hj => simp at hj; subst hj; simpa [Addr.add] using hb)
    simpa using this
  simp [loadVar, zIsAggE, zSizeE, hl, Result.andThen]
theorem zStoreE (ta : Addr) (n : Int) (old : Value) (W : World) (ht : W.cell? ta = some old) (hf : W.frozen? ta = false) : (storeVar 64 ta (.agg #[.int .i64 n])).run Tryz.prog W = .ok () (W.setCell ta (.int .i64 n)) := by
  simp [storeVar, zSizeE, Value.cells, storeCells, Addr.add, Result.andThen]
  rw [run_store Tryz.prog W ta _ _ (by rfl)]
  simp [ht, hf]
theorem zSetE (ta b : Addr) (n : Int) (old : Value) (W : World) (hb : W.cell? b = some (.int .i64 n)) (ht : W.cell? ta = some old) (hf : W.frozen? ta = false) :
    (ReflectliteValue.set #[vT 64 ta 409, vT 64 b 153]).run Tryz.prog W
      = .ok (.tuple #[]) (W.setCell ta (.int .i64 n)) := by
  rw [zrls]
  simp only [Sem.run_bind, zPartsEa, zPartsE, Result.andThen]
  simp [ReflectliteValue.flagAddr, zLoadE b n W hb, Result.andThen, zDirectE, zStoreE ta n old W ht hf]
set_option maxHeartbeats 4000000 in
theorem zAsHit (n : Int) (t : Addr) (old : Value) (w : World) (hg : w.cell? ⟨0, 0, none⟩ = some (rT 60)) (ht0 : w.cell? t = some old) (hf0 : w.frozen? t = false) :
    Calls Tryz.prog 40 #[.iface 64 (.agg #[.int .i64 n]), .iface 66 (.pointer (some t))] w fun ev w' => ev = .returned (.bool true) ∧ w' = ((((w.alloc (.cells #[.pointer (some t)] 66)).alloc (.cells #[hT 66, .pointer (some ⟨w.heap.size, 0, none⟩), .int .u64 150] 96)).alloc (.cells #[hT 66, .pointer (some ⟨w.heap.size, 0, none⟩), .int .u64 150] 96)).alloc (.cells #[.int .i64 n] 64)).setCell t (.int .i64 n) := by
  have h6 := @run_callFunc_extern Tryz.prog 69 _ (fun args => ReflectliteValue.unpack (args.getD 0 (.tuple #[]))) Tryz.func69 (by kernel_rfl) (by kernel_rfl) (by kernel_rfl) (by kernel_rfl)
  have h7 := @run_callFunc_extern Tryz.prog 70 _ (ReflectliteValue.methodAny (ReflectliteValue.valueError "reflectlite.Value.Type" 0) (fun t _ _ _ => ReflectliteType.toType t)) Tryz.func70 (by kernel_rfl) (by kernel_rfl) (by kernel_rfl) (by kernel_rfl)
  have h8 := @run_callFunc_extern Tryz.prog 71 _ (ReflectliteValue.method (ReflectliteValue.valueError "reflectlite.Value.IsNil" 0) ReflectliteValue.isNil) Tryz.func71 (by kernel_rfl) (by kernel_rfl) (by kernel_rfl) (by kernel_rfl)
  have h27 := @run_callFunc_extern Tryz.prog 217 _ (ReflectliteType.abiMethod fun t => do pure (.int .u8 (← Rtype.kind t))) Tryz.func217 (by kernel_rfl) (by kernel_rfl) (by kernel_rfl) (by kernel_rfl)
  have h37 := @run_callFunc_extern Tryz.prog 228 _ (ReflectliteType.method ReflectliteType.elem) Tryz.func228 (by kernel_rfl) (by kernel_rfl) (by kernel_rfl) (by kernel_rfl)
  have h38 := @run_callFunc_extern Tryz.prog 229 _ (ReflectliteType.relation "Implements" ReflectliteType.implements_) Tryz.func229 (by kernel_rfl) (by kernel_rfl) (by kernel_rfl) (by kernel_rfl)
  have h10 := @run_callFunc_extern Tryz.prog 98 _ ReflectliteType.typeOf Tryz.func98 (by kernel_rfl) (by kernel_rfl) (by kernel_rfl) (by kernel_rfl)
  have h35 := @run_callFunc_extern Tryz.prog 226 _ (ReflectliteType.relation "AssignableTo" ReflectliteType.assignableTo) Tryz.func226 (by kernel_rfl) (by kernel_rfl) (by kernel_rfl) (by kernel_rfl)
  have h11 := @run_callFunc_extern Tryz.prog 99 _ (ReflectliteValue.method (ReflectliteValue.valueError "reflectlite.Value.Elem" 0) ReflectliteValue.elem) Tryz.func99 (by kernel_rfl) (by kernel_rfl) (by kernel_rfl) (by kernel_rfl)
  have h12 := @run_callFunc_extern Tryz.prog 100 _ ReflectliteValue.set Tryz.func100 (by kernel_rfl) (by kernel_rfl) (by kernel_rfl) (by kernel_rfl)
  have tO := zTypeOfE
  have mA := zMethodAssignableTo
  have a25 := zAssignableE
  have v25 := zValueOfE
  have f6 := zValueOfP
  have f7 := zTypeP
  have mK := zMethodKind
  have mE := zMethodElem
  have mI := zMethodImplements
  have k27 := zKindP
  have k25 := zKindE
  have e27 := zElemP
  have i25 := zImplementsE
  have n8 := zIsNilP ⟨w.heap.size, 0, none⟩ t ((w.alloc (.cells #[.pointer (some t)] 66)).alloc (.cells #[hT 66, .pointer (some ⟨w.heap.size, 0, none⟩), .int .u64 150] 96)) (by simp)
  have hlt : 0 < w.heap.size := by
    rcases Nat.eq_zero_or_pos w.heap.size with h0 | h
    · simp [World.cell?, h0] at hg
    · exact h
  have hg2 : ((w.alloc (.cells #[.pointer (some t)] 66)).alloc (.cells #[hT 66, .pointer (some ⟨w.heap.size, 0, none⟩), .int .u64 150] 96)).cell? ⟨0, 0, none⟩ = some (rT 60) := by
    rw [World.cell?_alloc_lt _ _ ⟨0, 0, none⟩ (by simp), World.cell?_alloc_lt _ _ ⟨0, 0, none⟩ hlt]; exact hg
  have htl : t.block < w.heap.size := by
    rcases Nat.lt_or_ge t.block w.heap.size with h | h
    · exact h
    · simp [World.cell?, Array.getElem?_eq_none h] at ht0
  have el := zElemVP ⟨w.heap.size, 0, none⟩ t (((w.alloc (.cells #[.pointer (some t)] 66)).alloc (.cells #[hT 66, .pointer (some ⟨w.heap.size, 0, none⟩), .int .u64 150] 96)).alloc (.cells #[hT 66, .pointer (some ⟨w.heap.size, 0, none⟩), .int .u64 150] 96)) (by rw [World.cell?_alloc_lt _ _ ⟨w.heap.size, 0, none⟩ (by simp; omega)]; simp)
  have st := zSetE t ⟨w.heap.size + 1 + 1 + 1, 0, none⟩ n old ((((w.alloc (.cells #[.pointer (some t)] 66)).alloc (.cells #[hT 66, .pointer (some ⟨w.heap.size, 0, none⟩), .int .u64 150] 96)).alloc (.cells #[hT 66, .pointer (some ⟨w.heap.size, 0, none⟩), .int .u64 150] 96)).alloc (.cells #[.int .i64 n] 64))
    (by rw [World.cell?_alloc_at _ _ _ _ (by simp)]; rfl)
    (by rw [World.cell?_alloc_lt _ _ t (by simp; omega), World.cell?_alloc_lt _ _ t (by simp; omega), World.cell?_alloc_lt _ _ t (by simp; omega), World.cell?_alloc_lt _ _ t htl]; exact ht0)
    (by rw [World.frozen?_alloc_old _ _ t (by simp; omega), World.frozen?_alloc_old _ _ t (by simp; omega), World.frozen?_alloc_old _ _ t (by simp; omega), World.frozen?_alloc_old _ _ t (Nat.ne_of_lt htl)]; exact hf0)
  go_enter Tryz.func40, Tryz.ntmps40
  go_wp2
  refine wp_loop_rounds 1 ?_
  rw [rounds_succ]
  go_wp2
  go_ret
  exact ⟨rfl, rfl⟩
end Go.Proofs.YtigcjinpkngapaaGreatDoor
end
section
namespace Go.Proofs.YtigcjinpkngapaaGreatDoor
open Go.Ac
attribute [local irreducible] awp awpL Ev Ev2 EvS thenQ blockQ retQ PCalls OCalls ICalls
variable {g : List (Nat × List AV)}
abbrev parsedV (x : Doc × Int × Int) : AV := .tup [.agg (docC x.1), vi x.2.1, vi x.2.2]
def ErrG (g : List (Nat × List AV)) : Prop := (0, [AV.ifc 129 (.agg [.v (hT 60)])]) ∈ g
theorem errX (F : Nat → Prop) (w : World) (u : Value) (h : RF F w (.ifc 129 (.agg [.v (hT 60)])) u) : u = rT 60 := by
  simp only [RF, LF] at h
  obtain ⟨u, rfl, xs, rfl, y, s, h1, rfl, _, rfl⟩ := h
  rw [← Array.toArray_toList (xs := xs), h1]
theorem asNil_spec (x : AV) : PCalls Tryz.prog g 40 [.v .nilIface, x] (vb false) := by
  have : PCalls Tryz.prog g 40 [.v .nilIface, .any] (vb false) := PCalls.ofBelow (callable Tryz.func40 rfl rfl) fun F w vs st ha => by
    simp only [TF, RF] at ha
    obtain ⟨y, s, h1, rfl, z, s2, rfl, _, rfl⟩ := ha
    have hv : vs = #[.nilIface, z] := by rw [← Array.toArray_toList (xs := vs), h1]
    rw [hv]
    refine (zAsNil z w).mono ?_
    rintro e w' ⟨rfl, rfl⟩
    exact ⟨rfl, Go.RowKit.Below.refl _ _⟩
  exact this.args (.cons (Le.rfl' _) (.cons (Le.any x) .nil))
theorem ahead0 (w : World) : Go.Sort.ahead w 0 = w := by simp [Go.Sort.ahead]
theorem four_grow (w : World) (a b c d : Obj) : (((w.alloc a).alloc b).alloc c).alloc d = Go.Sort.grow w (#[a] ++ #[b] ++ #[c] ++ #[d]) := by
  rw [Go.Sort.alloc_eq_grow, Go.Sort.alloc_eq_grow, Go.Sort.alloc_eq_grow, Go.Sort.alloc_eq_grow, Go.Sort.grow_grow, Go.Sort.grow_grow, Go.Sort.grow_grow]
  rfl
theorem asHit_at (n : Int) (b : Nat) (w : World) (hg : w.cell? ⟨0, 0, none⟩ = some (rT 60)) (h0 : w.cell? ⟨b, 0, none⟩ = some (.int .i64 0)) (hf : w.frozen? ⟨b, 0, none⟩ = false) :
    Go.Calls Tryz.prog 40 #[.iface 64 (.agg #[.int .i64 n]), .iface 66 (.pointer (some ⟨b, 0, none⟩))] w fun e w' => e = .returned (.bool true) ∧ ∃ c os, w' = (Go.Sort.grow (Go.Sort.ahead w c) os).setCell ⟨b, 0, none⟩ (.int .i64 n) := by
  refine (zAsHit n ⟨b, 0, none⟩ (.int .i64 0) w hg h0 hf).mono ?_
  rintro e w' ⟨rfl, rfl⟩
  exact ⟨rfl, 0, _, by rw [ahead0, four_grow]⟩
theorem le_zeroP (n m : Int) : Le (.tup [.agg zeroB, vi n, vi m]) (parsedV (zeroDoc, n, m)) := Le.tup (.cons (Le.agg le_zeroDoc) (.cons (Le.rfl' _) (.cons (Le.rfl' _) .nil)))
set_option maxRecDepth 8000 in
set_option maxHeartbeats 8000000 in
theorem wParse_spec (hN : NumG g) (hM : MaxG g) (hE : ErrG g) (hu : Utf g) (s : ByteArray) (hs : s.size ≤ 79000000)
    (hfit : ∀ ls, linesW (lst s) = some ls → (readF 0 zeroDoc (ls.map toB)).1.notes.length ≤ 100000 ∧ (readF 0 zeroDoc (ls.map toB)).1.tiers.length ≤ 1000000 ∧ (readF 0 zeroDoc (ls.map toB)).1.rec_.speakers.length ≤ 1000000) :
    PCalls Tryz.prog g 17 [.v (.string s)] (parsedV (parseD (lst s))) := by
  have n1 : (!true) = false := rfl
  have n2 : (!false) = true := rfl
  have hL := wLines_spec hM s (by omega)
  have hem : s = ⟨#[]⟩ ↔ lst s = [] := eq_toB s []
  refine pcalls' Tryz.func17 Tryz.ntmps17 rfl rfl rfl ?_
  unfold parseD
  by_cases h0 : s = ⟨#[]⟩
  · have c0 : decide (s = ⟨#[]⟩) = true := decide_eq_true h0
    rw [if_pos (hem.1 h0)]
    repeat' (first
     | refine stn [2, 9] ?_
     | ((with_reducible refine is_gd ?_); refine awpL_split rfl rfl (fun h => ?_) (fun h => ?_))
     | ((with_reducible refine is_awp ?_); refine awp_cond rfl (fun h => ?_) (fun h => ?_))
     | fail)
    exact retLe rfl (le_zeroP 0 4)
  have c0 : decide (s = ⟨#[]⟩) = false := decide_eq_false h0
  rw [if_neg (fun q => h0 (hem.2 q))]
  cases hl : linesW (lst s) with
  | none =>
    rw [hl] at hL
    replace hL : PCalls _ _ _ _ (.tup [encSs [], vb false]) := hL
    repeat' (first
     | refine stn [2, 9] ?_
     | ((with_reducible refine is_gd ?_); refine awpL_split rfl rfl (fun h => ?_) (fun h => ?_))
     | ((with_reducible refine is_awp ?_); refine awp_cond rfl (fun h => ?_) (fun h => ?_))
     | fail)
    exact retLe rfl (le_zeroP 0 3)
  | some ls =>
    rw [hl] at hL
    replace hL : PCalls _ _ _ _ (.tup [encSs (ls.map toB), vb true]) := hL
    obtain ⟨l1, l2⟩ := lines_fit hl
    have hR := wread_spec hN hM (ls.map toB) (by omega) (fun x hx => by have := l2 x hx; omega)
    obtain ⟨f1, f2, f3⟩ := hfit ls hl
    have hin := readF_in (ls.map toB) 0 zeroDoc zero_in
    simp only
    generalize readF 0 zeroDoc (ls.map toB) = p at *
    obtain ⟨d, ln⟩ := p
    simp only at f1 f2 f3 hin ⊢
    unfold readV at hR
    simp only at hR
    by_cases hz : ln = 0
    · rw [if_pos hz] at hR
      rw [if_neg (by simpa using hz)]
      have hC := wCheck_spec hu d f1 f2 (fun n hn => by have := (hin.n n hn).r; unfold inNum at this; omega)
      have hP := wprintable_spec (g := g) d f3
      by_cases he : docE d = 0
      case neg =>
        have c1 : (!decide (docE d = 0)) = true := by rw [decide_eq_false he]; rfl
        have hp : printE d = docE d := by unfold printE; rw [if_pos he]
        rw [hp, if_pos he]
        repeat' (first
         | ((with_reducible refine is_un ?_); (first | refine awpL_ev (ev_mkifc rfl Tryz.underlying66 rfl) rfl ?_ | refine awpL_callS rfl rfl (asNil_spec _) rfl rfl ?_))
         | refine stn [2, 9] ?_
         | ((with_reducible refine is_gd ?_); refine awpL_split rfl rfl (fun h => ?_) (fun h => ?_))
         | ((with_reducible refine is_awp ?_); refine awp_cond rfl (fun h => ?_) (fun h => ?_))
         | fail)
        exact retLe rfl (le_zeroP 0 (docE d))
      have c1 : (!decide (docE d = 0)) = false := by rw [decide_eq_true he]; rfl
      cases hr : recOk d.rec_ with
      | false =>
        rw [hr] at hP
        have hp : printE d = 1 := by unfold printE; rw [if_neg (by simpa using he), hr]; rfl
        rw [hp, if_pos (by decide)]
        repeat' (first
         | ((with_reducible refine is_un ?_); (first | refine awpL_ev (ev_mkifc rfl Tryz.underlying66 rfl) rfl ?_ | refine awpL_callS rfl rfl (asNil_spec _) rfl rfl ?_))
         | refine stn [2, 9] ?_
         | ((with_reducible refine is_gd ?_); refine awpL_split rfl rfl (fun h => ?_) (fun h => ?_))
         | ((with_reducible refine is_awp ?_); refine awp_cond rfl (fun h => ?_) (fun h => ?_))
         | fail)
        exact retLe rfl (le_zeroP 0 1)
      | true =>
        rw [hr] at hP
        have hp : printE d = 0 := by unfold printE; rw [if_neg (by simpa using he), hr]; rfl
        rw [hp, if_neg (by decide)]
        repeat' (first
         | ((with_reducible refine is_un ?_); (first | refine awpL_ev (ev_mkifc rfl Tryz.underlying66 rfl) rfl ?_ | refine awpL_callS rfl rfl (asNil_spec _) rfl rfl ?_))
         | refine stn [2, 9] ?_
         | ((with_reducible refine is_gd ?_); refine awpL_split rfl rfl (fun h => ?_) (fun h => ?_))
         | ((with_reducible refine is_awp ?_); refine awp_cond rfl (fun h => ?_) (fun h => ?_))
         | fail)
        exact retP rfl rfl
    · rw [if_neg hz] at hR
      rw [if_pos hz]
      have hA := asHit_at ln
      repeat' (first
       | refine awp_frz 9 (c := .region 9 _ _) rfl rfl rfl rfl ?_
       | ((with_reducible refine is_un ?_); (first | refine awpL_ev (ev_mkifc rfl Tryz.underlying66 rfl) rfl ?_ | refine awpL_tgt rfl rfl rfl (callable Tryz.func40 rfl rfl) hE errX hA rfl rfl ?_))
       | refine st [2, 9] ?_
       | ((with_reducible refine is_gd ?_); refine awpL_split rfl rfl (fun h => ?_) (fun h => ?_))
       | ((with_reducible refine isD_gd ?_); ((fail_if_success (refine isD_kn (c := true) rfl qa0 ?_)); (fail_if_success (refine isD_kn (c := false) rfl qa0 ?_)); refine awpD_split rfl (fun h => ?_) (fun h => ?_)))
       | ((with_reducible refine is_awp ?_); refine awp_cond rfl (fun h => ?_) (fun h => ?_))
       | fail)
      exact retLe rfl (le_zeroP ln 3)
end Go.Proofs.YtigcjinpkngapaaGreatDoor
end
section
namespace Go.Proofs.YtigcjinpkngapaaGreatDoor
open Go.Ac
attribute [local irreducible] awp awpL Ev Ev2 EvS thenQ blockQ retQ PCalls OCalls ICalls
variable {g : List (Nat × List AV)}
end Go.Proofs.YtigcjinpkngapaaGreatDoor
end
section
namespace Go.Proofs.YtigcjinpkngapaaGreatDoor
theorem lst_toB (l : List UInt8) : lst (toB l) = l := toB_list l
theorem toB_lst (s : ByteArray) : toB (lst s) = s := ((eq_toB s (lst s)).2 rfl).symm
theorem map_back (l : List ByteArray) : (l.map lst).map toB = l := by
  rw [List.map_map]
  conv => rhs; rw [← List.map_id l]
  exact List.map_congr_left fun s _ => toB_lst s
theorem numsP_map : ∀ {l : List Int}, (∀ n ∈ l, inNum n) → numsP (l.map numT) = some l
  | [], _ => rfl
  | n :: r, h => by
    rw [List.map_cons, numsP, numP_numT (h n (by simp)), numsP_map (fun m hm => h m (by simp [hm]))]
    rfl
theorem numsP_inv : ∀ {l : List ByteArray} {m : List Int}, numsP l = some m → l = m.map numT
  | [], m, h => by simp [numsP] at h; subst h; rfl
  | s :: r, m, h => by
    rw [numsP] at h
    cases hs : numP s with
    | none => rw [hs] at h; cases h
    | some k =>
      rw [hs] at h
      cases hr : numsP r with
      | none => rw [hr] at h; cases h
      | some m' =>
        rw [hr] at h
        simp at h
        subst h
        rw [List.map_cons, (numP_some.1 hs).1, numsP_inv hr]
theorem recP_recW {r : Recording} (h : RecIn r) : recP (recW r) = some r := by
  have hn : numsP (numT r.id :: ([numT r.length, numT r.day] ++ r.speakers.map numT)) = some (r.id :: r.length :: r.day :: r.speakers) := by
    have := numsP_map (l := r.id :: r.length :: r.day :: r.speakers) (fun n hn => by
      simp only [List.mem_cons] at hn
      rcases hn with rfl | rfl | rfl | hn
      · exact h.i
      · exact h.l
      · exact h.d
      · exact h.s n hn)
    simpa using this
  unfold recW recP
  simp only [List.cons_append, List.nil_append, List.length_cons] at hn ⊢
  rw [if_pos ⟨trivial, by omega⟩, hn]
theorem tierP_tierW {t : Tier} (h : TierIn t) : tierP (tierW t) = some t := by
  have hn := numsP_map (l := [t.kind, t.role, t.parent]) (fun n hn => by
    simp only [List.mem_cons, List.not_mem_nil, or_false] at hn
    rcases hn with rfl | rfl | rfl
    · exact h.k
    · exact h.r
    · exact h.p)
  unfold tierW tierP
  simp only [List.map_cons, List.map_nil, List.cons_append, List.nil_append] at hn ⊢
  rw [if_pos trivial, hn]
theorem noteP_noteW {n : Note} (h : NoteIn n) : noteP (noteW n) = some n := by
  have hn := numsP_map (l := [n.id, n.tier, n.parent, n.span.fro, n.span.til, n.rank]) (fun m hm => by
    simp only [List.mem_cons, List.not_mem_nil, or_false] at hm
    rcases hm with rfl | rfl | rfl | rfl | rfl | rfl
    · exact h.i
    · exact h.t
    · exact h.p
    · exact h.f
    · exact h.e
    · exact h.r)
  unfold noteW noteP
  simp only [List.map_cons, List.map_nil, List.cons_append, List.nil_append] at hn ⊢
  rw [if_pos trivial, hn]
theorem tierP_noteW (n : Note) : tierP (noteW n) = none := rfl
theorem tierP_inv {w : List ByteArray} {t : Tier} (h : tierP w = some t) : w = tierW t := by
  obtain ⟨a, b, c, e, hq⟩ := tierP_spec h
  have := numsP_inv hq
  simp only [List.map_cons, List.map_nil, List.cons.injEq, and_true] at this
  rw [e, this.1, this.2.1, this.2.2]; rfl
theorem noteP_inv {w : List ByteArray} {n : Note} (h : noteP w = some n) : w = noteW n := by
  obtain ⟨a, b, c, d, e, f, e1, hq⟩ := noteP_spec h
  have := numsP_inv hq
  simp only [List.map_cons, List.map_nil, List.cons.injEq, and_true] at this
  rw [e1, this.1, this.2.1, this.2.2.1, this.2.2.2.1, this.2.2.2.2.1, this.2.2.2.2.2]; rfl
theorem recP_inv {w : List ByteArray} {r : Recording} (h : recP w = some r) : w = recW r := by
  obtain ⟨k, a, nm, b, e1, e2, _, e3, hq⟩ := recP_spec h
  have := numsP_inv hq
  simp only [List.map_cons, List.cons.injEq] at this
  rw [e1, e2, this.1, this.2, ← e3]; rfl
theorem splitW_line (w : List ByteArray) : splitW (lst (toB (joinW (w.map lst)))) = some (w.map lst) := by rw [lst_toB, split_join]
theorem line_split {x : ByteArray} {ws : List (List UInt8)} (h : splitW (lst x) = some ws) : x = toB (joinW ((ws.map toB).map lst)) := by
  have e : (ws.map toB).map lst = ws := by
    rw [List.map_map]
    conv => rhs; rw [← List.map_id ws]
    exact List.map_congr_left fun s _ => lst_toB s
  rw [e, join_split h, toB_lst]
theorem lineP_rec {r : Recording} (h : RecIn r) : lineP 0 zeroDoc (recL r) = some ⟨r, [], []⟩ := by
  unfold lineP recL
  rw [splitW_line]
  simp only [if_true, map_back, recP_recW h, Option.map_some]
  rfl
theorem lineP_tier {i : Nat} {d : Doc} {t : Tier} (h : TierIn t) (hn : d.notes = []) : lineP (i + 1) d (tierL t) = some { d with tiers := d.tiers ++ [t] } := by
  unfold lineP tierL
  rw [splitW_line]
  simp only [Nat.add_one_ne_zero, if_false, map_back]
  unfold furP
  rw [tierP_tierW h]
  simp [hn]
theorem lineP_note {i : Nat} {d : Doc} {n : Note} (h : NoteIn n) : lineP (i + 1) d (noteL n) = some { d with notes := d.notes ++ [n] } := by
  unfold lineP noteL
  rw [splitW_line]
  simp only [Nat.add_one_ne_zero, if_false, map_back]
  unfold furP
  rw [tierP_noteW, noteP_noteW h]
theorem readF_notes : ∀ (N : List Note) (i : Nat) (d : Doc) (r : List ByteArray), (∀ n ∈ N, NoteIn n) → readF (i + 1) d (N.map noteL ++ r) = readF (i + 1 + N.length) { d with notes := d.notes ++ N } r
  | [], i, d, r, _ => by simp
  | n :: N, i, d, r, h => by
    rw [List.map_cons, List.cons_append, readF, lineP_note (h n (by simp))]
    simp only
    rw [readF_notes N (i + 1) _ r (fun m hm => h m (by simp [hm]))]
    simp only [List.length_cons, List.append_assoc, List.singleton_append]
    congr 1; omega
theorem readF_tiers : ∀ (T : List Tier) (i : Nat) (d : Doc) (r : List ByteArray), (∀ t ∈ T, TierIn t) → d.notes = [] → readF (i + 1) d (T.map tierL ++ r) = readF (i + 1 + T.length) { d with tiers := d.tiers ++ T } r
  | [], i, d, r, _, _ => by simp
  | t :: T, i, d, r, h, hn => by
    rw [List.map_cons, List.cons_append, readF, lineP_tier (h t (by simp)) hn]
    simp only
    rw [readF_tiers T (i + 1) { d with tiers := d.tiers ++ [t] } r (fun m hm => h m (by simp [hm])) hn]
    simp only [List.length_cons, List.append_assoc, List.singleton_append]
    congr 1; omega
theorem readF_docL {d : Doc} (h : DocIn d) (r : List ByteArray) : readF 0 zeroDoc (docL d ++ r) = readF (docL d).length d r := by
  unfold docL
  rw [List.cons_append, readF, lineP_rec h.r]
  simp only
  rw [List.append_assoc, readF_tiers d.tiers 0 ⟨d.rec_, [], []⟩ _ h.t rfl]
  have := readF_notes d.notes (0 + d.tiers.length) ⟨d.rec_, d.tiers, []⟩ r h.n
  rw [show 0 + 1 + d.tiers.length = 0 + d.tiers.length + 1 by omega]
  simp only [List.nil_append] at this ⊢
  rw [this]
  congr 1
  simp; omega
theorem line_no (w : List ByteArray) : (10 : UInt8) ∉ lst (toB (joinW (w.map lst))) := by rw [lst_toB]; exact joinW_no _
theorem docL_no (d : Doc) : ∀ x ∈ (docL d).map lst, (10 : UInt8) ∉ x := by
  intro x hx
  obtain ⟨y, hy, rfl⟩ := List.mem_map.1 hx
  simp only [docL, List.mem_cons, List.mem_append, List.mem_map] at hy
  rcases hy with rfl | ⟨t, _, rfl⟩ | ⟨n, _, rfl⟩
  · exact line_no _
  · exact line_no _
  · exact line_no _
theorem lines_doc (d : Doc) : linesW (printD d) = some ((docL d).map lst) := lines_text (docL_no d)
theorem textW_ne {x : List UInt8} {r : List (List UInt8)} : textW (x :: r) ≠ [] := by simp [textW]
theorem printD_ne (d : Doc) : printD d ≠ [] := textW_ne
theorem parse_print {d : Doc} (h : DocIn d) (hp : printE d = 0) : parseD (printD d) = (d, 0, 0) := by
  unfold parseD
  rw [if_neg (printD_ne d), lines_doc]
  have : readF 0 zeroDoc (docL d) = (d, 0) := by
    have := readF_docL h []
    rw [List.append_nil] at this
    rw [this]; rfl
  simp only [map_back, this]
  simp [hp]
theorem further_inv : ∀ (l : List ByteArray) (i : Nat) (d d' : Doc), readF (i + 1) d l = (d', 0) → ∃ T N, d' = ⟨d.rec_, d.tiers ++ T, d.notes ++ N⟩ ∧ l = T.map tierL ++ N.map noteL ∧ (d.notes ≠ [] → T = [])
  | [], i, d, d', h => by
    simp [readF] at h
    subst h
    exact ⟨[], [], by simp, rfl, fun _ => rfl⟩
  | x :: r, i, d, d', h => by
    rw [readF] at h
    cases hq : lineP (i + 1) d x with
    | none => rw [hq] at h; simp at h
    | some d1 =>
      rw [hq] at h
      obtain ⟨T, N, e1, e2, e3⟩ := further_inv r (i + 1) d1 d' h
      unfold lineP at hq
      cases hw : splitW (lst x) with
      | none => rw [hw] at hq; cases hq
      | some ws =>
        rw [hw] at hq
        simp only [Nat.add_one_ne_zero, if_false] at hq
        have hx := line_split hw
        unfold furP at hq
        cases ht : tierP (ws.map toB) with
        | some t =>
          rw [ht] at hq
          simp only at hq
          split at hq
          · rename_i h0
            injection hq with hq
            subst hq
            have h0 : d.notes = [] := List.eq_nil_of_length_eq_zero h0
            refine ⟨t :: T, N, ?_, ?_, fun q => absurd h0 q⟩
            · rw [e1]; simp
            · rw [e2, hx, tierP_inv ht]; rfl
          · cases hq
        | none =>
          rw [ht] at hq
          simp only at hq
          cases hn : noteP (ws.map toB) with
          | none => rw [hn] at hq; cases hq
          | some n =>
            rw [hn] at hq
            simp only at hq
            injection hq with hq
            subst hq
            have hT : T = [] := e3 (by simp)
            subst hT
            refine ⟨[], n :: N, ?_, ?_, fun _ => rfl⟩
            · rw [e1]; simp
            · rw [e2, hx, noteP_inv hn]; rfl
theorem read_inv {x : ByteArray} {r : List ByteArray} {d : Doc} (h : readF 0 zeroDoc (x :: r) = (d, 0)) : x :: r = docL d := by
  rw [readF] at h
  cases hq : lineP 0 zeroDoc x with
  | none => rw [hq] at h; simp at h
  | some d1 =>
    rw [hq] at h
    obtain ⟨T, N, e1, e2, _⟩ := further_inv r 0 d1 d h
    unfold lineP at hq
    cases hw : splitW (lst x) with
    | none => rw [hw] at hq; cases hq
    | some ws =>
      rw [hw] at hq
      simp only [if_true] at hq
      obtain ⟨rc, hr, rfl⟩ := Option.map_eq_some_iff.1 hq
      have hx := line_split hw
      rw [e1, e2, hx, recP_inv hr]
      simp [docL, recL, zeroDoc]
theorem print_parse {s : List UInt8} {d : Doc} (h : (parseD s).2.2 = 0) (hd : (parseD s).1 = d) : printD d = s ∧ printE d = 0 ∧ (parseD s).2.1 = 0 := by
  unfold parseD at h hd ⊢
  by_cases h0 : s = []
  · rw [if_pos h0] at h; cases h
  rw [if_neg h0] at h hd ⊢
  cases hl : linesW s with
  | none => rw [hl] at h; cases h
  | some ls =>
    rw [hl] at h hd
    simp only at h hd ⊢
    split at h
    · cases h
    · rename_i h1
      rw [if_neg h1] at hd ⊢
      split at h
      · rename_i h2; exact absurd h h2
      · rename_i h2
        rw [if_neg h2] at hd ⊢
        simp only [ne_eq, Decidable.not_not] at h1 h2
        subst hd
        refine ⟨?_, h2, rfl⟩
        have hle : ls ≠ [] := by
          intro e
          subst e
          have := text_lines hl
          exact h0 this.symm
        have e : (ls.map toB).map lst = ls := by
          rw [List.map_map]
          conv => rhs; rw [← List.map_id ls]
          exact List.map_congr_left fun s _ => lst_toB s
        obtain ⟨x, r, hxr⟩ : ∃ x r, ls.map toB = x :: r := by
          cases ls with
          | nil => exact absurd rfl hle
          | cons x r => exact ⟨toB x, r.map toB, rfl⟩
        have hinv := read_inv (x := x) (r := r) (d := (readF 0 zeroDoc (ls.map toB)).1) (by rw [← hxr]; exact Prod.ext rfl h1)
        unfold printD
        rw [← hinv, ← hxr, e]
        exact text_lines hl
end Go.Proofs.YtigcjinpkngapaaGreatDoor
end
section
namespace Go.Proofs.YtigcjinpkngapaaGreatDoor
theorem spkOk_in : ∀ {l : List Int} {last : Int}, 0 ≤ last → spkOk last l = true → ∀ n ∈ l, inNum n
  | [], _, _, _, n, hn => by cases hn
  | m :: r, last, h0, h, n, hn => by
    simp only [spkOk, Bool.and_eq_true, decide_eq_true_eq] at h
    rcases List.mem_cons.1 hn with rfl | hn
    · unfold inNum; omega
    · exact spkOk_in (by omega) h.2.2 n hn
theorem recOk_in {r : Recording} (h : recOk r = true) : RecIn r := by
  simp only [recOk, Bool.and_eq_true, decide_eq_true_eq] at h
  obtain ⟨h1, h2, _, h4, h5, h6, h7, _, h9⟩ := h
  exact ⟨by unfold inNum; omega, by unfold inNum; omega, by unfold inNum; omega, spkOk_in (Int.le_refl _) h9⟩
theorem tierOne_role {b : List Tier} {t : Tier} (h : tierOne b t = 0) : 0 ≤ t.role ∧ t.role ≤ 5 := by
  unfold tierOne at h
  split at h
  · cases h
  split at h
  · cases h
  split at h
  · cases h
  split at h
  · cases h
  · omega
theorem tiers_in {l : List Tier} (h : tiersE l = 0) : ∀ t ∈ l, TierIn t := by
  intro t ht
  obtain ⟨k, hk⟩ := List.mem_iff_getElem?.1 ht
  have h1 := tiersE_one h hk
  have h2 := tierOne_parent h1
  have h3 := tierOne_role h1
  have h4 := tiersE_len h
  have h5 : (l.take k).length ≤ 12 := by rw [List.length_take]; omega
  exact ⟨by unfold inNum; omega, by unfold inNum; omega, by unfold inNum; omega⟩
theorem rank_lt {l : List Int} (h : rankedL l = true) {r : Int} (hr : r ∈ l) : 0 ≤ r ∧ r < l.length := by
  rcases Classical.em (0 ≤ r ∧ r < l.length) with g | g
  · exact g
  · exfalso
    have := pigeon l.length (l.erase r) 0 fun n hn => by
      simp only [rankedL, List.all_eq_true, List.mem_range, List.any_eq_true, decide_eq_true_eq] at h
      obtain ⟨q, hq, e⟩ := h n hn
      refine (List.mem_erase_of_ne (by omega)).2 (by rw [Int.zero_add, ← e]; exact hq)
    rw [List.length_erase_of_mem hr] at this
    have := List.length_pos_of_mem hr
    omega
theorem eachE_all {d : Doc} : ∀ (m i : Nat), eachE d m i = 0 → ∀ j, i ≤ j → j < i + m → tierE d (j : Int) = 0
  | 0, i, _, j, h1, h2 => by omega
  | m + 1, i, h, j, h1, h2 => by
    rw [eachE] at h
    split at h
    · rename_i h3; exact absurd h h3
    · rename_i h3
      rcases Nat.eq_or_lt_of_le h1 with rfl | h4
      · exact Decidable.of_not_not h3
      · exact eachE_all m (i + 1) h j h4 (by omega)
theorem placedE_more {d : Doc} {t : Tier} {n : Note} (h : placedE d t n = 0) : (t.kind = 0 → n.parent = 0) ∧ (t.kind ≠ 3 → n.rank = 0) := by
  unfold placedE at h
  split at h
  · cases h
  rename_i h1
  split at h
  · cases h
  split at h
  · cases h
  split at h
  · cases h
  split at h
  · cases h
  rename_i h5
  refine ⟨fun hk => ?_, fun hk => ?_⟩
  · rcases Decidable.em (n.parent = 0) with e | e
    · exact e
    · exact absurd (.inl ⟨hk, e⟩) h1
  · rcases Decidable.em (n.rank = 0) with e | e
    · exact e
    · exact absurd (.inr ⟨e, hk⟩) h5
theorem series_rank {d : Doc} {i : Nat} {t : Tier} (h : tierE d (i : Int) = 0) (ht : d.tiers[i]? = some t) (hk : t.kind = 3) {n : Note} (hn : n ∈ d.notes) (hi : n.tier = (i : Int)) : n.rank < d.notes.length := by
  have hte : tierE d (i : Int) = tierE1 d 3 (i : Int) 0 d.notes := by
    unfold tierE tierAt
    rw [if_pos (by omega), Int.toNat_natCast, ht]
    simp only [hk]
  rw [hte, tierE1_eq] at h
  rw [if_neg (fun q => by cases q.1)] at h
  split at h
  · cases h
  · rename_i h2
    have hb : badG 3 (sibs d (i : Int) n.parent) ((getN d.notes n.parent).getD noNote).span = false := by
      rw [Bool.eq_false_iff]
      intro q
      apply h2
      rw [List.any_eq_true]
      exact ⟨n, List.mem_filter.2 ⟨hn, by simpa using hi⟩, q⟩
    have hr : rankedL ((sibs d (i : Int) n.parent).map (·.rank)) = true := by simpa [badG] using hb
    have hmem : n ∈ sibs d (i : Int) n.parent := List.mem_filter.2 ⟨hn, by simp [hi]⟩
    have := (rank_lt hr (List.mem_map.2 ⟨n, hmem, rfl⟩)).2
    rw [List.length_map] at this
    have h3 : (sibs d (i : Int) n.parent).length ≤ d.notes.length := List.length_filter_le ..
    omega
theorem doc_in {d : Doc} (h : docE d = 0) : ∀ n ∈ d.notes, NoteIn n := by
  obtain ⟨hT, _, _, hl, hN, hE⟩ := docE_zero h
  have ids : ∀ n ∈ d.notes, 1 ≤ n.id ∧ n.id ≤ 1099511627776 := fun n hn => by
    obtain ⟨q, hq⟩ := notesE_all _ _ hN n hn
    obtain ⟨h1, h2, _⟩ := noteE_zero hq
    exact ⟨h1, h2⟩
  intro n hn
  obtain ⟨q, hq⟩ := notesE_all _ _ hN n hn
  obtain ⟨h1, h2, _, t, ht, hp⟩ := noteE_zero hq
  obtain ⟨t0, t1⟩ := tierAt_some ht
  have hlt := (List.getElem?_eq_some_iff.1 t1).1
  have h12 := tiersE_len hT
  have k := placedE_zero hp
  have k2 := placedE_more hp
  have hi : n.tier = ((n.tier.toNat : Nat) : Int) := by omega
  refine ⟨by unfold inNum; omega, by unfold inNum; omega, ?_, ?_, ?_, ?_⟩
  · by_cases hk : t.kind = 0
    · rw [k2.1 hk]; decide
    · obtain ⟨p, hg, _⟩ := k.p hk
      have := ids p (getN_id hg).2
      rw [(getN_id hg).1] at this
      unfold inNum; omega
  · cases htm : timed t.kind with
    | true => have := right_iff.1 (k.s htm); unfold inNum; omega
    | false => rw [k.z htm]; decide
  · cases htm : timed t.kind with
    | true => have := right_iff.1 (k.s htm); unfold inNum; omega
    | false => rw [k.z htm]; decide
  · have hr := k.r
    by_cases hk : t.kind = 3
    · have hz := eachE_all d.tiers.length 0 hE n.tier.toNat (Nat.zero_le _) (by omega)
      have := series_rank hz t1 hk hn hi
      unfold inNum; omega
    · rw [k2.2 hk]; decide
theorem print_in {d : Doc} (h : printE d = 0) : DocIn d := by
  obtain ⟨h1, h2⟩ := printE_zero h
  exact ⟨recOk_in h2, tiers_in (docE_zero h1).1, doc_in h1⟩
theorem parse_doc {d : Doc} (h : DocIn d) : parseD (printD d) = if printE d ≠ 0 then (zeroDoc, 0, printE d) else (d, 0, 0) := by
  unfold parseD
  rw [if_neg (printD_ne d), lines_doc]
  have : readF 0 zeroDoc (docL d) = (d, 0) := by
    have := readF_docL h []
    rw [List.append_nil] at this
    rw [this]; rfl
  simp only [map_back, this]
  rw [if_neg (by simp)]
theorem prefix_lines : ∀ (L : List (List UInt8)) (n : Nat), (∀ x ∈ L, (10 : UInt8) ∉ x) → 0 < n → n ≤ (textW L).length → (textW L)[n - 1]? = some 10 → ∃ k, 1 ≤ k ∧ k ≤ L.length ∧ (textW L).take n = textW (L.take k)
  | [], n, _, h0, h1, _ => by simp [textW] at h1; omega
  | x :: r, n, hx, h0, h1, h2 => by
    have e : textW (x :: r) = x ++ 10 :: textW r := by simp [textW]
    have hx0 := hx x (by simp)
    rw [e] at h1 h2 ⊢
    rcases Nat.lt_trichotomy n (x.length + 1) with g | g | g
    · exfalso
      rw [List.getElem?_append_left (by omega)] at h2
      exact hx0 (List.mem_of_getElem? h2)
    · refine ⟨1, Nat.le_refl _, by simp, ?_⟩
      subst g
      rw [List.take_append, List.take_of_length_le (by omega)]
      simp [textW]
    · simp only [List.length_append, List.length_cons] at h1
      have hn : n - 1 - x.length = (n - x.length - 1 - 1) + 1 := by omega
      rw [List.getElem?_append_right (by omega), hn, List.getElem?_cons_succ] at h2
      obtain ⟨k, k1, k2, k3⟩ := prefix_lines r (n - x.length - 1) (fun y hy => hx y (by simp [hy])) (by omega) (by omega) h2
      refine ⟨k + 1, by omega, by simp; omega, ?_⟩
      rw [List.take_append, List.take_of_length_le (by omega), show n - x.length = (n - x.length - 1) + 1 by omega, List.take_succ_cons, k3, List.take_succ_cons]
      simp [textW]
def cutD (d : Doc) (k : Nat) : Doc := ⟨d.rec_, d.tiers.take (k - 1), d.notes.take (k - 1 - d.tiers.length)⟩
theorem docL_take (d : Doc) {k : Nat} (h : 1 ≤ k) : (docL d).take k = docL (cutD d k) := by
  obtain ⟨k, rfl⟩ : ∃ j, k = j + 1 := ⟨k - 1, by omega⟩
  unfold docL cutD
  simp only [List.take_succ_cons, Nat.add_sub_cancel]
  rw [List.take_append, List.map_take, List.map_take, List.length_map]
theorem cut_in {d : Doc} (h : DocIn d) (k : Nat) : DocIn (cutD d k) := ⟨h.r, fun t ht => h.t t (List.mem_of_mem_take ht), fun t ht => h.n t (List.mem_of_mem_take ht)⟩
theorem noteE_codes {d : Doc} {p : Option Note} {n : Note} (h : textE n.text = 0) : noteE d p n ≠ 3 ∧ noteE d p n ≠ 4 := by
  unfold noteE
  split
  · decide
  split
  · decide
  cases tierAt d.tiers n.tier with
  | none => exact ⟨by simp, by simp⟩
  | some t =>
    simp only
    rw [if_neg (by simpa using h)]
    unfold placedE
    split
    · decide
    split
    · decide
    split
    · decide
    split
    · decide
    split <;> decide
theorem notesE_codes {d : Doc} : ∀ (l : List Note) (p : Option Note), (∀ n ∈ l, textE n.text = 0) → notesE d p l ≠ 3 ∧ notesE d p l ≠ 4
  | [], _, _ => by simp [notesE]
  | n :: r, p, h => by
    rw [notesE]
    split
    · exact noteE_codes (h n (by simp))
    · exact notesE_codes r (some n) (fun m hm => h m (by simp [hm]))
theorem tierE_codes (d : Doc) (i : Int) : tierE d i ≠ 3 ∧ tierE d i ≠ 4 := by
  unfold tierE
  cases tierAt d.tiers i with
  | none => exact ⟨by simp, by simp⟩
  | some t =>
    simp only
    rw [tierE1_eq]
    unfold badCode
    split
    · decide
    split
    · split
      · decide
      split <;> decide
    · decide
theorem eachE_codes (d : Doc) : ∀ (m i : Nat), eachE d m i ≠ 3 ∧ eachE d m i ≠ 4
  | 0, _ => by simp [eachE]
  | m + 1, i => by
    rw [eachE]
    split
    · exact tierE_codes d _
    · exact eachE_codes d m (i + 1)
theorem ite_codes (p q : Prop) [Decidable p] [Decidable q] : (if p then (14 : Int) else if q then 13 else 0) ≠ 3 ∧ (if p then (14 : Int) else if q then 13 else 0) ≠ 4 := by
  by_cases h1 : p <;> by_cases h2 : q <;> simp [h1, h2]
theorem rolesE_codes (a : Int) (t : Tier) : rolesE a t ≠ 3 ∧ rolesE a t ≠ 4 := ite_codes _ _
theorem tierOne_codes (b : List Tier) (t : Tier) : tierOne b t ≠ 3 ∧ tierOne b t ≠ 4 := by
  unfold tierOne
  split
  · decide
  split
  · decide
  split
  · decide
  split
  · decide
  split
  · decide
  split
  · split
    · decide
    · exact rolesE_codes _ _
  split
  · decide
  split
  · decide
  · split
    · decide
    · exact rolesE_codes _ _
theorem tiersEF_codes (l : List Tier) : ∀ (m i : Nat), tiersEF l m i ≠ 3 ∧ tiersEF l m i ≠ 4
  | 0, _ => by simp [tiersEF]
  | m + 1, i => by
    rw [tiersEF]
    cases l[i]? with
    | none => exact ⟨by simp, by simp⟩
    | some t =>
      simp only
      split
      · exact tierOne_codes _ _
      · exact tiersEF_codes l m (i + 1)
theorem printE_codes {d : Doc} (h : ∀ n ∈ d.notes, textE n.text = 0) : printE d ≠ 3 ∧ printE d ≠ 4 := by
  have hd : docE d ≠ 3 ∧ docE d ≠ 4 := by
    unfold docE
    split
    · unfold tiersE
      split
      · decide
      · exact tiersEF_codes _ _ _
    split
    · decide
    split
    · decide
    split
    · exact notesE_codes _ _ h
    · exact eachE_codes _ _ _
  unfold printE
  split
  · exact hd
  split <;> decide
theorem texts_ok {d : Doc} (h : docE d = 0) : ∀ n ∈ d.notes, textE n.text = 0 := fun n hn => by
  obtain ⟨q, hq⟩ := notesE_all _ _ (docE_zero h).2.2.2.2.1 n hn
  exact (noteE_zero hq).2.2.1
theorem parse_cut {d : Doc} (h : printE d = 0) {n : Nat} (h0 : 0 < n) (h1 : n ≤ (printD d).length) : ((printD d)[n - 1]? ≠ some 10 → parseD ((printD d).take n) = (zeroDoc, 0, 3)) ∧
    ((printD d)[n - 1]? = some 10 → ∃ c f, parseD ((printD d).take n) = (c, 0, f) ∧ f ≠ 3 ∧ f ≠ 4 ∧ c.notes.length ≤ d.notes.length ∧ c.tiers.length ≤ d.tiers.length) := by
  have hne : (printD d).take n ≠ [] := by
    intro e
    have := congrArg List.length e
    rw [List.length_take, List.length_nil] at this
    omega
  have hla : ((printD d).take n).getLast? = (printD d)[n - 1]? := by
    rw [List.getLast?_eq_getElem?, List.length_take, Nat.min_eq_left h1, List.getElem?_take, if_pos (by omega)]
  constructor
  · intro hq
    unfold parseD
    rw [if_neg hne]
    have : linesW ((printD d).take n) = none := by
      unfold linesW
      rw [if_neg hne, hla, if_neg hq]
    rw [this]
  · intro hq
    obtain ⟨k, k1, k2, k3⟩ := prefix_lines ((docL d).map lst) n (docL_no d) h0 h1 hq
    have e : (printD d).take n = printD (cutD d k) := by
      show (textW ((docL d).map lst)).take n = _
      rw [k3, ← List.map_take, docL_take d k1]; rfl
    rw [e, parse_doc (cut_in (print_in h) k)]
    have ht := texts_ok (printE_zero h).1
    have hc := printE_codes (d := cutD d k) fun n hn => ht n (List.mem_of_mem_take hn)
    have l1 : (cutD d k).notes.length ≤ d.notes.length := by simp [cutD, List.length_take]; omega
    have l2 : (cutD d k).tiers.length ≤ d.tiers.length := by simp [cutD, List.length_take]; omega
    by_cases hz : printE (cutD d k) = 0
    · rw [if_neg (by simpa using hz)]
      exact ⟨_, _, rfl, by decide, by decide, l1, l2⟩
    · rw [if_pos hz]
      exact ⟨_, _, rfl, hc.1, hc.2, Nat.zero_le _, Nat.zero_le _⟩
theorem glue_last (c : UInt8) : ∀ (l : List (List UInt8)) (h : l ≠ []), ∃ pre, glue c l = pre ++ l.getLast h
  | [x], _ => ⟨[], rfl⟩
  | x :: y :: r, _ => by
    obtain ⟨pre, hp⟩ := glue_last c (y :: r) (List.cons_ne_nil _ _)
    have e : (x :: y :: r).getLast (List.cons_ne_nil _ _) = (y :: r).getLast (List.cons_ne_nil _ _) := List.getLast_cons (List.cons_ne_nil _ _)
    exact ⟨x ++ c :: pre, by rw [glue_cons x (List.cons_ne_nil _ _), hp, e, List.append_assoc]; rfl⟩
theorem blank_none (x : List UInt8) : splitW (x ++ [32]) = none := by
  cases h : splitW (x ++ [32]) with
  | none => rfl
  | some ws =>
    exfalso
    unfold splitW at h
    rw [if_neg (by simp)] at h
    obtain ⟨_, h2⟩ := mapM_all h
    have hne := splitOn_ne 32 (x ++ [32])
    obtain ⟨pre, hp⟩ := glue_last 32 (splitOn 32 (x ++ [32])) hne
    rw [glue_split] at hp
    have hz : (splitOn 32 (x ++ [32])).getLast hne = [] := by
      rcases List.eq_nil_or_concat ((splitOn 32 (x ++ [32])).getLast hne) with e | ⟨m, z, e⟩
      · exact e
      · exfalso
        rw [List.concat_eq_append] at e
        have h32 := split_no (List.getLast_mem hne)
        rw [e, ← List.append_assoc] at hp
        have := List.append_inj_right' hp rfl
        simp only [List.cons.injEq, and_true] at this
        rw [e, ← this] at h32
        exact h32 (by simp)
    have hm : ([] : List UInt8) ∈ splitOn 32 (x ++ [32]) := by have q := List.getLast_mem hne; rw [hz] at q; exact q
    have hall : ∀ {l : List (List UInt8)} {m : List (List UInt8)}, l.mapM unquoteL = some m → ∀ y ∈ l, (unquoteL y).isSome = true := by
      intro l
      induction l with
      | nil => intro m _ y hy; cases hy
      | cons a r ih =>
        intro m hm y hy
        rw [List.mapM_cons] at hm
        cases ha : unquoteL a with
        | none => rw [ha] at hm; simp at hm
        | some b =>
          cases hr : r.mapM unquoteL with
          | none => rw [ha, hr] at hm; simp at hm
          | some m' =>
            rcases List.mem_cons.1 hy with rfl | hy
            · rw [ha]; rfl
            · exact ih hr y hy
    have := hall h [] hm
    cases this
theorem parse_bad {d : Doc} (h : printE d = 0) {k : Nat} {x : ByteArray} (hx : (docL d)[k]? = some x) : parseD (textW (((docL d).map lst).set k (lst x ++ [32]))) = (zeroDoc, (k : Int) + 1, 3) := by
  have hk := (List.getElem?_eq_some_iff.1 hx).1
  have hno : ∀ y ∈ ((docL d).map lst).set k (lst x ++ [32]), (10 : UInt8) ∉ y := by
    intro y hy
    rcases List.mem_or_eq_of_mem_set hy with hy | rfl
    · exact docL_no d y hy
    · intro q
      rcases List.mem_append.1 q with q | q
      · exact docL_no d (lst x) (List.mem_map.2 ⟨x, List.mem_of_getElem? hx, rfl⟩) q
      · simp at q
  have hlen : 0 < (((docL d).map lst).set k (lst x ++ [32])).length := by rw [List.length_set, List.length_map]; omega
  have hne : textW (((docL d).map lst).set k (lst x ++ [32])) ≠ [] := by
    cases e : ((docL d).map lst).set k (lst x ++ [32]) with
    | nil => rw [e] at hlen; simp at hlen
    | cons a r => exact textW_ne
  unfold parseD
  rw [if_neg hne, lines_text hno]
  have e : (((docL d).map lst).set k (lst x ++ [32])).map toB = (docL d).take k ++ toB (lst x ++ [32]) :: (docL d).drop (k + 1) := by
    rw [List.map_set, map_back, List.set_eq_take_append_cons_drop, if_pos hk]
  have hb : ∀ i d', lineP i d' (toB (lst x ++ [32])) = none := fun i d' => by
    unfold lineP; rw [lst_toB, blank_none]
  have hr : (readF 0 zeroDoc ((docL d).take k ++ toB (lst x ++ [32]) :: (docL d).drop (k + 1))).2 = k + 1 := by
    cases k with
    | zero =>
      simp only [List.take_zero, List.nil_append]
      rw [readF, hb]
    | succ k =>
      rw [docL_take d (by omega), readF_docL (cut_in (print_in h) _), readF, hb, ← docL_take d (by omega), List.length_take]
      simp only
      omega
  simp only [e, hr]
  rw [if_pos (by omega)]
  simp
end Go.Proofs.YtigcjinpkngapaaGreatDoor
end
section
namespace Go.Proofs.YtigcjinpkngapaaGreatDoor
open Go.Lib
theorem num_lit {n : Int} {l : List UInt8} (h : itoa n = l) : numT n = ⟨l.toArray⟩ := by unfold numT; rw [h]
theorem it0 : itoa 0 = [48] := by unfold itoa; rw [if_neg (by omega), decDigits, dif_pos (by decide)]; rfl
theorem it1 : itoa 1 = [49] := by unfold itoa; rw [if_neg (by omega), decDigits, dif_pos (by decide)]; rfl
theorem it3 : itoa 3 = [51] := by unfold itoa; rw [if_neg (by omega), decDigits, dif_pos (by decide)]; rfl
theorem it4 : itoa 4 = [52] := by unfold itoa; rw [if_neg (by omega), decDigits, dif_pos (by decide)]; rfl
theorem it5 : itoa 5 = [53] := by unfold itoa; rw [if_neg (by omega), decDigits, dif_pos (by decide)]; rfl
theorem it7 : itoa 7 = [55] := by unfold itoa; rw [if_neg (by omega), decDigits, dif_pos (by decide)]; rfl
theorem it9 : itoa 9 = [57] := by unfold itoa; rw [if_neg (by omega), decDigits, dif_pos (by decide)]; rfl
theorem itm1 : itoa (-1) = [45, 49] := by unfold itoa; rw [if_pos (by omega), decDigits, dif_pos (by decide)]; rfl
theorem it400 : itoa 400 = [52, 48, 48] := by unfold itoa; rw [if_neg (by omega), decDigits, dif_neg (by decide), decDigits, dif_neg (by decide), decDigits, dif_pos (by decide)]; rfl
theorem it900 : itoa 900 = [57, 48, 48] := by unfold itoa; rw [if_neg (by omega), decDigits, dif_neg (by decide), decDigits, dif_neg (by decide), decDigits, dif_pos (by decide)]; rfl
def tapeRec (l : List Int) : Recording := ⟨3, ⟨#[116, 97, 112, 101]⟩, 900, 5, l⟩
theorem sample_rec : recW sampleD.rec_ = [kRec, ⟨#[51]⟩, ⟨#[116, 97, 112, 101]⟩, ⟨#[57, 48, 48]⟩, ⟨#[53]⟩, ⟨#[49]⟩, ⟨#[52]⟩] := by
  simp only [recW, sampleD, List.map_cons, List.map_nil, num_lit it3, num_lit it900, num_lit it5, num_lit it1, num_lit it4]
  rfl
theorem sample_tier : tierW ⟨⟨#[116, 101, 120, 116]⟩, 0, 1, -1⟩ = [kTier, ⟨#[116, 101, 120, 116]⟩, ⟨#[48]⟩, ⟨#[49]⟩, ⟨#[45, 49]⟩] := by
  simp only [tierW, List.map_cons, List.map_nil, num_lit it0, num_lit it1, num_lit itm1]
  rfl
theorem sample_note1 : noteW ⟨7, 0, 0, ⟨0, 400⟩, 0, ⟨#[98, 97, 32, 109, 105]⟩⟩ = [kNote, ⟨#[55]⟩, ⟨#[48]⟩, ⟨#[48]⟩, ⟨#[48]⟩, ⟨#[52, 48, 48]⟩, ⟨#[48]⟩, ⟨#[98, 97, 32, 109, 105]⟩] := by
  simp only [noteW, List.map_cons, List.map_nil, num_lit it0, num_lit it7, num_lit it400]
  rfl
theorem sample_note2 : noteW ⟨9, 0, 0, ⟨400, 900⟩, 0, .empty⟩ = [kNote, ⟨#[57]⟩, ⟨#[48]⟩, ⟨#[48]⟩, ⟨#[52, 48, 48]⟩, ⟨#[57, 48, 48]⟩, ⟨#[48]⟩, .empty] := by
  simp only [noteW, List.map_cons, List.map_nil, num_lit it0, num_lit it9, num_lit it400, num_lit it900]
  rfl
def wantL : List UInt8 := [114, 101, 99, 111, 114, 100, 105, 110, 103, 32, 51, 32, 116, 97, 112, 101, 32, 57, 48, 48, 32, 53, 32, 49, 32, 52, 10,
  116, 105, 101, 114, 32, 116, 101, 120, 116, 32, 48, 32, 49, 32, 45, 49, 10,
  110, 111, 116, 101, 32, 55, 32, 48, 32, 48, 32, 48, 32, 52, 48, 48, 32, 48, 32, 98, 97, 37, 50, 48, 109, 105, 10,
  110, 111, 116, 101, 32, 57, 32, 48, 32, 48, 32, 52, 48, 48, 32, 57, 48, 48, 32, 48, 32, 37, 45, 10]
theorem sample_print : printD sampleD = wantL := by
  have e : docL sampleD = [toB (joinW ((recW sampleD.rec_).map lst)), toB (joinW ((tierW ⟨⟨#[116, 101, 120, 116]⟩, 0, 1, -1⟩).map lst)), toB (joinW ((noteW ⟨7, 0, 0, ⟨0, 400⟩, 0, ⟨#[98, 97, 32, 109, 105]⟩⟩).map lst)), toB (joinW ((noteW ⟨9, 0, 0, ⟨400, 900⟩, 0, .empty⟩).map lst))] := rfl
  unfold printD
  rw [e, sample_rec, sample_tier, sample_note1, sample_note2]
  decide
theorem sample_ok : printE sampleD = 0 := by decide
theorem parse_want : parseD wantL = (sampleD, 0, 0) := by
  rw [← sample_print]
  exact parse_print (print_in sample_ok) sample_ok
def lit2 : List UInt8 := [114, 101, 99, 111, 114, 100, 105, 110, 103, 32, 51, 32, 116, 97, 112, 101, 32, 57, 48, 48, 32, 53, 32, 49, 10, 116, 105, 101, 114, 32, 116, 101, 120, 116, 32, 48, 32, 49, 32, 120, 10]
def lit3 : List UInt8 := [114, 101, 99, 111, 114, 100, 105, 110, 103, 32, 51, 32, 116, 97, 112, 101, 32, 57, 48, 48, 32, 53, 10]
theorem tape_rec1 : recW (tapeRec [1]) = [kRec, ⟨#[51]⟩, ⟨#[116, 97, 112, 101]⟩, ⟨#[57, 48, 48]⟩, ⟨#[53]⟩, ⟨#[49]⟩] := by
  simp only [recW, tapeRec, List.map_cons, List.map_nil, num_lit it3, num_lit it900, num_lit it5, num_lit it1]
  rfl
theorem tape_rec0 : recW (tapeRec []) = [kRec, ⟨#[51]⟩, ⟨#[116, 97, 112, 101]⟩, ⟨#[57, 48, 48]⟩, ⟨#[53]⟩] := by
  simp only [recW, tapeRec, List.map_cons, List.map_nil, num_lit it3, num_lit it900, num_lit it5]
  rfl
theorem tape_in (l : List Int) (h : ∀ n ∈ l, inNum n) : RecIn (tapeRec l) := ⟨(show inNum 3 by decide), (show inNum 900 by decide), (show inNum 5 by decide), h⟩
theorem parse_lit3 : parseD lit3 = (zeroDoc, 0, 1) := by
  have e : printD ⟨tapeRec [], [], []⟩ = lit3 := by
    have e1 : docL ⟨tapeRec [], [], []⟩ = [toB (joinW ((recW (tapeRec [])).map lst))] := rfl
    unfold printD
    rw [e1, tape_rec0]
    decide
  rw [← e, parse_doc ⟨tape_in [] (fun n hn => (by cases hn)), fun t ht => (by cases ht), fun t ht => (by cases ht)⟩]
  have : printE ⟨tapeRec [], [], []⟩ = 1 := by decide
  rw [this]; rfl
theorem numP_x : numP ⟨#[120]⟩ = none := by
  unfold numP
  have : atoiAll [120] = atoiAll [120] := rfl
  rfl
theorem parse_lit2 : parseD lit2 = (zeroDoc, 2, 3) := by
  unfold parseD
  have h1 : linesW lit2 = some [[114, 101, 99, 111, 114, 100, 105, 110, 103, 32, 51, 32, 116, 97, 112, 101, 32, 57, 48, 48, 32, 53, 32, 49], [116, 105, 101, 114, 32, 116, 101, 120, 116, 32, 48, 32, 49, 32, 120]] := by decide
  have h2 : toB [114, 101, 99, 111, 114, 100, 105, 110, 103, 32, 51, 32, 116, 97, 112, 101, 32, 57, 48, 48, 32, 53, 32, 49] = recL (tapeRec [1]) := by
    unfold recL
    rw [tape_rec1]
    decide
  have h3 : splitW [116, 105, 101, 114, 32, 116, 101, 120, 116, 32, 48, 32, 49, 32, 120] = some [[116, 105, 101, 114], [116, 101, 120, 116], [48], [49], [120]] := by decide
  have h4 : tierP [toB [116, 105, 101, 114], toB [116, 101, 120, 116], toB [48], toB [49], toB [120]] = none := by
    have n0 : numP (toB [48]) = some 0 := numP_some.2 ⟨num_lit it0, by decide⟩
    have n1 : numP (toB [49]) = some 1 := numP_some.2 ⟨num_lit it1, by decide⟩
    have n2 : numP (toB [120]) = none := numP_x
    unfold tierP
    simp only [numsP, n0, n1, n2, Option.map_none]
    split <;> rfl
  rw [if_neg (by decide), h1]
  have h5 : readF 0 zeroDoc ([[114, 101, 99, 111, 114, 100, 105, 110, 103, 32, 51, 32, 116, 97, 112, 101, 32, 57, 48, 48, 32, 53, 32, 49], [116, 105, 101, 114, 32, 116, 101, 120, 116, 32, 48, 32, 49, 32, 120]].map toB) = (⟨tapeRec [1], [], []⟩, 2) := by
    rw [List.map_cons, readF, h2, lineP_rec (tape_in [1] (fun n hn => (by simp at hn; subst hn; decide)))]
    simp only
    rw [List.map_cons, List.map_nil, readF]
    have : lineP (0 + 1) ⟨tapeRec [1], [], []⟩ (toB [116, 105, 101, 114, 32, 116, 101, 120, 116, 32, 48, 32, 49, 32, 120]) = none := by
      unfold lineP
      rw [lst_toB, h3]
      simp only [Nat.add_one_ne_zero, if_false, List.map_cons, List.map_nil]
      unfold furP
      rw [h4, noteP_none (by simp)]
    rw [this]
  simp only [h5]
  rfl
end Go.Proofs.YtigcjinpkngapaaGreatDoor
end
