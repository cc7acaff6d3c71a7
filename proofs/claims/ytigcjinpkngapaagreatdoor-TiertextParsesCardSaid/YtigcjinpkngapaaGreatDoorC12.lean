/- A logic of trees over the model's steps, and the contracts of the functions that the laws reach: part 12 of 20. -/
import Derived.Test.YtigcjinpkngapaaGreatDoorC11
set_option linter.unusedVariables false
set_option linter.unusedSimpArgs false
set_option linter.unusedSectionVars false
section
namespace Go.Proofs.YtigcjinpkngapaaGreatDoor
open Go.Ac Go.MapKept
attribute [local irreducible] awp awpL Ev Ev2 EvS thenQ blockQ retQ PCalls OCalls YieldOk IterC
variable {g : List (Nat × List AV)}
end Go.Proofs.YtigcjinpkngapaaGreatDoor
end
section
namespace Go.Proofs.YtigcjinpkngapaaGreatDoor
open Go.Ac Go.MapKept
attribute [local irreducible] awp awpL Ev Ev2 EvS thenQ blockQ retQ PCalls OCalls YieldOk IterC
variable {g : List (Nat × List AV)}
end Go.Proofs.YtigcjinpkngapaaGreatDoor
end
section
namespace Go.Proofs.YtigcjinpkngapaaGreatDoor
open Go.Ac Go.MapKept
attribute [local irreducible] awp awpL Ev Ev2 EvS thenQ blockQ retQ PCalls OCalls YieldOk IterC ICalls
end Go.Proofs.YtigcjinpkngapaaGreatDoor
end
section
namespace Go.Proofs.YtigcjinpkngapaaGreatDoor
open Go.Ac Go.MapKept
attribute [local irreducible] awp awpL Ev Ev2 EvS thenQ blockQ retQ PCalls OCalls YieldOk IterC ICalls
variable {g : List (Nat × List AV)}
end Go.Proofs.YtigcjinpkngapaaGreatDoor
end
section
namespace Go.Proofs.YtigcjinpkngapaaGreatDoor
open Go.Ac Go.MapKept
attribute [local irreducible] awp awpL Ev Ev2 EvS thenQ blockQ retQ PCalls OCalls YieldOk IterC ICalls
variable {g : List (Nat × List AV)}
end Go.Proofs.YtigcjinpkngapaaGreatDoor
end
section
namespace Go.Proofs.YtigcjinpkngapaaGreatDoor
open Go.Ac Go.MapKept
attribute [local irreducible] awp awpL Ev Ev2 EvS thenQ blockQ retQ PCalls OCalls YieldOk IterC
variable {g : List (Nat × List AV)}
end Go.Proofs.YtigcjinpkngapaaGreatDoor
end
section
namespace Go.Proofs.YtigcjinpkngapaaGreatDoor
open Go.Ac
attribute [local irreducible] awp awpL Ev Ev2 EvS thenQ blockQ retQ PCalls OCalls YieldOk IterC
variable {g : List (Nat × List AV)}
end Go.Proofs.YtigcjinpkngapaaGreatDoor
end
section
namespace Go.Proofs.YtigcjinpkngapaaGreatDoor
open Go.Ac Go.MapKept
attribute [local irreducible] awp awpL Ev Ev2 EvS thenQ blockQ retQ PCalls OCalls YieldOk IterC
variable {g : List (Nat × List AV)}
end Go.Proofs.YtigcjinpkngapaaGreatDoor
end
section
namespace Go.Proofs.YtigcjinpkngapaaGreatDoor
open Go.Ac Go.MapKept
attribute [local irreducible] awp awpL Ev Ev2 EvS thenQ blockQ retQ PCalls OCalls YieldOk IterC ICalls
end Go.Proofs.YtigcjinpkngapaaGreatDoor
end
section
namespace Go.Proofs.YtigcjinpkngapaaGreatDoor
open Go.Ac Go.MapKept
attribute [local irreducible] awp awpL Ev Ev2 EvS thenQ blockQ retQ PCalls OCalls YieldOk IterC ICalls
end Go.Proofs.YtigcjinpkngapaaGreatDoor
end
section
namespace Go.Ac
section
variable {P : Program} {td : TDs} [T : TOK P td] {G : Glo} {N : Nat} {S : SL} {L : List LB} {ty : TypeId} {x : AV}
theorem LF_drop {F : Nat → Prop} {w : World} : ∀ {cs : List AV} {ys : List Value} (n : Nat), LF F w cs ys → LF F w (cs.drop n) (ys.drop n)
  | cs, ys, 0, h => by simpa using h
  | [], ys, n + 1, h => by
    simp only [LF] at h; subst h; simp [LF]
  | c :: r, ys, n + 1, h => by
    simp only [LF] at h
    obtain ⟨y, s, rfl, _, _, h⟩ := h
    simpa using LF_drop n h
theorem LF_take {F : Nat → Prop} {w : World} : ∀ {cs : List AV} {ys : List Value} (n : Nat), LF F w cs ys → LF F w (cs.take n) (ys.take n)
  | cs, ys, 0, h => by simp [LF]
  | [], ys, n + 1, h => by
    simp only [LF] at h; subst h; simp [LF]
  | c :: r, ys, n + 1, h => by
    simp only [LF] at h
    obtain ⟨y, s, rfl, h1, h2, h⟩ := h
    simp only [List.take_succ_cons, LF]
    exact ⟨y, _, rfl, h1, h2, LF_take n h⟩
theorem struct_desc {t : Nat} {d : TD} {fs : List (TypeId × Nat)} (ht : lk td t = some d) (hs : d.k = .struct fs) : ∃ fields : Array Field, P.underlying t = some (.struct fields) ∧ fs = fields.toList.map fun f => (f.type, f.offset) := by
  obtain ⟨i, u, z, h1, h2, h3, h4, h5, h6, h7⟩ := tok_parts (P := P) ht
  rw [hs] at h4
  cases u <;> simp only [tk, reduceCtorEq, TK.struct.injEq] at h4
  rename_i fields
  exact ⟨fields, h2, h4.symm⟩
theorem ev_fld_agg {t : Nat} {d fd : TD} {fs : List (TypeId × Nat)} {f ft off : Nat} {u : Operand} {cs ds : List AV} (h : val G S u = some (.agg cs)) (ht : lk td t = some d) (hs : d.k = .struct fs) (hf : fs[f]? = some (ft, off))
    (hft : lk td ft = some fd) (hr : fd.k.row = true) (hx : (cs.drop off).take fd.size = ds) : Ev P G N (.field t u f) ty S L (.agg ds) := by
  subst hx
  intro o ho _ cx a hc
  have e1 := val_R hc h
  simp only [R, RF] at e1
  obtain ⟨xs, e1, hl⟩ := e1
  obtain ⟨fields, h2, rfl⟩ := struct_desc (P := P) ht hs
  simp only [List.getElem?_map, Array.getElem?_toList] at hf
  cases hq : fields[f]? with
  | none => simp [hq] at hf
  | some fl =>
    simp only [hq, Option.map_some, Option.some.injEq, Prod.mk.injEq] at hf
    obtain ⟨rfl, rfl⟩ := hf
    have hag := run_isAgg (P := P) hft cx.w
    rw [hr] at hag
    refine ⟨.agg (xs.extract fl.offset (fl.offset + fd.size)), ?_, ?_⟩
    · simp [execOp, ho, e1, Instr.field, asAgg, run_underlying h2, Result.andThen, hq, part, hag, run_sizeOf' (P := P) hft]
    · simp only [R, RF]
      refine ⟨_, rfl, ?_⟩
      have : (xs.extract fl.offset (fl.offset + fd.size)).toList = (xs.toList.drop fl.offset).take fd.size := by
        simp
      rw [this]
      exact LF_take _ (LF_drop _ hl)
end
end Go.Ac
end
section
namespace Go.Proofs.YtigcjinpkngapaaGreatDoor
open Go.Ac Go.MapKept
attribute [local irreducible] awp awpL Ev Ev2 EvS thenQ blockQ retQ PCalls OCalls YieldOk IterC ICalls
end Go.Proofs.YtigcjinpkngapaaGreatDoor
end
section
namespace Go.Proofs.YtigcjinpkngapaaGreatDoor
open Go.Ac Go.MapKept
attribute [local irreducible] awp awpL Ev Ev2 EvS thenQ blockQ retQ PCalls OCalls YieldOk IterC ICalls
end Go.Proofs.YtigcjinpkngapaaGreatDoor
end
section
namespace Go.Proofs.YtigcjinpkngapaaGreatDoor
open Go.Ac Go.MapKept
attribute [local irreducible] awp awpL Ev Ev2 EvS thenQ blockQ retQ PCalls OCalls YieldOk IterC ICalls
end Go.Proofs.YtigcjinpkngapaaGreatDoor
end
section
namespace Go.Proofs.YtigcjinpkngapaaGreatDoor
open Go.Ac Go.MapKept
attribute [local irreducible] awp awpL Ev Ev2 EvS thenQ blockQ retQ PCalls OCalls YieldOk IterC ICalls
end Go.Proofs.YtigcjinpkngapaaGreatDoor
end
section
namespace Go.Proofs.YtigcjinpkngapaaGreatDoor
open Go.Ac Go.MapKept
attribute [local irreducible] awp awpL Ev Ev2 EvS thenQ blockQ retQ PCalls OCalls YieldOk IterC ICalls
end Go.Proofs.YtigcjinpkngapaaGreatDoor
end
section
namespace Go.Proofs.YtigcjinpkngapaaGreatDoor
open Go.Ac Go.MapKept
attribute [local irreducible] awp awpL Ev Ev2 EvS thenQ blockQ retQ PCalls OCalls YieldOk IterC ICalls
end Go.Proofs.YtigcjinpkngapaaGreatDoor
end
section
namespace Go.Proofs.YtigcjinpkngapaaGreatDoor
open Go.Ac Go.MapKept
attribute [local irreducible] awp awpL Ev Ev2 EvS thenQ blockQ retQ PCalls OCalls YieldOk IterC ICalls
end Go.Proofs.YtigcjinpkngapaaGreatDoor
end
section
namespace Go.Proofs.YtigcjinpkngapaaGreatDoor
open Go.Ac Go.MapKept
attribute [local irreducible] awp awpL Ev Ev2 EvS thenQ blockQ retQ PCalls OCalls YieldOk IterC ICalls
variable {g : List (Nat × List AV)}
end Go.Proofs.YtigcjinpkngapaaGreatDoor
end
section
namespace Go.Proofs.YtigcjinpkngapaaGreatDoor
open Go.Ac
attribute [local irreducible] awp awpL Ev Ev2 EvS thenQ blockQ retQ PCalls OCalls YieldOk IterC ICalls
variable {g : List (Nat × List AV)}
end Go.Proofs.YtigcjinpkngapaaGreatDoor
end
section
namespace Go.Proofs.YtigcjinpkngapaaGreatDoor
open Go.Ac
attribute [local irreducible] awp awpL Ev Ev2 EvS thenQ blockQ retQ PCalls OCalls
variable {g : List (Nat × List AV)}
theorem notesE_drop {d : Doc} {l : List Note} {k : Nat} {p : Option Note} {n : Note} (h : l[k]? = some n) : notesE d p (l.drop k) = if noteE d p n ≠ 0 then noteE d p n else notesE d (some n) (l.drop (k + 1)) := by
  obtain ⟨h1, rfl⟩ := List.getElem?_eq_some_iff.1 h
  rw [List.drop_eq_getElem_cons h1]
  rfl
theorem prevN_succ {d : Doc} {k : Nat} {n : Note} (h : d.notes[k]? = some n) : prevN d (k + 1) = some n := by
  unfold prevN
  rw [if_neg (by omega)]
  exact h
theorem eachE_step {d : Doc} {k : Nat} (h : k < d.tiers.length) : eachE d (d.tiers.length - k) k = if tierE d (k : Int) ≠ 0 then tierE d (k : Int) else eachE d (d.tiers.length - (k + 1)) (k + 1) := by
  rw [show d.tiers.length - k = (d.tiers.length - (k + 1)) + 1 by omega]
  rfl
structure FitN (d : Doc) : Prop where
  n : d.notes.length ≤ 1000000
  s : ∀ t ∈ d.tiers, t.name.size ≤ 9223372036854775807
set_option maxRecDepth 8000 in
set_option maxHeartbeats 8000000 in
theorem rdoc_spec (d : Doc) (hd : FitN d) (hC : CovH g d) : PCalls Tryz.prog g 59 [.agg (docC d)] (vi (docE d)) := by
  have hT := rTiers_spec (g := g) d.tiers hd.s
  have n1 : (!true) = false := rfl
  have n2 : (!false) = true := rfl
  refine pcalls' Tryz.func59 Tryz.ntmps59 rfl rfl rfl ?_
  unfold docE
  generalize hte : tiersE d.tiers = te at *
  by_cases e0 : te = 0
  · have c0 : (!decide (te = 0)) = false := by simp [e0]
    rw [if_neg (by simpa using e0)]
    by_cases l1 : d.rec_.length < 0
    · have c1 : decide (d.rec_.length < 0) = true := decide_eq_true l1
      rw [if_pos (.inl l1)]
      repeat' (first
       | refine stn [] ?_
       | ((with_reducible refine is_gd ?_); refine awpL_split rfl rfl (fun h => ?_) (fun h => ?_))
       | ((with_reducible refine is_awp ?_); refine awp_cond rfl (fun h => ?_) (fun h => ?_))
       | fail)
      exact retP rfl rfl
    have c1 : decide (d.rec_.length < 0) = false := decide_eq_false l1
    by_cases l2 : 86400000 < d.rec_.length
    · have c2 : decide (86400000 < d.rec_.length) = true := decide_eq_true l2
      rw [if_pos (.inr l2)]
      repeat' (first
       | refine stn [] ?_
       | ((with_reducible refine is_gd ?_); refine awpL_split rfl rfl (fun h => ?_) (fun h => ?_))
       | ((with_reducible refine is_awp ?_); refine awp_cond rfl (fun h => ?_) (fun h => ?_))
       | fail)
      exact retP rfl rfl
    have c2 : decide (86400000 < d.rec_.length) = false := decide_eq_false l2
    rw [if_neg (by omega)]
    by_cases l3 : 300 < d.notes.length
    · have c3 : decide ((300 : Int) < d.notes.length) = true := decide_eq_true (by omega)
      rw [if_pos l3]
      repeat' (first
       | refine stn [] ?_
       | ((with_reducible refine is_gd ?_); refine awpL_split rfl rfl (fun h => ?_) (fun h => ?_))
       | ((with_reducible refine is_awp ?_); refine awp_cond rfl (fun h => ?_) (fun h => ?_))
       | fail)
      exact retP rfl rfl
    have c3 : decide ((300 : Int) < d.notes.length) = false := decide_eq_false (by omega)
    rw [if_neg l3]
    have htl : d.tiers.length ≤ 12 := tiersE_len (hte.trans e0)
    repeat' (first
     | refine stn [] ?_
     | ((with_reducible refine is_gd ?_); refine awpL_split rfl rfl (fun h => ?_) (fun h => ?_))
     | ((with_reducible refine is_awp ?_); refine awp_cond rfl (fun h => ?_) (fun h => ?_))
     | fail)
    refine awp_for (α := Nat) 0 (fun k => [(1, .fp (docC d)), (4, vi k)]) (fun _ => []) (fun k => k ≤ d.notes.length ∧ notesE d none d.notes = notesE d (prevN d k) (d.notes.drop k)) (fun k => d.notes.length - k) 0
      ⟨(.cons rfl rfl (.cons rfl rfl .nil)), rfl, rfl, rfl⟩ ⟨Nat.zero_le _, rfl⟩ ?_
    rintro k ⟨hk, hf⟩
    cases hx : d.notes[k]? with
    | some x =>
      have hlt : k < d.notes.length := (List.getElem?_eq_some_iff.1 hx).1
      have d1 : decide ((k : Int) < d.notes.length) = true := decide_eq_true (by omega)
      have hN := rnoteE_spec (g := g) d k x hx (by omega)
      have hdr := notesE_drop (d := d) (p := prevN d k) hx
      generalize noteE d (prevN d k) x = e at *
      by_cases ee : e = 0
      · have d2 : (!decide (e = 0)) = false := by simp [ee]
        rw [if_neg (by simpa using ee)] at hdr
        repeat' (first
         | refine stn [] ?_
         | ((with_reducible refine is_gd ?_); refine awpL_split rfl rfl (fun h => ?_) (fun h => ?_))
         | ((with_reducible refine is_awp ?_); refine awp_cond rfl (fun h => ?_) (fun h => ?_))
         | fail)
        exact ⟨k + 1, ⟨(.cons rfl rfl (.cons rfl rfl .nil)), rfl, rfl, rfl⟩, ⟨by omega, by rw [hf, hdr, prevN_succ hx]⟩, by omega⟩
      · have d2 : (!decide (e = 0)) = true := by simp [ee]
        rw [if_pos ee] at hdr
        rw [hf, hdr, if_pos ee]
        repeat' (first
         | refine stn [] ?_
         | ((with_reducible refine is_gd ?_); refine awpL_split rfl rfl (fun h => ?_) (fun h => ?_))
         | ((with_reducible refine is_awp ?_); refine awp_cond rfl (fun h => ?_) (fun h => ?_))
         | fail)
        exact retP rfl rfl
    | none =>
      have hge : d.notes.length ≤ k := by simpa using hx
      have d1 : decide ((k : Int) < d.notes.length) = false := decide_eq_false (by omega)
      rw [List.drop_of_length_le hge] at hf
      have hf : notesE d none d.notes = 0 := by rw [hf]; rfl
      rw [if_neg (by simpa using hf)]
      repeat' (first
       | refine stn [] ?_
       | ((with_reducible refine is_gd ?_); refine awpL_split rfl rfl (fun h => ?_) (fun h => ?_))
       | ((with_reducible refine is_awp ?_); refine awp_cond rfl (fun h => ?_) (fun h => ?_))
       | fail)
      refine awp_for (α := Nat) 0 (fun k => [(1, .fp (docC d)), (6, vi k)]) (fun _ => []) (fun k => k ≤ d.tiers.length ∧ eachE d d.tiers.length 0 = eachE d (d.tiers.length - k) k) (fun k => d.tiers.length - k) 0
        ⟨(.cons rfl rfl (.cons rfl rfl .nil)), rfl, rfl, rfl⟩ ⟨Nat.zero_le _, rfl⟩ ?_
      rintro j ⟨hj, hg⟩
      cases hy : d.tiers[j]? with
      | some t =>
        have hlt : j < d.tiers.length := (List.getElem?_eq_some_iff.1 hy).1
        have f1 : decide ((j : Int) < d.tiers.length) = true := decide_eq_true (by omega)
        have hE := rtierE_spec (g := g) d j t hy (by omega) hC
        have hdr := eachE_step hlt
        generalize tierE d (j : Int) = e at *
        by_cases ee : e = 0
        · have d2 : (!decide (e = 0)) = false := by simp [ee]
          rw [if_neg (by simpa using ee)] at hdr
          repeat' (first
           | refine stn [] ?_
           | ((with_reducible refine is_gd ?_); refine awpL_split rfl rfl (fun h => ?_) (fun h => ?_))
           | ((with_reducible refine is_awp ?_); refine awp_cond rfl (fun h => ?_) (fun h => ?_))
           | fail)
          exact ⟨j + 1, ⟨(.cons rfl rfl (.cons rfl rfl .nil)), rfl, rfl, rfl⟩, ⟨by omega, by rw [hg, hdr]⟩, by omega⟩
        · have d2 : (!decide (e = 0)) = true := by simp [ee]
          rw [if_pos ee] at hdr
          rw [hg, hdr]
          repeat' (first
           | refine stn [] ?_
           | ((with_reducible refine is_gd ?_); refine awpL_split rfl rfl (fun h => ?_) (fun h => ?_))
           | ((with_reducible refine is_awp ?_); refine awp_cond rfl (fun h => ?_) (fun h => ?_))
           | fail)
          exact retP rfl rfl
      | none =>
        have hge : d.tiers.length ≤ j := by simpa using hy
        have f1 : decide ((j : Int) < d.tiers.length) = false := decide_eq_false (by omega)
        rw [hg, show d.tiers.length - j = 0 by omega]
        repeat' (first
         | refine stn [] ?_
         | ((with_reducible refine is_gd ?_); refine awpL_split rfl rfl (fun h => ?_) (fun h => ?_))
         | ((with_reducible refine is_awp ?_); refine awp_cond rfl (fun h => ?_) (fun h => ?_))
         | fail)
        exact retP rfl rfl
  · have c0 : (!decide (te = 0)) = true := by simp [e0]
    rw [if_pos e0]
    repeat' (first
     | refine stn [] ?_
     | ((with_reducible refine is_gd ?_); refine awpL_split rfl rfl (fun h => ?_) (fun h => ?_))
     | ((with_reducible refine is_awp ?_); refine awp_cond rfl (fun h => ?_) (fun h => ?_))
     | fail)
    exact retP rfl rfl
end Go.Proofs.YtigcjinpkngapaaGreatDoor
end
section
namespace Go.Proofs.YtigcjinpkngapaaGreatDoor
open Go.Ac
attribute [local irreducible] awp awpL Ev Ev2 EvS thenQ blockQ retQ PCalls OCalls
variable {g : List (Nat × List AV)}
def kRec : ByteArray := ⟨#[114, 101, 99, 111, 114, 100, 105, 110, 103]⟩
def kTier : ByteArray := ⟨#[116, 105, 101, 114]⟩
def kNote : ByteArray := ⟨#[110, 111, 116, 101]⟩
def recW (r : Recording) : List ByteArray := [kRec, numT r.id, r.name, numT r.length, numT r.day] ++ r.speakers.map numT
def tierW (t : Tier) : List ByteArray := [kTier, t.name] ++ [t.kind, t.role, t.parent].map numT
def noteW (n : Note) : List ByteArray := [kNote] ++ [n.id, n.tier, n.parent, n.span.fro, n.span.til, n.rank].map numT ++ [n.text]
def recC (r : Recording) : List AV := [.v (.int .i64 r.id), .v (.string r.name), .v (.int .i64 r.length), .v (.int .i64 r.day), encIs r.speakers]
def InNote (n : Note) : Prop := InI n.id ∧ InI n.tier ∧ InI n.parent ∧ InI n.span.fro ∧ InI n.span.til ∧ InI n.rank
def InTier (t : Tier) : Prop := InI t.kind ∧ InI t.role ∧ InI t.parent
def InRec (r : Recording) : Prop := InI r.id ∧ InI r.length ∧ InI r.day ∧ r.speakers.length ≤ 100000 ∧ ∀ n ∈ r.speakers, InI n
end Go.Proofs.YtigcjinpkngapaaGreatDoor
end
section
namespace Go.Proofs.YtigcjinpkngapaaGreatDoor
open Go.Ac
attribute [local irreducible] awp awpL Ev Ev2 EvS thenQ blockQ retQ PCalls OCalls
variable {g : List (Nat × List AV)}
theorem mall_drop_get {l : List UInt8} {k : Nat} {b : UInt8} (p : UInt8 → Bool) (h : l[k]? = some b) : (l.drop k).all p = (p b && (l.drop (k + 1)).all p) := by
  obtain ⟨hlt, rfl⟩ := List.getElem?_eq_some_iff.1 h
  rw [List.drop_eq_getElem_cons hlt, List.all_cons]
theorem mbytesA_get {s : ByteArray} {k : Nat} {b : UInt8} (h : s.data.toList[k]? = some b) : 0 ≤ (k : Int) ∧ (bytesA s)[(k : Int).toNat]? = some [.v (.int .u8 b.toNat)] := ⟨by omega, by simp [bytesA]; exact ⟨b, by simpa using h, rfl⟩⟩
theorem msize_data (s : ByteArray) : s.data.toList.length = s.size := by rw [Array.length_toList]; rfl
set_option maxHeartbeats 1000000 in
theorem mName_spec (s : ByteArray) : PCalls Tryz.prog g 47 [vs s] (vb (nameOk s)) := by
  refine pcalls' Tryz.func47 Tryz.ntmps47 rfl rfl rfl ?_
  by_cases he : s = ⟨#[]⟩
  · subst he
    have c0 : decide ((⟨#[]⟩ : ByteArray) = ⟨#[]⟩) = true := by simp
    repeat' (first
     | refine stn [] ?_
     | ((with_reducible refine is_gd ?_); refine awpL_split rfl rfl (fun h => ?_) (fun h => ?_))
     | ((with_reducible refine is_awp ?_); refine awp_cond rfl (fun h => ?_) (fun h => ?_))
     | fail)
    refine retP rfl ?_
    rfl
  have c0 : decide (s = ⟨#[]⟩) = false := by simpa using he
  by_cases hl : 32 < (s.size : Int)
  · have c1 : decide (32 < (s.size : Int)) = true := by simpa using hl
    repeat' (first
     | refine stn [] ?_
     | ((with_reducible refine is_gd ?_); refine awpL_split rfl rfl (fun h => ?_) (fun h => ?_))
     | ((with_reducible refine is_awp ?_); refine awp_cond rfl (fun h => ?_) (fun h => ?_))
     | fail)
    refine retP rfl ?_
    have : ¬ s.size ≤ 32 := by omega
    simp [ex, nameOk, this]
  have c1 : decide (32 < (s.size : Int)) = false := by simpa using hl
  have hb : ∃ b, s.data.toList[0]? = some b := by
    cases hh : s.data.toList[0]? with
    | some b => exact ⟨b, rfl⟩
    | none =>
      exfalso; apply he
      have hz : s.data.toList = [] := by
        have := List.getElem?_eq_none_iff.1 hh
        exact List.eq_nil_of_length_eq_zero (by omega)
      cases s with | mk d => congr 1; exact Array.ext' (by simpa using hz)
  obtain ⟨b, hb⟩ := hb
  have g0 : 0 ≤ (0 : Int) ∧ s.data[(0 : Int).toNat]? = some b := by simpa using hb
  have hsz : s.data.toList.length = s.size := msize_data s
  have h1 : 1 ≤ s.size := by have := (List.getElem?_eq_some_iff.1 hb).1; omega
  have hcons : s.data.toList = b :: s.data.toList.drop 1 := by
    have := List.drop_eq_getElem_cons (List.getElem?_eq_some_iff.1 hb).1
    rw [(List.getElem?_eq_some_iff.1 hb).2] at this
    simpa using this
  by_cases hs : smallB b.toNat = true
  · have c2 : decide ((b.toNat : Int) < 97) = false := by simp [smallB] at hs; simp; omega
    have c3 : decide (122 < (b.toNat : Int)) = false := by simp [smallB] at hs; simp; omega
    repeat' (first
     | ((with_reducible refine is_un ?_); refine awpL_ev2 (ev_stb rfl rfl rfl rfl rfl rfl rfl) rfl ?_)
     | refine stn [] ?_
     | ((with_reducible refine is_gd ?_); refine awpL_split rfl rfl (fun h => ?_) (fun h => ?_))
     | ((with_reducible refine is_awp ?_); refine awp_cond rfl (fun h => ?_) (fun h => ?_))
     | fail)
    refine awp_for (α := Nat) 0 (fun k => [(23, .fs 1 s.size (bytesA s)), (24, vi s.size), (25, vi k)]) (fun _ => []) (fun k => k ≤ s.size ∧ (s.data.toList.all fun b => letterB b.toNat) = ((s.data.toList.drop k).all fun b => letterB b.toNat)) (fun k => s.size - k) 0
      ⟨(.cons rfl rfl (.cons rfl rfl (.cons rfl rfl .nil))), rfl, rfl, rfl⟩ ⟨Nat.zero_le _, rfl⟩ ?_
    rintro k ⟨hk, hf⟩
    cases ht : s.data.toList[k]? with
    | none =>
      have hge : s.data.toList.length ≤ k := by simpa using ht
      have d1 : decide ((k : Int) < s.size) = false := by simp; omega
      rw [List.drop_of_length_le hge] at hf
      repeat' (first
       | refine stn [] ?_
       | ((with_reducible refine is_gd ?_); refine awpL_split rfl rfl (fun h => ?_) (fun h => ?_))
       | ((with_reducible refine is_awp ?_); refine awp_cond rfl (fun h => ?_) (fun h => ?_))
       | fail)
      refine retP rfl ?_
      have : s.size ≤ 32 := by omega
      simp only [ex, nameOk, hf]
      rw [hcons]
      simp [hs, this, h1]
    | some c =>
      have hlt : k < s.data.toList.length := (List.getElem?_eq_some_iff.1 ht).1
      have d1 : decide ((k : Int) < s.size) = true := by simp; omega
      have g1 := mbytesA_get ht
      have hd := mall_drop_get (fun b => letterB b.toNat) ht
      repeat' (first
       | refine stn [] ?_
       | ((with_reducible refine is_gd ?_); refine awpL_split rfl rfl (fun h => ?_) (fun h => ?_))
       | ((with_reducible refine is_awp ?_); refine awp_cond rfl (fun h => ?_) (fun h => ?_))
       | fail)
      all_goals first
        | (have hL : letterB c.toNat = true := by
            clear hf hd g1 g0 c0 c1 c2 c3 hcons hsz hb ht hlt d1 h1 hs he hl hk
            simp only [letterB, smallB, Bool.or_eq_true, Bool.and_eq_true, decide_eq_true_eq]
            simp at *; omega
           exact ⟨k + 1, ⟨(.cons rfl rfl (.cons rfl rfl (.cons rfl rfl .nil))), rfl, rfl, rfl⟩, ⟨by omega, by rw [hf, hd, hL]; rfl⟩, by omega⟩)
        | (have hL : letterB c.toNat = false := by
            clear hf hd g1 g0 c0 c1 c2 c3 hcons hsz hb ht hlt d1 h1 hs he hl hk
            rw [Bool.eq_false_iff]
            simp only [letterB, smallB, ne_eq, Bool.or_eq_true, Bool.and_eq_true, decide_eq_true_eq]
            simp at *; omega
           refine retP rfl ?_
           simp only [ex, nameOk, hf, hd, hL, Bool.false_and, Bool.and_false])
  · have hs' : smallB b.toNat = false := by simpa using hs
    by_cases c2 : (b.toNat : Int) < 97
    · have c2' : decide ((b.toNat : Int) < 97) = true := by simpa using c2
      repeat' (first
       | refine stn [] ?_
       | ((with_reducible refine is_gd ?_); refine awpL_split rfl rfl (fun h => ?_) (fun h => ?_))
       | ((with_reducible refine is_awp ?_); refine awp_cond rfl (fun h => ?_) (fun h => ?_))
       | fail)
      refine retP rfl ?_
      simp only [ex, nameOk]
      rw [hcons]; simp [hs']
    · have c2' : decide ((b.toNat : Int) < 97) = false := by simpa using c2
      have c3 : decide (122 < (b.toNat : Int)) = true := by simp [smallB] at hs'; simp; omega
      repeat' (first
       | refine stn [] ?_
       | ((with_reducible refine is_gd ?_); refine awpL_split rfl rfl (fun h => ?_) (fun h => ?_))
       | ((with_reducible refine is_awp ?_); refine awp_cond rfl (fun h => ?_) (fun h => ?_))
       | fail)
      refine retP rfl ?_
      simp only [ex, nameOk]
      rw [hcons]; simp [hs']
end Go.Proofs.YtigcjinpkngapaaGreatDoor
end
section
namespace Go.Proofs.YtigcjinpkngapaaGreatDoor
open Go.Ac
attribute [local irreducible] awp awpL Ev Ev2 EvS thenQ blockQ retQ PCalls OCalls
variable {g : List (Nat × List AV)}
def spkOk : Int → List Int → Bool
  | _, [] => true
  | last, n :: r => decide (last < n) && (decide (n ≤ 1099511627776) && spkOk n r)
def recOk (r : Recording) : Bool := decide (1 ≤ r.id) && (decide (r.id ≤ 1099511627776) && (nameOk r.name && (decide (1 ≤ r.length) && (decide (r.length ≤ 86400000) && (decide (1 ≤ r.day) && (decide (r.day ≤ 109573) && (!r.speakers.isEmpty && spkOk 0 r.speakers)))))))
def lastI (l : List Int) (k : Nat) : Int := if k = 0 then 0 else (l[k - 1]?).getD 0
theorem lastI_succ {l : List Int} {k : Nat} {n : Int} (h : l[k]? = some n) : lastI l (k + 1) = n := by
  unfold lastI
  rw [if_neg (by omega), Nat.add_sub_cancel, h]
  rfl
theorem drop_int {l : List Int} {k : Nat} {n : Int} (h : l[k]? = some n) : l.drop k = n :: l.drop (k + 1) := by
  obtain ⟨h1, h2⟩ := List.getElem?_eq_some_iff.1 h
  rw [List.drop_eq_getElem_cons h1, h2]
set_option maxRecDepth 4000 in
set_option maxHeartbeats 4000000 in
theorem wprintable_spec (d : Doc) (hl : d.rec_.speakers.length ≤ 1000000) : PCalls Tryz.prog g 28 [.agg (docC d)] (vb (recOk d.rec_)) := by
  have hN := mName_spec (g := g) d.rec_.name
  have n1 : (!true) = false := rfl
  have n2 : (!false) = true := rfl
  refine pcalls' Tryz.func28 Tryz.ntmps28 rfl rfl rfl ?_
  repeat' (first
   | refine stn [] ?_
   | ((with_reducible refine is_gd ?_); refine awpL_split rfl rfl (fun h => ?_) (fun h => ?_))
   | ((with_reducible refine is_awp ?_); refine awp_cond rfl (fun h => ?_) (fun h => ?_))
   | fail)
  refine awp_for (α := Nat) 0 (fun k => [(1, .fp (docC d)), (3, vi (lastI d.rec_.speakers k)), (9, encIs d.rec_.speakers), (10, vi d.rec_.speakers.length), (11, vi k)]) (fun _ => []) (fun k => k ≤ d.rec_.speakers.length ∧ spkOk 0 d.rec_.speakers = spkOk (lastI d.rec_.speakers k) (d.rec_.speakers.drop k) ∧ 0 ≤ lastI d.rec_.speakers k ∧ (lastI d.rec_.speakers k = 0 ↔ k = 0)) (fun k => d.rec_.speakers.length - k) 0
    ⟨(.cons rfl rfl (.cons rfl rfl (.cons rfl rfl (.cons rfl rfl (.cons rfl rfl .nil))))), rfl, rfl, rfl⟩ ⟨Nat.zero_le _, rfl, Int.le_refl _, by simp [lastI]⟩ ?_
  rintro k ⟨hk, hf, h0, hz⟩
  cases ht : d.rec_.speakers[k]? with
  | some n =>
    have hlt : k < d.rec_.speakers.length := (List.getElem?_eq_some_iff.1 ht).1
    have c1 : decide ((k : Int) < d.rec_.speakers.length) = true := decide_eq_true (by omega)
    have ik : 0 ≤ (k : Int) ∧ (d.rec_.speakers.map intC)[(k : Int).toNat]? = some (intC n) := ⟨by omega, by simp [ht]⟩
    have hs := lastI_succ ht
    rw [drop_int ht] at hf
    by_cases a : n ≤ lastI d.rec_.speakers k
    · have c2 : decide (n ≤ lastI d.rec_.speakers k) = true := decide_eq_true a
      have hf : spkOk 0 d.rec_.speakers = false := by rw [hf]; simp [spkOk]; omega
      have hr : recOk d.rec_ = false := by simp [recOk, hf]
      rw [hr]
      repeat' (first
       | refine stn [] ?_
       | ((with_reducible refine is_gd ?_); refine awpL_split rfl rfl (fun h => ?_) (fun h => ?_))
       | ((with_reducible refine is_awp ?_); refine awp_cond rfl (fun h => ?_) (fun h => ?_))
       | fail)
      exact retP rfl rfl
    have c2 : decide (n ≤ lastI d.rec_.speakers k) = false := decide_eq_false a
    by_cases b : 1099511627776 < n
    · have c3 : decide ((1099511627776 : Int) < n) = true := decide_eq_true b
      have hf : spkOk 0 d.rec_.speakers = false := by rw [hf]; simp [spkOk]; omega
      have hr : recOk d.rec_ = false := by simp [recOk, hf]
      rw [hr]
      repeat' (first
       | refine stn [] ?_
       | ((with_reducible refine is_gd ?_); refine awpL_split rfl rfl (fun h => ?_) (fun h => ?_))
       | ((with_reducible refine is_awp ?_); refine awp_cond rfl (fun h => ?_) (fun h => ?_))
       | fail)
      exact retP rfl rfl
    have c3 : decide ((1099511627776 : Int) < n) = false := decide_eq_false b
    repeat' (first
     | refine stn [] ?_
     | ((with_reducible refine is_gd ?_); refine awpL_split rfl rfl (fun h => ?_) (fun h => ?_))
     | ((with_reducible refine is_awp ?_); refine awp_cond rfl (fun h => ?_) (fun h => ?_))
     | fail)
    refine ⟨k + 1, by rw [hs]; exact ⟨(.cons rfl rfl (.cons rfl rfl (.cons rfl rfl (.cons rfl rfl (.cons rfl rfl .nil))))), rfl, rfl, rfl⟩, ⟨by omega, ?_, by rw [hs]; omega, by rw [hs]; omega⟩, by omega⟩
    rw [hf, hs, spkOk, decide_eq_true (by omega), decide_eq_true (by omega), Bool.true_and, Bool.true_and]
  | none =>
    have hge : d.rec_.speakers.length ≤ k := by simpa using ht
    have c1 : decide ((k : Int) < d.rec_.speakers.length) = false := decide_eq_false (by omega)
    rw [List.drop_of_length_le hge] at hf
    have hf : spkOk 0 d.rec_.speakers = true := hf
    have he : d.rec_.speakers.isEmpty = !decide (0 < lastI d.rec_.speakers k) := by
      cases hsp : d.rec_.speakers with
      | nil =>
        rw [hsp] at hk hz
        simp only [List.length_nil] at hk
        have := hz.2 (by omega)
        rw [this]; rfl
      | cons x r =>
        rw [hsp] at hge hz h0
        simp only [List.length_cons] at hge
        rw [decide_eq_true (by omega)]
        rfl
    have hr : recOk d.rec_ = (decide (1 ≤ d.rec_.id) && (decide (d.rec_.id ≤ 1099511627776) && (nameOk d.rec_.name && (decide (1 ≤ d.rec_.length) && (decide (d.rec_.length ≤ 86400000) && (decide (1 ≤ d.rec_.day) && (decide (d.rec_.day ≤ 109573) && decide (0 < lastI d.rec_.speakers k)))))))) := by
      simp [recOk, hf, he]
    rw [hr]
    repeat' (first
     | refine stn [] ?_
     | ((with_reducible refine is_gd ?_); refine awpL_split rfl rfl (fun h => ?_) (fun h => ?_))
     | ((with_reducible refine is_awp ?_); refine awp_cond rfl (fun h => ?_) (fun h => ?_))
     | fail)
    all_goals refine retP rfl ?_
    all_goals (simp_all [ex] <;> intros <;> omega)
end Go.Proofs.YtigcjinpkngapaaGreatDoor
end
section
namespace Go.Proofs.YtigcjinpkngapaaGreatDoor
open Go.Ac
attribute [local irreducible] awp awpL Ev Ev2 EvS thenQ blockQ retQ PCalls OCalls
variable {g : List (Nat × List AV)}
set_option maxRecDepth 4000 in
set_option maxHeartbeats 4000000 in
theorem r15recording_spec (r : Recording) (hl : r.speakers.length ≤ 1000000) (hns : r.name.size ≤ 9223372036854775807) : PCalls Tryz.prog g 60 [.agg (recC r)] (vb (recOk r)) := by
  have hN := rName_spec (g := g) r.name hns
  have n1 : (!true) = false := rfl
  have n2 : (!false) = true := rfl
  refine pcalls' Tryz.func60 Tryz.ntmps60 rfl rfl rfl ?_
  by_cases hA : 1 ≤ r.id ∧ r.id ≤ 1099511627776 ∧ nameOk r.name = true ∧ 1 ≤ r.length ∧ r.length ≤ 86400000 ∧ 1 ≤ r.day ∧ r.day ≤ 109573 ∧ r.speakers.length ≠ 0
  · obtain ⟨a1, a2, a3, a4, a5, a6, a7, a8⟩ := hA
    rw [a3] at hN
    have d1 : decide (r.id < 1) = false := decide_eq_false (by omega)
    have d2 : decide ((1099511627776 : Int) < r.id) = false := decide_eq_false (by omega)
    have d4 : decide (r.length < 1) = false := decide_eq_false (by omega)
    have d5 : decide ((86400000 : Int) < r.length) = false := decide_eq_false (by omega)
    have d6 : decide (r.day < 1) = false := decide_eq_false (by omega)
    have d7 : decide ((109573 : Int) < r.day) = false := decide_eq_false (by omega)
    have d8 : decide ((r.speakers.length : Int) = 0) = false := decide_eq_false (by omega)
    have hemp : r.speakers.isEmpty = false := by
      cases h : r.speakers with
      | nil => rw [h] at a8; exact absurd rfl a8
      | cons x t => rfl
    have hr : recOk r = spkOk 0 r.speakers := by simp [recOk, a1, a2, a3, a4, a5, a6, a7, hemp]
    rw [hr]
    repeat' (first
     | refine stn [] ?_
     | ((with_reducible refine is_gd ?_); refine awpL_split rfl rfl (fun h => ?_) (fun h => ?_))
     | ((with_reducible refine is_awp ?_); refine awp_cond rfl (fun h => ?_) (fun h => ?_))
     | fail)
    refine awp_for (α := Nat) 0 (fun k => [(1, .fp (recC r)), (3, vi k)]) (fun _ => []) (fun k => k ≤ r.speakers.length ∧ spkOk 0 r.speakers = spkOk (lastI r.speakers k) (r.speakers.drop k) ∧ 0 ≤ lastI r.speakers k ∧ (lastI r.speakers k = 0 ↔ k = 0)) (fun k => r.speakers.length - k) 0
      ⟨(.cons rfl rfl (.cons rfl rfl .nil)), rfl, rfl, rfl⟩ ⟨Nat.zero_le _, rfl, Int.le_refl _, by simp [lastI]⟩ ?_
    rintro k ⟨hk, hf, h0, hz⟩
    cases ht : r.speakers[k]? with
    | some n =>
      have hlt : k < r.speakers.length := (List.getElem?_eq_some_iff.1 ht).1
      have c1 : decide ((k : Int) < r.speakers.length) = true := decide_eq_true (by omega)
      have ik : 0 ≤ (k : Int) ∧ (r.speakers.map intC)[(k : Int).toNat]? = some (intC n) := ⟨by omega, by simp [ht]⟩
      have hs := lastI_succ ht
      rw [drop_int ht] at hf
      by_cases hk0 : k = 0
      · subst hk0
        have c2 : decide ((0 : Int) < ((0 : Nat) : Int)) = false := rfl
        have hz0 : lastI r.speakers 0 = 0 := rfl
        by_cases a : n < 1
        · have c3 : decide (n < 1) = true := decide_eq_true a
          have hf : spkOk 0 r.speakers = false := by rw [hf, hz0]; simp [spkOk]; omega
          rw [hf]
          repeat' (first
           | refine st [] ?_
           | ((with_reducible refine is_gd ?_); refine awpL_split rfl rfl (fun h => ?_) (fun h => ?_))
           | ((with_reducible refine isD_gd ?_); ((fail_if_success (refine isD_kn (c := true) rfl qa0 ?_)); (fail_if_success (refine isD_kn (c := false) rfl qa0 ?_)); refine awpD_split rfl (fun h => ?_) (fun h => ?_)))
           | ((with_reducible refine is_awp ?_); refine awp_cond rfl (fun h => ?_) (fun h => ?_))
           | fail)
          exact retP rfl rfl
        have c3 : decide (n < 1) = false := decide_eq_false a
        by_cases b : 1099511627776 < n
        · have c4 : decide ((1099511627776 : Int) < n) = true := decide_eq_true b
          have hf : spkOk 0 r.speakers = false := by rw [hf, hz0]; simp [spkOk]; omega
          rw [hf]
          repeat' (first
           | refine st [] ?_
           | ((with_reducible refine is_gd ?_); refine awpL_split rfl rfl (fun h => ?_) (fun h => ?_))
           | ((with_reducible refine isD_gd ?_); ((fail_if_success (refine isD_kn (c := true) rfl qa0 ?_)); (fail_if_success (refine isD_kn (c := false) rfl qa0 ?_)); refine awpD_split rfl (fun h => ?_) (fun h => ?_)))
           | ((with_reducible refine is_awp ?_); refine awp_cond rfl (fun h => ?_) (fun h => ?_))
           | fail)
          exact retP rfl rfl
        have c4 : decide ((1099511627776 : Int) < n) = false := decide_eq_false b
        repeat' (first
         | refine st [] ?_
         | ((with_reducible refine is_gd ?_); refine awpL_split rfl rfl (fun h => ?_) (fun h => ?_))
         | ((with_reducible refine isD_gd ?_); ((fail_if_success (refine isD_kn (c := true) rfl qa0 ?_)); (fail_if_success (refine isD_kn (c := false) rfl qa0 ?_)); refine awpD_split rfl (fun h => ?_) (fun h => ?_)))
         | ((with_reducible refine is_awp ?_); refine awp_cond rfl (fun h => ?_) (fun h => ?_))
         | fail)
        refine ⟨1, ⟨(.cons rfl rfl (.cons rfl rfl .nil)), rfl, rfl, rfl⟩, ⟨by omega, ?_, by rw [hs]; omega, by rw [hs]; omega⟩, by omega⟩
        rw [hf, hs, hz0, spkOk, decide_eq_true (by omega), decide_eq_true (by omega), Bool.true_and, Bool.true_and]
      · obtain ⟨p, hp⟩ : ∃ p, r.speakers[k - 1]? = some p := ⟨_, List.getElem?_eq_getElem (by omega)⟩
        have hpl : lastI r.speakers k = p := by unfold lastI; rw [if_neg hk0, hp]; rfl
        have ip : 0 ≤ (k : Int) - 1 ∧ (r.speakers.map intC)[((k : Int) - 1).toNat]? = some (intC p) := ⟨by omega, by rw [show ((k : Int) - 1).toNat = k - 1 by omega]; simp [hp]⟩
        have c2 : decide ((0 : Int) < (k : Int)) = true := decide_eq_true (by omega)
        rw [hpl] at hf h0 hz
        have hp1 : 1 ≤ p := by
          have : ¬ p = 0 := fun q => hk0 (hz.1 q)
          omega
        by_cases a : n < 1
        · have c3 : decide (n < 1) = true := decide_eq_true a
          have hf : spkOk 0 r.speakers = false := by rw [hf]; simp [spkOk]; omega
          rw [hf]
          repeat' (first
           | refine st [] ?_
           | ((with_reducible refine is_gd ?_); refine awpL_split rfl rfl (fun h => ?_) (fun h => ?_))
           | ((with_reducible refine isD_gd ?_); ((fail_if_success (refine isD_kn (c := true) rfl qa0 ?_)); (fail_if_success (refine isD_kn (c := false) rfl qa0 ?_)); refine awpD_split rfl (fun h => ?_) (fun h => ?_)))
           | ((with_reducible refine is_awp ?_); refine awp_cond rfl (fun h => ?_) (fun h => ?_))
           | fail)
          exact retP rfl rfl
        have c3 : decide (n < 1) = false := decide_eq_false a
        by_cases b : 1099511627776 < n
        · have c4 : decide ((1099511627776 : Int) < n) = true := decide_eq_true b
          have hf : spkOk 0 r.speakers = false := by rw [hf]; simp [spkOk]; omega
          rw [hf]
          repeat' (first
           | refine st [] ?_
           | ((with_reducible refine is_gd ?_); refine awpL_split rfl rfl (fun h => ?_) (fun h => ?_))
           | ((with_reducible refine isD_gd ?_); ((fail_if_success (refine isD_kn (c := true) rfl qa0 ?_)); (fail_if_success (refine isD_kn (c := false) rfl qa0 ?_)); refine awpD_split rfl (fun h => ?_) (fun h => ?_)))
           | ((with_reducible refine is_awp ?_); refine awp_cond rfl (fun h => ?_) (fun h => ?_))
           | fail)
          exact retP rfl rfl
        have c4 : decide ((1099511627776 : Int) < n) = false := decide_eq_false b
        by_cases c : n ≤ p
        · have c5 : decide (n ≤ p) = true := decide_eq_true c
          have hf : spkOk 0 r.speakers = false := by rw [hf]; simp [spkOk]; omega
          rw [hf]
          repeat' (first
           | refine st [] ?_
           | ((with_reducible refine is_gd ?_); refine awpL_split rfl rfl (fun h => ?_) (fun h => ?_))
           | ((with_reducible refine isD_gd ?_); ((fail_if_success (refine isD_kn (c := true) rfl qa0 ?_)); (fail_if_success (refine isD_kn (c := false) rfl qa0 ?_)); refine awpD_split rfl (fun h => ?_) (fun h => ?_)))
           | ((with_reducible refine is_awp ?_); refine awp_cond rfl (fun h => ?_) (fun h => ?_))
           | fail)
          exact retP rfl rfl
        have c5 : decide (n ≤ p) = false := decide_eq_false c
        repeat' (first
         | refine st [] ?_
         | ((with_reducible refine is_gd ?_); refine awpL_split rfl rfl (fun h => ?_) (fun h => ?_))
         | ((with_reducible refine isD_gd ?_); ((fail_if_success (refine isD_kn (c := true) rfl qa0 ?_)); (fail_if_success (refine isD_kn (c := false) rfl qa0 ?_)); refine awpD_split rfl (fun h => ?_) (fun h => ?_)))
         | ((with_reducible refine is_awp ?_); refine awp_cond rfl (fun h => ?_) (fun h => ?_))
         | fail)
        refine ⟨k + 1, ⟨(.cons rfl rfl (.cons rfl rfl .nil)), rfl, rfl, rfl⟩, ⟨by omega, ?_, by rw [hs]; omega, by rw [hs]; omega⟩, by omega⟩
        rw [hf, hs, spkOk, decide_eq_true (by omega), decide_eq_true (by omega), Bool.true_and, Bool.true_and]
    | none =>
      have hge : r.speakers.length ≤ k := by simpa using ht
      have c1 : decide ((k : Int) < r.speakers.length) = false := decide_eq_false (by omega)
      rw [List.drop_of_length_le hge] at hf
      have hf : spkOk 0 r.speakers = true := hf
      rw [hf]
      repeat' (first
       | refine stn [] ?_
       | ((with_reducible refine is_gd ?_); refine awpL_split rfl rfl (fun h => ?_) (fun h => ?_))
       | ((with_reducible refine is_awp ?_); refine awp_cond rfl (fun h => ?_) (fun h => ?_))
       | fail)
      exact retP rfl rfl
  · have hr : recOk r = false := by
      rw [Bool.eq_false_iff]
      intro q
      simp only [recOk, Bool.and_eq_true, decide_eq_true_eq] at q
      obtain ⟨q1, q2, q3, q4, q5, q6, q7, q8, q9⟩ := q
      refine hA ⟨q1, q2, q3, q4, q5, q6, q7, fun e => ?_⟩
      rw [List.eq_nil_of_length_eq_zero e] at q8
      simp at q8
    rw [hr]
    repeat' (first
     | refine stn [] ?_
     | ((with_reducible refine is_gd ?_); refine awpL_split rfl rfl (fun h => ?_) (fun h => ?_))
     | ((with_reducible refine is_awp ?_); refine awp_cond rfl (fun h => ?_) (fun h => ?_))
     | fail)
    all_goals first
      | exact retP rfl rfl
      | (exfalso
         have e1 : r.speakers.isEmpty = decide (r.speakers.length = 0) := by cases r.speakers <;> simp
         simp_all
         try omega)
end Go.Proofs.YtigcjinpkngapaaGreatDoor
end
section
namespace Go.Proofs.YtigcjinpkngapaaGreatDoor
open Go.Ac
attribute [local irreducible] awp awpL Ev Ev2 EvS thenQ blockQ retQ PCalls OCalls
variable {g : List (Nat × List AV)}
def printE (d : Doc) : Int := if docE d ≠ 0 then docE d else if recOk d.rec_ then 0 else 1
theorem r15printable_spec (d : Doc) (hd : FitN d) (hC : CovH g d) (hl : d.rec_.speakers.length ≤ 1000000) (hns : d.rec_.name.size ≤ 9223372036854775807) : PCalls Tryz.prog g 33 [.agg (docC d)] (vi (printE d)) := by
  have h1 := rdoc_spec d hd hC
  have h2 := r15recording_spec (g := g) d.rec_ hl hns
  have n1 : (!true) = false := rfl
  have n2 : (!false) = true := rfl
  refine pcalls' Tryz.func33 Tryz.ntmps33 rfl rfl rfl ?_
  unfold printE
  by_cases he : docE d = 0
  · have c1 : (!decide (docE d = 0)) = false := by rw [decide_eq_true he]; rfl
    rw [if_neg (by simpa using he)]
    cases hr : recOk d.rec_ with
    | true =>
      rw [hr] at h2
      repeat' (first
       | refine stn [] ?_
       | ((with_reducible refine is_gd ?_); refine awpL_split rfl rfl (fun h => ?_) (fun h => ?_))
       | ((with_reducible refine is_awp ?_); refine awp_cond rfl (fun h => ?_) (fun h => ?_))
       | fail)
      exact retP rfl rfl
    | false =>
      rw [hr] at h2
      repeat' (first
       | refine stn [] ?_
       | ((with_reducible refine is_gd ?_); refine awpL_split rfl rfl (fun h => ?_) (fun h => ?_))
       | ((with_reducible refine is_awp ?_); refine awp_cond rfl (fun h => ?_) (fun h => ?_))
       | fail)
      exact retP rfl rfl
  · have c1 : (!decide (docE d = 0)) = true := by rw [decide_eq_false he]; rfl
    rw [if_pos he]
    repeat' (first
     | refine stn [] ?_
     | ((with_reducible refine is_gd ?_); refine awpL_split rfl rfl (fun h => ?_) (fun h => ?_))
     | ((with_reducible refine is_awp ?_); refine awp_cond rfl (fun h => ?_) (fun h => ?_))
     | fail)
    exact retP rfl rfl
end Go.Proofs.YtigcjinpkngapaaGreatDoor
end
