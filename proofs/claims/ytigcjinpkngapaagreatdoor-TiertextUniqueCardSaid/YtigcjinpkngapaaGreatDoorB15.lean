/- A logic of trees over the model's steps, and the contracts of the functions that the laws reach: part 15 of 16. -/
import Derived.Test.YtigcjinpkngapaaGreatDoorB14
set_option linter.unusedVariables false
set_option linter.unusedSimpArgs false
set_option linter.unusedSectionVars false
section
namespace Go.Proofs.YtigcjinpkngapaaGreatDoor
open Go.Ac
attribute [local irreducible] awp awpL Ev Ev2 EvS thenQ blockQ retQ PCalls OCalls
variable {g : List (Nat × List AV)}
structure TG (g : List (Nat × List AV)) : Prop where
  n : NumG g
  m : MaxG g
  e : ErrG g
  u : Utf g
theorem wCheckF (hg : TG g) {d : Doc} (hd : FitP d) : PCalls Tryz.prog g 20 [.agg (docC d)] (vi (docE d)) :=
  wCheck_spec hg.u d (by have := hd.ln; omega) (by have := hd.lt; omega) (fun n hn => (hd.n n hn).2.2.2.2.2.2)
theorem sample_fit : FitP sampleD := by
  refine ⟨⟨by decide, by decide, by decide, by decide, by decide⟩, fun t ht => ?_, fun n hn => ?_, by decide, fun _ => (by unfold recL; rw [sample_rec]; decide), by decide, by decide, by decide, fun t ht => ?_⟩
  · simp only [sampleD, List.mem_singleton] at ht
    subst ht
    exact ⟨by decide, by decide, by decide⟩
  · simp only [sampleD, List.mem_cons, List.not_mem_nil, or_false] at hn
    rcases hn with rfl | rfl
    · exact ⟨by decide, by decide, by decide, by decide, by decide, by decide⟩
    · exact ⟨by decide, by decide, by decide, by decide, by decide, by decide⟩
  · simp only [sampleD, List.mem_singleton] at ht
    subst ht
    decide
theorem wParse_small (hg : TG g) (s : ByteArray) (hs : s.size ≤ 90000) : PCalls Tryz.prog g 17 [.v (.string s)] (parsedV (parseD (lst s))) := by
  refine wParse_spec hg.n hg.m hg.e hg.u s (by omega) fun ls hl => ?_
  obtain ⟨l1, l2⟩ := lines_fit hl
  have f1 := readF_len (ls.map toB) 0 zeroDoc
  have f3 := readF_spk l2
  have fz : zeroDoc.tiers.length = 0 ∧ zeroDoc.notes.length = 0 := ⟨rfl, rfl⟩
  omega
theorem want_lst : lst (⟨(List.append [114, 101, 99, 111, 114, 100, 105, 110, 103, 32, 51, 32, 116, 97, 112, 101, 32, 57, 48, 48, 32, 53, 32, 49, 32, 52, 10, 116, 105, 101, 114, 32, 116, 101, 120, 116, 32, 48, 32, 49, 32, 45, 49, 10, 110, 111, 116] [101, 32, 55, 32, 48, 32, 48, 32, 48, 32, 52, 48, 48, 32, 48, 32, 98, 97, 37, 50, 48, 109, 105, 10, 110, 111, 116, 101, 32, 57, 32, 48, 32, 48, 32, 52, 48, 48, 32, 57, 48, 48, 32, 48, 32, 37, 45, 10]).toArray⟩ : ByteArray) = wantL := rfl
set_option maxRecDepth 20000 in
set_option maxHeartbeats 8000000 in
theorem awakeT_spec (hg : TG g) : PCalls Tryz.prog g 13 [] (vb true) := by
  have hSm := sampleT_spec (g := g)
  have hPr : PCalls Tryz.prog g 14 [.agg (docC sampleD)] (.tup [.v (.string (⟨(List.append [114, 101, 99, 111, 114, 100, 105, 110, 103, 32, 51, 32, 116, 97, 112, 101, 32, 57, 48, 48, 32, 53, 32, 49, 32, 52, 10, 116, 105, 101, 114, 32, 116, 101, 120, 116, 32, 48, 32, 49, 32, 45, 49, 10, 110, 111, 116] [101, 32, 55, 32, 48, 32, 48, 32, 48, 32, 52, 48, 48, 32, 48, 32, 98, 97, 37, 50, 48, 109, 105, 10, 110, 111, 116, 101, 32, 57, 32, 48, 32, 48, 32, 52, 48, 48, 32, 57, 48, 48, 32, 48, 32, 37, 45, 10]).toArray⟩ : ByteArray)), vi 0]) := by
    have := wPrint_spec hg.n sampleD sample_fit (wCheckF hg sample_fit)
    unfold printV at this
    rw [sample_ok, if_pos rfl, sample_print] at this
    exact this
  have hP1 : PCalls Tryz.prog g 17 [.v (.string (⟨(List.append [114, 101, 99, 111, 114, 100, 105, 110, 103, 32, 51, 32, 116, 97, 112, 101, 32, 57, 48, 48, 32, 53, 32, 49, 32, 52, 10, 116, 105, 101, 114, 32, 116, 101, 120, 116, 32, 48, 32, 49, 32, 45, 49, 10, 110, 111, 116] [101, 32, 55, 32, 48, 32, 48, 32, 48, 32, 52, 48, 48, 32, 48, 32, 98, 97, 37, 50, 48, 109, 105, 10, 110, 111, 116, 101, 32, 57, 32, 48, 32, 48, 32, 52, 48, 48, 32, 57, 48, 48, 32, 48, 32, 37, 45, 10]).toArray⟩ : ByteArray))] (.tup [.agg (docC sampleD), vi 0, vi 0]) := by
    have := wParse_small hg (⟨(List.append [114, 101, 99, 111, 114, 100, 105, 110, 103, 32, 51, 32, 116, 97, 112, 101, 32, 57, 48, 48, 32, 53, 32, 49, 32, 52, 10, 116, 105, 101, 114, 32, 116, 101, 120, 116, 32, 48, 32, 49, 32, 45, 49, 10, 110, 111, 116] [101, 32, 55, 32, 48, 32, 48, 32, 48, 32, 52, 48, 48, 32, 48, 32, 98, 97, 37, 50, 48, 109, 105, 10, 110, 111, 116, 101, 32, 57, 32, 48, 32, 48, 32, 52, 48, 48, 32, 57, 48, 48, 32, 48, 32, 37, 45, 10]).toArray⟩ : ByteArray) (by decide)
    rw [want_lst, parse_want] at this
    exact this
  have hP2 : PCalls Tryz.prog g 17 [.v (.string (⟨#[114, 101, 99, 111, 114, 100, 105, 110, 103, 32, 51, 32, 116, 97, 112, 101, 32, 57, 48, 48, 32, 53, 32, 49, 10, 116, 105, 101, 114, 32, 116, 101, 120, 116, 32, 48, 32, 49, 32, 120, 10]⟩ : ByteArray))] (.tup [.agg (docC zeroDoc), vi 2, vi 3]) := by
    have := wParse_small hg (⟨#[114, 101, 99, 111, 114, 100, 105, 110, 103, 32, 51, 32, 116, 97, 112, 101, 32, 57, 48, 48, 32, 53, 32, 49, 10, 116, 105, 101, 114, 32, 116, 101, 120, 116, 32, 48, 32, 49, 32, 120, 10]⟩ : ByteArray) (by decide)
    rw [show lst (⟨#[114, 101, 99, 111, 114, 100, 105, 110, 103, 32, 51, 32, 116, 97, 112, 101, 32, 57, 48, 48, 32, 53, 32, 49, 10, 116, 105, 101, 114, 32, 116, 101, 120, 116, 32, 48, 32, 49, 32, 120, 10]⟩ : ByteArray) = lit2 from rfl, parse_lit2] at this
    exact this
  have hP3 : PCalls Tryz.prog g 17 [.v (.string (⟨#[114, 101, 99, 111, 114, 100, 105, 110, 103, 32, 51, 32, 116, 97, 112, 101, 32, 57, 48, 48, 32, 53, 10]⟩ : ByteArray))] (.tup [.agg (docC zeroDoc), vi 0, vi 1]) := by
    have := wParse_small hg (⟨#[114, 101, 99, 111, 114, 100, 105, 110, 103, 32, 51, 32, 116, 97, 112, 101, 32, 57, 48, 48, 32, 53, 10]⟩ : ByteArray) (by decide)
    rw [show lst (⟨#[114, 101, 99, 111, 114, 100, 105, 110, 103, 32, 51, 32, 116, 97, 112, 101, 32, 57, 48, 48, 32, 53, 10]⟩ : ByteArray) = lit3 from rfl, parse_lit3] at this
    exact this
  have hP4 : PCalls Tryz.prog g 17 [.v (.string ⟨#[]⟩)] (.tup [.agg (docC zeroDoc), vi 0, vi 4]) := wParse_small hg ⟨#[]⟩ (by decide)
  have hSa : PCalls Tryz.prog g 19 [.agg (docC sampleD), .agg (docC sampleD)] (vb true) := by
    have := r12Same_spec (g := g) sampleD sampleD (by decide) (by decide) (by decide) (by decide)
    rw [decide_eq_true rfl] at this
    exact this
  have zT : decide True = true := rfl
  have z0 : decide ((0 : Int) = 0) = true := rfl
  have z1 : decide ((1 : Int) = 1) = true := rfl
  have z2 : decide ((2 : Int) = 2) = true := rfl
  have z3 : decide ((3 : Int) = 3) = true := rfl
  have z4 : decide ((4 : Int) = 4) = true := rfl
  have zW : decide ((⟨(List.append [114, 101, 99, 111, 114, 100, 105, 110, 103, 32, 51, 32, 116, 97, 112, 101, 32, 57, 48, 48, 32, 53, 32, 49, 32, 52, 10, 116, 105, 101, 114, 32, 116, 101, 120, 116, 32, 48, 32, 49, 32, 45, 49, 10, 110, 111, 116] [101, 32, 55, 32, 48, 32, 48, 32, 48, 32, 52, 48, 48, 32, 48, 32, 98, 97, 37, 50, 48, 109, 105, 10, 110, 111, 116, 101, 32, 57, 32, 48, 32, 48, 32, 52, 48, 48, 32, 57, 48, 48, 32, 48, 32, 37, 45, 10]).toArray⟩ : ByteArray) = (⟨(List.append [114, 101, 99, 111, 114, 100, 105, 110, 103, 32, 51, 32, 116, 97, 112, 101, 32, 57, 48, 48, 32, 53, 32, 49, 32, 52, 10, 116, 105, 101, 114, 32, 116, 101, 120, 116, 32, 48, 32, 49, 32, 45, 49, 10, 110, 111, 116] [101, 32, 55, 32, 48, 32, 48, 32, 48, 32, 52, 48, 48, 32, 48, 32, 98, 97, 37, 50, 48, 109, 105, 10, 110, 111, 116, 101, 32, 57, 32, 48, 32, 48, 32, 52, 48, 48, 32, 57, 48, 48, 32, 48, 32, 37, 45, 10]).toArray⟩ : ByteArray)) = true := by simp
  refine pcalls' Tryz.func13 Tryz.ntmps13 rfl rfl rfl ?_
  repeat' (first
   | refine stn [] ?_
   | ((with_reducible refine is_gd ?_); refine awpL_split rfl rfl (fun h => ?_) (fun h => ?_))
   | ((with_reducible refine is_awp ?_); refine awp_cond rfl (fun h => ?_) (fun h => ?_))
   | fail)
  simp only [List.append_eq, List.cons_append, List.nil_append]
  repeat' (first
   | refine st [] ?_
   | ((with_reducible refine is_gd ?_); refine awpL_split rfl rfl (fun h => ?_) (fun h => ?_))
   | ((with_reducible refine isD_gd ?_); ((fail_if_success (refine isD_kn (c := true) rfl qa0 ?_)); (fail_if_success (refine isD_kn (c := false) rfl qa0 ?_)); refine awpD_split rfl (fun h => ?_) (fun h => ?_)))
   | ((with_reducible refine is_awp ?_); refine awp_cond rfl (fun h => ?_) (fun h => ?_))
   | fail)
  exact retP rfl rfl
end Go.Proofs.YtigcjinpkngapaaGreatDoor
end
section
namespace Go.Proofs.YtigcjinpkngapaaGreatDoor
theorem parseD_err {s : List UInt8} (h : (parseD s).2.2 ≠ 0) : (parseD s).1 = zeroDoc ∧ ((parseD s).2.1 = 0 ∨ (parseD s).2.2 = 3) := by
  unfold parseD at h ⊢
  by_cases h0 : s = []
  · rw [if_pos h0]; exact ⟨rfl, .inl rfl⟩
  rw [if_neg h0] at h ⊢
  cases hl : linesW s with
  | none => exact ⟨rfl, .inl rfl⟩
  | some ls =>
    rw [hl] at h
    simp only at h ⊢
    by_cases h1 : (readF 0 zeroDoc (ls.map toB)).2 ≠ 0
    · rw [if_pos h1]; exact ⟨rfl, .inr rfl⟩
    · rw [if_neg h1] at h ⊢
      by_cases h2 : printE (readF 0 zeroDoc (ls.map toB)).1 ≠ 0
      · rw [if_pos h2]; exact ⟨rfl, .inl rfl⟩
      · rw [if_neg h2] at h; exact absurd rfl h
theorem parseD_size (s : ByteArray) : (parseD (lst s)).1.tiers.length ≤ s.size + 1 ∧ (parseD (lst s)).1.notes.length ≤ s.size + 1 ∧ (parseD (lst s)).1.rec_.speakers.length ≤ s.size + 1 := by
  have hz : zeroDoc.tiers.length = 0 ∧ zeroDoc.notes.length = 0 ∧ zeroDoc.rec_.speakers.length = 0 := ⟨rfl, rfl, rfl⟩
  unfold parseD
  by_cases h0 : lst s = []
  · rw [if_pos h0]; simp only; omega
  rw [if_neg h0]
  cases hl : linesW (lst s) with
  | none => simp only; omega
  | some ls =>
    obtain ⟨l1, l2⟩ := lines_fit hl
    have f1 := readF_len (ls.map toB) 0 zeroDoc
    have f3 := readF_spk l2
    simp only
    split
    · simp only; omega
    split
    · simp only; omega
    · simp only; omega
theorem recL_le (d : Doc) : (recL d.rec_).size ≤ (printD d).length := by
  have : printD d = lst (recL d.rec_) ++ 10 :: textW ((d.tiers.map tierL ++ d.notes.map noteL).map lst) := by
    unfold printD docL textW
    simp
  rw [this, List.length_append]
  have : (lst (recL d.rec_)).length = (recL d.rec_).size := size_list _
  omega
theorem docE_name {d : Doc} (h : docE d = 0) : ∀ t ∈ d.tiers, t.name.size ≤ 32 := fun t ht => by
  obtain ⟨k, hk⟩ := List.mem_iff_getElem?.1 ht
  exact nameOk_size (tierOne_name (tiersE_one (docE_zero h).1 hk))
theorem fit_parse {s : ByteArray} (hs : s.size ≤ 3000) (h : (parseD (lst s)).2.2 = 0) : FitP (parseD (lst s)).1 := by
  obtain ⟨h1, h2, _⟩ := print_parse h rfl
  obtain ⟨q1, q2, q3⟩ := parseD_size s
  generalize (parseD (lst s)).1 = d at *
  have hi := print_in h2
  obtain ⟨hd, hr⟩ := printE_zero h2
  have hz := docE_zero hd
  refine ⟨⟨inNum_I hi.r.i, inNum_I hi.r.l, inNum_I hi.r.d, by omega, fun n hn => inNum_I (hi.r.s n hn)⟩, fun t ht => ?_, fun n hn => ?_, by omega, fun _ => ?_, ?_, hz.2.2.2.1, ?_, fun t ht => ?_⟩
  · have := hi.t t ht
    exact ⟨inNum_I this.k, inNum_I this.r, inNum_I this.p⟩
  · have := hi.n n hn
    exact ⟨inNum_I this.i, inNum_I this.t, inNum_I this.p, inNum_I this.f, inNum_I this.e, inNum_I this.r⟩
  · have := recL_le d
    rw [h1, size_list] at this
    omega
  · have := tiersE_len hz.1; omega
  · have := nameOk_size (recOk_name hr); omega
  · have := docE_name hd t ht; omega
theorem printD_short {d : Doc} (hd : FitP d) (h : printE d = 0) (ht : d.tiers.length ≤ 20) (hn : d.notes.length ≤ 100) : (printD d).length ≤ 9700000 := by
  have hl := docL_fit hd (docW hd h) (printE_zero h).2
  have := textW_len hl.2
  have h2 : (docL d).length ≤ 121 := by simp [docL]; omega
  show (textW ((docL d).map lst)).length ≤ _
  omega
theorem print_inj {a b : Doc} (ha : printE a = 0) (hb : printE b = 0) : decide (toB (printD a) = toB (printD b)) = decide (a = b) := by
  rw [Bool.eq_iff_iff, decide_eq_true_eq, decide_eq_true_eq]
  constructor
  · intro h
    have h : printD a = printD b := by
      have := congrArg lst h
      rwa [lst_toB, lst_toB] at this
    have h1 := parse_print (print_in ha) ha
    have h2 := parse_print (print_in hb) hb
    rw [h, h2] at h1
    exact ((Prod.mk.injEq ..).mp h1).1.symm
  · rintro rfl; rfl
end Go.Proofs.YtigcjinpkngapaaGreatDoor
end
section
namespace Go.Proofs.YtigcjinpkngapaaGreatDoor
open Go.Ac
attribute [local irreducible] awp awpL Ev Ev2 EvS thenQ blockQ retQ PCalls OCalls
variable {g : List (Nat × List AV)}
theorem lawAllowsF (hg : TG g) (d : Doc) (hd : FitI d) : PCalls Tryz.prog g 6 [.agg (docC d)] (vb true) := lawAllowsT hg.n d hd (fun hs => wCheckF hg (hd.fit hs)) (awakeT_spec hg)
set_option maxRecDepth 4000 in
set_option maxHeartbeats 4000000 in
theorem lawUniqueF (hg : TG g) (s : ByteArray) : PCalls Tryz.prog g 5 [.v (.string s)] (vb true) := by
  have hAw := awakeT_spec hg
  have n1 : (!true) = false := rfl
  have n2 : (!false) = true := rfl
  have zT : decide True = true := rfl
  have zF : decide False = false := rfl
  have zNT : (!decide True) = false := rfl
  have zNF : (!decide False) = true := rfl
  have z1 : (true == true) = true := rfl
  have z2 : (false == false) = true := rfl
  have z3 : decide (true = true) = true := rfl
  have z4 : decide (false = false) = true := rfl
  have z5 : (decide True == true) = true := rfl
  have z6 : (decide False == false) = true := rfl
  have z00 : decide ((0 : Int) = 0) = true := rfl
  have y00 : (!decide ((0 : Int) = 0)) = false := rfl
  refine pcalls' Tryz.func5 Tryz.ntmps5 rfl rfl rfl ?_
  by_cases hs : (3000 : Int) < s.size
  · have c0 : decide ((3000 : Int) < s.size) = true := decide_eq_true hs
    repeat' (first
     | refine stn [] ?_
     | ((with_reducible refine is_gd ?_); refine awpL_split rfl rfl (fun h => ?_) (fun h => ?_))
     | ((with_reducible refine is_awp ?_); refine awp_cond rfl (fun h => ?_) (fun h => ?_))
     | fail)
    exact retP rfl rfl
  have c0 : decide ((3000 : Int) < s.size) = false := decide_eq_false hs
  have hP := wParse_small hg s (by omega)
  by_cases he : (parseD (lst s)).2.2 = 0
  · have hf := fit_parse (by omega) he
    obtain ⟨h1, h2, h3⟩ := print_parse he rfl
    have hPr := wPrint_spec hg.n _ hf (wCheckF hg hf)
    unfold printV at hPr
    rw [h2, if_pos rfl, h1, toB_lst] at hPr
    generalize parseD (lst s) = p at *
    obtain ⟨d, n, e⟩ := p
    simp only at hP hPr he h3
    subst he h3
    have c1 : decide (s = s) = true := by simp
    repeat' (first
     | refine stn [] ?_
     | ((with_reducible refine is_gd ?_); refine awpL_split rfl rfl (fun h => ?_) (fun h => ?_))
     | ((with_reducible refine is_awp ?_); refine awp_cond rfl (fun h => ?_) (fun h => ?_))
     | fail)
    exact retP rfl rfl
  · obtain ⟨h1, h2⟩ := parseD_err he
    have hSa := (r12Same_spec (g := g) zeroDoc zeroDoc (by decide) (by decide) (by decide) (by decide)).args (asv := [.agg (docC zeroDoc), .agg zeroB]) (.cons (Le.rfl' _) (.cons (Le.agg le_zeroDoc) .nil))
    rw [decide_eq_true rfl] at hSa
    generalize parseD (lst s) = p at *
    obtain ⟨d, n, e⟩ := p
    simp only at hP he h1 h2
    subst h1
    have c1 : (!decide (e = 0)) = true := by rw [decide_eq_false he]; rfl
    by_cases hn : n = 0
    · have c2 : decide (n = 0) = true := decide_eq_true hn
      repeat' (first
       | refine stn [] ?_
       | ((with_reducible refine is_gd ?_); refine awpL_split rfl rfl (fun h => ?_) (fun h => ?_))
       | ((with_reducible refine is_awp ?_); refine awp_cond rfl (fun h => ?_) (fun h => ?_))
       | fail)
      exact retP rfl rfl
    · have c2 : decide (n = 0) = false := decide_eq_false hn
      have c3 : decide (e = 3) = true := decide_eq_true (h2.resolve_left hn)
      repeat' (first
       | refine stn [] ?_
       | ((with_reducible refine is_gd ?_); refine awpL_split rfl rfl (fun h => ?_) (fun h => ?_))
       | ((with_reducible refine is_awp ?_); refine awp_cond rfl (fun h => ?_) (fun h => ?_))
       | fail)
      exact retP rfl rfl
theorem wParse_doc (hg : TG g) {d : Doc} (hd : FitI d) (hs : someD d = true) (hp : printE d = 0) : PCalls Tryz.prog g 17 [.v (.string (toB (printD d)))] (parsedV (d, 0, 0)) := by
  obtain ⟨a, b, c⟩ := someD_fit hs
  have h1 := printD_short (hd.fit hs) hp b a
  have := wParse_spec hg.n hg.m hg.e hg.u (toB (printD d)) (by rw [toB_size]; omega) (fun ls hl => by
    rw [lst_toB, lines_doc] at hl
    injection hl with hl
    subst hl
    have hr := readF_docL (print_in hp) []
    rw [List.append_nil] at hr
    rw [map_back, hr]
    simp only [readF]
    omega)
  rw [lst_toB, parse_print (print_in hp) hp] at this
  exact this
set_option maxRecDepth 4000 in
set_option maxHeartbeats 4000000 in
theorem lawBackF (hg : TG g) (d : Doc) (hd : FitI d) : PCalls Tryz.prog g 11 [.agg (docC d)] (vb true) := by
  have hAw := awakeT_spec hg
  have hS := some_spec (g := g) d
  have n1 : (!true) = false := rfl
  have n2 : (!false) = true := rfl
  have zT : decide True = true := rfl
  have zF : decide False = false := rfl
  have zNT : (!decide True) = false := rfl
  have zNF : (!decide False) = true := rfl
  have z1 : (true == true) = true := rfl
  have z2 : (false == false) = true := rfl
  have z3 : decide (true = true) = true := rfl
  have z4 : decide (false = false) = true := rfl
  have z5 : (decide True == true) = true := rfl
  have z6 : (decide False == false) = true := rfl
  have z00 : decide ((0 : Int) = 0) = true := rfl
  have y00 : (!decide ((0 : Int) = 0)) = false := rfl
  refine pcalls' Tryz.func11 Tryz.ntmps11 rfl rfl rfl ?_
  cases hs : someD d with
  | false =>
    rw [hs] at hS
    repeat' (first
     | refine stn [] ?_
     | ((with_reducible refine is_gd ?_); refine awpL_split rfl rfl (fun h => ?_) (fun h => ?_))
     | ((with_reducible refine is_awp ?_); refine awp_cond rfl (fun h => ?_) (fun h => ?_))
     | fail)
    exact retP rfl rfl
  | true =>
    rw [hs] at hS
    have hp := hd.fit hs
    have h1 := wPrint_spec hg.n d hp (wCheckF hg hp)
    have h2 := wSum_spec (g := g) d hp h1
    have hCo := rCopyD_spec (g := g) d (someD_ln hs) (someD_lt hs) (someD_ls hs)
    unfold printV at h1
    by_cases he : printE d = 0
    · have hP := wParse_doc hg hd hs he
      have hSa := tSame_spec (g := g) d d (by have := (someD_ls hs); omega) (by have := (someD_lt hs); omega) (by have := (someD_ln hs); omega)
      rw [decide_eq_true rfl] at hSa
      rw [he, if_pos rfl] at h1
      generalize toB (printD d) = out at h1 hP
      repeat' (first
       | refine stn [] ?_
       | ((with_reducible refine is_gd ?_); refine awpL_split rfl rfl (fun h => ?_) (fun h => ?_))
       | ((with_reducible refine is_awp ?_); refine awp_cond rfl (fun h => ?_) (fun h => ?_))
       | fail)
      exact retP rfl rfl
    · have c1 : (!decide (printE d = 0)) = true := by rw [decide_eq_false he]; rfl
      have c2 : decide ((⟨#[]⟩ : ByteArray) = ⟨#[]⟩) = true := by simp
      rw [if_neg he] at h1
      have hsz : sumD d = 0 := by unfold sumD; rw [if_neg he]
      rw [hsz] at h2
      repeat' (first
       | refine stn [] ?_
       | ((with_reducible refine is_gd ?_); refine awpL_split rfl rfl (fun h => ?_) (fun h => ?_))
       | ((with_reducible refine is_awp ?_); refine awp_cond rfl (fun h => ?_) (fun h => ?_))
       | fail)
      exact retP rfl rfl
set_option maxRecDepth 4000 in
set_option maxHeartbeats 4000000 in
theorem lawApartF (hg : TG g) (a b : Doc) (ha : FitI a) (hb : FitI b) : PCalls Tryz.prog g 10 [.agg (docC a), .agg (docC b)] (vb true) := by
  have hAw := awakeT_spec hg
  have hS := some_spec (g := g) a
  have hS2 := some_spec (g := g) b
  have n1 : (!true) = false := rfl
  have n2 : (!false) = true := rfl
  have zT : decide True = true := rfl
  have zF : decide False = false := rfl
  have zNT : (!decide True) = false := rfl
  have zNF : (!decide False) = true := rfl
  have z1 : (true == true) = true := rfl
  have z2 : (false == false) = true := rfl
  have z3 : decide (true = true) = true := rfl
  have z4 : decide (false = false) = true := rfl
  have z5 : (decide True == true) = true := rfl
  have z6 : (decide False == false) = true := rfl
  have z00 : decide ((0 : Int) = 0) = true := rfl
  have y00 : (!decide ((0 : Int) = 0)) = false := rfl
  refine pcalls' Tryz.func10 Tryz.ntmps10 rfl rfl rfl ?_
  cases hs : someD a with
  | false =>
    rw [hs] at hS
    repeat' (first
     | refine stn [] ?_
     | ((with_reducible refine is_gd ?_); refine awpL_split rfl rfl (fun h => ?_) (fun h => ?_))
     | ((with_reducible refine is_awp ?_); refine awp_cond rfl (fun h => ?_) (fun h => ?_))
     | fail)
    exact retP rfl rfl
  | true =>
  rw [hs] at hS
  cases ht : someD b with
  | false =>
    rw [ht] at hS2
    repeat' (first
     | refine stn [] ?_
     | ((with_reducible refine is_gd ?_); refine awpL_split rfl rfl (fun h => ?_) (fun h => ?_))
     | ((with_reducible refine is_awp ?_); refine awp_cond rfl (fun h => ?_) (fun h => ?_))
     | fail)
    exact retP rfl rfl
  | true =>
  rw [ht] at hS2
  have h1 := wPrint_spec hg.n a (ha.fit hs) (wCheckF hg (ha.fit hs))
  have h2 := wPrint_spec hg.n b (hb.fit ht) (wCheckF hg (hb.fit ht))
  have hCo := rCopyD_spec (g := g) a (someD_ln hs) (someD_lt hs) (someD_ls hs)
  have hCo2 := rCopyD_spec (g := g) b (someD_ln ht) (someD_lt ht) (someD_ls ht)
  unfold printV at h1 h2
  by_cases he : printE a = 0
  case neg =>
    have c1 : (!decide (printE a = 0)) = true := by rw [decide_eq_false he]; rfl
    generalize (if printE a = 0 then toB (printD a) else ⟨#[]⟩) = out at h1
    generalize (if printE b = 0 then toB (printD b) else ⟨#[]⟩) = out2 at h2
    repeat' (first
     | refine stn [] ?_
     | ((with_reducible refine is_gd ?_); refine awpL_split rfl rfl (fun h => ?_) (fun h => ?_))
     | ((with_reducible refine is_awp ?_); refine awp_cond rfl (fun h => ?_) (fun h => ?_))
     | fail)
    exact retP rfl rfl
  by_cases hf : printE b = 0
  case neg =>
    rw [he, if_pos rfl] at h1
    have c1 : (!decide (printE b = 0)) = true := by rw [decide_eq_false hf]; rfl
    generalize (if printE b = 0 then toB (printD b) else ⟨#[]⟩) = out2 at h2
    generalize toB (printD a) = out at h1
    repeat' (first
     | refine stn [] ?_
     | ((with_reducible refine is_gd ?_); refine awpL_split rfl rfl (fun h => ?_) (fun h => ?_))
     | ((with_reducible refine is_awp ?_); refine awp_cond rfl (fun h => ?_) (fun h => ?_))
     | fail)
    exact retP rfl rfl
  rw [he, if_pos rfl] at h1
  rw [hf, if_pos rfl] at h2
  have hSa := tSame_spec (g := g) a b (by have := (someD_ls hs); omega) (by have := (someD_lt hs); omega) (by have := (someD_ln hs); omega)
  rw [← print_inj he hf] at hSa
  generalize toB (printD a) = x at *
  generalize toB (printD b) = y at *
  cases hxy : decide (x = y) with
  | true =>
    rw [hxy] at hSa
    have c9 : (decide (x = y) == true) = true := by rw [hxy]; rfl
    repeat' (first
     | refine stn [] ?_
     | ((with_reducible refine is_gd ?_); refine awpL_split rfl rfl (fun h => ?_) (fun h => ?_))
     | ((with_reducible refine is_awp ?_); refine awp_cond rfl (fun h => ?_) (fun h => ?_))
     | fail)
    exact retP rfl rfl
  | false =>
    rw [hxy] at hSa
    have c9 : (decide (x = y) == false) = true := by rw [hxy]; rfl
    repeat' (first
     | refine stn [] ?_
     | ((with_reducible refine is_gd ?_); refine awpL_split rfl rfl (fun h => ?_) (fun h => ?_))
     | ((with_reducible refine is_awp ?_); refine awp_cond rfl (fun h => ?_) (fun h => ?_))
     | fail)
    exact retP rfl rfl
end Go.Proofs.YtigcjinpkngapaaGreatDoor
end
section
namespace Go.Ac
theorem own_out {g : List (Nat × List AV)} {F : Nat → Prop} {w : World} {c2 : Cx} {L' : List LB} {k v E sz : Nat} {es : List (List AV)} {y : Value} (st2 : St (Glo.of g) c2 L') (hk : L'[k]? = some (.own v E sz es)) (hr : R c2 (.os k v) y) (he : Ext { Cx.bare F w with m := 0 } c2) (hm0 : c2.m = 0) :
    ∃ c3 : Cx, R c3 (.os 0 0) y ∧ St (Glo.of g) c3 [.own 0 E sz es] ∧ Ext (Cx.bare F w) c3 ∧ c3.w = c2.w ∧ (∀ k, k ≠ 0 → c3.φ k = none) := by
  have hb := st2.blk k _ hk
  simp only [R] at hr
  simp only [BR] at hb
  obtain ⟨b0, b1, b2, hb⟩ := hb
  obtain ⟨hkn, _, h1, hr⟩ := hr
  replace hr := hr b0
  let F' : Nat → Prop := fun b => c2.F b ∨ (rng c2 b ∧ c2.φ k ≠ some b)
  let c3 : Cx := { F := F', φ := fun j => if j = 0 then c2.φ k else none, ver := fun _ => 0, sz := fun _ => sz, len := fun _ => es.length, dom := fun j => j = 0, m := 0, E := fun _ => False, mks := [], w := c2.w }
  have hF : ∀ b, c2.F b → F' b := fun b h => .inl h
  have hφ0 : c3.φ 0 = c2.φ k := by simp [c3]
  have hφ : ∀ {j b}, c3.φ j = some b → j = 0 ∧ c2.φ k = some b := by
    intro j b h
    by_cases e : j = 0
    · subst e; exact ⟨rfl, h⟩
    · simp only [c3, if_neg e] at h; cases h
  have hin : ∀ b, F' b → b < c2.w.heap.size := by
    rintro b (h | ⟨⟨j, h⟩, _⟩)
    · exact st2.inF b h
    · exact (st2.loc j b h).2.2
  refine ⟨c3, ?_, ⟨fun j hj => by cases hj; exact Nat.one_pos, fun j x hx _ => by have := lt_of_get hx; simp at this; exact this, hin, ?_, ?_, ?_, ?_, fun b h => h.elim, List.nodup_nil, .inl rfl, (fun r h => by cases h), .inl rfl⟩, ?_, rfl, fun j hj => if_neg hj⟩
  · simp only [R]
    refine ⟨rfl, Nat.le_refl _, h1, fun _ => ?_⟩
    unfold OS at hr ⊢
    rw [hφ0]
    simp only [c3]
    rw [b1, b2] at hr
    exact hr
  · intro j b h
    obtain ⟨rfl, h⟩ := hφ h
    refine ⟨rfl, ?_, (st2.loc k b h).2.2⟩
    rintro (h' | ⟨_, h'⟩)
    · exact (st2.loc k b h).2.1 h'
    · exact h' h
  · intro j j' b h h'
    rw [(hφ h).1, (hφ h').1]
  · intro j x h
    match j, h with
    | 0, h =>
      simp at h; subst h
      simp only [BR]
      refine ⟨rfl, rfl, rfl, ?_⟩
      rw [hφ0]
      rcases hb with hb | ⟨b, arr, q1, q2, q3, q4⟩
      · exact .inl hb
      · exact .inr ⟨b, arr, q1, q2, q3, EF.mono hF (fun _ _ => rfl) _ _ _ _ rfl q4⟩
    | j + 1, h => simp at h
  · intro q hq
    exact ⟨hF _ (st2.glob q hq).1, MF.mono hF (fun _ _ => rfl) _ _ _ rfl (st2.glob q hq).2.1, (st2.glob q hq).2.2⟩
  · refine ⟨he.os, he.tape, he.output, he.size, ?_, fun b ⟨j, hj⟩ => he.newφ b ⟨k, (hφ hj).2⟩, fun b hb => hb.elim, (fun r hr => by cases hr), he.keep, rfl,
      ⟨fun b hb => .inl (he.F b hb), he.pin.heap, fun k hk _ => hk.elim, fun k hk _ => hk.elim, fun k hk _ => hk.elim, fun k hk _ => hk.elim, fun k hk _ => hk.elim, fun k b arr T hk _ => hk.elim⟩⟩
    rintro b (hb | ⟨hb, _⟩)
    · exact he.newF b hb
    · exact (he.newφ b hb).elim (fun h => .inr (.inl h)) (fun h => .inr (.inr h))
def OTCalls (P : Program) (g : List (Nat × List AV)) (f : FuncId) (args : List AV) (E sz : Nat) (es : List (List AV)) (z : Value) : Prop :=
  Callable P f ∧ ∀ (F : Nat → Prop) (w : World) (vs : Array Value), St (Glo.of g) (Cx.bare F w) [] → TF F w args vs.toList →
    CallsIn Fence.wide 0 P f vs w fun e w' => ∃ y c', e = .returned (.tuple #[y, z]) ∧ R c' (.os 0 0) y ∧ St (Glo.of g) c' [.own 0 E sz es] ∧ Ext (Cx.bare F w) c' ∧ c'.w = w' ∧ (∀ k, k ≠ 0 → c'.φ k = none)
section
variable {P : Program} {td : TDs} [T : TOK P td] {G : Glo} {N : Nat}
theorem otcalls {g : List (Nat × List AV)} {f : FuncId} {fn : Func} {c : Code} {args : List AV} {E sz : Nat} {es : List (List AV)} {z : Value} (hf : P.funcs[f]? = some fn) (hn : fn.ntmps = N) (hb : fn.body = some c) (hN : Nat.ble args.length N = true) (hname : (fn.name == "runtime.NumGoroutine") = false)
    (h : awp P (Glo.of g) N c (retQ td fn.results.toList fun r' L' => ∃ k v, r' = .tup [.os k v, .v z] ∧ L'[k]? = some (.own v E sz es)) (argS 0 args) []) : OTCalls P g f args E sz es z := by
  refine ⟨⟨fn, hf, by rw [hb]; rfl, hname⟩, fun F w vs st ha => ?_⟩
  refine (body_wp (P := P) hf hb hn (Nat.le_of_ble_eq_true hN) rfl h st rfl (TR.of_TF _ _ _ ha)).mono ?_
  rintro e w' ⟨y, r', L', c2, rfl, ⟨k, v, rfl, hk⟩, st2, hr, he, rfl⟩
  simp only [R, TR] at hr
  obtain ⟨xs, rfl, y1, s1, hx, hr, y2, s2, rfl, rfl, rfl⟩ := hr
  obtain ⟨c3, q1, q2, q3, q4, q5⟩ := own_out (F := F) (w := w) st2 hk (by simp only [R]; exact hr) he he.m
  exact ⟨y1, c3, by rw [← Array.toArray_toList (xs := xs), hx], q1, q2, q3, q4, q5⟩
variable {Q : AQ} {S : SL} {L : List LB} {ops : Array Oper} {rest : List Oper} {ty : TypeId} {pos : String} {af : Array Edge} {d : Nat}
theorem awpL_otcall {f : FuncId} {us : Array Operand} {ats : Array TypeId} {args : List AV} {E sz k : Nat} {es : List (List AV)} {z : Value} {L' : List LB} (hargs : vals G S us.toList = some args) (hF : args.all isF = true) (h : OTCalls P G.g f args E sz es z) (hd : Nat.blt d N = true) (hk : L.length = k) (hL : L ++ [.own 0 E sz es] = L')
    (kk : awpL P G N ops rest Q ((d, .tup [.os k 0, .v z]) :: S) L') : awpL P G N ops (⟨some d, .call { callee := .value (.func f), args := us, argTypes := ats }, ty, pos, af, none⟩ :: rest) Q S L := by
  subst hk hL
  intro cx a hc
  have ha := TF_of_TR hF (vals_R hc hargs)
  refine wpListIn_plain rfl fun K hK => wpIn_of_run rfl ?_
  rw [run_call h.1 (o := ⟨some d, .call { callee := .value (.func f), args := us, argTypes := ats }, ty, pos, af, none⟩) rfl a cx.w, Oper.uponIn_enter]
  refine ⟨fun h => by simp at h, CallsIn.mono (h.2 cx.F cx.w (us.map a.eval) hc.st.bare (by simpa using ha)) ?_⟩
  rintro e w' ⟨y, c', rfl, hr, st', ex, rfl, hφ⟩
  obtain ⟨c2, hst, hR, hw⟩ := hc.st.afterO hr st' ex hφ
  rw [← hw]
  have hT : R c2 (.tup [.os L.length 0, .v z]) (.tuple #[y, z]) := by
    simp only [R, TR] at hR ⊢
    exact ⟨_, rfl, y, [z], rfl, hR, z, [], rfl, rfl, rfl⟩
  exact hK _ _ (wpListIn_mono (fun e a w q => q.trans hst.ext) _ _ _ (kk c2 _ ((hst.cn hc).put hd hT)))
end
end Go.Ac
end
section
namespace Go.Proofs.YtigcjinpkngapaaGreatDoor
open Go.Ac
attribute [local irreducible] awp awpL Ev Ev2 EvS thenQ blockQ retQ PCalls OCalls OTCalls
variable {g : List (Nat × List AV)}
theorem cut_read {d : Doc} (h : printE d = 0) {n : Nat} (h0 : 0 < n) (h1 : n ≤ (printD d).length) {ls : List (List UInt8)} (hl : linesW ((printD d).take n) = some ls) : ∃ k, readF 0 zeroDoc (ls.map toB) = (cutD d k, (0 : Nat)) := by
  have hne : (printD d).take n ≠ [] := by
    intro e
    have := congrArg List.length e
    rw [List.length_take, List.length_nil] at this
    omega
  have hla : ((printD d).take n).getLast? = (printD d)[n - 1]? := by
    rw [List.getLast?_eq_getElem?, List.length_take, Nat.min_eq_left h1, List.getElem?_take, if_pos (by omega)]
  have hl2 := hl
  unfold linesW at hl2
  rw [if_neg hne, hla] at hl2
  by_cases hq : (printD d)[n - 1]? = some 10
  · obtain ⟨k, k1, k2, k3⟩ := prefix_lines ((docL d).map lst) n (docL_no d) h0 h1 hq
    have e : (printD d).take n = printD (cutD d k) := by
      show (textW ((docL d).map lst)).take n = _
      rw [k3, ← List.map_take, docL_take d k1]; rfl
    rw [e, lines_doc] at hl
    injection hl with hl
    subst hl
    refine ⟨k, ?_⟩
    have := readF_docL (cut_in (print_in h) k) []
    rw [List.append_nil] at this
    rw [map_back, this]
    rfl
  · rw [if_neg hq] at hl2; cases hl2
theorem wParse_cut (hg : TG g) {d : Doc} (hd : FitI d) (hs : someD d = true) (hp : printE d = 0) {s : ByteArray} {n : Nat} (h0 : 0 < n) (h1 : n ≤ (printD d).length) (he : lst s = (printD d).take n) :
    PCalls Tryz.prog g 17 [.v (.string s)] (parsedV (parseD ((printD d).take n))) := by
  obtain ⟨a, b, c⟩ := someD_fit hs
  have hsh := printD_short (hd.fit hs) hp b a
  have hz : s.size ≤ 9700000 := by
    have : (lst s).length = s.size := size_list s
    rw [he, List.length_take] at this
    omega
  have := wParse_spec hg.n hg.m hg.e hg.u s (by omega) (fun ls hl => by
    rw [he] at hl
    obtain ⟨k, hk⟩ := cut_read hp h0 h1 hl
    rw [hk]
    have l1 : (cutD d k).notes.length ≤ d.notes.length := by simp [cutD, List.length_take]; omega
    have l2 : (cutD d k).tiers.length ≤ d.tiers.length := by simp [cutD, List.length_take]; omega
    have l3 : (cutD d k).rec_.speakers.length = d.rec_.speakers.length := rfl
    simp only
    omega)
  rw [he] at this
  exact this
theorem ex0_list (s : ByteArray) (n : Nat) : lst (s.extract 0 n) = (lst s).take n := by rw [ext_list]; rfl
set_option maxRecDepth 4000 in
set_option maxHeartbeats 8000000 in
theorem lawCutsF (hg : TG g) (d : Doc) (hd : FitI d) (cut : Int) : PCalls Tryz.prog g 7 [.agg (docC d), vi cut] (vb true) := by
  have hAw := awakeT_spec hg
  have hS := some_spec (g := g) d
  have n1 : (!true) = false := rfl
  have n2 : (!false) = true := rfl
  have zT : decide True = true := rfl
  have zF : decide False = false := rfl
  have zNT : (!decide True) = false := rfl
  have zNF : (!decide False) = true := rfl
  have z00 : decide ((0 : Int) = 0) = true := rfl
  have z33 : decide ((3 : Int) = 3) = true := rfl
  have z44 : decide ((4 : Int) = 4) = true := rfl
  have y00 : (!decide ((0 : Int) = 0)) = false := rfl
  refine pcalls' Tryz.func7 Tryz.ntmps7 rfl rfl rfl ?_
  cases hs : someD d with
  | false =>
    rw [hs] at hS
    repeat' (first
     | refine stn [] ?_
     | ((with_reducible refine is_gd ?_); refine awpL_split rfl rfl (fun h => ?_) (fun h => ?_))
     | ((with_reducible refine is_awp ?_); refine awp_cond rfl (fun h => ?_) (fun h => ?_))
     | fail)
    exact retP rfl rfl
  | true =>
  rw [hs] at hS
  have hp := hd.fit hs
  have h1 := wPrint_spec hg.n d hp (wCheckF hg hp)
  have hCo := rCopyD_spec (g := g) d (someD_ln hs) (someD_lt hs) (someD_ls hs)
  unfold printV at h1
  by_cases he : printE d = 0
  case neg =>
    have c1 : (!decide (printE d = 0)) = true := by rw [decide_eq_false he]; rfl
    generalize (if printE d = 0 then toB (printD d) else ⟨#[]⟩) = out at h1
    repeat' (first
     | refine stn [] ?_
     | ((with_reducible refine is_gd ?_); refine awpL_split rfl rfl (fun h => ?_) (fun h => ?_))
     | ((with_reducible refine is_awp ?_); refine awp_cond rfl (fun h => ?_) (fun h => ?_))
     | fail)
    exact retP rfl rfl
  rw [he, if_pos rfl] at h1
  have hl0 : lst (toB (printD d)) = printD d := lst_toB _
  have hsz : (toB (printD d)).size = (printD d).length := toB_size _
  have hsh := printD_short hp he (someD_fit hs).2.1 (someD_fit hs).1
  generalize toB (printD d) = out at h1 hl0 hsz
  by_cases q0 : cut < 0
  · have c0 : decide (cut < 0) = true := decide_eq_true q0
    repeat' (first
     | refine stn [] ?_
     | ((with_reducible refine is_gd ?_); refine awpL_split rfl rfl (fun h => ?_) (fun h => ?_))
     | ((with_reducible refine is_awp ?_); refine awp_cond rfl (fun h => ?_) (fun h => ?_))
     | fail)
    exact retP rfl rfl
  have c0 : decide (cut < 0) = false := decide_eq_false q0
  by_cases q1 : (out.size : Int) ≤ cut
  · have c1 : decide ((out.size : Int) ≤ cut) = true := decide_eq_true q1
    repeat' (first
     | refine stn [] ?_
     | ((with_reducible refine is_gd ?_); refine awpL_split rfl rfl (fun h => ?_) (fun h => ?_))
     | ((with_reducible refine is_awp ?_); refine awp_cond rfl (fun h => ?_) (fun h => ?_))
     | fail)
    exact retP rfl rfl
  have c1 : decide ((out.size : Int) ≤ cut) = false := decide_eq_false q1
  obtain ⟨n, rfl⟩ : ∃ n : Nat, cut = n := ⟨cut.toNat, by omega⟩
  have hb : (0 : Int) ≤ 0 ∧ (0 : Int) ≤ n ∧ (n : Int) ≤ out.size := by omega
  have hx : out.extract ((0 : Int)).toNat ((n : Int)).toNat = out.extract 0 n := rfl
  have hxl := ex0_list out n
  rw [hl0] at hxl
  generalize out.extract 0 n = part at hx hxl
  by_cases hn : n = 0
  · have c2 : decide ((n : Int) = 0) = true := by rw [hn]; rfl
    have hP : PCalls Tryz.prog g 17 [.v (.string part)] (parsedV (zeroDoc, 0, 4)) := by
      have e : part = ⟨#[]⟩ := (eq_toB part []).2 (by show lst part = []; rw [hxl, hn]; rfl)
      rw [e]
      exact wParse_small hg ⟨#[]⟩ (by decide)
    repeat' (first
     | ((with_reducible refine is_un ?_); refine awpL_ev (ev_slice_str (s' := part) rfl rfl rfl rfl rfl hb hx) rfl ?_)
     | refine stn [] ?_
     | ((with_reducible refine is_gd ?_); refine awpL_split rfl rfl (fun h => ?_) (fun h => ?_))
     | ((with_reducible refine is_awp ?_); refine awp_cond rfl (fun h => ?_) (fun h => ?_))
     | fail)
    exact retP rfl rfl
  have c2 : decide ((n : Int) = 0) = false := decide_eq_false (by omega)
  have hP := wParse_cut hg hd hs he (by omega) (by omega) hxl
  obtain ⟨k1, k2⟩ := parse_cut he (n := n) (by omega) (by omega)
  obtain ⟨c, hc⟩ : ∃ c, (lst out)[n - 1]? = some c := ⟨_, List.getElem?_eq_getElem (by rw [hl0]; omega)⟩
  have ik : 0 ≤ ((n : Int) - 1) ∧ out.data[((n : Int) - 1).toNat]? = some c := by
    have := byteL_get hc
    rw [show ((n - 1 : Nat) : Int) = (n : Int) - 1 by omega] at this
    exact this
  rw [hl0] at hc
  rw [hc] at k1 k2
  by_cases hc0 : c = 10
  · obtain ⟨r, f, e1, e2, e3, e4, e5⟩ := k2 (by rw [hc0])
    rw [e1] at hP
    have c3 : (!decide ((c.toNat : Int) = 10)) = false := by rw [hc0]; rfl
    have c4 : (!decide (f = 3)) = true := by rw [decide_eq_false e2]; rfl
    have c5 : (!decide (f = 4)) = true := by rw [decide_eq_false e3]; rfl
    have c6 : decide ((r.notes.length : Int) ≤ d.notes.length) = true := decide_eq_true (by omega)
    have c7 : decide ((r.tiers.length : Int) ≤ d.tiers.length) = true := decide_eq_true (by omega)
    by_cases hf : f = 0
    · have c8 : (!decide (f = 0)) = false := by rw [decide_eq_true hf]; rfl
      repeat' (first
       | ((with_reducible refine is_un ?_); refine awpL_ev (ev_slice_str (s' := part) rfl rfl rfl rfl rfl hb hx) rfl ?_)
       | refine stn [] ?_
       | ((with_reducible refine is_gd ?_); refine awpL_split rfl rfl (fun h => ?_) (fun h => ?_))
       | ((with_reducible refine is_awp ?_); refine awp_cond rfl (fun h => ?_) (fun h => ?_))
       | fail)
      exact retP rfl rfl
    · have c8 : (!decide (f = 0)) = true := by rw [decide_eq_false hf]; rfl
      repeat' (first
       | ((with_reducible refine is_un ?_); refine awpL_ev (ev_slice_str (s' := part) rfl rfl rfl rfl rfl hb hx) rfl ?_)
       | refine stn [] ?_
       | ((with_reducible refine is_gd ?_); refine awpL_split rfl rfl (fun h => ?_) (fun h => ?_))
       | ((with_reducible refine is_awp ?_); refine awp_cond rfl (fun h => ?_) (fun h => ?_))
       | fail)
      exact retP rfl rfl
  · rw [k1 (fun q => hc0 (by injection q))] at hP
    have hSa := (r12Same_spec (g := g) zeroDoc zeroDoc (by decide) (by decide) (by decide) (by decide)).args (asv := [.agg (docC zeroDoc), .agg zeroB]) (.cons (Le.rfl' _) (.cons (Le.agg le_zeroDoc) .nil))
    rw [decide_eq_true rfl] at hSa
    have c3 : (!decide ((c.toNat : Int) = 10)) = true := by
      have : c.toNat ≠ 10 := fun q => hc0 (UInt8.toNat_inj.1 q)
      simp; omega
    repeat' (first
     | ((with_reducible refine is_un ?_); refine awpL_ev (ev_slice_str (s' := part) rfl rfl rfl rfl rfl hb hx) rfl ?_)
     | refine stn [] ?_
     | ((with_reducible refine is_gd ?_); refine awpL_split rfl rfl (fun h => ?_) (fun h => ?_))
     | ((with_reducible refine is_awp ?_); refine awp_cond rfl (fun h => ?_) (fun h => ?_))
     | fail)
    exact retP rfl rfl
set_option maxRecDepth 4000 in
set_option maxHeartbeats 4000000 in
theorem r3LinesO_spec (s : ByteArray) (hs : s.size ≤ 90000000) {N : List ByteArray} (hN : linesW (lst s) = some (N.map lst)) : OTCalls Tryz.prog g 22 [.v (.string s)] 9 1 (N.map strC) (.bool true) := by
  have hlen : (lst s).length = s.size := size_list s
  have n1 : (!true) = false := rfl
  have n2 : (!false) = true := rfl
  refine otcalls Tryz.func22 Tryz.ntmps22 rfl rfl rfl ?_
  repeat' (first
   | ((with_reducible refine is_un ?_); refine awpL_ev2 (ev_bslice_o (t := 42) (n := 0) (es := []) rfl rfl rfl rfl rfl rfl rfl rfl rfl rfl rfl qf0 qc0) rfl ?_)
   | refine stn [] ?_
   | ((with_reducible refine is_gd ?_); refine awpL_split rfl rfl (fun h => ?_) (fun h => ?_))
   | ((with_reducible refine is_awp ?_); refine awp_cond rfl (fun h => ?_) (fun h => ?_))
   | fail)
  refine awp_for2 (α := Nat × Nat) (β := List ByteArray) 1 (fun p _ => [(0, .v (.string s)), (4, .os 0 0), (5, vi p.1), (6, vi p.2)]) (fun _ M => [.own 0 9 1 (M.map strC)]) (fun p M => p.1 ≤ p.2 ∧ p.2 ≤ s.size ∧ M.length ≤ p.2 ∧ lst s = textW (M.map lst) ++ (lst s).drop p.1 ∧ (∀ x ∈ M, (10 : UInt8) ∉ lst x) ∧ (10 : UInt8) ∉ ((lst s).take p.2).drop p.1) (fun p _ => s.size - p.2) (0, 0) []
    ⟨(.cons rfl rfl (.cons rfl rfl (.cons rfl rfl (.cons rfl rfl .nil)))), rfl, rfl, rfl⟩ ⟨Nat.le_refl _, Nat.zero_le _, Nat.zero_le _, by simp [textW], by simp, by simp⟩ ?_
  rintro ⟨fr, k⟩ M ⟨hfk, hk, hM, hf, hno, hseg⟩
  simp only at hfk hk hM hf hseg
  have hmb : (M.map strC).length ≤ 90000000 := by rw [List.length_map]; omega
  cases ht : (lst s)[k]? with
  | some c =>
    have hlt : k < (lst s).length := (List.getElem?_eq_some_iff.1 ht).1
    have c1 : decide ((k : Int) < s.size) = true := decide_eq_true (by omega)
    have ik := byteL_get ht
    have hsn := seg_snoc ht hfk
    by_cases e : c = 10
    · have c2 : decide ((c.toNat : Int) = 10) = true := by rw [e]; rfl
      have hx : s.extract ((fr : Int)).toNat ((k : Int)).toNat = s.extract fr k := rfl
      have hb : (0 : Int) ≤ fr ∧ (fr : Int) ≤ k ∧ (k : Int) ≤ s.size := by omega
      have hj : M.map strC ++ [strC (s.extract fr k)] = (M ++ [s.extract fr k]).map strC := by simp
      repeat' (first
       | ((with_reducible refine is_un ?_); (first | refine awpL_ev (ev_slice_str (s' := s.extract fr k) rfl rfl rfl rfl rfl hb hx) rfl ?_ | refine awpL_ev2 (ev_appB (es' := (M ++ [s.extract fr k]).map strC) rfl rfl rfl rfl rfl rfl rfl rfl rfl rfl rfl rfl rfl qe0 hj rfl) rfl ?_))
       | refine stn [] ?_
       | ((with_reducible refine is_gd ?_); refine awpL_split rfl rfl (fun h => ?_) (fun h => ?_))
       | ((with_reducible refine is_awp ?_); refine awp_cond rfl (fun h => ?_) (fun h => ?_))
       | fail)
      refine ⟨(k + 1, k + 1), M ++ [s.extract fr k], ⟨(.cons rfl rfl (.cons rfl rfl (.cons rfl rfl (.cons rfl rfl .nil)))), rfl, rfl, rfl⟩, ⟨Nat.le_refl _, by simp only; omega, by simp; omega, ?_, ?_, ?_⟩, by simp only; omega⟩
      · simp only
        have h1 : textW ((M ++ [s.extract fr k]).map lst) = textW (M.map lst) ++ (lst (s.extract fr k) ++ [10]) := by
          unfold textW; rw [List.map_append, List.flatMap_append]; simp
        rw [h1, ext_list, List.append_assoc, List.append_assoc]
        have h2 : [10] ++ (lst s).drop (k + 1) = (lst s).drop k := by rw [dropB_cons ht, e]; rfl
        rw [h2, seg_cat hfk]
        exact hf
      · intro x hx
        rcases List.mem_append.1 hx with hx | hx
        · exact hno x hx
        · simp only [List.mem_singleton] at hx
          rw [hx, ext_list]
          exact hseg
      · simp only; rw [List.drop_of_length_le (by rw [List.length_take]; omega)]; simp
    · have c2 : decide ((c.toNat : Int) = 10) = false := decide_eq_false (fun q => e (UInt8.toNat_inj.1 (by have : (10 : UInt8).toNat = 10 := rfl; omega)))
      repeat' (first
       | refine stn [] ?_
       | ((with_reducible refine is_gd ?_); refine awpL_split rfl rfl (fun h => ?_) (fun h => ?_))
       | ((with_reducible refine is_awp ?_); refine awp_cond rfl (fun h => ?_) (fun h => ?_))
       | fail)
      refine ⟨(fr, k + 1), M, ⟨(.cons rfl rfl (.cons rfl rfl (.cons rfl rfl (.cons rfl rfl .nil)))), rfl, rfl, rfl⟩, ⟨by simp only; omega, by simp only; omega, by simp only; omega, hf, hno, ?_⟩, by simp only; omega⟩
      simp only
      rw [hsn, List.mem_append, not_or]
      exact ⟨hseg, by simp only [List.mem_singleton]; exact fun q => e q.symm⟩
  | none =>
    have hge : (lst s).length ≤ k := by simpa using ht
    have c1 : decide ((k : Int) < s.size) = false := decide_eq_false (by omega)
    rw [List.take_of_length_le hge] at hseg
    by_cases e : fr = s.size
    · have c2 : (!decide ((fr : Int) = s.size)) = false := by simp [e]
      rw [List.drop_of_length_le (by omega), List.append_nil] at hf
      have hL : linesW (lst s) = some (M.map lst) := by
        rw [hf]
        exact lines_text fun x hx => by obtain ⟨y, hy, rfl⟩ := List.mem_map.1 hx; exact hno y hy
      rw [hN] at hL
      injection hL with hL
      have hMN : M = N := by
        have := congrArg (List.map toB) hL
        rw [map_back, map_back] at this
        exact this.symm
      subst hMN
      repeat' (first
       | refine stn [] ?_
       | ((with_reducible refine is_gd ?_); refine awpL_split rfl rfl (fun h => ?_) (fun h => ?_))
       | ((with_reducible refine is_awp ?_); refine awp_cond rfl (fun h => ?_) (fun h => ?_))
       | fail)
      exact retI rfl ⟨_, _, rfl, rfl⟩
    · exfalso
      have hL : linesW (lst s) = none := lines_none hf (by intro q; have := congrArg List.length q; rw [List.length_drop] at this; simp at this; omega) hseg
      rw [hN] at hL
      cases hL
theorem docL_short {d : Doc} (hd : FitI d) (hs : someD d = true) (h : printE d = 0) : (docL d).length ≤ 121 ∧ ∀ s ∈ docL d, s.size ≤ 79900 := by
  obtain ⟨a, b, c⟩ := someD_fit hs
  have hw := docW (hd.fit hs) h
  have ls : ∀ {l : List ByteArray}, Words l → l.length ≤ 105 → (toB (joinW (l.map lst))).size ≤ 79900 := fun h hl => by
    have := joinW_len h.2
    rw [toB_size]
    omega
  refine ⟨by simp [docL]; omega, fun s hx => ?_⟩
  simp only [docL, List.mem_cons, List.mem_append] at hx
  rcases hx with rfl | hx | hx
  · exact ls hw.r (by simp [recW]; omega)
  · obtain ⟨t, ht, rfl⟩ := List.mem_map.1 hx
    exact ls (hw.t t ht) (by simp [tierW])
  · obtain ⟨n, hn, rfl⟩ := List.mem_map.1 hx
    exact ls (hw.n n hn) (by simp [noteW])
theorem blank_lst (x : ByteArray) : lst (x ++ (⟨#[32]⟩ : ByteArray)) = lst x ++ [32] := by
  show (x ++ (⟨#[32]⟩ : ByteArray)).data.toList = _
  rw [ByteArray.data_append, Array.toList_append]
theorem set_map_str (l : List ByteArray) (k : Nat) (x : ByteArray) : (l.set k x).map strC = (l.map strC).set k (strC x) := by rw [List.map_set]
set_option maxRecDepth 4000 in
set_option maxHeartbeats 8000000 in
theorem lawFirstF (hg : TG g) (d : Doc) (hd : FitI d) (line : Int) : PCalls Tryz.prog g 8 [.agg (docC d), vi line] (vb true) := by
  have hAw := awakeT_spec hg
  have hS := some_spec (g := g) d
  have n1 : (!true) = false := rfl
  have n2 : (!false) = true := rfl
  have zT : decide True = true := rfl
  have zF : decide False = false := rfl
  have zNT : (!decide True) = false := rfl
  have zNF : (!decide False) = true := rfl
  have z00 : decide ((0 : Int) = 0) = true := rfl
  have z33 : decide ((3 : Int) = 3) = true := rfl
  have y00 : (!decide ((0 : Int) = 0)) = false := rfl
  refine pcalls' Tryz.func8 Tryz.ntmps8 rfl rfl rfl ?_
  cases hs : someD d with
  | false =>
    rw [hs] at hS
    repeat' (first
     | refine stn [] ?_
     | ((with_reducible refine is_gd ?_); refine awpL_split rfl rfl (fun h => ?_) (fun h => ?_))
     | ((with_reducible refine is_awp ?_); refine awp_cond rfl (fun h => ?_) (fun h => ?_))
     | fail)
    exact retP rfl rfl
  | true =>
  rw [hs] at hS
  have hp := hd.fit hs
  have h1 := wPrint_spec hg.n d hp (wCheckF hg hp)
  have hCo := rCopyD_spec (g := g) d (someD_ln hs) (someD_lt hs) (someD_ls hs)
  unfold printV at h1
  by_cases he : printE d = 0
  case neg =>
    have c1 : (!decide (printE d = 0)) = true := by rw [decide_eq_false he]; rfl
    rw [if_neg he] at h1
    have hLi := r3LinesO_spec (g := g) (⟨#[]⟩ : ByteArray) (by decide) (N := []) rfl
    repeat' (first
     | ((with_reducible refine is_un ?_); refine awpL_otcall rfl rfl hLi rfl (by simp only [List.length_nil]; rfl) (by simp only [List.nil_append]; rfl) ?_)
     | refine stn [] ?_
     | ((with_reducible refine is_gd ?_); refine awpL_split rfl rfl (fun h => ?_) (fun h => ?_))
     | ((with_reducible refine is_awp ?_); refine awp_cond rfl (fun h => ?_) (fun h => ?_))
     | fail)
    exact retP rfl rfl
  rw [he, if_pos rfl] at h1
  obtain ⟨a, b, c⟩ := someD_fit hs
  have hsh := printD_short hp he b a
  have hLi := r3LinesO_spec (g := g) (toB (printD d)) (by rw [toB_size]; omega) (N := docL d) (by rw [lst_toB]; exact lines_doc d)
  generalize toB (printD d) = out at h1 hLi
  obtain ⟨f1, f2⟩ := docL_short hd hs he
  by_cases q0 : line < 0
  · have c0 : decide (line < 0) = true := decide_eq_true q0
    repeat' (first
     | ((with_reducible refine is_un ?_); refine awpL_otcall rfl rfl hLi rfl (by simp only [List.length_nil]; rfl) (by simp only [List.nil_append]; rfl) ?_)
     | refine stn [] ?_
     | ((with_reducible refine is_gd ?_); refine awpL_split rfl rfl (fun h => ?_) (fun h => ?_))
     | ((with_reducible refine is_awp ?_); refine awp_cond rfl (fun h => ?_) (fun h => ?_))
     | fail)
    exact retP rfl rfl
  have c0 : decide (line < 0) = false := decide_eq_false q0
  by_cases q1 : ((((docL d).map strC).length : Nat) : Int) ≤ line
  · have c1 : decide (((((docL d).map strC).length : Nat) : Int) ≤ line) = true := decide_eq_true q1
    repeat' (first
     | ((with_reducible refine is_un ?_); refine awpL_otcall rfl rfl hLi rfl (by simp only [List.length_nil]; rfl) (by simp only [List.nil_append]; rfl) ?_)
     | refine stn [] ?_
     | ((with_reducible refine is_gd ?_); refine awpL_split rfl rfl (fun h => ?_) (fun h => ?_))
     | ((with_reducible refine is_awp ?_); refine awp_cond rfl (fun h => ?_) (fun h => ?_))
     | fail)
    exact retP rfl rfl
  have c1 : decide (((((docL d).map strC).length : Nat) : Int) ≤ line) = false := decide_eq_false q1
  obtain ⟨k, rfl⟩ : ∃ k : Nat, line = k := ⟨line.toNat, by omega⟩
  have hkl : k < (docL d).length := by rw [List.length_map] at q1; omega
  obtain ⟨x, hx⟩ : ∃ x, (docL d)[k]? = some x := ⟨_, List.getElem?_eq_getElem hkl⟩
  have hxs := f2 x (List.mem_of_getElem? hx)
  have ik := str_get hx
  have ik2 := ik.2
  have ic : (0 : Int) ≤ (k : Int) ∧ (k : Int) < ((((docL d).map strC).length : Nat) : Int) := ⟨by omega, by rw [List.length_map]; omega⟩
  have hcat : x.size + (⟨#[32]⟩ : ByteArray).size ≤ 9223372036854775807 := by
    have : (⟨#[32]⟩ : ByteArray).size = 1 := rfl
    omega
  have hbl := blank_lst x
  have hbz : (x ++ (⟨#[32]⟩ : ByteArray)).size = x.size + 1 := ByteArray.size_append
  have hB : LinesB ((docL d).set k (x ++ (⟨#[32]⟩ : ByteArray))) := by
    refine ⟨by rw [List.length_set]; omega, fun s hm => ?_⟩
    rcases List.mem_or_eq_of_mem_set hm with hm | rfl
    · have := f2 s hm; omega
    · omega
  have hT := r3Text_spec (g := g) _ hB
  have hM : ((docL d).set k (x ++ (⟨#[32]⟩ : ByteArray))).map lst = ((docL d).map lst).set k (lst x ++ [32]) := by rw [List.map_set, hbl]
  have hpb := parse_bad he hx
  have hP : PCalls Tryz.prog g 17 [.v (.string (toB (textW (((docL d).set k (x ++ (⟨#[32]⟩ : ByteArray))).map lst))))] (parsedV (zeroDoc, (k : Int) + 1, 3)) := by
    have hno : ∀ y ∈ ((docL d).set k (x ++ (⟨#[32]⟩ : ByteArray))).map lst, (10 : UInt8) ∉ y := by
      rw [hM]
      intro y hy
      rcases List.mem_or_eq_of_mem_set hy with hy | rfl
      · exact docL_no d y hy
      · intro q
        rcases List.mem_append.1 q with q | q
        · exact docL_no d (lst x) (List.mem_map.2 ⟨x, List.mem_of_getElem? hx, rfl⟩) q
        · simp at q
    have htl := textW_len hB.2
    have hsl : ((docL d).set k (x ++ (⟨#[32]⟩ : ByteArray))).length = (docL d).length := List.length_set ..
    have := wParse_spec hg.n hg.m hg.e hg.u (toB (textW (((docL d).set k (x ++ (⟨#[32]⟩ : ByteArray))).map lst))) (by rw [toB_size]; omega) (fun ls hl => by
      rw [lst_toB, lines_text hno] at hl
      injection hl with hl
      subst hl
      rw [map_back]
      have r1 := readF_len ((docL d).set k (x ++ (⟨#[32]⟩ : ByteArray))) 0 zeroDoc
      have r2 := readF_spk hB.2
      have fz : zeroDoc.tiers.length = 0 ∧ zeroDoc.notes.length = 0 := ⟨rfl, rfl⟩
      omega)
    rw [lst_toB, hM, hpb] at this
    rw [hM]
    exact this
  generalize toB (textW (((docL d).set k (x ++ (⟨#[32]⟩ : ByteArray))).map lst)) = txt at hT hP
  have hset : ((docL d).map strC).set ((k : Int)).toNat (strC (x ++ (⟨#[32]⟩ : ByteArray))) = ((docL d).set k (x ++ (⟨#[32]⟩ : ByteArray))).map strC := by rw [set_map_str]; rfl
  have c2 : decide ((k : Int) + 1 = (k : Int) + 1) = true := by simp
  repeat' (first
   | ((with_reducible refine is_un ?_); (first | refine awpL_otcall rfl rfl hLi rfl (by simp only [List.length_nil]; rfl) (by simp only [List.nil_append]; rfl) ?_ | refine awpL_frz (x := .os 0 0) (x' := encSs ((docL d).set k (x ++ (⟨#[32]⟩ : ByteArray)))) 49 rfl (by simp [frzV, encSs]) rfl rfl ?_ | refine awpL_ev (ev_catE (r := x ++ (⟨#[32]⟩ : ByteArray)) rfl rfl hcat rfl) rfl ?_ | refine awpL_evS (ev_st_ep (el' := strC (x ++ (⟨#[32]⟩ : ByteArray))) (L' := [.own 0 9 1 (((docL d).set k (x ++ (⟨#[32]⟩ : ByteArray))).map strC)]) rfl rfl rfl rfl rfl rfl rfl rfl ik.2 rfl (by rw [← hset]; rfl)) ?_))
   | refine stn [] ?_
   | ((with_reducible refine is_gd ?_); refine awpL_split rfl rfl (fun h => ?_) (fun h => ?_))
   | ((with_reducible refine is_awp ?_); refine awp_cond rfl (fun h => ?_) (fun h => ?_))
   | fail)
  exact retP rfl rfl
end Go.Proofs.YtigcjinpkngapaaGreatDoor
end
section
namespace Go.Proofs.YtigcjinpkngapaaGreatDoor
open Go.Ac
theorem wf64 {n : Int} (h : (Lit.int .i64 n).wf = true) : I64 n := by
  simp only [Lit.wf, Bool.and_eq_true, decide_eq_true_eq] at h
  have h1 : IntKind.i64.min = -9223372036854775808 := by decide
  have h2 : IntKind.i64.max = 9223372036854775807 := by decide
  rw [h1, h2] at h
  exact h
end Go.Proofs.YtigcjinpkngapaaGreatDoor
end
