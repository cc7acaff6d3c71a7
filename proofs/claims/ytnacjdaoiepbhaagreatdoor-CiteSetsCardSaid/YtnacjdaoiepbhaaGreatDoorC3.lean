/- A logic of trees over the model's steps, and the contracts of the functions that the laws reach: part 3 of 15. -/
import Derived.Test.YtnacjdaoiepbhaaGreatDoorC2
import Derived.Laws.IdiomStrings
import Derived.Test.YtnacjdaoiepbhaaGreatDoorProg
set_option linter.unusedVariables false
set_option linter.unusedSimpArgs false
set_option linter.unusedSectionVars false
section
namespace Go.Ac
inductive Msk (aft : List Edge) : Nat → List LB → TL → List LB → Prop
  | nil : Msk aft 0 [] [] []
  | base {n : Nat} {x : LB} {L M : List LB} {T : TL} : Msk aft n L T M → Msk aft (n + 1) (x :: L) T (x :: M)
  | vis {x : LB} {L M : List LB} {τ : Nat} {ds : List Nat} {T : TL} : hasE aft τ = true → Msk aft 0 L T M → Msk aft 0 (x :: L) ((τ, ds) :: T) (x :: M)
  | hid {x : LB} {L M : List LB} {τ : Nat} {ds : List Nat} {T : TL} : hasE aft τ = false → Msk aft 0 L T M → Msk aft 0 (x :: L) ((τ, ds) :: T) (.dead :: M)
theorem Msk.eq {aft : List Edge} {n : Nat} {L M : List LB} {T : TL} (h : Msk aft n L T M) : mskL aft n L T = M := by
  induction h with
  | nil => rfl
  | base _ ih => simp only [mskL, List.take_succ_cons, List.drop_succ_cons, List.cons_append] at ih ⊢; rw [ih]
  | vis h _ ih =>
    simp only [mskL, List.take_zero, List.drop_zero, List.nil_append, mskP] at ih ⊢
    rw [ih, h]; rfl
  | hid h _ ih =>
    simp only [mskL, List.take_zero, List.drop_zero, List.nil_append, mskP] at ih ⊢
    rw [ih, h]; rfl
inductive AStep (P : Program) (G : Glo) (N : Nat) (Sb : SL) (nb i : Nat) (op : Op) (ty : TypeId) (af : Array Edge) (D : SL) (W : DW) : AV → DW → Prop
  | any {x : AV} (h : ∀ M, PEv P G N op ty (pvS af D Sb) M x M) (hx : noid (low W.L.length) x = true) : AStep P G N Sb nb i op ty af D W x W
  | pure {x : AV} {M : List LB} {T' : TL} (hq : W.sq = false) (hM : Msk af.toList nb W.L W.T M) (h : PEv P G N op ty (pvS af D Sb) M x M) (hx : noid (okid M nb) x = true) (hT : addT af.toList i W.T = T') : AStep P G N Sb nb i op ty af D W x ⟨W.L, T', i :: W.Z, false⟩
section
variable {P : Program} {td : TDs} [T : TOK P td] {G : Glo} {N : Nat} {Q : AQ} {S Sb D D' : SL} {L : List LB} {ops : Array Oper} {rest : List Oper}
  {op : Op} {ty : TypeId} {pos : String} {af : Array Edge} {d i : Nat} {x : AV} {dst : Option Tmp} {u v w : Operand} {t f : Nat} {xt yt : TypeId} {C : SL → List LB → Prop} {nb : Nat} {W W' : DW}
theorem as_ev (h : ∀ M, Ev P G N op ty (pvS af D Sb) M x) (hx : noid (low W.L.length) x = true) (hnd : nd op = true) : AStep P G N Sb nb i op ty af D W x W := .any (fun M => pev_ev (h M) hnd) hx
theorem as_ev2 (h : ∀ M, Ev2 P G N op ty (pvS af D Sb) M x M) (hx : noid (low W.L.length) x = true) (hnd : nd op = true) : AStep P G N Sb nb i op ty af D W x W := .any (fun M => pev_ev2 (h M) hnd) hx
theorem as_call {f : FuncId} {us : Array Operand} {ats : Array TypeId} {args : List AV} (hargs : vals G (pvS af D Sb) us.toList = some args) (hF : args.all isF = true) (h : PCalls P G.g f args x) (hx : noid (low W.L.length) x = true) :
    AStep P G N Sb nb i (.call { callee := .value (.func f), args := us, argTypes := ats }) ty af D W x W := .any (fun M => pev_call hargs hF h) hx
theorem as_pure {M : List LB} {T' : TL} (hq : W.sq = false) (hM : Msk af.toList nb W.L W.T M) (h : Ev P G N op ty (pvS af D Sb) M x) (hx : noid (okid M nb) x = true) (hnd : nd op = true) (hT : addT af.toList i W.T = T') :
    AStep P G N Sb nb i op ty af D W x ⟨W.L, T', i :: W.Z, false⟩ := .pure hq hM (pev_ev h hnd) hx hT
theorem awpD_un (h : AStep P G N Sb nb D.length op ty af D W x W') (hD : D ++ [(d, x)] = D') (k : awpD P G N C Sb nb rest D' W') : awpD P G N C Sb nb (⟨some d, op, ty, pos, af, none⟩ :: rest) D W := by
  subst hD
  cases h with
  | any h hx => exact .step (r := (d, x, .any)) (.any rfl (fun M => h M) hx) k
  | pure hq hM h hx hT => subst hT; exact .step (r := (d, x, .op none)) (.pure rfl hq hM.eq h hx) k
theorem awpD_gd {j t : Nat} {want b : Bool} (hE : hasE af.toList j = true) (hDj : D[j]? = some (t, .v (.bool b))) (hb : b = want) (h : AStep P G N Sb nb D.length op ty af D W x W') (hD : D ++ [(d, x)] = D') (k : awpD P G N C Sb nb rest D' W') :
    awpD P G N C Sb nb (⟨some d, op, ty, pos, af, some (j, want)⟩ :: rest) D W := by
  subst hD hb
  cases h with
  | any h hx => exact .step (r := (d, x, .any)) (.any rfl (fun M => ⟨hE, t, _, hDj, .inl ⟨rfl, h M⟩⟩) hx) k
  | pure hq hM h hx hT => subst hT; exact .step (r := (d, x, .op none)) (.pure rfl hq hM.eq ⟨hE, t, _, hDj, .inl ⟨rfl, h⟩⟩ hx) k
theorem awpD_pT {j t : Nat} {b : Bool} (hE : hasE af.toList j = true) (hDj : D[j]? = some (t, .v (.bool b))) (hb : b = false) (hD : D ++ [(d, .v undef)] = D')
    (k : awpD P G N C Sb nb rest D' W) : awpD P G N C Sb nb (⟨some d, op, ty, pos, af, some (j, true)⟩ :: rest) D W := by
  subst hD; exact awpD_passT hE hDj hb k
theorem awpD_pF {j t : Nat} {b : Bool} (hE : hasE af.toList j = true) (hDj : D[j]? = some (t, .v (.bool b))) (hb : b = true) (hD : D ++ [(d, .v undef)] = D')
    (k : awpD P G N C Sb nb rest D' W) : awpD P G N C Sb nb (⟨some d, op, ty, pos, af, some (j, false)⟩ :: rest) D W := by
  subst hD; exact awpD_passF hE hDj hb k
theorem awpD_pU {j t : Nat} {want : Bool} (hE : hasE af.toList j = true) (hDj : D[j]? = some (t, .v undef)) (hD : D ++ [(d, .v undef)] = D')
    (k : awpD P G N C Sb nb rest D' W) : awpD P G N C Sb nb (⟨some d, op, ty, pos, af, some (j, want)⟩ :: rest) D W := by
  subst hD; exact awpD_passU hE hDj k
theorem awpD_nw {M M' : List LB} {B : LB} (hq : W.sq = false) (hM : Msk af.toList nb W.L W.T M) (h : Ev2 P G N op ty (pvS af D Sb) M x M') (hB : M ++ [B] = M') (hx : noid (okid M' nb) x = true) (hp : plainB nb B = true) (hnd : nd op = true) {T' : TL} (hT : addT af.toList D.length W.T ++ [(D.length, [D.length])] = T')
    {L' : List LB} (hL : W.L ++ [B] = L') (hD : D ++ [(d, x)] = D') (k : awpD P G N C Sb nb rest D' ⟨L', T', D.length :: W.Z, false⟩) : awpD P G N C Sb nb (⟨some d, op, ty, pos, af, none⟩ :: rest) D W := by
  subst hD; exact awpD_new hq hM.eq h hB hx hp hnd hT hL k
theorem awpD_up {M M' : List LB} {kk : Nat} {B : LB} {τ : Nat} {ds : List Nat} (hq : W.sq = false) (hM : Msk af.toList nb W.L W.T M) (hk : Nat.ble nb kk = true) (hτ : W.T[kk - nb]? = some (τ, ds)) (hb : hasE af.toList τ = true) (hds : ds.all (hasE af.toList) = true)
    (h : Ev2 P G N op ty (pvS af D Sb) M x M') (hB : M.set kk B = M') (hx : noid (okid M' nb) x = true) (hp : plainB nb B = true) (hnd : nd op = true) {T' : TL} (hT : (addT af.toList D.length W.T).set (kk - nb) (D.length, [D.length]) = T')
    {L' : List LB} (hL : W.L.set kk B = L') (hD : D ++ [(d, x)] = D') (k : awpD P G N C Sb nb rest D' ⟨L', T', D.length :: W.Z, false⟩) : awpD P G N C Sb nb (⟨some d, op, ty, pos, af, none⟩ :: rest) D W := by
  subst hD; exact awpD_upd hq hM.eq hk hτ hb hds h hB hx hp hnd hT hL k
theorem awpD_sS {L0 L' : List LB} (hZ : W.Z.all (hasE af.toList) = true) (hW : W.L = L0) (h : EvS P G N op ty (pvS af D Sb) L0 L') (hnd : nd op = true) (hD : D ++ [(N, .any)] = D')
    (k : awpD P G N C Sb nb rest D' ⟨L', W.T, D.length :: W.Z, true⟩) : awpD P G N C Sb nb (⟨none, op, ty, pos, af, none⟩ :: rest) D W := by
  subst hD hW; exact awpD_seqS hZ h hnd k
theorem isD_st (k : awpD P G N C Sb nb (⟨dst, .store t u v, ty, pos, af, none⟩ :: rest) D W) : awpD P G N C Sb nb (⟨dst, .store t u v, ty, pos, af, none⟩ :: rest) D W := k
theorem isD_al (k : awpD P G N C Sb nb (⟨dst, .alloc t, ty, pos, af, none⟩ :: rest) D W) : awpD P G N C Sb nb (⟨dst, .alloc t, ty, pos, af, none⟩ :: rest) D W := k
theorem isD_nl (k : awpD P G N C Sb nb [] D W) : awpD P G N C Sb nb [] D W := k
variable {gd : Option (Nat × Bool)}
theorem isDs_move (k : awpD P G N C Sb nb (⟨dst, .move u, ty, pos, af, gd⟩ :: rest) D W) : awpD P G N C Sb nb (⟨dst, .move u, ty, pos, af, gd⟩ :: rest) D W := k
theorem isDs_assign (k : awpD P G N C Sb nb (⟨dst, .assign u, ty, pos, af, gd⟩ :: rest) D W) : awpD P G N C Sb nb (⟨dst, .assign u, ty, pos, af, gd⟩ :: rest) D W := k
theorem isDs_bin {b : BinOp} (k : awpD P G N C Sb nb (⟨dst, .binOp b xt u v yt, ty, pos, af, gd⟩ :: rest) D W) : awpD P G N C Sb nb (⟨dst, .binOp b xt u v yt, ty, pos, af, gd⟩ :: rest) D W := k
theorem isDs_fa (k : awpD P G N C Sb nb (⟨dst, .fieldAddr t u f, ty, pos, af, gd⟩ :: rest) D W) : awpD P G N C Sb nb (⟨dst, .fieldAddr t u f, ty, pos, af, gd⟩ :: rest) D W := k
theorem isDs_load (k : awpD P G N C Sb nb (⟨dst, .load t u, ty, pos, af, gd⟩ :: rest) D W) : awpD P G N C Sb nb (⟨dst, .load t u, ty, pos, af, gd⟩ :: rest) D W := k
theorem isDs_pick (k : awpD P G N C Sb nb (⟨dst, .pick u v w, ty, pos, af, gd⟩ :: rest) D W) : awpD P G N C Sb nb (⟨dst, .pick u v w, ty, pos, af, gd⟩ :: rest) D W := k
theorem isDs_call {c : Call} (k : awpD P G N C Sb nb (⟨dst, .call c, ty, pos, af, gd⟩ :: rest) D W) : awpD P G N C Sb nb (⟨dst, .call c, ty, pos, af, gd⟩ :: rest) D W := k
theorem isD_go {j t : Nat} {want b : Bool} (hE : hasE af.toList j = true) (hDj : D[j]? = some (t, .v (.bool b))) (hb : b = want) (k : awpD P G N C Sb nb (⟨dst, op, ty, pos, af, some (j, want)⟩ :: rest) D W) : awpD P G N C Sb nb (⟨dst, op, ty, pos, af, some (j, want)⟩ :: rest) D W := k
theorem is_alloc (k : awpL P G N ops (⟨dst, .alloc t, ty, pos, af, none⟩ :: rest) Q S L) : awpL P G N ops (⟨dst, .alloc t, ty, pos, af, none⟩ :: rest) Q S L := k
theorem is_box (k : awpL P G N ops (⟨dst, .box t u, ty, pos, af, none⟩ :: rest) Q S L) : awpL P G N ops (⟨dst, .box t u, ty, pos, af, none⟩ :: rest) Q S L := k
end
end Go.Ac
end
section
namespace Go.Ac
section
variable {P : Program} {G : Glo} {N : Nat} {Q : AQ} {S : SL} {L : List LB} {ops : Array Oper} {rest : List Oper} {ty : TypeId} {pos : String} {af : Array Edge} {d : Nat}
theorem OCalls.toP {g : List (Nat × List AV)} {f : FuncId} {args : List AV} {E sz : Nat} {es : List (List AV)} (h : OCalls P g f args E sz es) : PCalls P g f args (.fs sz es.length es) := by
  refine ⟨h.1, fun F w vs st ha => (h.2 F w vs st ha).mono ?_⟩
  rintro e w' ⟨y, c', rfl, hr, st', he, rfl, hφ⟩
  refine ⟨y, allF c', rfl, ?_, st'.freeze, he.toBare⟩
  have := ex_R st' (.os 0 0) y hr
  simpa [ex] using this
theorem St.afterO {c : Cx} (st : St G c L) {c' : Cx} {E sz : Nat} {es : List (List AV)} {y : Value} (hr : R c' (.os 0 0) y) (st' : St (Glo.of G.g) c' [.own 0 E sz es]) (ex : Ext (Cx.bare c.F c.w) c') (hφ : ∀ k, k ≠ 0 → c'.φ k = none) :
    ∃ c2, Stp G c c2 (L ++ [.own 0 E sz es]) ∧ R c2 (.os L.length 0) y ∧ c2.w = c'.w := by
  have hk : ∀ b, b < c.w.heap.size → c'.w.heap[b]? = c.w.heap[b]? := fun b hb => ex.keep b hb (fun h => h) (fun ⟨k, h⟩ => by simp [Cx.bare] at h)
  have hnew : ∀ b, c'.φ 0 = some b → c.w.heap.size ≤ b := by
    intro b hb
    rcases ex.newφ b ⟨0, hb⟩ with ⟨k, h⟩ | h
    · simp [Cx.bare] at h
    · exact h
  have hV : ∀ b, c'.F b → c.F b ∨ c.w.heap.size ≤ b := fun b hF => by
    rcases ex.newF b hF with h2 | ⟨k', h2⟩ | h2
    · exact .inl h2
    · simp [Cx.bare] at h2
    · exact .inr h2
  have hn : ∀ k, c.dom k → k ≠ L.length := fun k hk e => by have := st.n k hk; omega
  let c2 : Cx := { c with F := c'.F, φ := fun k => if k = L.length then c'.φ 0 else c.φ k, ver := fun k => if k = L.length then c'.ver 0 else c.ver k, sz := fun k => if k = L.length then c'.sz 0 else c.sz k,
                          len := fun k => if k = L.length then c'.len 0 else c.len k, dom := fun k => c.dom k ∨ k = L.length, w := c'.w }
  have hs : SubX allp c c2 := by
    refine ⟨ex.F, fun b h => hk b (st.inF b h), fun _ h _ => .inl h, fun k hd _ => ?_, fun k hd _ _ => if_neg (hn k hd), fun k hd _ _ => if_neg (hn k hd), fun k hd _ _ => if_neg (hn k hd), fun k b arr T _ _ _ hb hh => ⟨arr, (hk b (st.loc k b hb).2.2).trans hh, rfl⟩⟩
    show c.ver k ≤ (if k = L.length then c'.ver 0 else c.ver k)
    rw [if_neg (hn k hd)]; exact Nat.le_refl _
  have hφ2 : ∀ {k b}, c2.φ k = some b → (k = L.length ∧ c'.φ 0 = some b) ∨ (k ≠ L.length ∧ c.φ k = some b) := by
    intro k b h
    by_cases e : k = L.length
    · exact .inl ⟨e, by simpa only [c2, if_pos e] using h⟩
    · exact .inr ⟨e, by simpa only [c2, if_neg e] using h⟩
  have hm : Calm c c2 := by
    refine ⟨ex.os, ex.tape, ex.output, ex.size, fun b hb _ => hk b hb, fun b ⟨k, h⟩ => ?_, fun b hF => (hV b hF).imp id .inr⟩
    rcases hφ2 h with ⟨_, h⟩ | ⟨_, h⟩
    · exact .inr (hnew b h)
    · exact .inl ⟨k, h⟩
  have hs' : SubX allp c' c2 ∨ True := .inr trivial
  have hcs : ∀ k, k ≠ L.length → c2.φ k = c.φ k ∧ c2.ver k = c.ver k ∧ c2.sz k = c.sz k ∧ c2.len k = c.len k := fun k e => ⟨if_neg e, if_neg e, if_neg e, if_neg e⟩
  have e0 : c2.φ L.length = c'.φ 0 ∧ c2.ver L.length = c'.ver 0 ∧ c2.sz L.length = c'.sz 0 ∧ c2.len L.length = c'.len 0 := ⟨if_pos rfl, if_pos rfl, if_pos rfl, if_pos rfl⟩
  refine ⟨c2, Stp.mk' hm hs rfl rfl rfl (st.calm hm hs (fun k hk => by simp; rcases hk with hk | hk; have := st.n k hk; omega; omega) (snoc_dm st) rfl rfl rfl st'.inF (fun k b h => ?_) (fun k k' b h h' => ?_) (fun k x hx => ?_) (.inr snoc_pin)) (fun k hk => hk.imp id (fun e => ⟨.own 0 E sz es, by subst e; simp, by simp⟩)), ?_, rfl⟩
  · rcases hφ2 h with ⟨e, h⟩ | ⟨e, h⟩
    · have := st'.loc 0 b h; exact ⟨.inr e, this.2⟩
    · have h1 := st.loc k b h
      refine ⟨.inl h1.1, fun hF => ?_, Nat.lt_of_lt_of_le h1.2.2 ex.size⟩
      rcases hV b hF with h2 | h2
      · exact h1.2.1 h2
      · exact absurd h1.2.2 (Nat.not_lt.2 h2)
  · rcases hφ2 h with ⟨e, h⟩ | ⟨e, h⟩ <;> rcases hφ2 h' with ⟨e', h'⟩ | ⟨e', h'⟩
    · rw [e, e']
    · have := hnew b h; have := (st.loc _ b h').2.2; omega
    · have := hnew b h'; have := (st.loc _ b h).2.2; omega
    · exact st.inj _ _ _ h h'
  · rcases snoc_get hx with ⟨hx, hlt⟩ | ⟨rfl, rfl⟩
    · have hne : k ≠ L.length := by omega
      obtain ⟨q1, q2, q3, q4⟩ := hcs k hne
      exact BR.mono hs hm rfl ⟨q1, q2, q3, q4⟩ (noidB_all x) (fun b hb => hk b (st.loc k b hb).2.2) (st.blk k x hx)
    · have hb := st'.blk 0 _ (show ([LB.own 0 E sz es] : List LB)[0]? = some _ from rfl)
      simp only [BR] at hb ⊢
      obtain ⟨q1, q2, q3, q4⟩ := e0
      rw [q1, q2, q3, q4]
      exact hb
  · simp only [R, OS] at hr ⊢
    obtain ⟨q1, q2, q3, q4⟩ := e0
    rw [q1, q2, q3, q4]
    exact ⟨.inr rfl, hr.2⟩
theorem awpL_ocall {f : FuncId} {us : Array Operand} {ats : Array TypeId} {args : List AV} {E sz k : Nat} {es : List (List AV)} {L' : List LB} (hargs : vals G S us.toList = some args) (hF : args.all isF = true) (h : OCalls P G.g f args E sz es) (hd : Nat.blt d N = true) (hk : L.length = k) (hL : L ++ [.own 0 E sz es] = L')
    (kk : awpL P G N ops rest Q ((d, .os k 0) :: S) L') : awpL P G N ops (⟨some d, .call { callee := .value (.func f), args := us, argTypes := ats }, ty, pos, af, none⟩ :: rest) Q S L := by
  subst hk hL
  intro cx a hc
  have ha := TF_of_TR hF (vals_R hc hargs)
  refine wpListIn_plain rfl fun K hK => wpIn_of_run rfl ?_
  rw [run_call h.1 (o := ⟨some d, .call { callee := .value (.func f), args := us, argTypes := ats }, ty, pos, af, none⟩) rfl a cx.w, Oper.uponIn_enter]
  refine ⟨fun h => by simp at h, CallsIn.mono (h.2 cx.F cx.w (us.map a.eval) hc.st.bare (by simpa using ha)) ?_⟩
  rintro e w' ⟨y, c', rfl, hr, st', ex, rfl, hφ⟩
  obtain ⟨c2, hst, hR, hw⟩ := hc.st.afterO hr st' ex hφ
  rw [← hw]
  exact hK _ _ (wpListIn_mono (fun e a w q => q.trans hst.ext) _ _ _ (kk c2 _ ((hst.cn hc).put hd hR)))
end
end Go.Ac
namespace Go.Ac
theorem ocalls' {P : Program} {N : Nat} {g : List (Nat × List AV)} {td : TDs} [T : TOK P td] {f : FuncId} {fn : Func} {c : Code} {args : List AV} {E sz : Nat} {es : List (List AV)} (hf : P.funcs[f]? = some fn) (hn : fn.ntmps = N) (hb : fn.body = some c) (hN : Nat.ble args.length N = true) (hname : (fn.name == "runtime.NumGoroutine") = false)
    (h : awp P (Glo.of g) N c (retQ td fn.results.toList fun r' L' => ∃ k v, r' = .os k v ∧ L'[k]? = some (.own v E sz es)) (argS 0 args) []) : OCalls P g f args E sz es :=
  ocalls hf hb hn (Nat.le_of_ble_eq_true hN) hname h
end Go.Ac
namespace Go.Ac
section
variable {P : Program} {G : Glo} {N : Nat} {S : SL} {L : List LB} {ty : TypeId}
theorem ev_tdiv {xt yt : TypeId} {u e : Operand} {p q : Int} (h1 : val G S u = some (.v (.int .i64 p))) (h2 : val G S e = some (.v (.int .i64 q)))
    (hr : 0 < q ∧ -9223372036854775808 ≤ p ∧ p ≤ 9223372036854775807) : Ev P G N (.binOp .quo xt u e yt) ty S L (.v (.int .i64 (p.tdiv q))) := by
  intro o ho _ cx a hc
  have e1 := val_R hc h1
  have e2 := val_R hc h2
  simp only [R] at e1 e2
  refine ⟨.int .i64 (p.tdiv q), ?_, by simp only [R]⟩
  simp only [execOp, ho, e1, e2]
  have hq : q ≠ 0 := by omega
  have hb : -9223372036854775808 ≤ p.tdiv q ∧ p.tdiv q ≤ 9223372036854775807 := by
    rcases Int.le_total 0 p with h | h
    · have h3 := Int.ediv_le_self q h
      have h4 : 0 ≤ p / q := Int.ediv_nonneg h (by omega)
      rw [Int.tdiv_eq_ediv_of_nonneg h]; omega
    · have h5 : p.tdiv q = -((-p) / q) := by
        rw [← Int.tdiv_eq_ediv_of_nonneg (by omega), Int.neg_tdiv, Int.neg_neg]
      have h3 := Int.ediv_le_self q (show 0 ≤ -p by omega)
      have h4 : 0 ≤ (-p) / q := Int.ediv_nonneg (by omega) (by omega)
      rw [h5]; omega
  simp [eqGuard, binOp, Op.intDiv, hq]
  rw [wrap_in hb.1 hb.2]
theorem ev_tmod {xt yt : TypeId} {u e : Operand} {p q : Int} (h1 : val G S u = some (.v (.int .i64 p))) (h2 : val G S e = some (.v (.int .i64 q)))
    (hr : 0 < q) : Ev P G N (.binOp .rem xt u e yt) ty S L (.v (.int .i64 (p.tmod q))) := by
  intro o ho _ cx a hc
  have e1 := val_R hc h1
  have e2 := val_R hc h2
  simp only [R] at e1 e2
  refine ⟨.int .i64 (p.tmod q), ?_, by simp only [R]⟩
  simp only [execOp, ho, e1, e2]
  have hq : q ≠ 0 := by omega
  simp [eqGuard, binOp, Op.intDiv, hq]
end
end Go.Ac
namespace Go.Ac
inductive LeA : List AV → List AV → Prop
  | nil : LeA [] []
  | cons {a b : AV} {asv bs : List AV} : Le a b → LeA asv bs → LeA (a :: asv) (b :: bs)
theorem LeA.TF {asv bs : List AV} (h : LeA asv bs) {F : Nat → Prop} {w : World} : ∀ {ys : List Value}, TF F w asv ys → TF F w bs ys := by
  induction h with
  | nil => intro ys h; exact h
  | cons h1 _ ih =>
    intro ys h
    simp only [Ac.TF] at h ⊢
    obtain ⟨y, s, e, hx, h⟩ := h
    exact ⟨y, s, e, h1 F w y hx, ih h⟩
theorem LeA.refl : ∀ asv, LeA asv asv
  | [] => .nil
  | _ :: asv => .cons (Le.of_eq rfl) (LeA.refl asv)
theorem PCalls.args {P : Program} {g : List (Nat × List AV)} {f : FuncId} {asv bs : List AV} {r : AV} (h : PCalls P g f bs r) (hl : LeA asv bs) : PCalls P g f asv r :=
  ⟨h.1, fun F w vs st ha => h.2 F w vs st (hl.TF ha)⟩
theorem OCalls.args {P : Program} {g : List (Nat × List AV)} {f : FuncId} {asv bs : List AV} {E sz : Nat} {es : List (List AV)} (h : OCalls P g f bs E sz es) (hl : LeA asv bs) : OCalls P g f asv E sz es :=
  ⟨h.1, fun F w vs st ha => h.2 F w vs st (hl.TF ha)⟩
abbrev nilS : AV := .v (.slice none 0 0)
end Go.Ac
namespace Go.Ac
section
variable {P : Program} {td : TDs} [T : TOK P td] {G : Glo} {N : Nat} {S : SL} {L : List LB} {ty : TypeId}
theorem ev_eqA {t yt : Nat} {u q : Operand} {cs ds : List AV} {xs ys : List Value} {f : List Value → List Value → Option Bool} {b : Bool} (hE : EqT P t f) (hg : P.eqGuardType P.depth t = false)
    (hu : val G S u = some (.agg cs)) (hq : val G S q = some (.agg ds)) (hx : scalL cs = some xs) (hy : scalL ds = some ys) (hf : f xs ys = some b) : Ev P G N (.binOp .eql t u q yt) ty S L (.v (.bool b)) :=
  ev_eq_agg (neg := false) hE hg hu hq hx hy hf
theorem ev_neA {t yt : Nat} {u q : Operand} {cs ds : List AV} {xs ys : List Value} {f : List Value → List Value → Option Bool} {b : Bool} (hE : EqT P t f) (hg : P.eqGuardType P.depth t = false)
    (hu : val G S u = some (.agg cs)) (hq : val G S q = some (.agg ds)) (hx : scalL cs = some xs) (hy : scalL ds = some ys) (hf : f xs ys = some b) : Ev P G N (.binOp .neq t u q yt) ty S L (.v (.bool !b)) :=
  ev_eq_agg (neg := true) hE hg hu hq hx hy hf
end
end Go.Ac
namespace Go.Ac
theorem LeA.LF {asv bs : List AV} (h : LeA asv bs) {F : Nat → Prop} {w : World} : ∀ {ys : List Value}, LF F w asv ys → LF F w bs ys := by
  induction h with
  | nil => intro ys h; exact h
  | cons h1 _ ih =>
    intro ys h
    simp only [Ac.LF] at h ⊢
    obtain ⟨y, s, e, hx, h2, h⟩ := h
    exact ⟨y, s, e, h1 F w y hx, h2, ih h⟩
theorem Le.agg {asv bs : List AV} (h : LeA asv bs) : Le (.agg asv) (.agg bs) := fun F w y hy => by
  simp only [RF] at hy ⊢
  obtain ⟨xs, e, hy⟩ := hy
  exact ⟨xs, e, h.LF hy⟩
theorem Le.tup {asv bs : List AV} (h : LeA asv bs) : Le (.tup asv) (.tup bs) := fun F w y hy => by
  simp only [RF] at hy ⊢
  obtain ⟨xs, e, hy⟩ := hy
  exact ⟨xs, e, h.TF hy⟩
theorem Le.rfl' (a : AV) : Le a a := fun _ _ _ h => h
end Go.Ac
namespace Go.Ac
theorem retI {td : TDs} {S : SL} {L : List LB} {rs : List ResultVar} {r : AV} {Q : AV → List LB → Prop} (h : resV td S L rs = some r) (hq : Q r L) : retQ td rs Q .ret S L := ⟨r, h, hq⟩
theorem retIn {td : TDs} {S : SL} {L : List LB} {rs : List ResultVar} {r : AV} {Q : AV → List LB → Prop} (h : resV td S L rs = some r) (hq : Q r L) : retQ td rs Q .normal S L := ⟨r, h, hq⟩
end Go.Ac
end
section
namespace Go.Ac
section
variable {P : Program} {G : Glo} {N : Nat} {Q : AQ} {S : SL} {L : List LB}
theorem awp_adoptC {c : Code} (k i E sz : Nat) {n : Nat} {cs : List AV} {L' : List LB} (hk : L[k]? = some (.box cs)) (hi : cs[i]? = some (.v (.slice none 0 0))) (hn : L.length = n) (hL : L.set k (.box (cs.set i (.os n 0))) ++ [.own 0 E sz []] = L')
    (h2 : awp P G N c Q S L') : awp P G N c Q S L := by
  subst hn hL
  intro cx a hc
  have hst := hc.st.nul sz (x := .own 0 E sz []) (by simp [BR, Cx.nul])
  have hkl := lt_of_get hk
  have st2 : St G (cx.nul L.length sz) (L.set k (.box (cs.set i (.os L.length 0))) ++ [.own 0 E sz []]) := by
    have st := hst.st
    have hk2 : (L ++ [LB.own 0 E sz []])[k]? = some (.box cs) := by rw [List.getElem?_append_left hkl]; exact hk
    have hset : L.set k (LB.box (cs.set i (.os L.length 0))) ++ [LB.own 0 E sz []] = (L ++ [LB.own 0 E sz []]).set k (LB.box (cs.set i (.os L.length 0))) := (List.set_append_left _ _ hkl).symm
    rw [hset]
    refine ⟨fun j hj => by rw [List.length_set]; exact st.n j hj, fun j y h hy => ?_, st.inF, st.loc, st.inj, fun j y h => ?_, st.glob, st.envd, st.mkd, st.mkE, st.mks, st.pin.imp (fun h => h) (fun h => set_pin (by rw [hk2]; simp) h)⟩
    · rcases set_get h with ⟨_, h⟩ | ⟨rfl, _, _⟩
      · exact st.dm j y h hy
      · exact st.dm j _ hk2 (by simp)
    · rcases set_get h with ⟨_, h⟩ | ⟨rfl, rfl, _⟩
      · exact st.blk j y h
      · have hb := st.blk j _ hk2
        simp only [BR] at hb ⊢
        obtain ⟨h0, b, arr, T, h1, h2, h3, h4⟩ := hb
        refine ⟨h0, b, arr, T, h1, h2, by rw [List.length_set]; exact h3, MR.mk fun j2 z hz => ?_⟩
        rw [List.getElem?_set] at hz
        split at hz
        · rename_i e
          subst e
          split at hz
          · injection hz with hz; subst hz
            obtain ⟨u, q1, q2, q3⟩ := h4.get hi
            refine ⟨u, q1, ?_, q3⟩
            simp only [R] at q2
            simp only [R, OS, Cx.nul, if_true]
            exact ⟨.inr trivial, Nat.le_refl _, q3, fun _ => .inl ⟨trivial, q2, trivial⟩⟩
          · cases hz
        · exact h4.get hz
  have := h2 (cx.nul L.length sz) a ⟨st2, hc.de, hc.sz, hc.sr.mono_all hst.sub⟩
  exact Code.wpIn_mono (fun e a w q => q.trans hst.ext) this
end
end Go.Ac
namespace Go.Ac
section
variable {P : Program} {G : Glo} {N : Nat} {S : SL} {L : List LB} {op : Op} {ty : TypeId} {x y : AV}
theorem Ev.eq (h : Ev P G N op ty S L x) (e : x = y) : Ev P G N op ty S L y := e ▸ h
theorem ev_tdivE {xt yt : TypeId} {u e : Operand} {p q r : Int} (h1 : val G S u = some (.v (.int .i64 p))) (h2 : val G S e = some (.v (.int .i64 q))) (hr : 0 < q ∧ -9223372036854775808 ≤ p ∧ p ≤ 9223372036854775807) (hq : p.tdiv q = r) :
    Ev P G N (.binOp .quo xt u e yt) ty S L (.v (.int .i64 r)) := hq ▸ ev_tdiv h1 h2 hr
theorem ev_tmodE {xt yt : TypeId} {u e : Operand} {p q r : Int} (h1 : val G S u = some (.v (.int .i64 p))) (h2 : val G S e = some (.v (.int .i64 q))) (hr : 0 < q) (hq : p.tmod q = r) :
    Ev P G N (.binOp .rem xt u e yt) ty S L (.v (.int .i64 r)) := hq ▸ ev_tmod h1 h2 hr
theorem ev_addE {xt yt : TypeId} {u e : Operand} {p q r : Int} (h1 : val G S u = some (.v (.int .i64 p))) (h2 : val G S e = some (.v (.int .i64 q))) (hr : -9223372036854775808 ≤ p + q ∧ p + q ≤ 9223372036854775807) (hq : p + q = r) :
    Ev P G N (.binOp .add xt u e yt) ty S L (.v (.int .i64 r)) := hq ▸ ev_add h1 h2 hr
theorem ev_subE {xt yt : TypeId} {u e : Operand} {p q r : Int} (h1 : val G S u = some (.v (.int .i64 p))) (h2 : val G S e = some (.v (.int .i64 q))) (hr : -9223372036854775808 ≤ p - q ∧ p - q ≤ 9223372036854775807) (hq : p - q = r) :
    Ev P G N (.binOp .sub xt u e yt) ty S L (.v (.int .i64 r)) := hq ▸ ev_sub h1 h2 hr
end
end Go.Ac
namespace Go.Ac
theorem roundN {Q : AQ} {S0 S : SL} {n : Nat} {Lz next L : List LB} (h : Wk (n + 1) S L [] (next ++ [.pin])) : roundQ Q S0 n Lz next .normal S L := h
end Go.Ac
namespace Go.Ac
theorem roundNP {φ : Prop} {Q : AQ} {S0 S : SL} {n : Nat} {Lz next L : List LB} (hφ : φ) (h : Wk (n + 1) S L [] (next ++ [.pin])) : roundQP φ Q S0 n Lz next .normal S L := ⟨hφ, h⟩
theorem roundRP {φ : Prop} {Q : AQ} {S0 S : SL} {n : Nat} {Lz next L : List LB} (L' : List LB) (h : Wk (n + 1) S L [] (L' ++ [.pin])) (hok : okL Lz n L' = true) (hq : Q .ret S0 L') : roundQP φ Q S0 n Lz next .ret S L := ⟨L', h, hok, hq⟩
end Go.Ac
end
section
namespace Go.Ac
section
variable {P : Program} {td : TDs} [T : TOK P td] {G : Glo} {N : Nat} {Q : AQ} {S : SL} {L : List LB} {ty : TypeId} {x : AV}
def bytesL (l : List UInt8) : List (List AV) := l.map fun b => [.v (.int .u8 b.toNat)]
theorem bytesL_len (l : List UInt8) : (bytesL l).length = l.length := List.length_map ..
theorem bytesL_get {l : List UInt8} {j : Nat} (hj : j < l.length) : (bytesL l)[j]? = some [.v (.int .u8 l[j].toNat)] := by
  simp [bytesL, hj]
theorem bts_cells {F : Nat → Prop} {w : World} {l : List UInt8} {b off : Nat} (h : EF F w 1 (bytesL l) b off) : ∀ j (hj : j < l.length), w.cell? ((⟨b, off, none⟩ : Addr).add j) = some (.int .u8 (l[j].toNat : Int)) := by
  intro j hj
  have hplain : (⟨b, off, none⟩ : Addr).add j = ⟨b, off + j, none⟩ := by unfold Addr.add; split <;> simp_all
  obtain ⟨_, hm⟩ := h.get (bytesL_get hj)
  obtain ⟨u, h1, h2, _⟩ := hm.get (i := 0) (x := .v (.int .u8 l[j].toNat)) rfl
  simp only [RF] at h2
  subst h2
  rw [hplain]
  simpa using h1
theorem run_bts {F : Nat → Prop} {w : World} {t1 t2 e : Nat} {d1 d2 ed : TD} {l : List UInt8} {n : Nat} {a : Option Addr} {cap : Nat} (h1 : lk td t1 = some d1) (k1 : d1.k = .slice e) (h2 : lk td t2 = some d2) (k2 : d2.k = .str) (he : lk td e = some ed) (ke : ed.k = .int .u8)
    (hn : n = l.length) (ha : n ≠ 0 → ∃ b off, a = some ⟨b, off, none⟩ ∧ EF F w 1 (bytesL l) b off) : (convert t1 t2 (.slice a n cap)).run P w = .ok (.string ⟨l.toArray⟩) w := by
  have q1 := slice_desc (P := P) h1 k1
  have q2 := str_desc (P := P) h2 k2
  have q3 := int_desc (P := P) he ke
  subst hn
  cases a with
  | none =>
    have : l = [] := by
      cases l with
      | nil => rfl
      | cons b r => obtain ⟨_, _, e, _⟩ := ha (by simp); cases e
    subst this
    rw [run_convert_bytes_string w t1 t2 e none _ cap q1 q3 q2]
    simp [Conv.bytesToString]
    rfl
  | some a =>
    refine Go.run_convert_bytes_back w t1 t2 e a cap l q1 q3 q2 fun j hj => ?_
    obtain ⟨b, off, e1, h⟩ := ha (by omega)
    cases e1
    exact bts_cells h j hj
theorem ev_bts {t1 t2 e n : Nat} {d1 d2 ed : TD} {u : Operand} {l : List UInt8} {es : List (List AV)} {s : ByteArray} (h : val G S u = some (.fs 1 n es)) (h1 : lk td t1 = some d1) (k1 : d1.k = .slice e) (h2 : lk td t2 = some d2) (k2 : d2.k = .str) (he : lk td e = some ed) (ke : ed.k = .int .u8)
    (hes : es = bytesL l) (hs : (⟨l.toArray⟩ : ByteArray) = s) : Ev P G N (.convert t1 t2 u) ty S L (.v (.string s)) := by
  subst hes hs
  intro o ho _ cx a hc
  have e1 := val_R hc h
  simp only [R, RF] at e1
  obtain ⟨hl, ad, cap, ea, hcap, hm⟩ := e1
  refine ⟨.string ⟨l.toArray⟩, ?_, by simp only [R]⟩
  simp only [execOp, ho, ea, Sem.run_bind]
  rw [run_bts (F := cx.F) h1 k1 h2 k2 he ke (by rw [← hl, bytesL_len]) (fun hn => by obtain ⟨b, off, e2, _, h⟩ := hm hn; exact ⟨b, off, e2, h⟩)]
  simp
end
end Go.Ac
namespace Go.Ac
section
variable {P : Program} {G : Glo} {N : Nat} {Q : AQ} {S : SL} {L : List LB}
theorem awp_cut {c y : Code} (n : Nat) (S1 : SL) (L1 : List LB) (h : awp P G N c (thenQ (fun S L => Wk n S L S1 L1) Q) S L) (k : awp P G N y Q S1 L1) : awp P G N c (thenQ (fun S L => awp P G N y Q S L) Q) S L := by
  refine awp_mono (fun e S' L' q => ?_) h
  cases e with
  | normal => exact awp_wk q k
  | ret => exact q
  | _ => exact q
end
end Go.Ac
namespace Go.Ac
section
variable {P : Program} {G : Glo} {N : Nat} {Q : AQ} {S : SL} {L : List LB}
theorem awp_cutB {c y : Code} {id : Nat} (n : Nat) (S1 : SL) (L1 : List LB) (h : awp P G N c (blockQ id (thenQ (fun S L => Wk n S L S1 L1) Q)) S L) (k : awp P G N y Q S1 L1) : awp P G N c (blockQ id (thenQ (fun S L => awp P G N y Q S L) Q)) S L := by
  refine awp_mono (fun e S' L' q => ?_) h
  cases e with
  | normal => exact awp_wk q k
  | exit id' =>
    simp only [blockQ] at q ⊢
    split
    · rename_i e; rw [if_pos e] at q; exact awp_wk q k
    · rename_i e; rw [if_neg e] at q; exact q
  | _ => exact q
end
end Go.Ac
namespace Go.Ac
section
variable {P : Program} {G : Glo} {N : Nat} {Q : AQ} {S : SL} {L : List LB}
theorem awp_cutBP {c y : Code} {id : Nat} (n : Nat) (φ : Prop) (S1 : SL) (L1 : List LB) (h : awp P G N c (blockQ id (thenQ (fun S L => φ ∧ Wk n S L S1 L1) Q)) S L) (k : φ → awp P G N y Q S1 L1) : awp P G N c (blockQ id (thenQ (fun S L => awp P G N y Q S L) Q)) S L := by
  refine awp_mono (fun e S' L' q => ?_) h
  cases e with
  | normal => exact awp_wk q.2 (k q.1)
  | exit id' =>
    simp only [blockQ] at q ⊢
    split
    · rename_i e; rw [if_pos e] at q; exact awp_wk q.2 (k q.1)
    · rename_i e; rw [if_neg e] at q; exact q
  | _ => exact q
end
end Go.Ac
namespace Go.Ac
section
variable {P : Program} {G : Glo} {N : Nat} {Sb D : SL} {rest : List Oper} {op : Op} {ty : TypeId} {pos : String} {af : Array Edge} {dst : Option Tmp} {C : SL → List LB → Prop} {nb : Nat} {W : DW}
theorem isD_kn {j t : Nat} {want b c : Bool} (hDj : D[j]? = some (t, .v (.bool b))) (hb : b = c) (k : awpD P G N C Sb nb (⟨dst, op, ty, pos, af, some (j, want)⟩ :: rest) D W) : awpD P G N C Sb nb (⟨dst, op, ty, pos, af, some (j, want)⟩ :: rest) D W := k
end
end Go.Ac
end
section
namespace Go.Ac
section
variable {F : Fence} {n : Nat} {P : Program} {Q Q' : Exit → Act → World → Prop} (hq : ∀ e a w, e ≠ .normal → Q e a w → Q' e a w)
include hq
theorem uponIn_monoN {o : Oper} {a : Act} {K K' : Act → World → Prop} (hk : ∀ a w, K a w → K' a w) (r : Result Next) (h : o.uponIn F n P a K Q r) : o.uponIn F n P a K' Q' r := by
  cases r with
  | ok x w' =>
    cases x <;> simp only [Oper.uponIn] at h ⊢ <;>
      first
        | exact hk _ _ h
        | exact ⟨h.1, CallsIn.mono h.2 (fun e w'' he => by cases e <;> first | exact hk _ _ he | exact hq _ _ _ (by simp) he | exact (let ⟨a, w, h⟩ := he; ⟨a, w, hq _ _ _ (by simp) h⟩))⟩
        | exact ⟨h.1, RowsIn.mono h.2 (fun _ _ he => hk _ _ he)⟩
        | exact ⟨h.1, RoundIn.mono h.2 (fun e w'' he => by cases e <;> first | exact hk _ _ he | exact hq _ _ _ (by simp) he | exact (let ⟨a, w, h⟩ := he; ⟨a, w, hq _ _ _ (by simp) h⟩))⟩
  | halt x w' => cases x <;> simp only [Oper.uponIn] at h ⊢ <;> exact hq _ _ _ (by simp) h
theorem wpIn_monoN {o : Oper} {a : Act} {w : World} {K K' : Act → World → Prop} (hk : ∀ a w, K a w → K' a w) (h : o.wpIn F n P a w K Q) : o.wpIn F n P a w K' Q' := ⟨h.1, uponIn_monoN hq hk _ h.2⟩
end
def tailOk : Nat → List Oper → Bool
  | _, [] => true
  | i, o :: r => (List.range i).all (hasE o.after.toList) && (o.after.toList.all fun e => !(Region.binds .any e) || Nat.blt e.on i) && tailOk (i + 1) r
theorem tailOk_get : ∀ {l : List Oper} {i k : Nat} {o : Oper}, tailOk i l = true → l[k]? = some o → (∀ m, m < i + k → hasE o.after.toList m = true) ∧ ∀ e ∈ o.after.toList, Region.binds .any e = true → e.on < i + k
  | [], _, k, o, _, h => by simp at h
  | o0 :: r, i, k, o, ht, h => by
    simp only [tailOk, Bool.and_eq_true] at ht
    obtain ⟨⟨h1, h2⟩, h3⟩ := ht
    cases k with
    | zero =>
      simp at h; subst h
      refine ⟨fun m hm => List.all_eq_true.1 h1 m (by simpa using hm), fun e he hb => ?_⟩
      have := List.all_eq_true.1 h2 e he
      simp only [hb, Bool.not_true, Bool.false_or] at this
      simpa using blt_lt this
    | succ k =>
      have := tailOk_get h3 (by simpa using h)
      rw [show i + 1 + k = i + (k + 1) by omega] at this
      exact this
def gdOk (n : Nat) (l : List Oper) : Bool := l.all fun o => match o.guard with
  | some (j, _) => Nat.blt j n
  | none => true
section
variable {F : Fence} {n : Nat} {P : Program} {Q : Exit → Act → World → Prop} {l1 l2 : List Oper}
theorem getD_tf {A : Array Bool} {i : Nat} (h : i < A.size) : A.getD i true = A.getD i false := by
  simp [Array.getD_eq_getD_getElem?, h]
theorem tail_run (ht : tailOk l1.length l2 = true) : ∀ (d k : Nat), d + k = l2.length → ∀ (listed : Array Bool) (a : Act) (w : World), listed.size = (l1 ++ l2).length →
    (∀ i, i < l1.length + k → listed.getD i false = true) → (∀ i, l1.length + k ≤ i → i < (l1 ++ l2).length → listed.getD i false = false) →
    wpListIn F n P (l1 ++ l2).toArray Q (l2.drop k) a w → ∀ fuel, d ≤ fuel → wpAnyIn F n P .any (l1 ++ l2).toArray Q fuel listed a w := by
  intro d
  induction d with
  | zero =>
    intro k hk listed a w hsz h1 h2 h fuel _
    rw [List.drop_of_length_le (by omega)] at h
    have hr : Region.ready .any (l1 ++ l2).toArray listed = [] := by
      cases hq : Region.ready .any (l1 ++ l2).toArray listed with
      | nil => rfl
      | cons i r =>
        have hi : i ∈ Region.ready .any (l1 ++ l2).toArray listed := by rw [hq]; exact List.mem_cons_self ..
        rw [mem_ready] at hi
        obtain ⟨h0, o, ho, _⟩ := hi
        have hil : i < (l1 ++ l2).length := by have := (Array.getElem?_eq_some_iff.1 ho).1; simpa using this
        rw [getD_tf (by omega), h1 i (by simp at hil; omega)] at h0
        cases h0
    cases fuel with
    | zero => exact ⟨hr, h⟩
    | succ f => exact ⟨fun _ => h, fun i hi => by rw [hr] at hi; cases hi⟩
  | succ d ih =>
    intro k hk listed a w hsz h1 h2 h fuel hf
    obtain ⟨f, rfl⟩ : ∃ f, fuel = f + 1 := ⟨fuel - 1, by omega⟩
    obtain ⟨o, ho⟩ : ∃ o, l2[k]? = some o := ⟨_, List.getElem?_eq_getElem (by omega)⟩
    have hgo : (l1 ++ l2).toArray[l1.length + k]? = some o := by rw [List.getElem?_toArray, List.getElem?_append_right (Nat.le_add_right _ _), Nat.add_sub_cancel_left]; exact ho
    have hlt : l1.length + k < (l1 ++ l2).length := by simp; omega
    obtain ⟨t1, t2⟩ := tailOk_get ht ho
    have hme : l1.length + k ∈ Region.ready .any (l1 ++ l2).toArray listed := by
      rw [mem_ready]
      exact ⟨by rw [getD_tf (by omega)]; exact h2 _ (Nat.le_refl _) hlt, o, hgo, fun e he hb => h1 _ (t2 e (by simpa using he) hb)⟩
    refine ⟨fun hr => (by rw [hr] at hme; cases hme), fun i hi => ?_⟩
    have hii : i = l1.length + k := by
      rw [mem_ready] at hi
      obtain ⟨h0, o', ho', haft⟩ := hi
      have hil : i < (l1 ++ l2).length := by have := (Array.getElem?_eq_some_iff.1 ho').1; simpa using this
      rw [getD_tf (by omega)] at h0
      rcases Nat.lt_trichotomy i (l1.length + k) with g | g | g
      · rw [h1 i g] at h0; cases h0
      · exact g
      · obtain ⟨j, rfl⟩ : ∃ j, i = l1.length + j := ⟨i - l1.length, by omega⟩
        have ho2 : l2[j]? = some o' := by rw [List.getElem?_toArray, List.getElem?_append_right (Nat.le_add_right _ _), Nat.add_sub_cancel_left] at ho'; exact ho'
        obtain ⟨e, he, hb, hon⟩ := hasE_spec ((tailOk_get ht ho2).1 (l1.length + k) g)
        have := haft e (by simpa using he) hb
        rw [hon, h2 _ (Nat.le_refl _) hlt] at this
        cases this
    subst hii
    unfold wpOpIn
    simp only [hgo]
    have hd : l2.drop k = o :: l2.drop (k + 1) := by
      obtain ⟨hl, rfl⟩ := List.getElem?_eq_some_iff.1 ho
      exact List.drop_eq_getElem_cons hl
    rw [hd] at h
    have next : ∀ a w, wpListIn F n P (l1 ++ l2).toArray Q (l2.drop (k + 1)) a w → wpAnyIn F n P .any (l1 ++ l2).toArray Q f (listed.setIfInBounds (l1.length + k) true) a w := by
      intro a w h
      refine ih (k + 1) (by omega) _ a w (by simpa using hsz) (fun i hi => ?_) (fun i hi hil => ?_) h f (by omega)
      · by_cases e : l1.length + k = i
        · subst e; simp [Array.getD_eq_getD_getElem?, hsz, hlt]; omega
        · rw [getD_set_ne false e]; exact h1 i (by omega)
      · rw [getD_set_ne false (by omega)]; exact h2 i (by omega) hil
    simp only [wpListIn] at h
    split at h
    · rename_i hw
      rw [if_pos hw]
      exact Oper.wpIn_mono next h
    · rename_i hw
      rw [if_neg hw]
      exact ⟨h.1, next _ _ h.2⟩
theorem body_run {N : Nat} (ht : tailOk l1.length l2 = true) (hg : gdOk l1.length l1 = true) (hk : drawOk N 0 [] l1 = true) {Qt : Exit → Act → World → Prop} (hq : ∀ e a w, e ≠ .normal → Qt e a w → Q e a w)
    (hn : ∀ a w, Qt .normal a w → wpListIn F n P (l1 ++ l2).toArray Q l2 a w) : ∀ (fuel1 : Nat) (listed1 listed : Array Bool) (a : Act) (w : World), listed1.size = l1.length → listed.size = (l1 ++ l2).length →
      (∀ i, i < l1.length → listed.getD i false = listed1.getD i false) → (∀ i, l1.length ≤ i → i < (l1 ++ l2).length → listed.getD i false = false) →
      wpAnyIn F n P .any l1.toArray Qt fuel1 listed1 a w → ∀ fuel, fuel1 + l2.length ≤ fuel → wpAnyIn F n P .any (l1 ++ l2).toArray Q fuel listed a w := by
  have back : ∀ (i : Nat) (o : Oper), l1[i]? = some o → ∀ e ∈ o.after.toList, Region.binds .any e = true → e.on < i := fun i o ho e he hb => by
    have := (drawOk_spec hk i o ho).2 e (by simpa using he) hb
    omega
  intro fuel1
  induction fuel1 with
  | zero =>
    intro listed1 listed a w hs1 hs heq hfa h fuel hf
    have all : ∀ i, i < l1.length → listed1.getD i false = true := by
      intro i
      induction i using Nat.strongRecOn with
      | _ i ih =>
        intro hi
        cases hl : listed1.getD i false with
        | true => rfl
        | false =>
          have : i ∈ Region.ready .any l1.toArray listed1 := by
            rw [mem_ready]
            refine ⟨by rw [getD_tf (by omega)]; exact hl, l1[i], by simp [hi], fun e he hb => ?_⟩
            have := back i _ (List.getElem?_eq_getElem hi) e (by simpa using he) hb
            exact ih e.on this (by omega)
          rw [h.1] at this; cases this
    exact tail_run ht l2.length 0 (by omega) listed a w hs (fun i hi => by rw [heq i (by omega)]; exact all i (by omega)) (fun i hi hil => hfa i (by omega) hil) (hn a w h.2) fuel (by omega)
  | succ f1 ih =>
    intro listed1 listed a w hs1 hs heq hfa h fuel hf
    by_cases hr : Region.ready .any l1.toArray listed1 = []
    · have all : ∀ i, i < l1.length → listed1.getD i false = true := by
        intro i
        induction i using Nat.strongRecOn with
        | _ i ih =>
          intro hi
          cases hl : listed1.getD i false with
          | true => rfl
          | false =>
            have : i ∈ Region.ready .any l1.toArray listed1 := by
              rw [mem_ready]
              refine ⟨by rw [getD_tf (by omega)]; exact hl, l1[i], by simp [hi], fun e he hb => ?_⟩
              have := back i _ (List.getElem?_eq_getElem hi) e (by simpa using he) hb
              exact ih e.on this (by omega)
            rw [hr] at this; cases this
      exact tail_run ht l2.length 0 (by omega) listed a w hs (fun i hi => by rw [heq i (by omega)]; exact all i (by omega)) (fun i hi hil => hfa i (by omega) hil) (hn a w (h.1 hr)) fuel (by omega)
    · obtain ⟨f, rfl⟩ : ∃ f, fuel = f + 1 := ⟨fuel - 1, by omega⟩
      obtain ⟨i0, hi0⟩ := List.exists_mem_of_ne_nil _ hr
      have hi0' := hi0
      rw [mem_ready] at hi0'
      obtain ⟨z0, o0, zo, za⟩ := hi0'
      have hl0 : i0 < l1.length := by have := (Array.getElem?_eq_some_iff.1 zo).1; simpa using this
      rw [getD_tf (by omega)] at z0
      have up : ∀ i, i ∈ Region.ready .any (l1 ++ l2).toArray listed ↔ i ∈ Region.ready .any l1.toArray listed1 := by
        intro i
        rw [mem_ready, mem_ready]
        constructor
        · rintro ⟨h0, o, ho, haft⟩
          have hil : i < (l1 ++ l2).length := by have := (Array.getElem?_eq_some_iff.1 ho).1; simpa using this
          rw [getD_tf (by omega)] at h0
          rcases Nat.lt_or_ge i l1.length with g | g
          · have ho1 : l1[i]? = some o := by rw [List.getElem?_toArray, List.getElem?_append_left g] at ho; exact ho
            refine ⟨by rw [getD_tf (by omega), ← heq i g]; exact h0, o, by simpa using ho1, fun e he hb => ?_⟩
            have := back i o ho1 e (by simpa using he) hb
            rw [← heq _ (by omega)]; exact haft e he hb
          · exfalso
            obtain ⟨j, rfl⟩ : ∃ j, i = l1.length + j := ⟨i - l1.length, by omega⟩
            have ho2 : l2[j]? = some o := by rw [List.getElem?_toArray, List.getElem?_append_right (Nat.le_add_right _ _), Nat.add_sub_cancel_left] at ho; exact ho
            obtain ⟨e, he, hb, hon⟩ := hasE_spec ((tailOk_get ht ho2).1 i0 (by omega))
            have := haft e (by simpa using he) hb
            rw [hon, heq i0 hl0, z0] at this
            cases this
        · rintro ⟨h0, o, ho, haft⟩
          have g : i < l1.length := by have := (Array.getElem?_eq_some_iff.1 ho).1; simpa using this
          have ho1 : l1[i]? = some o := by simpa using ho
          rw [getD_tf (by omega)] at h0
          refine ⟨by rw [getD_tf (by simp at hs; omega), heq i g]; exact h0, o, by rw [List.getElem?_toArray, List.getElem?_append_left g]; exact ho1, fun e he hb => ?_⟩
          have := back i o ho1 e (by simpa using he) hb
          rw [heq _ (by omega)]; exact haft e he hb
      refine ⟨fun hr2 => ?_, fun i hi => ?_⟩
      · have := (up i0).2 hi0
        rw [hr2] at this; cases this
      · have hi1 := (up i).1 hi
        have hw := h.2 i hi1
        rw [mem_ready] at hi1
        obtain ⟨h0, o, ho, haft⟩ := hi1
        have g : i < l1.length := by have := (Array.getElem?_eq_some_iff.1 ho).1; simpa using this
        have ho1 : l1[i]? = some o := by simpa using ho
        have hoc : (l1 ++ l2).toArray[i]? = some o := by rw [List.getElem?_toArray, List.getElem?_append_left g]; exact ho1
        unfold wpOpIn at hw ⊢
        simp only [ho, hoc] at hw ⊢
        have hwant : Region.wanted o (yielded (l1 ++ l2).toArray a.tmps) = Region.wanted o (yielded l1.toArray a.tmps) := by
          unfold Region.wanted
          have hgo := List.all_eq_true.1 hg o (List.mem_of_getElem? ho1)
          split
          · rfl
          · rename_i j want he
            rw [he] at hgo
            have hj := blt_lt hgo
            have : yielded (l1 ++ l2).toArray a.tmps j = yielded l1.toArray a.tmps j := by
              unfold yielded
              rw [List.getElem?_toArray, List.getElem?_toArray, List.getElem?_append_left hj]
            rw [this]
        rw [hwant]
        have next : ∀ a w, wpAnyIn F n P .any l1.toArray Qt f1 (listed1.setIfInBounds i true) a w → wpAnyIn F n P .any (l1 ++ l2).toArray Q f (listed.setIfInBounds i true) a w := by
          intro a w h
          refine ih _ _ a w (by simpa using hs1) (by simpa using hs) (fun j hj => ?_) (fun j hj hjl => ?_) h f (by omega)
          · by_cases e : i = j
            · subst e
              have : i < listed.size := by simp at hs; omega
              simp [Array.getD_eq_getD_getElem?, hs1, g, this]
            · rw [getD_set_ne false e, getD_set_ne false e]; exact heq j hj
          · rw [getD_set_ne false (by omega)]; exact hfa j hj hjl
        split at hw
        · rename_i hq2
          rw [if_pos hq2]
          exact wpIn_monoN hq next hw
        · rename_i hq2
          rw [if_neg hq2]
          exact ⟨hw.1, next _ _ hw.2⟩
end
section
variable {P : Program} {td : TDs} [T : TOK P td] {G : Glo} {N : Nat} {Q : AQ} {S Sb : SL} {L : List LB} {l l1 l2 : List Oper}
theorem awp_drawT (n : Nat) {id : Nat} {ds : List Nat} (h1 : l.take n = l1) (h2 : l.drop n = l2) (hm : P.follows .mixedOrders = true) (hk : drawOk N 0 [] l1 = true) (ht : tailOk l1.length l2 = true) (hg : gdOk l1.length l1 = true) (hds : dsts l1 = ds) (hS : Strip ds S Sb)
    (h : awpD P G N (fun S' L' => awpL P G N l.toArray l2 Q S' L') Sb L.length l1 [] ⟨L, [], [], false⟩) : awp P G N (.region id l.toArray true) Q S L := by
  have hl : l = l1 ++ l2 := by rw [← h1, ← h2, List.take_append_drop]
  subst hl
  clear h1 h2
  have hb : (Sb.all fun p => !(l1.any fun o => match o.dst with | some d => Nat.beq d p.1 | none => false)) = true := by
    rw [List.all_eq_true]
    rintro ⟨t, x⟩ hp
    have hm := strip_keep hS t x hp
    rw [Bool.not_eq_true', List.any_eq_false]
    intro o ho
    cases hd : o.dst with
    | none => simp
    | some d =>
      have hdm : d ∈ ds := by rw [← hds]; exact List.mem_filterMap.2 ⟨o, ho, hd⟩
      simp only [Bool.not_eq_true]
      cases he : Nat.beq d t with
      | false => rfl
      | true =>
        have := Nat.eq_of_beq_eq_true he
        subst this
        rw [memN_of hdm] at hm; cases hm
  intro cx a hc
  refine wpIn_region_any hm ?_
  have hA := draw_any (Q := thenQ (fun S' L' => awpL P G N (l1 ++ l2).toArray l2 Q S' L') Q) hk (fun t x hx => (hS.get t x hx).1) hb h cx a hc
  refine body_run ht hg hk (Qt := conc G N (thenQ (fun S' L' => awpL P G N (l1 ++ l2).toArray l2 Q S' L') Q) cx) (fun e a w hne q => ?_) (fun a w q => ?_) _ _ _ _ _ (by simp) (by simp) (fun i hi => ?_) (fun i hi hil => ?_) hA _ (by simp)
  · obtain ⟨S', L', c', q1, q2, q3, q4⟩ := q
    refine ⟨S', L', c', ?_, q2, q3, q4⟩
    cases e with
    | normal => exact absurd rfl hne
    | _ => exact q1
  · obtain ⟨S', L', c', q1, q2, q3, q4⟩ := q
    subst q4
    exact wpListIn_mono (fun e a w r => r.trans q3) _ _ _ (q1 c' a q2)
  · have hi2 : i < l1.length + l2.length := by omega
    simp [Array.getD_eq_getD_getElem?, hi, hi2]
  · simp at hil
    simp [Array.getD_eq_getD_getElem?, hil]
end
end Go.Ac
end
section
namespace Go.Ac
inductive Mut : List Nat → Prop
  | of (M : List Nat) : Mut M
section
variable {P : Program} {td : TDs} [T : TOK P td] {G : Glo} {N : Nat} {Q : AQ} {S : SL} {L : List LB} {ops : Array Oper} {rest : List Oper} {ty : TypeId} {pos : String} {af : Array Edge} {d : Nat} {x : AV}
theorem awpL_boxMm {M : List Nat} (m : Mut M) {t : TypeId} {u : Operand} (hm : notIn d M = true) (h : val G S u = some x) (hf : fit x = true) (hF : (cellsOf x).all isF = true) {x' : AV} (hx : AV.fp (cellsOf x) = x') (hd : Nat.blt d N = true)
    (k : awpL P G N ops rest Q ((d, x') :: S) L) : awpL P G N ops (⟨some d, .box t u, ty, pos, af, none⟩ :: rest) Q S L := awpL_boxM M hm h hf hF hx hd k
theorem awpL_stMm {M : List Nat} (m : Mut M) {t p : Nat} {d : TD} {e : Operand} {k : Nat} {bs : List AV} {L' : List LB} (hm : notIn p M = true) (h : get S p = some (.lp k 0)) (hk : L[k]? = some (.box bs)) (he : val G S e = some x) (hfx : fit x = true) (hF : (cellsOf x).all isF = true) (ht : lk td t = some d)
    (hn : (cellsOf x).length = d.size) (hq : bs.length = d.size) {x' : AV} (hx : AV.fp (cellsOf x) = x') (hL : L.set k .dead = L') (kk : awpL P G N ops rest Q ((p, x') :: S) L') : awpL P G N ops (⟨none, .store t (.tmp p) e, ty, pos, af, none⟩ :: rest) Q S L := awpL_stM M hm h hk he hfx hF ht hn hq hx hL kk
end
structure Left (B : Prop) : Prop where
  out : B
theorem run (M : List Nat) {A B : Prop} (k : B) (h : Mut M → Left B → A := by
    intro m k
    repeat' (first
     | ((with_reducible refine is_un ?_); (first | ((with_reducible refine is_move ?_); (first | refine awpL_ev (ev_move rfl) rfl ?_ | fail)) | ((with_reducible refine is_bin ?_); (first | refine awpL_ev (ev_add rfl rfl (by omega)) rfl ?_ | refine awpL_ev (ev_sub rfl rfl (by omega)) rfl ?_ | refine awpL_ev (ev_bin rfl rfl rfl) rfl ?_ | refine awpL_ev (ev_eq_bool rfl rfl rfl rfl) rfl ?_ | fail)) | ((with_reducible refine is_fa ?_); (first | refine awpL_ev (ev_fa_fp rfl rfl rfl rfl rfl rfl) rfl ?_ | refine awpL_ev (ev_fa_lp rfl rfl rfl rfl rfl rfl rfl) rfl ?_ | refine awpL_ev (ev_fa_ep rfl rfl rfl rfl rfl rfl rfl) rfl ?_ | fail)) | ((with_reducible refine is_load ?_); (first | refine awpL_ev (ev_load_agg rfl rfl rfl rfl) rfl ?_ | refine awpL_ev (ev_load_sub rfl rfl rfl rfl rfl) rfl ?_ | refine awpL_ev (ev_load_one rfl rfl rfl rfl) rfl ?_ | refine awpL_ev (ev_ll_agg rfl rfl rfl rfl rfl rfl rfl) rfl ?_ | refine awpL_ev (ev_ll_lag rfl rfl rfl rfl rfl rfl) rfl ?_ | refine awpL_ev (ev_ll_one rfl rfl rfl rfl rfl) rfl ?_ | refine awpL_ev (ev_el_one rfl rfl rfl rfl (by with_reducible assumption) rfl) rfl ?_ | fail)) | ((with_reducible refine is_pick ?_); (first | refine awpL_ev (ev_pick_t rfl (by first | with_reducible rfl | with_reducible assumption) rfl) rfl ?_ | refine awpL_ev (ev_pick_f rfl (by first | with_reducible rfl | with_reducible assumption) rfl) rfl ?_ | fail)) | ((with_reducible refine is_assign ?_); (first | refine awpL_ev (ev_assign rfl) rfl ?_ | fail)) | ((with_reducible refine is_call ?_); (first | refine awpL_call rfl rfl (by assumption) rfl ?_ | refine awpL_ev (ev_len rfl rfl rfl rfl rfl) rfl ?_ | refine awpL_ev (ev_max rfl rfl) rfl ?_ | refine awpL_ev (ev_min rfl rfl) rfl ?_ | refine awpL_ev (ev_len_os rfl rfl rfl rfl rfl) rfl ?_ | refine awpL_ev2 (ev_append_zf rfl rfl rfl rfl rfl rfl rfl rfl rfl rfl rfl rfl rfl (by simp only [List.length_map, List.length_cons, List.length_nil]; omega) rfl) rfl ?_ | fail)) | ((with_reducible refine is_store ?_); (first | refine awpL_stMm m rfl rfl rfl rfl rfl rfl rfl rfl rfl (by (try simp only [cellsOf, List.map_cons, List.map_nil]); (try rfl)) (by (try simp only [List.set_cons_zero, List.set_cons_succ, List.nil_append, List.cons_append, List.append_nil, cellsOf, List.take_zero, List.drop_zero, List.take_succ_cons, List.drop_succ_cons, Nat.zero_add, Nat.reduceAdd, List.drop_nil, List.map_cons, List.map_nil]); (try rfl)) ?_ | refine awpL_evS (ev_st_lp rfl rfl rfl rfl rfl rfl rfl (by (try simp only [List.set_cons_zero, List.set_cons_succ, List.nil_append, List.cons_append, List.append_nil, cellsOf, List.take_zero, List.drop_zero, List.take_succ_cons, List.drop_succ_cons, Nat.zero_add, Nat.reduceAdd, List.drop_nil, List.map_cons, List.map_nil]); (try rfl))) ?_ | fail)) | ((with_reducible refine is_alloc ?_); (first | refine awpL_ev2 (ev_alloc rfl rfl (by (try simp only [List.length_nil, List.length_cons, Nat.reduceAdd]); (try rfl)) (by (try simp only [List.set_cons_zero, List.set_cons_succ, List.nil_append, List.cons_append, List.append_nil, cellsOf, List.take_zero, List.drop_zero, List.take_succ_cons, List.drop_succ_cons, Nat.zero_add, Nat.reduceAdd, List.drop_nil, List.map_cons, List.map_nil]); (try rfl))) rfl ?_ | fail)) | ((with_reducible refine is_box ?_); (first | refine awpL_boxMm m rfl rfl rfl rfl (by (try simp only [cellsOf, List.map_cons, List.map_nil]); (try rfl)) rfl ?_ | refine awpL_ev2 (ev_box rfl rfl (by (try simp only [List.length_nil, List.length_cons, Nat.reduceAdd]); (try rfl)) (by (try simp only [List.set_cons_zero, List.set_cons_succ, List.nil_append, List.cons_append, List.append_nil, cellsOf, List.take_zero, List.drop_zero, List.take_succ_cons, List.drop_succ_cons, Nat.zero_add, Nat.reduceAdd, List.drop_nil, List.map_cons, List.map_nil]); (try rfl))) rfl ?_ | fail)) | refine awpL_ev (ev_ia_fs rfl rfl rfl rfl rfl rfl (by with_reducible assumption)) rfl ?_ | refine awpL_ev (ev_not rfl) rfl ?_ | refine awpL_ev (ev_extract rfl rfl) rfl ?_ | refine awpL_ev (ev_index_str rfl rfl rfl rfl (by with_reducible assumption)) rfl ?_ | refine awpL_ev (ev_build rfl rfl rfl rfl rfl rfl rfl) rfl ?_ | refine awpL_ev (ev_slice_fs rfl rfl rfl rfl rfl rfl rfl (by with_reducible assumption) rfl rfl) rfl ?_ | refine awpL_ev (ev_makeFunc rfl rfl) rfl ?_ | refine awpL_ev (ev_nilCheck_fp rfl) rfl ?_ | refine awpL_ev (ev_index_arr rfl rfl rfl rfl rfl rfl rfl (by with_reducible assumption)) rfl ?_ | refine awpL_ev (ev_ia_os rfl rfl rfl rfl rfl rfl rfl (by with_reducible assumption)) rfl ?_ | refine awpL_ev (ev_build_lag rfl rfl rfl rfl rfl rfl) rfl ?_ | refine awpL_ev (ev_nilCheck_lp rfl rfl) rfl ?_ | refine awpL_ev2 (ev_bslice_z rfl rfl rfl rfl rfl rfl rfl) rfl ?_ | refine awpL_ev2 (ev_bslice_in rfl rfl rfl rfl rfl rfl rfl rfl rfl rfl rfl rfl (by (try simp only [List.map_cons, List.map_nil, cellsOf]); (try rfl))) rfl ?_))
     | ((with_reducible refine is_gd ?_); (first | refine awpL_run rfl rfl rfl (by first | with_reducible rfl | with_reducible assumption) ?_ | refine awpL_passT rfl rfl rfl rfl (by first | with_reducible rfl | with_reducible assumption) ?_ | refine awpL_passF rfl rfl rfl rfl (by first | with_reducible rfl | with_reducible assumption) ?_ | refine awpL_passU rfl rfl rfl rfl ?_ | fail))
     | ((with_reducible refine is_nil ?_); refine awpL_nil ?_)
     | ((with_reducible refine is_then ?_); (first | refine thenQ_n ?_ | refine thenQ_r ?_ | refine thenQ_e ?_ | fail))
     | ((with_reducible refine is_block ?_); (first | refine blockQ_n ?_ | refine blockQ_r ?_ | refine blockQ_e ?_ | refine blockQ_o rfl ?_ | fail))
     | ((with_reducible refine is_draw ?_); (first | refine awp_drawA (by kernel_rfl) rfl rfl (by repeat' (first | exact Strip.nil | apply Strip.keep rfl | apply Strip.drop rfl)) ?_ | fail))
     | ((with_reducible refine isD_un ?_); (first | ((with_reducible refine isD_st ?_); refine awpD_sS rfl (by (try simp only [List.set_cons_zero, List.set_cons_succ, List.nil_append, List.cons_append, List.append_nil, cellsOf, List.take_zero, List.drop_zero, List.take_succ_cons, List.drop_succ_cons, Nat.zero_add, Nat.reduceAdd, List.drop_nil, List.map_cons, List.map_nil]); (try rfl)) (ev_st_lp rfl rfl rfl rfl rfl rfl rfl (by (try simp only [List.set_cons_zero, List.set_cons_succ, List.nil_append, List.cons_append, List.append_nil, cellsOf, List.take_zero, List.drop_zero, List.take_succ_cons, List.drop_succ_cons, Nat.zero_add, Nat.reduceAdd, List.drop_nil, List.map_cons, List.map_nil]); (try rfl))) rfl (by (try simp only [List.nil_append, List.cons_append]); (try rfl)) ?_) | ((with_reducible refine isD_al ?_); refine awpD_nw rfl (by repeat' (first | exact Msk.nil | apply Msk.base | apply Msk.vis rfl | apply Msk.hid rfl)) (ev_alloc rfl rfl (by (try simp only [List.length_nil, List.length_cons, Nat.reduceAdd]); (try rfl)) (by (try simp only [List.set_cons_zero, List.set_cons_succ, List.nil_append, List.cons_append, List.append_nil, cellsOf, List.take_zero, List.drop_zero, List.take_succ_cons, List.drop_succ_cons, Nat.zero_add, Nat.reduceAdd, List.drop_nil, List.map_cons, List.map_nil]); (try rfl))) rfl rfl rfl rfl rfl (by (try simp only [List.set_cons_zero, List.set_cons_succ, List.nil_append, List.cons_append, List.append_nil, cellsOf, List.take_zero, List.drop_zero, List.take_succ_cons, List.drop_succ_cons, Nat.zero_add, Nat.reduceAdd, List.drop_nil, List.map_cons, List.map_nil]); (try rfl)) (by (try simp only [List.nil_append, List.cons_append]); (try rfl)) ?_) | ((with_reducible refine isDs_move ?_); (first | refine awpD_un (as_ev (fun _ => ev_move rfl) rfl rfl) (by (try simp only [List.nil_append, List.cons_append]); (try rfl)) ?_ | fail)) | ((with_reducible refine isDs_bin ?_); (first | refine awpD_un (as_ev (fun _ => ev_add rfl rfl (by omega)) rfl rfl) (by (try simp only [List.nil_append, List.cons_append]); (try rfl)) ?_ | refine awpD_un (as_ev (fun _ => ev_sub rfl rfl (by omega)) rfl rfl) (by (try simp only [List.nil_append, List.cons_append]); (try rfl)) ?_ | refine awpD_un (as_ev (fun _ => ev_bin rfl rfl rfl) rfl rfl) (by (try simp only [List.nil_append, List.cons_append]); (try rfl)) ?_ | refine awpD_un (as_ev (fun _ => ev_eq_bool rfl rfl rfl rfl) rfl rfl) (by (try simp only [List.nil_append, List.cons_append]); (try rfl)) ?_ | fail)) | ((with_reducible refine isDs_fa ?_); (first | refine awpD_un (as_ev (fun _ => ev_fa_fp rfl rfl rfl rfl rfl rfl) rfl rfl) (by (try simp only [List.nil_append, List.cons_append]); (try rfl)) ?_ | refine awpD_un (as_pure rfl (by repeat' (first | exact Msk.nil | apply Msk.base | apply Msk.vis rfl | apply Msk.hid rfl)) (ev_fa_lp rfl rfl rfl rfl rfl rfl rfl) rfl rfl rfl) (by (try simp only [List.nil_append, List.cons_append]); (try rfl)) ?_ | refine awpD_un (as_pure rfl (by repeat' (first | exact Msk.nil | apply Msk.base | apply Msk.vis rfl | apply Msk.hid rfl)) (ev_fa_ep rfl rfl rfl rfl rfl rfl rfl) rfl rfl rfl) (by (try simp only [List.nil_append, List.cons_append]); (try rfl)) ?_ | fail)) | ((with_reducible refine isDs_load ?_); (first | refine awpD_un (as_ev (fun _ => ev_load_agg rfl rfl rfl rfl) rfl rfl) (by (try simp only [List.nil_append, List.cons_append]); (try rfl)) ?_ | refine awpD_un (as_ev (fun _ => ev_load_sub rfl rfl rfl rfl rfl) rfl rfl) (by (try simp only [List.nil_append, List.cons_append]); (try rfl)) ?_ | refine awpD_un (as_ev (fun _ => ev_load_one rfl rfl rfl rfl) rfl rfl) (by (try simp only [List.nil_append, List.cons_append]); (try rfl)) ?_ | refine awpD_un (as_pure rfl (by repeat' (first | exact Msk.nil | apply Msk.base | apply Msk.vis rfl | apply Msk.hid rfl)) (ev_ll_agg rfl rfl rfl rfl rfl rfl rfl) rfl rfl rfl) (by (try simp only [List.nil_append, List.cons_append]); (try rfl)) ?_ | refine awpD_un (as_pure rfl (by repeat' (first | exact Msk.nil | apply Msk.base | apply Msk.vis rfl | apply Msk.hid rfl)) (ev_ll_lag rfl rfl rfl rfl rfl rfl) rfl rfl rfl) (by (try simp only [List.nil_append, List.cons_append]); (try rfl)) ?_ | refine awpD_un (as_pure rfl (by repeat' (first | exact Msk.nil | apply Msk.base | apply Msk.vis rfl | apply Msk.hid rfl)) (ev_ll_one rfl rfl rfl rfl rfl) rfl rfl rfl) (by (try simp only [List.nil_append, List.cons_append]); (try rfl)) ?_ | refine awpD_un (as_pure rfl (by repeat' (first | exact Msk.nil | apply Msk.base | apply Msk.vis rfl | apply Msk.hid rfl)) (ev_el_one rfl rfl rfl rfl (by with_reducible assumption) rfl) rfl rfl rfl) (by (try simp only [List.nil_append, List.cons_append]); (try rfl)) ?_ | fail)) | ((with_reducible refine isDs_pick ?_); (first | refine awpD_un (as_ev (fun _ => ev_pick_t rfl (by first | with_reducible rfl | with_reducible assumption) rfl) rfl rfl) (by (try simp only [List.nil_append, List.cons_append]); (try rfl)) ?_ | refine awpD_un (as_ev (fun _ => ev_pick_f rfl (by first | with_reducible rfl | with_reducible assumption) rfl) rfl rfl) (by (try simp only [List.nil_append, List.cons_append]); (try rfl)) ?_ | fail)) | ((with_reducible refine isDs_assign ?_); (first | refine awpD_un (as_ev (fun _ => ev_assign rfl) rfl rfl) (by (try simp only [List.nil_append, List.cons_append]); (try rfl)) ?_ | fail)) | ((with_reducible refine isDs_call ?_); (first | refine awpD_un (as_call rfl rfl (by assumption) rfl) (by (try simp only [List.nil_append, List.cons_append]); (try rfl)) ?_ | refine awpD_un (as_ev (fun _ => ev_len rfl rfl rfl rfl rfl) rfl rfl) (by (try simp only [List.nil_append, List.cons_append]); (try rfl)) ?_ | refine awpD_un (as_ev (fun _ => ev_max rfl rfl) rfl rfl) (by (try simp only [List.nil_append, List.cons_append]); (try rfl)) ?_ | refine awpD_un (as_ev (fun _ => ev_min rfl rfl) rfl rfl) (by (try simp only [List.nil_append, List.cons_append]); (try rfl)) ?_ | refine awpD_un (as_pure rfl (by repeat' (first | exact Msk.nil | apply Msk.base | apply Msk.vis rfl | apply Msk.hid rfl)) (ev_len_os rfl rfl rfl rfl rfl) rfl rfl rfl) (by (try simp only [List.nil_append, List.cons_append]); (try rfl)) ?_ | refine awpD_un (as_ev2 (fun _ => ev_append_zf rfl rfl rfl rfl rfl rfl rfl rfl rfl rfl rfl rfl rfl (by simp only [List.length_map, List.length_cons, List.length_nil]; omega) rfl) rfl rfl) (by (try simp only [List.nil_append, List.cons_append]); (try rfl)) ?_ | fail)) | refine awpD_un (as_ev (fun _ => ev_ia_fs rfl rfl rfl rfl rfl rfl (by with_reducible assumption)) rfl rfl) (by (try simp only [List.nil_append, List.cons_append]); (try rfl)) ?_ | refine awpD_un (as_ev (fun _ => ev_not rfl) rfl rfl) (by (try simp only [List.nil_append, List.cons_append]); (try rfl)) ?_ | refine awpD_un (as_ev (fun _ => ev_extract rfl rfl) rfl rfl) (by (try simp only [List.nil_append, List.cons_append]); (try rfl)) ?_ | refine awpD_un (as_ev (fun _ => ev_index_str rfl rfl rfl rfl (by with_reducible assumption)) rfl rfl) (by (try simp only [List.nil_append, List.cons_append]); (try rfl)) ?_ | refine awpD_un (as_ev (fun _ => ev_build rfl rfl rfl rfl rfl rfl rfl) rfl rfl) (by (try simp only [List.nil_append, List.cons_append]); (try rfl)) ?_ | refine awpD_un (as_ev (fun _ => ev_slice_fs rfl rfl rfl rfl rfl rfl rfl (by with_reducible assumption) rfl rfl) rfl rfl) (by (try simp only [List.nil_append, List.cons_append]); (try rfl)) ?_ | refine awpD_un (as_ev (fun _ => ev_makeFunc rfl rfl) rfl rfl) (by (try simp only [List.nil_append, List.cons_append]); (try rfl)) ?_ | refine awpD_un (as_ev (fun _ => ev_nilCheck_fp rfl) rfl rfl) (by (try simp only [List.nil_append, List.cons_append]); (try rfl)) ?_ | refine awpD_un (as_ev (fun _ => ev_index_arr rfl rfl rfl rfl rfl rfl rfl (by with_reducible assumption)) rfl rfl) (by (try simp only [List.nil_append, List.cons_append]); (try rfl)) ?_ | refine awpD_un (as_pure rfl (by repeat' (first | exact Msk.nil | apply Msk.base | apply Msk.vis rfl | apply Msk.hid rfl)) (ev_ia_os rfl rfl rfl rfl rfl rfl rfl (by with_reducible assumption)) rfl rfl rfl) (by (try simp only [List.nil_append, List.cons_append]); (try rfl)) ?_ | refine awpD_un (as_pure rfl (by repeat' (first | exact Msk.nil | apply Msk.base | apply Msk.vis rfl | apply Msk.hid rfl)) (ev_build_lag rfl rfl rfl rfl rfl rfl) rfl rfl rfl) (by (try simp only [List.nil_append, List.cons_append]); (try rfl)) ?_ | refine awpD_un (as_pure rfl (by repeat' (first | exact Msk.nil | apply Msk.base | apply Msk.vis rfl | apply Msk.hid rfl)) (ev_nilCheck_lp rfl rfl) rfl rfl rfl) (by (try simp only [List.nil_append, List.cons_append]); (try rfl)) ?_ | refine awpD_un (as_ev2 (fun _ => ev_bslice_z rfl rfl rfl rfl rfl rfl rfl) rfl rfl) (by (try simp only [List.nil_append, List.cons_append]); (try rfl)) ?_ | refine awpD_un (as_ev2 (fun _ => ev_bslice_in rfl rfl rfl rfl rfl rfl rfl rfl rfl rfl rfl rfl (by (try simp only [List.map_cons, List.map_nil, cellsOf]); (try rfl))) rfl rfl) (by (try simp only [List.nil_append, List.cons_append]); (try rfl)) ?_ | fail))
     | ((with_reducible refine isD_gd ?_); (first | refine awpD_pT rfl rfl (by first | with_reducible rfl | with_reducible assumption) (by (try simp only [List.nil_append, List.cons_append]); (try rfl)) ?_ | refine awpD_pF rfl rfl (by first | with_reducible rfl | with_reducible assumption) (by (try simp only [List.nil_append, List.cons_append]); (try rfl)) ?_ | refine awpD_pU rfl rfl (by (try simp only [List.nil_append, List.cons_append]); (try rfl)) ?_ | (refine isD_go rfl rfl (by first | with_reducible rfl | with_reducible assumption) ?_; (first | ((with_reducible refine isDs_move ?_); (first | refine awpD_gd rfl rfl (by first | with_reducible rfl | with_reducible assumption) (as_ev (fun _ => ev_move rfl) rfl rfl) (by (try simp only [List.nil_append, List.cons_append]); (try rfl)) ?_ | fail)) | ((with_reducible refine isDs_bin ?_); (first | refine awpD_gd rfl rfl (by first | with_reducible rfl | with_reducible assumption) (as_ev (fun _ => ev_add rfl rfl (by omega)) rfl rfl) (by (try simp only [List.nil_append, List.cons_append]); (try rfl)) ?_ | refine awpD_gd rfl rfl (by first | with_reducible rfl | with_reducible assumption) (as_ev (fun _ => ev_sub rfl rfl (by omega)) rfl rfl) (by (try simp only [List.nil_append, List.cons_append]); (try rfl)) ?_ | refine awpD_gd rfl rfl (by first | with_reducible rfl | with_reducible assumption) (as_ev (fun _ => ev_bin rfl rfl rfl) rfl rfl) (by (try simp only [List.nil_append, List.cons_append]); (try rfl)) ?_ | refine awpD_gd rfl rfl (by first | with_reducible rfl | with_reducible assumption) (as_ev (fun _ => ev_eq_bool rfl rfl rfl rfl) rfl rfl) (by (try simp only [List.nil_append, List.cons_append]); (try rfl)) ?_ | fail)) | ((with_reducible refine isDs_fa ?_); (first | refine awpD_gd rfl rfl (by first | with_reducible rfl | with_reducible assumption) (as_ev (fun _ => ev_fa_fp rfl rfl rfl rfl rfl rfl) rfl rfl) (by (try simp only [List.nil_append, List.cons_append]); (try rfl)) ?_ | refine awpD_gd rfl rfl (by first | with_reducible rfl | with_reducible assumption) (as_pure rfl (by repeat' (first | exact Msk.nil | apply Msk.base | apply Msk.vis rfl | apply Msk.hid rfl)) (ev_fa_lp rfl rfl rfl rfl rfl rfl rfl) rfl rfl rfl) (by (try simp only [List.nil_append, List.cons_append]); (try rfl)) ?_ | refine awpD_gd rfl rfl (by first | with_reducible rfl | with_reducible assumption) (as_pure rfl (by repeat' (first | exact Msk.nil | apply Msk.base | apply Msk.vis rfl | apply Msk.hid rfl)) (ev_fa_ep rfl rfl rfl rfl rfl rfl rfl) rfl rfl rfl) (by (try simp only [List.nil_append, List.cons_append]); (try rfl)) ?_ | fail)) | ((with_reducible refine isDs_load ?_); (first | refine awpD_gd rfl rfl (by first | with_reducible rfl | with_reducible assumption) (as_ev (fun _ => ev_load_agg rfl rfl rfl rfl) rfl rfl) (by (try simp only [List.nil_append, List.cons_append]); (try rfl)) ?_ | refine awpD_gd rfl rfl (by first | with_reducible rfl | with_reducible assumption) (as_ev (fun _ => ev_load_sub rfl rfl rfl rfl rfl) rfl rfl) (by (try simp only [List.nil_append, List.cons_append]); (try rfl)) ?_ | refine awpD_gd rfl rfl (by first | with_reducible rfl | with_reducible assumption) (as_ev (fun _ => ev_load_one rfl rfl rfl rfl) rfl rfl) (by (try simp only [List.nil_append, List.cons_append]); (try rfl)) ?_ | refine awpD_gd rfl rfl (by first | with_reducible rfl | with_reducible assumption) (as_pure rfl (by repeat' (first | exact Msk.nil | apply Msk.base | apply Msk.vis rfl | apply Msk.hid rfl)) (ev_ll_agg rfl rfl rfl rfl rfl rfl rfl) rfl rfl rfl) (by (try simp only [List.nil_append, List.cons_append]); (try rfl)) ?_ | refine awpD_gd rfl rfl (by first | with_reducible rfl | with_reducible assumption) (as_pure rfl (by repeat' (first | exact Msk.nil | apply Msk.base | apply Msk.vis rfl | apply Msk.hid rfl)) (ev_ll_lag rfl rfl rfl rfl rfl rfl) rfl rfl rfl) (by (try simp only [List.nil_append, List.cons_append]); (try rfl)) ?_ | refine awpD_gd rfl rfl (by first | with_reducible rfl | with_reducible assumption) (as_pure rfl (by repeat' (first | exact Msk.nil | apply Msk.base | apply Msk.vis rfl | apply Msk.hid rfl)) (ev_ll_one rfl rfl rfl rfl rfl) rfl rfl rfl) (by (try simp only [List.nil_append, List.cons_append]); (try rfl)) ?_ | refine awpD_gd rfl rfl (by first | with_reducible rfl | with_reducible assumption) (as_pure rfl (by repeat' (first | exact Msk.nil | apply Msk.base | apply Msk.vis rfl | apply Msk.hid rfl)) (ev_el_one rfl rfl rfl rfl (by with_reducible assumption) rfl) rfl rfl rfl) (by (try simp only [List.nil_append, List.cons_append]); (try rfl)) ?_ | fail)) | ((with_reducible refine isDs_pick ?_); (first | refine awpD_gd rfl rfl (by first | with_reducible rfl | with_reducible assumption) (as_ev (fun _ => ev_pick_t rfl (by first | with_reducible rfl | with_reducible assumption) rfl) rfl rfl) (by (try simp only [List.nil_append, List.cons_append]); (try rfl)) ?_ | refine awpD_gd rfl rfl (by first | with_reducible rfl | with_reducible assumption) (as_ev (fun _ => ev_pick_f rfl (by first | with_reducible rfl | with_reducible assumption) rfl) rfl rfl) (by (try simp only [List.nil_append, List.cons_append]); (try rfl)) ?_ | fail)) | ((with_reducible refine isDs_assign ?_); (first | refine awpD_gd rfl rfl (by first | with_reducible rfl | with_reducible assumption) (as_ev (fun _ => ev_assign rfl) rfl rfl) (by (try simp only [List.nil_append, List.cons_append]); (try rfl)) ?_ | fail)) | ((with_reducible refine isDs_call ?_); (first | refine awpD_gd rfl rfl (by first | with_reducible rfl | with_reducible assumption) (as_call rfl rfl (by assumption) rfl) (by (try simp only [List.nil_append, List.cons_append]); (try rfl)) ?_ | refine awpD_gd rfl rfl (by first | with_reducible rfl | with_reducible assumption) (as_ev (fun _ => ev_len rfl rfl rfl rfl rfl) rfl rfl) (by (try simp only [List.nil_append, List.cons_append]); (try rfl)) ?_ | refine awpD_gd rfl rfl (by first | with_reducible rfl | with_reducible assumption) (as_ev (fun _ => ev_max rfl rfl) rfl rfl) (by (try simp only [List.nil_append, List.cons_append]); (try rfl)) ?_ | refine awpD_gd rfl rfl (by first | with_reducible rfl | with_reducible assumption) (as_ev (fun _ => ev_min rfl rfl) rfl rfl) (by (try simp only [List.nil_append, List.cons_append]); (try rfl)) ?_ | refine awpD_gd rfl rfl (by first | with_reducible rfl | with_reducible assumption) (as_pure rfl (by repeat' (first | exact Msk.nil | apply Msk.base | apply Msk.vis rfl | apply Msk.hid rfl)) (ev_len_os rfl rfl rfl rfl rfl) rfl rfl rfl) (by (try simp only [List.nil_append, List.cons_append]); (try rfl)) ?_ | refine awpD_gd rfl rfl (by first | with_reducible rfl | with_reducible assumption) (as_ev2 (fun _ => ev_append_zf rfl rfl rfl rfl rfl rfl rfl rfl rfl rfl rfl rfl rfl (by simp only [List.length_map, List.length_cons, List.length_nil]; omega) rfl) rfl rfl) (by (try simp only [List.nil_append, List.cons_append]); (try rfl)) ?_ | fail)) | refine awpD_gd rfl rfl (by first | with_reducible rfl | with_reducible assumption) (as_ev (fun _ => ev_ia_fs rfl rfl rfl rfl rfl rfl (by with_reducible assumption)) rfl rfl) (by (try simp only [List.nil_append, List.cons_append]); (try rfl)) ?_ | refine awpD_gd rfl rfl (by first | with_reducible rfl | with_reducible assumption) (as_ev (fun _ => ev_not rfl) rfl rfl) (by (try simp only [List.nil_append, List.cons_append]); (try rfl)) ?_ | refine awpD_gd rfl rfl (by first | with_reducible rfl | with_reducible assumption) (as_ev (fun _ => ev_extract rfl rfl) rfl rfl) (by (try simp only [List.nil_append, List.cons_append]); (try rfl)) ?_ | refine awpD_gd rfl rfl (by first | with_reducible rfl | with_reducible assumption) (as_ev (fun _ => ev_index_str rfl rfl rfl rfl (by with_reducible assumption)) rfl rfl) (by (try simp only [List.nil_append, List.cons_append]); (try rfl)) ?_ | refine awpD_gd rfl rfl (by first | with_reducible rfl | with_reducible assumption) (as_ev (fun _ => ev_build rfl rfl rfl rfl rfl rfl rfl) rfl rfl) (by (try simp only [List.nil_append, List.cons_append]); (try rfl)) ?_ | refine awpD_gd rfl rfl (by first | with_reducible rfl | with_reducible assumption) (as_ev (fun _ => ev_slice_fs rfl rfl rfl rfl rfl rfl rfl (by with_reducible assumption) rfl rfl) rfl rfl) (by (try simp only [List.nil_append, List.cons_append]); (try rfl)) ?_ | refine awpD_gd rfl rfl (by first | with_reducible rfl | with_reducible assumption) (as_ev (fun _ => ev_makeFunc rfl rfl) rfl rfl) (by (try simp only [List.nil_append, List.cons_append]); (try rfl)) ?_ | refine awpD_gd rfl rfl (by first | with_reducible rfl | with_reducible assumption) (as_ev (fun _ => ev_nilCheck_fp rfl) rfl rfl) (by (try simp only [List.nil_append, List.cons_append]); (try rfl)) ?_ | refine awpD_gd rfl rfl (by first | with_reducible rfl | with_reducible assumption) (as_ev (fun _ => ev_index_arr rfl rfl rfl rfl rfl rfl rfl (by with_reducible assumption)) rfl rfl) (by (try simp only [List.nil_append, List.cons_append]); (try rfl)) ?_ | refine awpD_gd rfl rfl (by first | with_reducible rfl | with_reducible assumption) (as_pure rfl (by repeat' (first | exact Msk.nil | apply Msk.base | apply Msk.vis rfl | apply Msk.hid rfl)) (ev_ia_os rfl rfl rfl rfl rfl rfl rfl (by with_reducible assumption)) rfl rfl rfl) (by (try simp only [List.nil_append, List.cons_append]); (try rfl)) ?_ | refine awpD_gd rfl rfl (by first | with_reducible rfl | with_reducible assumption) (as_pure rfl (by repeat' (first | exact Msk.nil | apply Msk.base | apply Msk.vis rfl | apply Msk.hid rfl)) (ev_build_lag rfl rfl rfl rfl rfl rfl) rfl rfl rfl) (by (try simp only [List.nil_append, List.cons_append]); (try rfl)) ?_ | refine awpD_gd rfl rfl (by first | with_reducible rfl | with_reducible assumption) (as_pure rfl (by repeat' (first | exact Msk.nil | apply Msk.base | apply Msk.vis rfl | apply Msk.hid rfl)) (ev_nilCheck_lp rfl rfl) rfl rfl rfl) (by (try simp only [List.nil_append, List.cons_append]); (try rfl)) ?_ | refine awpD_gd rfl rfl (by first | with_reducible rfl | with_reducible assumption) (as_ev2 (fun _ => ev_bslice_z rfl rfl rfl rfl rfl rfl rfl) rfl rfl) (by (try simp only [List.nil_append, List.cons_append]); (try rfl)) ?_ | refine awpD_gd rfl rfl (by first | with_reducible rfl | with_reducible assumption) (as_ev2 (fun _ => ev_bslice_in rfl rfl rfl rfl rfl rfl rfl rfl rfl rfl rfl rfl (by (try simp only [List.map_cons, List.map_nil, cellsOf]); (try rfl))) rfl rfl) (by (try simp only [List.nil_append, List.cons_append]); (try rfl)) ?_ | fail)) | fail))
     | ((with_reducible refine isD_nl ?_); refine awpD_done (by (try simp only [List.nil_append, List.cons_append]); (try rfl)) (by (try simp only [List.set_cons_zero, List.set_cons_succ, List.nil_append, List.cons_append, List.append_nil, cellsOf, List.take_zero, List.drop_zero, List.take_succ_cons, List.drop_succ_cons, Nat.zero_add, Nat.reduceAdd, List.drop_nil, List.map_cons, List.map_nil]); (try rfl)) ?_)
     | ((with_reducible refine is_awp ?_); (first | refine awp_seq ?_ | refine awp_ret ?_ | refine awp_skip ?_ | refine awp_exit ?_ | refine awp_label ?_ | refine awp_block ?_ | refine awp_region ?_ | refine awp_cond_t rfl (by first | with_reducible rfl | with_reducible assumption) ?_ | refine awp_cond_f rfl (by first | with_reducible rfl | with_reducible assumption) ?_ | fail))
     | fail)
    exact k.out) : A := h (.of M) ⟨k⟩
theorem st (M : List Nat) {A B : Prop} (k : B) (h : Mut M → Left B → A := by
    intro m k
    (first
     | ((with_reducible refine is_un ?_); (first | ((with_reducible refine is_move ?_); (first | refine awpL_ev (ev_move rfl) rfl ?_ | fail)) | ((with_reducible refine is_bin ?_); (first | refine awpL_ev (ev_add rfl rfl (by omega)) rfl ?_ | refine awpL_ev (ev_sub rfl rfl (by omega)) rfl ?_ | refine awpL_ev (ev_bin rfl rfl rfl) rfl ?_ | refine awpL_ev (ev_eq_bool rfl rfl rfl rfl) rfl ?_ | fail)) | ((with_reducible refine is_fa ?_); (first | refine awpL_ev (ev_fa_fp rfl rfl rfl rfl rfl rfl) rfl ?_ | refine awpL_ev (ev_fa_lp rfl rfl rfl rfl rfl rfl rfl) rfl ?_ | refine awpL_ev (ev_fa_ep rfl rfl rfl rfl rfl rfl rfl) rfl ?_ | fail)) | ((with_reducible refine is_load ?_); (first | refine awpL_ev (ev_load_agg rfl rfl rfl rfl) rfl ?_ | refine awpL_ev (ev_load_sub rfl rfl rfl rfl rfl) rfl ?_ | refine awpL_ev (ev_load_one rfl rfl rfl rfl) rfl ?_ | refine awpL_ev (ev_ll_agg rfl rfl rfl rfl rfl rfl rfl) rfl ?_ | refine awpL_ev (ev_ll_lag rfl rfl rfl rfl rfl rfl) rfl ?_ | refine awpL_ev (ev_ll_one rfl rfl rfl rfl rfl) rfl ?_ | refine awpL_ev (ev_el_one rfl rfl rfl rfl (by with_reducible assumption) rfl) rfl ?_ | fail)) | ((with_reducible refine is_pick ?_); (first | refine awpL_ev (ev_pick_t rfl (by first | with_reducible rfl | with_reducible assumption) rfl) rfl ?_ | refine awpL_ev (ev_pick_f rfl (by first | with_reducible rfl | with_reducible assumption) rfl) rfl ?_ | fail)) | ((with_reducible refine is_assign ?_); (first | refine awpL_ev (ev_assign rfl) rfl ?_ | fail)) | ((with_reducible refine is_call ?_); (first | refine awpL_call rfl rfl (by assumption) rfl ?_ | refine awpL_ev (ev_len rfl rfl rfl rfl rfl) rfl ?_ | refine awpL_ev (ev_max rfl rfl) rfl ?_ | refine awpL_ev (ev_min rfl rfl) rfl ?_ | refine awpL_ev (ev_len_os rfl rfl rfl rfl rfl) rfl ?_ | refine awpL_ev2 (ev_append_zf rfl rfl rfl rfl rfl rfl rfl rfl rfl rfl rfl rfl rfl (by simp only [List.length_map, List.length_cons, List.length_nil]; omega) rfl) rfl ?_ | fail)) | ((with_reducible refine is_store ?_); (first | refine awpL_stMm m rfl rfl rfl rfl rfl rfl rfl rfl rfl (by (try simp only [cellsOf, List.map_cons, List.map_nil]); (try rfl)) (by (try simp only [List.set_cons_zero, List.set_cons_succ, List.nil_append, List.cons_append, List.append_nil, cellsOf, List.take_zero, List.drop_zero, List.take_succ_cons, List.drop_succ_cons, Nat.zero_add, Nat.reduceAdd, List.drop_nil, List.map_cons, List.map_nil]); (try rfl)) ?_ | refine awpL_evS (ev_st_lp rfl rfl rfl rfl rfl rfl rfl (by (try simp only [List.set_cons_zero, List.set_cons_succ, List.nil_append, List.cons_append, List.append_nil, cellsOf, List.take_zero, List.drop_zero, List.take_succ_cons, List.drop_succ_cons, Nat.zero_add, Nat.reduceAdd, List.drop_nil, List.map_cons, List.map_nil]); (try rfl))) ?_ | fail)) | ((with_reducible refine is_alloc ?_); (first | refine awpL_ev2 (ev_alloc rfl rfl (by (try simp only [List.length_nil, List.length_cons, Nat.reduceAdd]); (try rfl)) (by (try simp only [List.set_cons_zero, List.set_cons_succ, List.nil_append, List.cons_append, List.append_nil, cellsOf, List.take_zero, List.drop_zero, List.take_succ_cons, List.drop_succ_cons, Nat.zero_add, Nat.reduceAdd, List.drop_nil, List.map_cons, List.map_nil]); (try rfl))) rfl ?_ | fail)) | ((with_reducible refine is_box ?_); (first | refine awpL_boxMm m rfl rfl rfl rfl (by (try simp only [cellsOf, List.map_cons, List.map_nil]); (try rfl)) rfl ?_ | refine awpL_ev2 (ev_box rfl rfl (by (try simp only [List.length_nil, List.length_cons, Nat.reduceAdd]); (try rfl)) (by (try simp only [List.set_cons_zero, List.set_cons_succ, List.nil_append, List.cons_append, List.append_nil, cellsOf, List.take_zero, List.drop_zero, List.take_succ_cons, List.drop_succ_cons, Nat.zero_add, Nat.reduceAdd, List.drop_nil, List.map_cons, List.map_nil]); (try rfl))) rfl ?_ | fail)) | refine awpL_ev (ev_ia_fs rfl rfl rfl rfl rfl rfl (by with_reducible assumption)) rfl ?_ | refine awpL_ev (ev_not rfl) rfl ?_ | refine awpL_ev (ev_extract rfl rfl) rfl ?_ | refine awpL_ev (ev_index_str rfl rfl rfl rfl (by with_reducible assumption)) rfl ?_ | refine awpL_ev (ev_build rfl rfl rfl rfl rfl rfl rfl) rfl ?_ | refine awpL_ev (ev_slice_fs rfl rfl rfl rfl rfl rfl rfl (by with_reducible assumption) rfl rfl) rfl ?_ | refine awpL_ev (ev_makeFunc rfl rfl) rfl ?_ | refine awpL_ev (ev_nilCheck_fp rfl) rfl ?_ | refine awpL_ev (ev_index_arr rfl rfl rfl rfl rfl rfl rfl (by with_reducible assumption)) rfl ?_ | refine awpL_ev (ev_ia_os rfl rfl rfl rfl rfl rfl rfl (by with_reducible assumption)) rfl ?_ | refine awpL_ev (ev_build_lag rfl rfl rfl rfl rfl rfl) rfl ?_ | refine awpL_ev (ev_nilCheck_lp rfl rfl) rfl ?_ | refine awpL_ev2 (ev_bslice_z rfl rfl rfl rfl rfl rfl rfl) rfl ?_ | refine awpL_ev2 (ev_bslice_in rfl rfl rfl rfl rfl rfl rfl rfl rfl rfl rfl rfl (by (try simp only [List.map_cons, List.map_nil, cellsOf]); (try rfl))) rfl ?_))
     | ((with_reducible refine is_gd ?_); (first | refine awpL_run rfl rfl rfl (by first | with_reducible rfl | with_reducible assumption) ?_ | refine awpL_passT rfl rfl rfl rfl (by first | with_reducible rfl | with_reducible assumption) ?_ | refine awpL_passF rfl rfl rfl rfl (by first | with_reducible rfl | with_reducible assumption) ?_ | refine awpL_passU rfl rfl rfl rfl ?_ | fail))
     | ((with_reducible refine is_nil ?_); refine awpL_nil ?_)
     | ((with_reducible refine is_then ?_); (first | refine thenQ_n ?_ | refine thenQ_r ?_ | refine thenQ_e ?_ | fail))
     | ((with_reducible refine is_block ?_); (first | refine blockQ_n ?_ | refine blockQ_r ?_ | refine blockQ_e ?_ | refine blockQ_o rfl ?_ | fail))
     | ((with_reducible refine is_draw ?_); (first | refine awp_drawA (by kernel_rfl) rfl rfl (by repeat' (first | exact Strip.nil | apply Strip.keep rfl | apply Strip.drop rfl)) ?_ | fail))
     | ((with_reducible refine isD_un ?_); (first | ((with_reducible refine isD_st ?_); refine awpD_sS rfl (by (try simp only [List.set_cons_zero, List.set_cons_succ, List.nil_append, List.cons_append, List.append_nil, cellsOf, List.take_zero, List.drop_zero, List.take_succ_cons, List.drop_succ_cons, Nat.zero_add, Nat.reduceAdd, List.drop_nil, List.map_cons, List.map_nil]); (try rfl)) (ev_st_lp rfl rfl rfl rfl rfl rfl rfl (by (try simp only [List.set_cons_zero, List.set_cons_succ, List.nil_append, List.cons_append, List.append_nil, cellsOf, List.take_zero, List.drop_zero, List.take_succ_cons, List.drop_succ_cons, Nat.zero_add, Nat.reduceAdd, List.drop_nil, List.map_cons, List.map_nil]); (try rfl))) rfl (by (try simp only [List.nil_append, List.cons_append]); (try rfl)) ?_) | ((with_reducible refine isD_al ?_); refine awpD_nw rfl (by repeat' (first | exact Msk.nil | apply Msk.base | apply Msk.vis rfl | apply Msk.hid rfl)) (ev_alloc rfl rfl (by (try simp only [List.length_nil, List.length_cons, Nat.reduceAdd]); (try rfl)) (by (try simp only [List.set_cons_zero, List.set_cons_succ, List.nil_append, List.cons_append, List.append_nil, cellsOf, List.take_zero, List.drop_zero, List.take_succ_cons, List.drop_succ_cons, Nat.zero_add, Nat.reduceAdd, List.drop_nil, List.map_cons, List.map_nil]); (try rfl))) rfl rfl rfl rfl rfl (by (try simp only [List.set_cons_zero, List.set_cons_succ, List.nil_append, List.cons_append, List.append_nil, cellsOf, List.take_zero, List.drop_zero, List.take_succ_cons, List.drop_succ_cons, Nat.zero_add, Nat.reduceAdd, List.drop_nil, List.map_cons, List.map_nil]); (try rfl)) (by (try simp only [List.nil_append, List.cons_append]); (try rfl)) ?_) | ((with_reducible refine isDs_move ?_); (first | refine awpD_un (as_ev (fun _ => ev_move rfl) rfl rfl) (by (try simp only [List.nil_append, List.cons_append]); (try rfl)) ?_ | fail)) | ((with_reducible refine isDs_bin ?_); (first | refine awpD_un (as_ev (fun _ => ev_add rfl rfl (by omega)) rfl rfl) (by (try simp only [List.nil_append, List.cons_append]); (try rfl)) ?_ | refine awpD_un (as_ev (fun _ => ev_sub rfl rfl (by omega)) rfl rfl) (by (try simp only [List.nil_append, List.cons_append]); (try rfl)) ?_ | refine awpD_un (as_ev (fun _ => ev_bin rfl rfl rfl) rfl rfl) (by (try simp only [List.nil_append, List.cons_append]); (try rfl)) ?_ | refine awpD_un (as_ev (fun _ => ev_eq_bool rfl rfl rfl rfl) rfl rfl) (by (try simp only [List.nil_append, List.cons_append]); (try rfl)) ?_ | fail)) | ((with_reducible refine isDs_fa ?_); (first | refine awpD_un (as_ev (fun _ => ev_fa_fp rfl rfl rfl rfl rfl rfl) rfl rfl) (by (try simp only [List.nil_append, List.cons_append]); (try rfl)) ?_ | refine awpD_un (as_pure rfl (by repeat' (first | exact Msk.nil | apply Msk.base | apply Msk.vis rfl | apply Msk.hid rfl)) (ev_fa_lp rfl rfl rfl rfl rfl rfl rfl) rfl rfl rfl) (by (try simp only [List.nil_append, List.cons_append]); (try rfl)) ?_ | refine awpD_un (as_pure rfl (by repeat' (first | exact Msk.nil | apply Msk.base | apply Msk.vis rfl | apply Msk.hid rfl)) (ev_fa_ep rfl rfl rfl rfl rfl rfl rfl) rfl rfl rfl) (by (try simp only [List.nil_append, List.cons_append]); (try rfl)) ?_ | fail)) | ((with_reducible refine isDs_load ?_); (first | refine awpD_un (as_ev (fun _ => ev_load_agg rfl rfl rfl rfl) rfl rfl) (by (try simp only [List.nil_append, List.cons_append]); (try rfl)) ?_ | refine awpD_un (as_ev (fun _ => ev_load_sub rfl rfl rfl rfl rfl) rfl rfl) (by (try simp only [List.nil_append, List.cons_append]); (try rfl)) ?_ | refine awpD_un (as_ev (fun _ => ev_load_one rfl rfl rfl rfl) rfl rfl) (by (try simp only [List.nil_append, List.cons_append]); (try rfl)) ?_ | refine awpD_un (as_pure rfl (by repeat' (first | exact Msk.nil | apply Msk.base | apply Msk.vis rfl | apply Msk.hid rfl)) (ev_ll_agg rfl rfl rfl rfl rfl rfl rfl) rfl rfl rfl) (by (try simp only [List.nil_append, List.cons_append]); (try rfl)) ?_ | refine awpD_un (as_pure rfl (by repeat' (first | exact Msk.nil | apply Msk.base | apply Msk.vis rfl | apply Msk.hid rfl)) (ev_ll_lag rfl rfl rfl rfl rfl rfl) rfl rfl rfl) (by (try simp only [List.nil_append, List.cons_append]); (try rfl)) ?_ | refine awpD_un (as_pure rfl (by repeat' (first | exact Msk.nil | apply Msk.base | apply Msk.vis rfl | apply Msk.hid rfl)) (ev_ll_one rfl rfl rfl rfl rfl) rfl rfl rfl) (by (try simp only [List.nil_append, List.cons_append]); (try rfl)) ?_ | refine awpD_un (as_pure rfl (by repeat' (first | exact Msk.nil | apply Msk.base | apply Msk.vis rfl | apply Msk.hid rfl)) (ev_el_one rfl rfl rfl rfl (by with_reducible assumption) rfl) rfl rfl rfl) (by (try simp only [List.nil_append, List.cons_append]); (try rfl)) ?_ | fail)) | ((with_reducible refine isDs_pick ?_); (first | refine awpD_un (as_ev (fun _ => ev_pick_t rfl (by first | with_reducible rfl | with_reducible assumption) rfl) rfl rfl) (by (try simp only [List.nil_append, List.cons_append]); (try rfl)) ?_ | refine awpD_un (as_ev (fun _ => ev_pick_f rfl (by first | with_reducible rfl | with_reducible assumption) rfl) rfl rfl) (by (try simp only [List.nil_append, List.cons_append]); (try rfl)) ?_ | fail)) | ((with_reducible refine isDs_assign ?_); (first | refine awpD_un (as_ev (fun _ => ev_assign rfl) rfl rfl) (by (try simp only [List.nil_append, List.cons_append]); (try rfl)) ?_ | fail)) | ((with_reducible refine isDs_call ?_); (first | refine awpD_un (as_call rfl rfl (by assumption) rfl) (by (try simp only [List.nil_append, List.cons_append]); (try rfl)) ?_ | refine awpD_un (as_ev (fun _ => ev_len rfl rfl rfl rfl rfl) rfl rfl) (by (try simp only [List.nil_append, List.cons_append]); (try rfl)) ?_ | refine awpD_un (as_ev (fun _ => ev_max rfl rfl) rfl rfl) (by (try simp only [List.nil_append, List.cons_append]); (try rfl)) ?_ | refine awpD_un (as_ev (fun _ => ev_min rfl rfl) rfl rfl) (by (try simp only [List.nil_append, List.cons_append]); (try rfl)) ?_ | refine awpD_un (as_pure rfl (by repeat' (first | exact Msk.nil | apply Msk.base | apply Msk.vis rfl | apply Msk.hid rfl)) (ev_len_os rfl rfl rfl rfl rfl) rfl rfl rfl) (by (try simp only [List.nil_append, List.cons_append]); (try rfl)) ?_ | refine awpD_un (as_ev2 (fun _ => ev_append_zf rfl rfl rfl rfl rfl rfl rfl rfl rfl rfl rfl rfl rfl (by simp only [List.length_map, List.length_cons, List.length_nil]; omega) rfl) rfl rfl) (by (try simp only [List.nil_append, List.cons_append]); (try rfl)) ?_ | fail)) | refine awpD_un (as_ev (fun _ => ev_ia_fs rfl rfl rfl rfl rfl rfl (by with_reducible assumption)) rfl rfl) (by (try simp only [List.nil_append, List.cons_append]); (try rfl)) ?_ | refine awpD_un (as_ev (fun _ => ev_not rfl) rfl rfl) (by (try simp only [List.nil_append, List.cons_append]); (try rfl)) ?_ | refine awpD_un (as_ev (fun _ => ev_extract rfl rfl) rfl rfl) (by (try simp only [List.nil_append, List.cons_append]); (try rfl)) ?_ | refine awpD_un (as_ev (fun _ => ev_index_str rfl rfl rfl rfl (by with_reducible assumption)) rfl rfl) (by (try simp only [List.nil_append, List.cons_append]); (try rfl)) ?_ | refine awpD_un (as_ev (fun _ => ev_build rfl rfl rfl rfl rfl rfl rfl) rfl rfl) (by (try simp only [List.nil_append, List.cons_append]); (try rfl)) ?_ | refine awpD_un (as_ev (fun _ => ev_slice_fs rfl rfl rfl rfl rfl rfl rfl (by with_reducible assumption) rfl rfl) rfl rfl) (by (try simp only [List.nil_append, List.cons_append]); (try rfl)) ?_ | refine awpD_un (as_ev (fun _ => ev_makeFunc rfl rfl) rfl rfl) (by (try simp only [List.nil_append, List.cons_append]); (try rfl)) ?_ | refine awpD_un (as_ev (fun _ => ev_nilCheck_fp rfl) rfl rfl) (by (try simp only [List.nil_append, List.cons_append]); (try rfl)) ?_ | refine awpD_un (as_ev (fun _ => ev_index_arr rfl rfl rfl rfl rfl rfl rfl (by with_reducible assumption)) rfl rfl) (by (try simp only [List.nil_append, List.cons_append]); (try rfl)) ?_ | refine awpD_un (as_pure rfl (by repeat' (first | exact Msk.nil | apply Msk.base | apply Msk.vis rfl | apply Msk.hid rfl)) (ev_ia_os rfl rfl rfl rfl rfl rfl rfl (by with_reducible assumption)) rfl rfl rfl) (by (try simp only [List.nil_append, List.cons_append]); (try rfl)) ?_ | refine awpD_un (as_pure rfl (by repeat' (first | exact Msk.nil | apply Msk.base | apply Msk.vis rfl | apply Msk.hid rfl)) (ev_build_lag rfl rfl rfl rfl rfl rfl) rfl rfl rfl) (by (try simp only [List.nil_append, List.cons_append]); (try rfl)) ?_ | refine awpD_un (as_pure rfl (by repeat' (first | exact Msk.nil | apply Msk.base | apply Msk.vis rfl | apply Msk.hid rfl)) (ev_nilCheck_lp rfl rfl) rfl rfl rfl) (by (try simp only [List.nil_append, List.cons_append]); (try rfl)) ?_ | refine awpD_un (as_ev2 (fun _ => ev_bslice_z rfl rfl rfl rfl rfl rfl rfl) rfl rfl) (by (try simp only [List.nil_append, List.cons_append]); (try rfl)) ?_ | refine awpD_un (as_ev2 (fun _ => ev_bslice_in rfl rfl rfl rfl rfl rfl rfl rfl rfl rfl rfl rfl (by (try simp only [List.map_cons, List.map_nil, cellsOf]); (try rfl))) rfl rfl) (by (try simp only [List.nil_append, List.cons_append]); (try rfl)) ?_ | fail))
     | ((with_reducible refine isD_gd ?_); (first | refine awpD_pT rfl rfl (by first | with_reducible rfl | with_reducible assumption) (by (try simp only [List.nil_append, List.cons_append]); (try rfl)) ?_ | refine awpD_pF rfl rfl (by first | with_reducible rfl | with_reducible assumption) (by (try simp only [List.nil_append, List.cons_append]); (try rfl)) ?_ | refine awpD_pU rfl rfl (by (try simp only [List.nil_append, List.cons_append]); (try rfl)) ?_ | (refine isD_go rfl rfl (by first | with_reducible rfl | with_reducible assumption) ?_; (first | ((with_reducible refine isDs_move ?_); (first | refine awpD_gd rfl rfl (by first | with_reducible rfl | with_reducible assumption) (as_ev (fun _ => ev_move rfl) rfl rfl) (by (try simp only [List.nil_append, List.cons_append]); (try rfl)) ?_ | fail)) | ((with_reducible refine isDs_bin ?_); (first | refine awpD_gd rfl rfl (by first | with_reducible rfl | with_reducible assumption) (as_ev (fun _ => ev_add rfl rfl (by omega)) rfl rfl) (by (try simp only [List.nil_append, List.cons_append]); (try rfl)) ?_ | refine awpD_gd rfl rfl (by first | with_reducible rfl | with_reducible assumption) (as_ev (fun _ => ev_sub rfl rfl (by omega)) rfl rfl) (by (try simp only [List.nil_append, List.cons_append]); (try rfl)) ?_ | refine awpD_gd rfl rfl (by first | with_reducible rfl | with_reducible assumption) (as_ev (fun _ => ev_bin rfl rfl rfl) rfl rfl) (by (try simp only [List.nil_append, List.cons_append]); (try rfl)) ?_ | refine awpD_gd rfl rfl (by first | with_reducible rfl | with_reducible assumption) (as_ev (fun _ => ev_eq_bool rfl rfl rfl rfl) rfl rfl) (by (try simp only [List.nil_append, List.cons_append]); (try rfl)) ?_ | fail)) | ((with_reducible refine isDs_fa ?_); (first | refine awpD_gd rfl rfl (by first | with_reducible rfl | with_reducible assumption) (as_ev (fun _ => ev_fa_fp rfl rfl rfl rfl rfl rfl) rfl rfl) (by (try simp only [List.nil_append, List.cons_append]); (try rfl)) ?_ | refine awpD_gd rfl rfl (by first | with_reducible rfl | with_reducible assumption) (as_pure rfl (by repeat' (first | exact Msk.nil | apply Msk.base | apply Msk.vis rfl | apply Msk.hid rfl)) (ev_fa_lp rfl rfl rfl rfl rfl rfl rfl) rfl rfl rfl) (by (try simp only [List.nil_append, List.cons_append]); (try rfl)) ?_ | refine awpD_gd rfl rfl (by first | with_reducible rfl | with_reducible assumption) (as_pure rfl (by repeat' (first | exact Msk.nil | apply Msk.base | apply Msk.vis rfl | apply Msk.hid rfl)) (ev_fa_ep rfl rfl rfl rfl rfl rfl rfl) rfl rfl rfl) (by (try simp only [List.nil_append, List.cons_append]); (try rfl)) ?_ | fail)) | ((with_reducible refine isDs_load ?_); (first | refine awpD_gd rfl rfl (by first | with_reducible rfl | with_reducible assumption) (as_ev (fun _ => ev_load_agg rfl rfl rfl rfl) rfl rfl) (by (try simp only [List.nil_append, List.cons_append]); (try rfl)) ?_ | refine awpD_gd rfl rfl (by first | with_reducible rfl | with_reducible assumption) (as_ev (fun _ => ev_load_sub rfl rfl rfl rfl rfl) rfl rfl) (by (try simp only [List.nil_append, List.cons_append]); (try rfl)) ?_ | refine awpD_gd rfl rfl (by first | with_reducible rfl | with_reducible assumption) (as_ev (fun _ => ev_load_one rfl rfl rfl rfl) rfl rfl) (by (try simp only [List.nil_append, List.cons_append]); (try rfl)) ?_ | refine awpD_gd rfl rfl (by first | with_reducible rfl | with_reducible assumption) (as_pure rfl (by repeat' (first | exact Msk.nil | apply Msk.base | apply Msk.vis rfl | apply Msk.hid rfl)) (ev_ll_agg rfl rfl rfl rfl rfl rfl rfl) rfl rfl rfl) (by (try simp only [List.nil_append, List.cons_append]); (try rfl)) ?_ | refine awpD_gd rfl rfl (by first | with_reducible rfl | with_reducible assumption) (as_pure rfl (by repeat' (first | exact Msk.nil | apply Msk.base | apply Msk.vis rfl | apply Msk.hid rfl)) (ev_ll_lag rfl rfl rfl rfl rfl rfl) rfl rfl rfl) (by (try simp only [List.nil_append, List.cons_append]); (try rfl)) ?_ | refine awpD_gd rfl rfl (by first | with_reducible rfl | with_reducible assumption) (as_pure rfl (by repeat' (first | exact Msk.nil | apply Msk.base | apply Msk.vis rfl | apply Msk.hid rfl)) (ev_ll_one rfl rfl rfl rfl rfl) rfl rfl rfl) (by (try simp only [List.nil_append, List.cons_append]); (try rfl)) ?_ | refine awpD_gd rfl rfl (by first | with_reducible rfl | with_reducible assumption) (as_pure rfl (by repeat' (first | exact Msk.nil | apply Msk.base | apply Msk.vis rfl | apply Msk.hid rfl)) (ev_el_one rfl rfl rfl rfl (by with_reducible assumption) rfl) rfl rfl rfl) (by (try simp only [List.nil_append, List.cons_append]); (try rfl)) ?_ | fail)) | ((with_reducible refine isDs_pick ?_); (first | refine awpD_gd rfl rfl (by first | with_reducible rfl | with_reducible assumption) (as_ev (fun _ => ev_pick_t rfl (by first | with_reducible rfl | with_reducible assumption) rfl) rfl rfl) (by (try simp only [List.nil_append, List.cons_append]); (try rfl)) ?_ | refine awpD_gd rfl rfl (by first | with_reducible rfl | with_reducible assumption) (as_ev (fun _ => ev_pick_f rfl (by first | with_reducible rfl | with_reducible assumption) rfl) rfl rfl) (by (try simp only [List.nil_append, List.cons_append]); (try rfl)) ?_ | fail)) | ((with_reducible refine isDs_assign ?_); (first | refine awpD_gd rfl rfl (by first | with_reducible rfl | with_reducible assumption) (as_ev (fun _ => ev_assign rfl) rfl rfl) (by (try simp only [List.nil_append, List.cons_append]); (try rfl)) ?_ | fail)) | ((with_reducible refine isDs_call ?_); (first | refine awpD_gd rfl rfl (by first | with_reducible rfl | with_reducible assumption) (as_call rfl rfl (by assumption) rfl) (by (try simp only [List.nil_append, List.cons_append]); (try rfl)) ?_ | refine awpD_gd rfl rfl (by first | with_reducible rfl | with_reducible assumption) (as_ev (fun _ => ev_len rfl rfl rfl rfl rfl) rfl rfl) (by (try simp only [List.nil_append, List.cons_append]); (try rfl)) ?_ | refine awpD_gd rfl rfl (by first | with_reducible rfl | with_reducible assumption) (as_ev (fun _ => ev_max rfl rfl) rfl rfl) (by (try simp only [List.nil_append, List.cons_append]); (try rfl)) ?_ | refine awpD_gd rfl rfl (by first | with_reducible rfl | with_reducible assumption) (as_ev (fun _ => ev_min rfl rfl) rfl rfl) (by (try simp only [List.nil_append, List.cons_append]); (try rfl)) ?_ | refine awpD_gd rfl rfl (by first | with_reducible rfl | with_reducible assumption) (as_pure rfl (by repeat' (first | exact Msk.nil | apply Msk.base | apply Msk.vis rfl | apply Msk.hid rfl)) (ev_len_os rfl rfl rfl rfl rfl) rfl rfl rfl) (by (try simp only [List.nil_append, List.cons_append]); (try rfl)) ?_ | refine awpD_gd rfl rfl (by first | with_reducible rfl | with_reducible assumption) (as_ev2 (fun _ => ev_append_zf rfl rfl rfl rfl rfl rfl rfl rfl rfl rfl rfl rfl rfl (by simp only [List.length_map, List.length_cons, List.length_nil]; omega) rfl) rfl rfl) (by (try simp only [List.nil_append, List.cons_append]); (try rfl)) ?_ | fail)) | refine awpD_gd rfl rfl (by first | with_reducible rfl | with_reducible assumption) (as_ev (fun _ => ev_ia_fs rfl rfl rfl rfl rfl rfl (by with_reducible assumption)) rfl rfl) (by (try simp only [List.nil_append, List.cons_append]); (try rfl)) ?_ | refine awpD_gd rfl rfl (by first | with_reducible rfl | with_reducible assumption) (as_ev (fun _ => ev_not rfl) rfl rfl) (by (try simp only [List.nil_append, List.cons_append]); (try rfl)) ?_ | refine awpD_gd rfl rfl (by first | with_reducible rfl | with_reducible assumption) (as_ev (fun _ => ev_extract rfl rfl) rfl rfl) (by (try simp only [List.nil_append, List.cons_append]); (try rfl)) ?_ | refine awpD_gd rfl rfl (by first | with_reducible rfl | with_reducible assumption) (as_ev (fun _ => ev_index_str rfl rfl rfl rfl (by with_reducible assumption)) rfl rfl) (by (try simp only [List.nil_append, List.cons_append]); (try rfl)) ?_ | refine awpD_gd rfl rfl (by first | with_reducible rfl | with_reducible assumption) (as_ev (fun _ => ev_build rfl rfl rfl rfl rfl rfl rfl) rfl rfl) (by (try simp only [List.nil_append, List.cons_append]); (try rfl)) ?_ | refine awpD_gd rfl rfl (by first | with_reducible rfl | with_reducible assumption) (as_ev (fun _ => ev_slice_fs rfl rfl rfl rfl rfl rfl rfl (by with_reducible assumption) rfl rfl) rfl rfl) (by (try simp only [List.nil_append, List.cons_append]); (try rfl)) ?_ | refine awpD_gd rfl rfl (by first | with_reducible rfl | with_reducible assumption) (as_ev (fun _ => ev_makeFunc rfl rfl) rfl rfl) (by (try simp only [List.nil_append, List.cons_append]); (try rfl)) ?_ | refine awpD_gd rfl rfl (by first | with_reducible rfl | with_reducible assumption) (as_ev (fun _ => ev_nilCheck_fp rfl) rfl rfl) (by (try simp only [List.nil_append, List.cons_append]); (try rfl)) ?_ | refine awpD_gd rfl rfl (by first | with_reducible rfl | with_reducible assumption) (as_ev (fun _ => ev_index_arr rfl rfl rfl rfl rfl rfl rfl (by with_reducible assumption)) rfl rfl) (by (try simp only [List.nil_append, List.cons_append]); (try rfl)) ?_ | refine awpD_gd rfl rfl (by first | with_reducible rfl | with_reducible assumption) (as_pure rfl (by repeat' (first | exact Msk.nil | apply Msk.base | apply Msk.vis rfl | apply Msk.hid rfl)) (ev_ia_os rfl rfl rfl rfl rfl rfl rfl (by with_reducible assumption)) rfl rfl rfl) (by (try simp only [List.nil_append, List.cons_append]); (try rfl)) ?_ | refine awpD_gd rfl rfl (by first | with_reducible rfl | with_reducible assumption) (as_pure rfl (by repeat' (first | exact Msk.nil | apply Msk.base | apply Msk.vis rfl | apply Msk.hid rfl)) (ev_build_lag rfl rfl rfl rfl rfl rfl) rfl rfl rfl) (by (try simp only [List.nil_append, List.cons_append]); (try rfl)) ?_ | refine awpD_gd rfl rfl (by first | with_reducible rfl | with_reducible assumption) (as_pure rfl (by repeat' (first | exact Msk.nil | apply Msk.base | apply Msk.vis rfl | apply Msk.hid rfl)) (ev_nilCheck_lp rfl rfl) rfl rfl rfl) (by (try simp only [List.nil_append, List.cons_append]); (try rfl)) ?_ | refine awpD_gd rfl rfl (by first | with_reducible rfl | with_reducible assumption) (as_ev2 (fun _ => ev_bslice_z rfl rfl rfl rfl rfl rfl rfl) rfl rfl) (by (try simp only [List.nil_append, List.cons_append]); (try rfl)) ?_ | refine awpD_gd rfl rfl (by first | with_reducible rfl | with_reducible assumption) (as_ev2 (fun _ => ev_bslice_in rfl rfl rfl rfl rfl rfl rfl rfl rfl rfl rfl rfl (by (try simp only [List.map_cons, List.map_nil, cellsOf]); (try rfl))) rfl rfl) (by (try simp only [List.nil_append, List.cons_append]); (try rfl)) ?_ | fail)) | fail))
     | ((with_reducible refine isD_nl ?_); refine awpD_done (by (try simp only [List.nil_append, List.cons_append]); (try rfl)) (by (try simp only [List.set_cons_zero, List.set_cons_succ, List.nil_append, List.cons_append, List.append_nil, cellsOf, List.take_zero, List.drop_zero, List.take_succ_cons, List.drop_succ_cons, Nat.zero_add, Nat.reduceAdd, List.drop_nil, List.map_cons, List.map_nil]); (try rfl)) ?_)
     | ((with_reducible refine is_awp ?_); (first | refine awp_seq ?_ | refine awp_ret ?_ | refine awp_skip ?_ | refine awp_exit ?_ | refine awp_label ?_ | refine awp_block ?_ | refine awp_region ?_ | refine awp_cond_t rfl (by first | with_reducible rfl | with_reducible assumption) ?_ | refine awp_cond_f rfl (by first | with_reducible rfl | with_reducible assumption) ?_ | fail))
     | fail)
    exact k.out) : A := h (.of M) ⟨k⟩
theorem runn (M : List Nat) {A B : Prop} (k : B) (h : Mut M → Left B → A := by
    intro m k
    repeat' (first
     | ((with_reducible refine is_un ?_); (first | ((with_reducible refine is_move ?_); (first | refine awpL_ev (ev_move rfl) rfl ?_ | fail)) | ((with_reducible refine is_bin ?_); (first | refine awpL_ev (ev_add rfl rfl (by omega)) rfl ?_ | refine awpL_ev (ev_sub rfl rfl (by omega)) rfl ?_ | refine awpL_ev (ev_bin rfl rfl rfl) rfl ?_ | refine awpL_ev (ev_eq_bool rfl rfl rfl rfl) rfl ?_ | fail)) | ((with_reducible refine is_fa ?_); (first | refine awpL_ev (ev_fa_fp rfl rfl rfl rfl rfl rfl) rfl ?_ | refine awpL_ev (ev_fa_lp rfl rfl rfl rfl rfl rfl rfl) rfl ?_ | refine awpL_ev (ev_fa_ep rfl rfl rfl rfl rfl rfl rfl) rfl ?_ | fail)) | ((with_reducible refine is_load ?_); (first | refine awpL_ev (ev_load_agg rfl rfl rfl rfl) rfl ?_ | refine awpL_ev (ev_load_sub rfl rfl rfl rfl rfl) rfl ?_ | refine awpL_ev (ev_load_one rfl rfl rfl rfl) rfl ?_ | refine awpL_ev (ev_ll_agg rfl rfl rfl rfl rfl rfl rfl) rfl ?_ | refine awpL_ev (ev_ll_lag rfl rfl rfl rfl rfl rfl) rfl ?_ | refine awpL_ev (ev_ll_one rfl rfl rfl rfl rfl) rfl ?_ | refine awpL_ev (ev_el_one rfl rfl rfl rfl (by with_reducible assumption) rfl) rfl ?_ | fail)) | ((with_reducible refine is_pick ?_); (first | refine awpL_ev (ev_pick_t rfl (by first | with_reducible rfl | with_reducible assumption) rfl) rfl ?_ | refine awpL_ev (ev_pick_f rfl (by first | with_reducible rfl | with_reducible assumption) rfl) rfl ?_ | fail)) | ((with_reducible refine is_assign ?_); (first | refine awpL_ev (ev_assign rfl) rfl ?_ | fail)) | ((with_reducible refine is_call ?_); (first | refine awpL_call rfl rfl (by assumption) rfl ?_ | refine awpL_ev (ev_len rfl rfl rfl rfl rfl) rfl ?_ | refine awpL_ev (ev_max rfl rfl) rfl ?_ | refine awpL_ev (ev_min rfl rfl) rfl ?_ | refine awpL_ev (ev_len_os rfl rfl rfl rfl rfl) rfl ?_ | refine awpL_ev2 (ev_append_zf rfl rfl rfl rfl rfl rfl rfl rfl rfl rfl rfl rfl rfl (by simp only [List.length_map, List.length_cons, List.length_nil]; omega) rfl) rfl ?_ | fail)) | ((with_reducible refine is_store ?_); (first | refine awpL_stMm m rfl rfl rfl rfl rfl rfl rfl rfl rfl (by (try simp only [cellsOf, List.map_cons, List.map_nil]); (try rfl)) (by (try simp only [List.set_cons_zero, List.set_cons_succ, List.nil_append, List.cons_append, List.append_nil, cellsOf, List.take_zero, List.drop_zero, List.take_succ_cons, List.drop_succ_cons, Nat.zero_add, Nat.reduceAdd, List.drop_nil, List.map_cons, List.map_nil]); (try rfl)) ?_ | refine awpL_evS (ev_st_lp rfl rfl rfl rfl rfl rfl rfl (by (try simp only [List.set_cons_zero, List.set_cons_succ, List.nil_append, List.cons_append, List.append_nil, cellsOf, List.take_zero, List.drop_zero, List.take_succ_cons, List.drop_succ_cons, Nat.zero_add, Nat.reduceAdd, List.drop_nil, List.map_cons, List.map_nil]); (try rfl))) ?_ | fail)) | ((with_reducible refine is_alloc ?_); (first | refine awpL_ev2 (ev_alloc rfl rfl (by (try simp only [List.length_nil, List.length_cons, Nat.reduceAdd]); (try rfl)) (by (try simp only [List.set_cons_zero, List.set_cons_succ, List.nil_append, List.cons_append, List.append_nil, cellsOf, List.take_zero, List.drop_zero, List.take_succ_cons, List.drop_succ_cons, Nat.zero_add, Nat.reduceAdd, List.drop_nil, List.map_cons, List.map_nil]); (try rfl))) rfl ?_ | fail)) | ((with_reducible refine is_box ?_); (first | refine awpL_boxMm m rfl rfl rfl rfl (by (try simp only [cellsOf, List.map_cons, List.map_nil]); (try rfl)) rfl ?_ | refine awpL_ev2 (ev_box rfl rfl (by (try simp only [List.length_nil, List.length_cons, Nat.reduceAdd]); (try rfl)) (by (try simp only [List.set_cons_zero, List.set_cons_succ, List.nil_append, List.cons_append, List.append_nil, cellsOf, List.take_zero, List.drop_zero, List.take_succ_cons, List.drop_succ_cons, Nat.zero_add, Nat.reduceAdd, List.drop_nil, List.map_cons, List.map_nil]); (try rfl))) rfl ?_ | fail)) | refine awpL_ev (ev_ia_fs rfl rfl rfl rfl rfl rfl (by with_reducible assumption)) rfl ?_ | refine awpL_ev (ev_not rfl) rfl ?_ | refine awpL_ev (ev_extract rfl rfl) rfl ?_ | refine awpL_ev (ev_index_str rfl rfl rfl rfl (by with_reducible assumption)) rfl ?_ | refine awpL_ev (ev_build rfl rfl rfl rfl rfl rfl rfl) rfl ?_ | refine awpL_ev (ev_slice_fs rfl rfl rfl rfl rfl rfl rfl (by with_reducible assumption) rfl rfl) rfl ?_ | refine awpL_ev (ev_makeFunc rfl rfl) rfl ?_ | refine awpL_ev (ev_nilCheck_fp rfl) rfl ?_ | refine awpL_ev (ev_index_arr rfl rfl rfl rfl rfl rfl rfl (by with_reducible assumption)) rfl ?_ | refine awpL_ev (ev_ia_os rfl rfl rfl rfl rfl rfl rfl (by with_reducible assumption)) rfl ?_ | refine awpL_ev (ev_build_lag rfl rfl rfl rfl rfl rfl) rfl ?_ | refine awpL_ev (ev_nilCheck_lp rfl rfl) rfl ?_ | refine awpL_ev2 (ev_bslice_z rfl rfl rfl rfl rfl rfl rfl) rfl ?_ | refine awpL_ev2 (ev_bslice_in rfl rfl rfl rfl rfl rfl rfl rfl rfl rfl rfl rfl (by (try simp only [List.map_cons, List.map_nil, cellsOf]); (try rfl))) rfl ?_))
     | ((with_reducible refine is_gd ?_); (first | refine awpL_run rfl rfl rfl (by first | with_reducible rfl | with_reducible assumption) ?_ | refine awpL_passT rfl rfl rfl rfl (by first | with_reducible rfl | with_reducible assumption) ?_ | refine awpL_passF rfl rfl rfl rfl (by first | with_reducible rfl | with_reducible assumption) ?_ | refine awpL_passU rfl rfl rfl rfl ?_ | fail))
     | ((with_reducible refine is_nil ?_); refine awpL_nil ?_)
     | ((with_reducible refine is_then ?_); (first | refine thenQ_n ?_ | refine thenQ_r ?_ | refine thenQ_e ?_ | fail))
     | ((with_reducible refine is_block ?_); (first | refine blockQ_n ?_ | refine blockQ_r ?_ | refine blockQ_e ?_ | refine blockQ_o rfl ?_ | fail))
     | ((with_reducible refine is_awp ?_); (first | refine awp_seq ?_ | refine awp_ret ?_ | refine awp_skip ?_ | refine awp_exit ?_ | refine awp_label ?_ | refine awp_block ?_ | refine awp_region ?_ | refine awp_cond_t rfl (by first | with_reducible rfl | with_reducible assumption) ?_ | refine awp_cond_f rfl (by first | with_reducible rfl | with_reducible assumption) ?_ | fail))
     | fail)
    exact k.out) : A := h (.of M) ⟨k⟩
theorem stn (M : List Nat) {A B : Prop} (k : B) (h : Mut M → Left B → A := by
    intro m k
    (first
     | ((with_reducible refine is_un ?_); (first | ((with_reducible refine is_move ?_); (first | refine awpL_ev (ev_move rfl) rfl ?_ | fail)) | ((with_reducible refine is_bin ?_); (first | refine awpL_ev (ev_add rfl rfl (by omega)) rfl ?_ | refine awpL_ev (ev_sub rfl rfl (by omega)) rfl ?_ | refine awpL_ev (ev_bin rfl rfl rfl) rfl ?_ | refine awpL_ev (ev_eq_bool rfl rfl rfl rfl) rfl ?_ | fail)) | ((with_reducible refine is_fa ?_); (first | refine awpL_ev (ev_fa_fp rfl rfl rfl rfl rfl rfl) rfl ?_ | refine awpL_ev (ev_fa_lp rfl rfl rfl rfl rfl rfl rfl) rfl ?_ | refine awpL_ev (ev_fa_ep rfl rfl rfl rfl rfl rfl rfl) rfl ?_ | fail)) | ((with_reducible refine is_load ?_); (first | refine awpL_ev (ev_load_agg rfl rfl rfl rfl) rfl ?_ | refine awpL_ev (ev_load_sub rfl rfl rfl rfl rfl) rfl ?_ | refine awpL_ev (ev_load_one rfl rfl rfl rfl) rfl ?_ | refine awpL_ev (ev_ll_agg rfl rfl rfl rfl rfl rfl rfl) rfl ?_ | refine awpL_ev (ev_ll_lag rfl rfl rfl rfl rfl rfl) rfl ?_ | refine awpL_ev (ev_ll_one rfl rfl rfl rfl rfl) rfl ?_ | refine awpL_ev (ev_el_one rfl rfl rfl rfl (by with_reducible assumption) rfl) rfl ?_ | fail)) | ((with_reducible refine is_pick ?_); (first | refine awpL_ev (ev_pick_t rfl (by first | with_reducible rfl | with_reducible assumption) rfl) rfl ?_ | refine awpL_ev (ev_pick_f rfl (by first | with_reducible rfl | with_reducible assumption) rfl) rfl ?_ | fail)) | ((with_reducible refine is_assign ?_); (first | refine awpL_ev (ev_assign rfl) rfl ?_ | fail)) | ((with_reducible refine is_call ?_); (first | refine awpL_call rfl rfl (by assumption) rfl ?_ | refine awpL_ev (ev_len rfl rfl rfl rfl rfl) rfl ?_ | refine awpL_ev (ev_max rfl rfl) rfl ?_ | refine awpL_ev (ev_min rfl rfl) rfl ?_ | refine awpL_ev (ev_len_os rfl rfl rfl rfl rfl) rfl ?_ | refine awpL_ev2 (ev_append_zf rfl rfl rfl rfl rfl rfl rfl rfl rfl rfl rfl rfl rfl (by simp only [List.length_map, List.length_cons, List.length_nil]; omega) rfl) rfl ?_ | fail)) | ((with_reducible refine is_store ?_); (first | refine awpL_stMm m rfl rfl rfl rfl rfl rfl rfl rfl rfl (by (try simp only [cellsOf, List.map_cons, List.map_nil]); (try rfl)) (by (try simp only [List.set_cons_zero, List.set_cons_succ, List.nil_append, List.cons_append, List.append_nil, cellsOf, List.take_zero, List.drop_zero, List.take_succ_cons, List.drop_succ_cons, Nat.zero_add, Nat.reduceAdd, List.drop_nil, List.map_cons, List.map_nil]); (try rfl)) ?_ | refine awpL_evS (ev_st_lp rfl rfl rfl rfl rfl rfl rfl (by (try simp only [List.set_cons_zero, List.set_cons_succ, List.nil_append, List.cons_append, List.append_nil, cellsOf, List.take_zero, List.drop_zero, List.take_succ_cons, List.drop_succ_cons, Nat.zero_add, Nat.reduceAdd, List.drop_nil, List.map_cons, List.map_nil]); (try rfl))) ?_ | fail)) | ((with_reducible refine is_alloc ?_); (first | refine awpL_ev2 (ev_alloc rfl rfl (by (try simp only [List.length_nil, List.length_cons, Nat.reduceAdd]); (try rfl)) (by (try simp only [List.set_cons_zero, List.set_cons_succ, List.nil_append, List.cons_append, List.append_nil, cellsOf, List.take_zero, List.drop_zero, List.take_succ_cons, List.drop_succ_cons, Nat.zero_add, Nat.reduceAdd, List.drop_nil, List.map_cons, List.map_nil]); (try rfl))) rfl ?_ | fail)) | ((with_reducible refine is_box ?_); (first | refine awpL_boxMm m rfl rfl rfl rfl (by (try simp only [cellsOf, List.map_cons, List.map_nil]); (try rfl)) rfl ?_ | refine awpL_ev2 (ev_box rfl rfl (by (try simp only [List.length_nil, List.length_cons, Nat.reduceAdd]); (try rfl)) (by (try simp only [List.set_cons_zero, List.set_cons_succ, List.nil_append, List.cons_append, List.append_nil, cellsOf, List.take_zero, List.drop_zero, List.take_succ_cons, List.drop_succ_cons, Nat.zero_add, Nat.reduceAdd, List.drop_nil, List.map_cons, List.map_nil]); (try rfl))) rfl ?_ | fail)) | refine awpL_ev (ev_ia_fs rfl rfl rfl rfl rfl rfl (by with_reducible assumption)) rfl ?_ | refine awpL_ev (ev_not rfl) rfl ?_ | refine awpL_ev (ev_extract rfl rfl) rfl ?_ | refine awpL_ev (ev_index_str rfl rfl rfl rfl (by with_reducible assumption)) rfl ?_ | refine awpL_ev (ev_build rfl rfl rfl rfl rfl rfl rfl) rfl ?_ | refine awpL_ev (ev_slice_fs rfl rfl rfl rfl rfl rfl rfl (by with_reducible assumption) rfl rfl) rfl ?_ | refine awpL_ev (ev_makeFunc rfl rfl) rfl ?_ | refine awpL_ev (ev_nilCheck_fp rfl) rfl ?_ | refine awpL_ev (ev_index_arr rfl rfl rfl rfl rfl rfl rfl (by with_reducible assumption)) rfl ?_ | refine awpL_ev (ev_ia_os rfl rfl rfl rfl rfl rfl rfl (by with_reducible assumption)) rfl ?_ | refine awpL_ev (ev_build_lag rfl rfl rfl rfl rfl rfl) rfl ?_ | refine awpL_ev (ev_nilCheck_lp rfl rfl) rfl ?_ | refine awpL_ev2 (ev_bslice_z rfl rfl rfl rfl rfl rfl rfl) rfl ?_ | refine awpL_ev2 (ev_bslice_in rfl rfl rfl rfl rfl rfl rfl rfl rfl rfl rfl rfl (by (try simp only [List.map_cons, List.map_nil, cellsOf]); (try rfl))) rfl ?_))
     | ((with_reducible refine is_gd ?_); (first | refine awpL_run rfl rfl rfl (by first | with_reducible rfl | with_reducible assumption) ?_ | refine awpL_passT rfl rfl rfl rfl (by first | with_reducible rfl | with_reducible assumption) ?_ | refine awpL_passF rfl rfl rfl rfl (by first | with_reducible rfl | with_reducible assumption) ?_ | refine awpL_passU rfl rfl rfl rfl ?_ | fail))
     | ((with_reducible refine is_nil ?_); refine awpL_nil ?_)
     | ((with_reducible refine is_then ?_); (first | refine thenQ_n ?_ | refine thenQ_r ?_ | refine thenQ_e ?_ | fail))
     | ((with_reducible refine is_block ?_); (first | refine blockQ_n ?_ | refine blockQ_r ?_ | refine blockQ_e ?_ | refine blockQ_o rfl ?_ | fail))
     | ((with_reducible refine is_awp ?_); (first | refine awp_seq ?_ | refine awp_ret ?_ | refine awp_skip ?_ | refine awp_exit ?_ | refine awp_label ?_ | refine awp_block ?_ | refine awp_region ?_ | refine awp_cond_t rfl (by first | with_reducible rfl | with_reducible assumption) ?_ | refine awp_cond_f rfl (by first | with_reducible rfl | with_reducible assumption) ?_ | fail))
     | fail)
    exact k.out) : A := h (.of M) ⟨k⟩
end Go.Ac
end
section
namespace Go.Proofs.YtnacjdaoiepbhaaGreatDoor
open Go.Ac
def td : TDs := [(2, ⟨.int .i64, 1, 8, [.int .i64 0]⟩),
  (3, ⟨.int .i64, 1, 8, [.int .i64 0]⟩),
  (4, ⟨.bool, 1, 1, [.bool false]⟩),
  (5, ⟨.int .u8, 1, 1, [.int .u8 0]⟩),
  (9, ⟨.str, 1, 16, [.string .empty]⟩),
  (12, ⟨.int .u64, 1, 8, [.int .u64 0]⟩),
  (20, ⟨.iface, 1, 16, [.nilIface]⟩),
  (21, ⟨.int .i32, 1, 4, [.int .i32 0]⟩),
  (22, ⟨.struct [(3, 0), (3, 1)], 2, 16, [.int .i64 0, .int .i64 0]⟩),
  (23, ⟨.struct [(3, 0), (3, 1)], 2, 16, [.int .i64 0, .int .i64 0]⟩),
  (24, ⟨.struct [(3, 0), (3, 1), (23, 2)], 4, 32, [.int .i64 0, .int .i64 0, .int .i64 0, .int .i64 0]⟩),
  (25, ⟨.struct [(3, 0), (3, 1), (23, 2)], 4, 32, [.int .i64 0, .int .i64 0, .int .i64 0, .int .i64 0]⟩),
  (27, ⟨.int .i64, 1, 8, [.int .i64 0]⟩),
  (30, ⟨.slice 3, 1, 24, [.slice none 0 0]⟩),
  (35, ⟨.slice 74, 1, 24, [.slice none 0 0]⟩),
  (36, ⟨.struct [(3, 0), (30, 1), (35, 2)], 3, 56, [.int .i64 0, .slice none 0 0, .slice none 0 0]⟩),
  (37, ⟨.struct [(3, 0), (30, 1), (35, 2)], 3, 56, [.int .i64 0, .slice none 0 0, .slice none 0 0]⟩),
  (42, ⟨.slice 25, 1, 24, [.slice none 0 0]⟩),
  (48, ⟨.struct [(3, 0), (9, 1), (3, 2), (3, 3), (30, 4)], 5, 64, [.int .i64 0, .string .empty, .int .i64 0, .int .i64 0, .slice none 0 0]⟩),
  (49, ⟨.struct [(3, 0), (9, 1), (3, 2), (3, 3), (30, 4)], 5, 64, [.int .i64 0, .string .empty, .int .i64 0, .int .i64 0, .slice none 0 0]⟩),
  (50, ⟨.slice 88, 1, 24, [.slice none 0 0]⟩),
  (51, ⟨.slice 65, 1, 24, [.slice none 0 0]⟩),
  (52, ⟨.struct [(49, 0), (50, 5), (51, 6)], 7, 112, [.int .i64 0, .string .empty, .int .i64 0, .int .i64 0, .slice none 0 0, .slice none 0 0, .slice none 0 0]⟩),
  (53, ⟨.struct [(49, 0), (50, 5), (51, 6)], 7, 112, [.int .i64 0, .string .empty, .int .i64 0, .int .i64 0, .slice none 0 0, .slice none 0 0, .slice none 0 0]⟩),
  (54, ⟨.slice 63, 1, 24, [.slice none 0 0]⟩),
  (55, ⟨.struct [(53, 0), (54, 7)], 8, 136, [.int .i64 0, .string .empty, .int .i64 0, .int .i64 0, .slice none 0 0, .slice none 0 0, .slice none 0 0, .slice none 0 0]⟩),
  (56, ⟨.struct [(53, 0), (54, 7)], 8, 136, [.int .i64 0, .string .empty, .int .i64 0, .int .i64 0, .slice none 0 0, .slice none 0 0, .slice none 0 0, .slice none 0 0]⟩),
  (62, ⟨.struct [(3, 0), (3, 1)], 2, 16, [.int .i64 0, .int .i64 0]⟩),
  (63, ⟨.struct [(3, 0), (3, 1)], 2, 16, [.int .i64 0, .int .i64 0]⟩),
  (64, ⟨.struct [(3, 0), (3, 1), (3, 2), (63, 3), (3, 5), (9, 6)], 7, 64, [.int .i64 0, .int .i64 0, .int .i64 0, .int .i64 0, .int .i64 0, .int .i64 0, .string .empty]⟩),
  (65, ⟨.struct [(3, 0), (3, 1), (3, 2), (63, 3), (3, 5), (9, 6)], 7, 64, [.int .i64 0, .int .i64 0, .int .i64 0, .int .i64 0, .int .i64 0, .int .i64 0, .string .empty]⟩),
  (66, ⟨.slice 93, 1, 24, [.slice none 0 0]⟩),
  (67, ⟨.struct [(3, 0), (65, 1), (66, 8), (66, 9), (66, 10)], 11, 144, [.int .i64 0, .int .i64 0, .int .i64 0, .int .i64 0, .int .i64 0, .int .i64 0, .int .i64 0, .string .empty, .slice none 0 0, .slice none 0 0, .slice none 0 0]⟩),
  (68, ⟨.struct [(3, 0), (65, 1), (66, 8), (66, 9), (66, 10)], 11, 144, [.int .i64 0, .int .i64 0, .int .i64 0, .int .i64 0, .int .i64 0, .int .i64 0, .int .i64 0, .string .empty, .slice none 0 0, .slice none 0 0, .slice none 0 0]⟩),
  (72, ⟨.slice 23, 1, 24, [.slice none 0 0]⟩),
  (73, ⟨.struct [(23, 0), (3, 2), (3, 3), (65, 4), (3, 11), (3, 12), (9, 13), (72, 14)], 15, 152, [.int .i64 0, .int .i64 0, .int .i64 0, .int .i64 0, .int .i64 0, .int .i64 0, .int .i64 0, .int .i64 0, .int .i64 0, .int .i64 0, .string .empty, .int .i64 0, .int .i64 0, .string .empty, .slice none 0 0]⟩),
  (74, ⟨.struct [(23, 0), (3, 2), (3, 3), (65, 4), (3, 11), (3, 12), (9, 13), (72, 14)], 15, 152, [.int .i64 0, .int .i64 0, .int .i64 0, .int .i64 0, .int .i64 0, .int .i64 0, .int .i64 0, .int .i64 0, .int .i64 0, .int .i64 0, .string .empty, .int .i64 0, .int .i64 0, .string .empty, .slice none 0 0]⟩),
  (87, ⟨.struct [(9, 0), (3, 1), (3, 2), (3, 3)], 4, 40, [.string .empty, .int .i64 0, .int .i64 0, .int .i64 0]⟩),
  (88, ⟨.struct [(9, 0), (3, 1), (3, 2), (3, 3)], 4, 40, [.string .empty, .int .i64 0, .int .i64 0, .int .i64 0]⟩),
  (92, ⟨.struct [(23, 0), (3, 2), (9, 3)], 4, 40, [.int .i64 0, .int .i64 0, .int .i64 0, .string .empty]⟩),
  (93, ⟨.struct [(23, 0), (3, 2), (9, 3)], 4, 40, [.int .i64 0, .int .i64 0, .int .i64 0, .string .empty]⟩),
  (102, ⟨.map 23 4, 1, 8, [.map none]⟩),
  (104, ⟨.slice 66, 1, 24, [.slice none 0 0]⟩),
  (116, ⟨.slice 5, 1, 24, [.slice none 0 0]⟩),
  (129, ⟨.map 23 93, 1, 8, [.map none]⟩),
  (137, ⟨.map 3 3, 1, 8, [.map none]⟩),
  (138, ⟨.map 172 4, 1, 8, [.map none]⟩),
  (139, ⟨.struct [(137, 0), (138, 1), (23, 2)], 4, 32, [.map none, .map none, .int .i64 0, .int .i64 0]⟩),
  (140, ⟨.struct [(137, 0), (138, 1), (23, 2)], 4, 32, [.map none, .map none, .int .i64 0, .int .i64 0]⟩),
  (147, ⟨.iface, 1, 16, [.nilIface]⟩),
  (148, ⟨.iface, 1, 16, [.nilIface]⟩),
  (151, ⟨.arr 2 3, 2, 16, [.int .i64 0, .int .i64 0]⟩),
  (167, ⟨.int .u64, 1, 8, [.int .u64 0]⟩),
  (169, ⟨.ptr 140, 1, 8, [.pointer none]⟩),
  (170, ⟨.arr 3 3, 3, 24, [.int .i64 0, .int .i64 0, .int .i64 0]⟩),
  (171, ⟨.struct [(23, 0), (3, 2), (3, 3)], 4, 32, [.int .i64 0, .int .i64 0, .int .i64 0, .int .i64 0]⟩),
  (172, ⟨.struct [(23, 0), (3, 2), (3, 3)], 4, 32, [.int .i64 0, .int .i64 0, .int .i64 0, .int .i64 0]⟩),
  (186, ⟨.int .i64, 1, 8, [.int .i64 0]⟩),
  (193, ⟨.int .u32, 1, 4, [.int .u32 0]⟩),
  (195, ⟨.int .u64, 1, 8, [.int .u64 0]⟩),
  (203, ⟨.arr 24 5, 24, 24, [.int .u8 0, .int .u8 0, .int .u8 0, .int .u8 0, .int .u8 0, .int .u8 0, .int .u8 0, .int .u8 0, .int .u8 0, .int .u8 0, .int .u8 0, .int .u8 0, .int .u8 0, .int .u8 0, .int .u8 0, .int .u8 0, .int .u8 0, .int .u8 0, .int .u8 0, .int .u8 0, .int .u8 0, .int .u8 0, .int .u8 0, .int .u8 0]⟩),
  (207, ⟨.int .i64, 1, 8, [.int .i64 0]⟩),
  (210, ⟨.ptr 239, 1, 8, [.pointer none]⟩),
  (223, ⟨.int .u64, 1, 8, [.int .u64 0]⟩),
  (227, ⟨.ptr 3, 1, 8, [.pointer none]⟩),
  (229, ⟨.slice 27, 1, 24, [.slice none 0 0]⟩),
  (233, ⟨.arr 20 195, 20, 160, [.int .u64 0, .int .u64 0, .int .u64 0, .int .u64 0, .int .u64 0, .int .u64 0, .int .u64 0, .int .u64 0, .int .u64 0, .int .u64 0, .int .u64 0, .int .u64 0, .int .u64 0, .int .u64 0, .int .u64 0, .int .u64 0, .int .u64 0, .int .u64 0, .int .u64 0, .int .u64 0]⟩),
  (238, ⟨.struct [(9, 0), (9, 1), (148, 2)], 3, 48, [.string .empty, .string .empty, .nilIface]⟩),
  (239, ⟨.struct [(9, 0), (9, 1), (148, 2)], 3, 48, [.string .empty, .string .empty, .nilIface]⟩),
  (245, ⟨.ptr 223, 1, 8, [.pointer none]⟩),
  (249, ⟨.ptr 5, 1, 8, [.pointer none]⟩),
  (250, ⟨.ptr 252, 1, 8, [.pointer none]⟩),
  (251, ⟨.struct [(9, 0)], 1, 16, [.string .empty]⟩),
  (252, ⟨.struct [(9, 0)], 1, 16, [.string .empty]⟩),
  (257, ⟨.arr 32 5, 32, 32, [.int .u8 0, .int .u8 0, .int .u8 0, .int .u8 0, .int .u8 0, .int .u8 0, .int .u8 0, .int .u8 0, .int .u8 0, .int .u8 0, .int .u8 0, .int .u8 0, .int .u8 0, .int .u8 0, .int .u8 0, .int .u8 0, .int .u8 0, .int .u8 0, .int .u8 0, .int .u8 0, .int .u8 0, .int .u8 0, .int .u8 0, .int .u8 0, .int .u8 0, .int .u8 0, .int .u8 0, .int .u8 0, .int .u8 0, .int .u8 0, .int .u8 0, .int .u8 0]⟩),
  (261, ⟨.struct [(5, 0), (5, 1)], 2, 2, [.int .u8 0, .int .u8 0]⟩),
  (262, ⟨.struct [(5, 0), (5, 1)], 2, 2, [.int .u8 0, .int .u8 0]⟩),
  (263, ⟨.arr 16 262, 32, 32, [.int .u8 0, .int .u8 0, .int .u8 0, .int .u8 0, .int .u8 0, .int .u8 0, .int .u8 0, .int .u8 0, .int .u8 0, .int .u8 0, .int .u8 0, .int .u8 0, .int .u8 0, .int .u8 0, .int .u8 0, .int .u8 0, .int .u8 0, .int .u8 0, .int .u8 0, .int .u8 0, .int .u8 0, .int .u8 0, .int .u8 0, .int .u8 0, .int .u8 0, .int .u8 0, .int .u8 0, .int .u8 0, .int .u8 0, .int .u8 0, .int .u8 0, .int .u8 0]⟩)]
theorem td_eq : tdsOf Tryz.prog [2, 3, 4, 5, 9, 12, 20, 21, 22, 23, 24, 25, 27, 30, 35, 36, 37, 42, 48, 49, 50, 51, 52, 53, 54, 55, 56, 62, 63, 64, 65, 66, 67, 68, 72, 73, 74, 87, 88, 92, 93, 102, 104, 116, 129, 137, 138, 139, 140, 147, 148, 151, 167, 169, 170, 171, 172, 186, 193, 195, 203, 207, 210, 223, 227, 229, 233, 238, 239, 245, 249, 250, 251, 252, 257, 261, 262, 263] = td := by kernel_rfl
instance tok : TOK Tryz.prog td := TOK.mk' [2, 3, 4, 5, 9, 12, 20, 21, 22, 23, 24, 25, 27, 30, 35, 36, 37, 42, 48, 49, 50, 51, 52, 53, 54, 55, 56, 62, 63, 64, 65, 66, 67, 68, 72, 73, 74, 87, 88, 92, 93, 102, 104, 116, 129, 137, 138, 139, 140, 147, 148, 151, 167, 169, 170, 171, 172, 186, 193, 195, 203, 207, 210, 223, 227, 229, 233, 238, 239, 245, 249, 250, 251, 252, 257, 261, 262, 263] td_eq
def stampC (s : Stamp) : List AV := [.v (.int .i64 s.count), .v (.int .i64 s.dev)]
def noteC (n : Note) : List AV := [.v (.int .i64 n.id), .v (.int .i64 n.tier), .v (.int .i64 n.parent), .v (.int .i64 n.span.fro), .v (.int .i64 n.span.til), .v (.int .i64 n.rank), .v (.string n.text)]
abbrev encStamps (l : List Stamp) : AV := .fs 2 l.length (l.map stampC)
def opC (o : Op) : List AV := [.v (.int .i64 o.at_.count), .v (.int .i64 o.at_.dev), .v (.int .i64 o.kind), .v (.int .i64 o.rec_),
  .v (.int .i64 o.note.id), .v (.int .i64 o.note.tier), .v (.int .i64 o.note.parent), .v (.int .i64 o.note.span.fro), .v (.int .i64 o.note.span.til), .v (.int .i64 o.note.rank), .v (.string o.note.text),
  .v (.int .i64 o.set), .v (.int .i64 o.n), .v (.string o.text), encStamps o.over]
def intC (n : Int) : List AV := [.v (.int .i64 n)]
abbrev encIs (l : List Int) : AV := .fs 1 l.length (l.map intC)
abbrev encOps (l : List Op) : AV := .fs 15 l.length (l.map opC)
def repC (r : Replica) : List AV := [.v (.int .i64 r.dev), encIs r.seen, encOps r.ops]
theorem stamp_get {l : List Stamp} {k : Nat} {t : Stamp} (h : l[k]? = some t) : 0 ≤ (k : Int) ∧ (l.map stampC)[(k : Int).toNat]? = some (stampC t) := ⟨by omega, by simp [h]⟩
theorem op_get {l : List Op} {k : Nat} {t : Op} (h : l[k]? = some t) : 0 ≤ (k : Int) ∧ (l.map opC)[(k : Int).toNat]? = some (opC t) := ⟨by omega, by simp [h]⟩
theorem int_get {l : List Int} {k : Nat} {t : Int} (h : l[k]? = some t) : 0 ≤ (k : Int) ∧ (l.map intC)[(k : Int).toNat]? = some (intC t) := ⟨by omega, by simp [h]⟩
end Go.Proofs.YtnacjdaoiepbhaaGreatDoor
end
section
namespace Go.Proofs.YtnacjdaoiepbhaaGreatDoor
open Go.Ac
attribute [local irreducible] awp awpL Ev Ev2 EvS thenQ blockQ retQ PCalls OCalls
variable {g : List (Nat × List AV)}
def stampEq : List Value → List Value → Option Bool
  | [.int .i64 a, .int .i64 b], [.int .i64 a', .int .i64 b'] => some (a == a' && b == b')
  | _, _ => none
theorem stampEq_T : EqT Tryz.prog 23 stampEq := by
  intro xs ys b w h
  unfold stampEq at h
  split at h
  · rename_i a b a' b'
    have h := Option.some.inj h
    subst h
    have u3 := Tryz.underlying3
    have a3 := Tryz.isAgg3
    have z3 := Tryz.sizeOf3
    have hS : Tryz.prog.underlying 23 = some (.struct (Tryz.prog.fieldsOf 23)) := by kernel_rfl
    rw [show (10000 : Nat) = 9999 + 1 from rfl, run_equalIn_agg w 9999 _ _ _ hS (by kernel_rfl)]
    simp only [Program.fieldsOf, Tryz.underlying23]
    go_simp
    by_cases h1 : a = a' <;> by_cases h2 : b = b' <;> simp [h1, h2]
  · cases h
theorem isNaN_spec (a : Int) : PCalls Tryz.prog g 152 [vi a] (vb false) := by
  refine pcalls' Tryz.func152 Tryz.ntmps152 rfl rfl rfl ?_
  refine runn [] ?_
  all_goals refine retP rfl ?_
  all_goals simp [ex]
theorem cmp_spec (a b : Int) : PCalls Tryz.prog g 124 [vi a, vi b] (vi (cmp a b)) := by
  have h1 := isNaN_spec (g := g) a
  have h2 := isNaN_spec (g := g) b
  refine pcalls' Tryz.func124 Tryz.ntmps124 rfl rfl rfl ?_
  repeat' (first
   | refine stn [] ?_
   | ((with_reducible refine is_awp ?_); refine awp_cond rfl (fun h => ?_) (fun h => ?_))
   | fail)
  all_goals refine retP rfl ?_
  all_goals clear h1 h2
  all_goals simp_all [ex, cmp]
  all_goals first | omega | (intros; omega) | ((repeat' split) <;> omega)
set_option maxHeartbeats 400000 in
theorem or_spec (l : List Int) (hl : l.length ≤ 1000000) : PCalls Tryz.prog g 127 [encIs l] (vi ((l.find? (fun x => decide (x ≠ 0))).getD 0)) := by
  refine pcalls' Tryz.func127 Tryz.ntmps127 rfl rfl rfl ?_
  repeat' (first
   | refine stn [] ?_
   | ((with_reducible refine is_awp ?_); refine awp_cond rfl (fun h => ?_) (fun h => ?_))
   | fail)
  refine awp_for (α := Nat) 0 (fun k => [(6, encIs l), (7, vi l.length), (8, vi k), (3, vi 0)]) (fun _ => []) (fun k => k ≤ l.length ∧ l.find? (fun x => decide (x ≠ 0)) = (l.drop k).find? (fun x => decide (x ≠ 0))) (fun k => l.length - k) 0
    ⟨(.cons rfl rfl (.cons rfl rfl (.cons rfl rfl (.cons rfl rfl .nil)))), rfl, rfl, rfl⟩ ⟨Nat.zero_le _, rfl⟩ ?_
  rintro k ⟨hk, hf⟩
  cases ht : l[k]? with
  | none =>
    have hge : l.length ≤ k := by simpa using ht
    have c1 : decide ((k : Int) < l.length) = false := by simp; omega
    rw [List.drop_of_length_le hge] at hf
    refine runn [] ?_
    refine retP rfl ?_
    rw [hf]; rfl
  | some t =>
    have hlt : k < l.length := (List.getElem?_eq_some_iff.1 ht).1
    have c1 : decide ((k : Int) < l.length) = true := by simp; omega
    have h1 := int_get ht
    have hd : l.drop k = t :: l.drop (k + 1) := by
      obtain ⟨_, rfl⟩ := List.getElem?_eq_some_iff.1 ht
      exact List.drop_eq_getElem_cons hlt
    rw [hd] at hf
    repeat' (first
     | refine stn [] ?_
     | ((with_reducible refine is_awp ?_); refine awp_cond rfl (fun h => ?_) (fun h => ?_))
     | fail)
    · refine retP rfl ?_
      rw [hf]
      have : t ≠ 0 := by simpa using h
      simp [this, ex]
    · refine ⟨k + 1, ⟨(.cons rfl rfl (.cons rfl rfl (.cons rfl rfl (.cons rfl rfl .nil)))), rfl, rfl, rfl⟩, ⟨by omega, ?_⟩, by omega⟩
      rw [hf]
      have : t = 0 := by simpa using h
      simp [this]
theorem Right_spec (s : Stamp) : PCalls Tryz.prog g 95 [.agg (stampC s)] (vb (right s)) := by
  refine pcalls' Tryz.func95 Tryz.ntmps95 rfl rfl rfl ?_
  repeat' (first
   | refine stn [] ?_
   | ((with_reducible refine is_gd ?_); refine awpL_split rfl rfl (fun h => ?_) (fun h => ?_))
   | fail)
  all_goals refine retP rfl ?_
  all_goals simp_all [ex, right]
  all_goals first | omega | (intros; omega) | ((repeat' split) <;> omega)
theorem rRight_spec (s : Stamp) : PCalls Tryz.prog g 134 [.agg (stampC s)] (vb (right s)) := by
  refine pcalls' Tryz.func134 Tryz.ntmps134 rfl rfl rfl ?_
  repeat' (first
   | refine stn [] ?_
   | ((with_reducible refine is_gd ?_); refine awpL_split rfl rfl (fun h => ?_) (fun h => ?_))
   | fail)
  all_goals refine retP rfl ?_
  all_goals simp_all [ex, right]
  all_goals first | omega | (intros; omega) | ((repeat' split) <;> omega)
theorem cmp_lt {a b : Int} (h : a < b) : cmp a b = -1 := by simp [cmp, h]
theorem cmp_gt {a b : Int} (h : b < a) : cmp a b = 1 := by
  have : ¬ a < b := by omega
  simp [cmp, h, this]
theorem cmp_eq (a : Int) : cmp a a = 0 := by simp [cmp]
theorem less_cmp (a b : Stamp) : decide ((([cmp a.count b.count, cmp a.dev b.dev].find? (fun x => decide (x ≠ 0))).getD 0) < 0) = less a b := by
  unfold less
  rcases Int.lt_trichotomy a.count b.count with h1 | h1 | h1
  · simp [cmp_lt h1, h1]
  · rw [h1, cmp_eq]
    rcases Int.lt_trichotomy a.dev b.dev with h2 | h2 | h2
    · simp [cmp_lt h2, h2]
    · rw [h2, cmp_eq]; simp
    · have : ¬ a.dev < b.dev := by omega
      simp [cmp_gt h2, this]
  · have : ¬ a.count < b.count := by omega
    have h3 : a.count ≠ b.count := by omega
    simp [cmp_gt h1, this, h3]
theorem less_self {a b : Stamp} (h : (a.count == b.count && a.dev == b.dev) = true) : less a b = false := by
  simp at h
  simp [less, h.1, h.2]
set_option maxHeartbeats 400000 in
theorem Less_spec (a b : Stamp) : PCalls Tryz.prog g 91 [.agg (stampC a), .agg (stampC b)] (vb (less a b)) := by
  have h1 := cmp_spec (g := g) a.count b.count
  have h2 := cmp_spec (g := g) a.dev b.dev
  have h3 := or_spec (g := g) [cmp a.count b.count, cmp a.dev b.dev] (by simp)
  refine pcalls' Tryz.func91 Tryz.ntmps91 rfl rfl rfl ?_
  repeat' (first
   | ((with_reducible refine isD_un ?_); refine awpD_un (as_ev (fun _ => ev_eq_agg (neg := true) stampEq_T (by kernel_rfl) rfl rfl rfl rfl rfl) rfl rfl) (by (try simp only [List.nil_append, List.cons_append]); (try rfl)) ?_)
   | ((with_reducible refine isD_gd ?_); refine awpD_gd rfl rfl (by first | with_reducible rfl | with_reducible assumption) (as_ev (fun _ => ev_eq_agg (neg := true) stampEq_T (by kernel_rfl) rfl rfl rfl rfl rfl) rfl rfl) (by (try simp only [List.nil_append, List.cons_append]); (try rfl)) ?_)
   | refine st [] ?_
   | ((with_reducible refine isD_gd ?_); ((fail_if_success (refine isD_kn (c := true) rfl (by first | with_reducible rfl | with_reducible assumption) ?_)); (fail_if_success (refine isD_kn (c := false) rfl (by first | with_reducible rfl | with_reducible assumption) ?_)); refine awpD_split rfl (fun h => ?_) (fun h => ?_)))
   | fail)
  · refine retP rfl ?_
    show vb _ = vb _
    congr 2
    exact less_cmp a b
  · refine retP rfl ?_
    rw [less_self (by simpa using h)]
    rfl
theorem rLess_spec (a b : Stamp) : PCalls Tryz.prog g 106 [.agg (stampC a), .agg (stampC b)] (vb (less a b)) := by
  refine pcalls' Tryz.func106 Tryz.ntmps106 rfl rfl rfl ?_
  repeat' (first
   | refine stn [] ?_
   | ((with_reducible refine is_gd ?_); refine awpL_split rfl rfl (fun h => ?_) (fun h => ?_))
   | fail)
  all_goals refine retP rfl ?_
  all_goals simp_all [ex, less]
  all_goals first | omega | (intros; omega) | ((repeat' split) <;> omega)
theorem Id_spec (s : Stamp) : PCalls Tryz.prog g 206 [.agg (stampC s)] (vi (idOf s)) := by
  have h1 := Right_spec (g := g) s
  refine pcalls' Tryz.func206 Tryz.ntmps206 rfl rfl rfl ?_
  cases hr : right s with
  | false =>
    rw [hr] at h1
    have n1 : (!false) = true := rfl
    refine runn [] ?_
    all_goals refine retP rfl ?_
    all_goals simp [ex, idOf, hr]
  | true =>
    rw [hr] at h1
    have n1 : (!true) = false := rfl
    have hb : -9223372036854775808 ≤ 16 * s.count ∧ 16 * s.count ≤ 9223372036854775807 := by
      simp [right] at hr; omega
    have hb2 : -9223372036854775808 ≤ 16 * s.count + s.dev ∧ 16 * s.count + s.dev ≤ 9223372036854775807 := by
      simp [right] at hr; omega
    repeat' (first
     | ((with_reducible refine is_un ?_); refine awpL_ev (ev_mul rfl rfl hb) rfl ?_)
     | refine stn [] ?_
     | fail)
    all_goals refine retP rfl ?_
    all_goals simp [ex, idOf, hr]
theorem rId_spec (s : Stamp) : PCalls Tryz.prog g 187 [.agg (stampC s)] (vi (idOf s)) := by
  have h1 := rRight_spec (g := g) s
  refine pcalls' Tryz.func187 Tryz.ntmps187 rfl rfl rfl ?_
  cases hr : right s with
  | false =>
    rw [hr] at h1
    have n1 : (!false) = true := rfl
    refine runn [] ?_
    all_goals refine retP rfl ?_
    all_goals simp [ex, idOf, hr]
  | true =>
    rw [hr] at h1
    have n1 : (!true) = false := rfl
    have hb : -9223372036854775808 ≤ 16 * s.count ∧ 16 * s.count ≤ 9223372036854775807 := by
      simp [right] at hr; omega
    have hb2 : -9223372036854775808 ≤ 16 * s.count + s.dev ∧ 16 * s.count + s.dev ≤ 9223372036854775807 := by
      simp [right] at hr; omega
    repeat' (first
     | ((with_reducible refine is_un ?_); refine awpL_ev (ev_mul rfl rfl hb) rfl ?_)
     | refine stn [] ?_
     | fail)
    all_goals refine retP rfl ?_
    all_goals simp [ex, idOf, hr]
end Go.Proofs.YtnacjdaoiepbhaaGreatDoor
end
section
namespace Go.Proofs.YtnacjdaoiepbhaaGreatDoor
open Go.Ac
attribute [local irreducible] awp awpL Ev Ev2 EvS thenQ blockQ retQ PCalls OCalls
variable {g : List (Nat × List AV)}
abbrev ofR (id : Int) : AV := .tup [.agg (stampC (if right (stampOf id) then stampOf id else ⟨0, 0⟩)), vb (right (stampOf id))]
theorem Of_spec (id : Int) (hid : -9223372036854775808 ≤ id ∧ id ≤ 9223372036854775807) : PCalls Tryz.prog g 208 [vi id] (ofR id) := by
  have h1 := Right_spec (g := g) (stampOf id)
  have hq : (0 : Int) < 16 ∧ -9223372036854775808 ≤ id ∧ id ≤ 9223372036854775807 := ⟨by omega, hid⟩
  have hr : (0 : Int) < 16 := by omega
  refine pcalls' Tryz.func208 Tryz.ntmps208 rfl rfl rfl ?_
  cases hc : right (stampOf id) with
  | false =>
    rw [hc] at h1
    have n1 : (!false) = true := rfl
    repeat' (first
     | ((with_reducible refine is_un ?_); (first | refine awpL_ev (ev_tdiv rfl rfl hq) rfl ?_ | refine awpL_ev (ev_tmod rfl rfl hr) rfl ?_))
     | refine stn [2] ?_
     | fail)
    refine retP rfl ?_
    simp [ex, exL, ofR, hc, stampC]
  | true =>
    rw [hc] at h1
    have n1 : (!true) = false := rfl
    repeat' (first
     | ((with_reducible refine is_un ?_); (first | refine awpL_ev (ev_tdiv rfl rfl hq) rfl ?_ | refine awpL_ev (ev_tmod rfl rfl hr) rfl ?_))
     | refine stn [2] ?_
     | fail)
    refine retP rfl ?_
    rw [ofR, hc, if_pos rfl]
    simp [ex, exL, stampC, stampOf]
theorem rOf_spec (id : Int) (hid : -9223372036854775808 ≤ id ∧ id ≤ 9223372036854775807) : PCalls Tryz.prog g 186 [vi id] (ofR id) := by
  have h1 := rRight_spec (g := g) (stampOf id)
  have hq : (0 : Int) < 16 ∧ -9223372036854775808 ≤ id ∧ id ≤ 9223372036854775807 := ⟨by omega, hid⟩
  have hr : (0 : Int) < 16 := by omega
  refine pcalls' Tryz.func186 Tryz.ntmps186 rfl rfl rfl ?_
  cases hc : right (stampOf id) with
  | false =>
    rw [hc] at h1
    have n1 : (!false) = true := rfl
    repeat' (first
     | ((with_reducible refine is_un ?_); (first | refine awpL_ev (ev_tdiv rfl rfl hq) rfl ?_ | refine awpL_ev (ev_tmod rfl rfl hr) rfl ?_))
     | refine stn [2] ?_
     | fail)
    refine retP rfl ?_
    simp [ex, exL, ofR, hc, stampC]
  | true =>
    rw [hc] at h1
    have n1 : (!true) = false := rfl
    repeat' (first
     | ((with_reducible refine is_un ?_); (first | refine awpL_ev (ev_tdiv rfl rfl hq) rfl ?_ | refine awpL_ev (ev_tmod rfl rfl hr) rfl ?_))
     | refine stn [2] ?_
     | fail)
    refine retP rfl ?_
    rw [ofR, hc, if_pos rfl]
    simp [ex, exL, stampC, stampOf]
theorem number_spec (v : List Int) (i : Nat) (hv : v.length ≤ 1000000) : PCalls Tryz.prog g 92 [encIs v, vi i] (vi (num v i)) := by
  refine pcalls' Tryz.func92 Tryz.ntmps92 rfl rfl rfl ?_
  cases ht : v[i]? with
  | none =>
    have hge : v.length ≤ i := by simpa using ht
    have c1 : decide ((v.length : Int) ≤ i) = true := by simp; omega
    refine runn [] ?_
    refine retP rfl ?_
    simp [ex, num, ht]
  | some t =>
    have hlt : i < v.length := (List.getElem?_eq_some_iff.1 ht).1
    have c1 : decide ((v.length : Int) ≤ i) = false := by simp; omega
    have h1 := int_get ht
    refine runn [] ?_
    refine retP rfl ?_
    simp [ex, num, ht]
def rnum (v : List Int) (d : Int) : Int := if 1 ≤ d ∧ d ≤ 15 then num v (d - 1).toNat else 0
theorem right_dev {s : Stamp} (h : right s = true) : 1 ≤ s.dev ∧ s.dev ≤ 15 ∧ 1 ≤ s.count ∧ s.count ≤ 1048576 := by simp [right] at h; omega
end Go.Proofs.YtnacjdaoiepbhaaGreatDoor
end
section
namespace Go.Proofs.YtnacjdaoiepbhaaGreatDoor
open Go.Ac
attribute [local irreducible] awp awpL Ev Ev2 EvS thenQ blockQ retQ PCalls OCalls
variable {g : List (Nat × List AV)}
def joinC (a b : List Int) (k : Nat) : List (List AV) := (List.range 15).map fun i => intC (if i < k then max (num a i) (num b i) else 0)
theorem joinC_set (a b : List Int) (k : Nat) (hk : k < 15) : (joinC a b k).set k (intC (max (num a k) (num b k))) = joinC a b (k + 1) := by
  unfold joinC
  apply List.ext_getElem?
  intro i
  rw [List.getElem?_set]
  simp only [List.getElem?_map, List.length_map, List.length_range]
  by_cases e : k = i
  · subst e
    simp [hk]
  · simp only [e, if_false]
    rcases Nat.lt_or_ge i 15 with h | h
    · simp only [List.getElem?_range h, Option.map_some, Option.some.injEq]
      have : (i < k) = (i < k + 1) := by apply propext; omega
      simp only [this]
    · rw [List.getElem?_eq_none (by simpa using h)]; rfl
theorem joinC_get (a b : List Int) (k : Nat) (hk : k < 15) : (joinC a b k)[k]? = some (intC 0) := by
  unfold joinC
  simp [hk]
theorem joinC_end (a b : List Int) : joinC a b 15 = (join a b).map intC := by
  unfold joinC join
  rw [List.map_map]
  refine List.map_congr_left fun i hi => ?_
  simp only [List.mem_range] at hi
  simp [hi]
theorem joinC_len (a b : List Int) (k : Nat) : (joinC a b k).length = 15 := by simp [joinC]
set_option maxHeartbeats 400000 in
theorem Join_spec (a b : List Int) (ha : a.length ≤ 1000000) (hb : b.length ≤ 1000000) : OCalls Tryz.prog g 61 [encIs a, encIs b] 3 1 ((join a b).map intC) := by
  refine ocalls' Tryz.func61 Tryz.ntmps61 rfl rfl rfl ?_
  have hm : (0 : Int) ≤ 15 ∧ (8 : Nat) * (15 : Int) ≤ 281474976710656 ∧ (15 : Int) ≤ 9223372036854775807 := by omega
  repeat' (first
   | ((with_reducible refine is_un ?_); refine awpL_ev2 (ev_make (n := 15) (es := joinC a b 0) rfl rfl rfl rfl rfl rfl rfl rfl hm rfl (by simp only [List.length_nil]; rfl) (by simp only [List.nil_append]; rfl)) rfl ?_)
   | refine stn [] ?_
   | ((with_reducible refine is_awp ?_); refine awp_cond rfl (fun h => ?_) (fun h => ?_))
   | fail)
  refine awp_for (α := Nat) 1 (fun k => [(5, .os 0 0), (9, vi 15), (10, vi k), (0, encIs a), (1, encIs b)]) (fun k => [.own 0 3 1 (joinC a b k)]) (fun k => k ≤ 15) (fun k => 15 - k) 0
    ⟨(.cons rfl rfl (.cons rfl rfl (.cons rfl rfl (.cons rfl rfl (.cons rfl rfl .nil))))), rfl, rfl, rfl⟩ (Nat.zero_le _) ?_
  rintro k hk
  by_cases h15 : k = 15
  · subst h15
    have c1 : decide (((15 : Nat) : Int) < 15) = false := rfl
    refine runn [] ?_
    exact retO rfl (by rw [joinC_end]; rfl)
  · have c1 : decide ((k : Int) < 15) = true := by simp; omega
    have hlt : k < 15 := by omega
    have h1 := number_spec (g := g) a k ha
    have h2 := number_spec (g := g) b k hb
    have hc : 0 ≤ (k : Int) ∧ (k : Int) < (joinC a b k).length := by rw [joinC_len]; omega
    have hel : (joinC a b k)[(k : Int).toNat]? = some (intC 0) := by simpa using joinC_get a b k hlt
    have hset : (joinC a b k).set (k : Int).toNat (intC (max (num a k) (num b k))) = joinC a b (k + 1) := by simpa using joinC_set a b k hlt
    repeat' (first
     | ((with_reducible refine is_un ?_); refine awpL_evS (ev_st_ep (el' := intC (max (num a k) (num b k))) (L' := [.own 0 3 1 (joinC a b (k + 1))]) rfl rfl rfl rfl rfl rfl rfl rfl hel rfl (by rw [← hset]; rfl)) ?_)
     | refine stn [] ?_
     | fail)
    exact ⟨k + 1, ⟨(.cons rfl rfl (.cons rfl rfl (.cons rfl rfl (.cons rfl rfl (.cons rfl rfl .nil))))), rfl, rfl, rfl⟩, by omega, by omega⟩
theorem Join_nil (a : List Int) (ha : a.length ≤ 1000000) : OCalls Tryz.prog g 61 [encIs a, nilS] 3 1 ((join a []).map intC) :=
  (Join_spec a [] ha (by simp)).args (.cons (Le.of_eq rfl) (.cons (Le.nil 1) .nil))
theorem Join_nn : OCalls Tryz.prog g 61 [nilS, nilS] 3 1 ((join [] []).map intC) :=
  (Join_spec [] [] (by simp) (by simp)).args (.cons (Le.nil 1) (.cons (Le.nil 1) .nil))
theorem join_get (a b : List Int) (k : Nat) (hk : k < 15) : (join a b)[k]? = some (max (num a k) (num b k)) := by simp [join, hk]
theorem num_join (a : List Int) (k : Nat) (hk : k < 15) : max (num a k) (num [] k) = num a k := by simp [num]
theorem set_map_int (l : List Int) (k : Nat) (x : Int) : (l.map intC).set k (intC x) = (l.set k x).map intC := by rw [List.map_set]
set_option maxHeartbeats 400000 in
theorem See_spec (v : List Int) (s : Stamp) (hv : v.length ≤ 1000000) : OCalls Tryz.prog g 65 [encIs v, .agg (stampC s)] 3 1 ((see v s).map intC) := by
  have h1 := Right_spec (g := g) s
  have h2 := Join_nil (g := g) v hv
  refine ocalls' Tryz.func65 Tryz.ntmps65 rfl rfl rfl ?_
  cases hr : right s with
  | false =>
    rw [hr] at h1
    have hs : see v s = join v [] := by simp [see, hr]
    repeat' (first
     | ((with_reducible refine is_un ?_); refine awpL_ocall rfl rfl h2 rfl (by simp only [List.length_nil]; rfl) (by simp only [List.nil_append]; rfl) ?_)
     | refine st [] ?_
     | fail)
    exact retO rfl (by rw [hs]; rfl)
  | true =>
    rw [hr] at h1
    have hd := right_dev hr
    have hlt : (s.dev - 1).toNat < 15 := by omega
    have hs : see v s = (join v []).set (s.dev - 1).toNat (max (num v (s.dev - 1).toNat) s.count) := by simp [see, hr]
    have hc : 0 ≤ s.dev - 1 ∧ s.dev - 1 < ((join v []).map intC).length := by rw [List.length_map, join_len]; omega
    have hel : ((join v []).map intC)[(s.dev - 1).toNat]? = some (intC (num v (s.dev - 1).toNat)) := by rw [List.getElem?_map, join_get _ _ _ hlt, num_join _ _ hlt]; rfl
    repeat' (first
     | refine awpD_sS rfl rfl (ev_st_ep (el' := intC (max (num v (s.dev - 1).toNat) s.count)) (L' := [.own 0 3 1 ((see v s).map intC)]) rfl rfl rfl rfl rfl rfl rfl rfl hel rfl (by rw [hs, ← set_map_int]; rfl)) rfl rfl ?_
     | ((with_reducible refine is_un ?_); refine awpL_ocall rfl rfl h2 rfl (by simp only [List.length_nil]; rfl) (by simp only [List.nil_append]; rfl) ?_)
     | refine st [] ?_
     | fail)
    exact retO rfl rfl
end Go.Proofs.YtnacjdaoiepbhaaGreatDoor
end
section
namespace Go.Proofs.YtnacjdaoiepbhaaGreatDoor
open Go.Ac
attribute [local irreducible] awp awpL Ev Ev2 EvS thenQ blockQ retQ PCalls OCalls
variable {g : List (Nat × List AV)}
end Go.Proofs.YtnacjdaoiepbhaaGreatDoor
end
