/- Code over data: rules. No condition. -/
import Derived.Test.YtmbikamebhoelaaV3
import Derived.Tactics
import Derived.KernelRfl
set_option linter.unusedVariables false
set_option linter.unusedSimpArgs false
namespace Go.Proofs.Ytmbikamebhoelaa.Ai.Av
open Go

/-- Where a function was entered. -/
structure Bs where
  c : Cx
  hv : HV
  H : Heap
structure St (b : Bs) (c : Cx) (fv : FrV) (hv : HV) (fr : Fr) (H : Heap) : Prop where
  fr : ∀ t, RD c H (fv t) (fr t)
  hr : HR c hv H
  sp : Sp b.c b.hv b.H c hv H
section
variable {P : Program} {X : FuncId → List Value → Value → Prop} {n0 : Nat}

def VC (P : Program) (X : FuncId → List Value → Value → Prop) (n0 : Nat) (code : Code) (fv : FrV) (hv : HV) (Q : Ex → FrV → HV → Prop) : Prop :=
  ∀ b c fr H, b.c.n = n0 → St b c fv hv fr H → wpC P X code fr H (fun e fr' H' => ∃ c' fv' hv', St b c' fv' hv' fr' H' ∧ Q e fv' hv')
def VO (P : Program) (X : FuncId → List Value → Value → Prop) (n0 : Nat) (all : Array Oper) (l : List Oper) (fv : FrV) (hv : HV) (K : FrV → HV → Prop) : Prop :=
  ∀ b c fr H, b.c.n = n0 → St b c fv hv fr H → wpO P X all l fr H (fun fr' H' => ∃ c' fv' hv', St b c' fv' hv' fr' H' ∧ K fv' hv')
/-- A call comes to data and a heap of which Q holds. -/
def VF (P : Program) (X : FuncId → List Value → Value → Prop) (f : FuncId) (ds : List D) (hv : HV) (Q : D → HV → Prop) : Prop :=
  ∀ c H vs, HR c hv H → RCells c H ds vs → wpF P X f vs H (fun v H' => ∃ c' d hv', RD c' H' d v ∧ HR c' hv' H' ∧ Sp c hv H c' hv' H' ∧ Q d hv')

def andThenV (K : FrV → HV → Prop) (Q : Ex → FrV → HV → Prop) : Ex → FrV → HV → Prop
  | .normal, fr, H => K fr H
  | e, fr, H => Q e fr H
def outOfV (id : Nat) (Q : Ex → FrV → HV → Prop) : Ex → FrV → HV → Prop := fun e fr H => Q (e.out id) fr H
theorem andThenV_normal (K : FrV → HV → Prop) (Q : Ex → FrV → HV → Prop) (fr : FrV) (H : HV) : andThenV K Q .normal fr H = K fr H := rfl
theorem andThenV_ret (K : FrV → HV → Prop) (Q : Ex → FrV → HV → Prop) (fr : FrV) (H : HV) : andThenV K Q .ret fr H = Q .ret fr H := rfl
theorem andThenV_exit (K : FrV → HV → Prop) (Q : Ex → FrV → HV → Prop) (i : Nat) (fr : FrV) (H : HV) : andThenV K Q (.exit i) fr H = Q (.exit i) fr H := rfl
theorem outOfV_normal (id : Nat) (Q : Ex → FrV → HV → Prop) (fr : FrV) (H : HV) : outOfV id Q .normal fr H = Q .normal fr H := rfl
theorem outOfV_ret (id : Nat) (Q : Ex → FrV → HV → Prop) (fr : FrV) (H : HV) : outOfV id Q .ret fr H = Q .ret fr H := rfl
theorem outOfV_exit (id i : Nat) (Q : Ex → FrV → HV → Prop) (fr : FrV) (H : HV) : outOfV id Q (.exit i) fr H = Q (if i = id then .normal else .exit i) fr H := rfl

theorem VC.mono {c : Code} {fv : FrV} {hv : HV} {Q Q' : Ex → FrV → HV → Prop} (h : VC P X n0 c fv hv Q) (hq : ∀ e fv hv, Q e fv hv → Q' e fv hv) : VC P X n0 c fv hv Q' :=
  fun b cx fr H hb hs => (h b cx fr H hb hs).mono fun e fr' H' ⟨c', fv', hv', k, q⟩ => ⟨c', fv', hv', k, hq _ _ _ q⟩
theorem VF.mono {f : FuncId} {ds : List D} {hv : HV} {Q Q' : D → HV → Prop} (h : VF P X f ds hv Q) (hq : ∀ d hv, Q d hv → Q' d hv) : VF P X f ds hv Q' :=
  fun c H vs hr ha => (h c H vs hr ha).mono fun v H' ⟨c', d, hv', k1, k2, k3, q⟩ => ⟨c', d, hv', k1, k2, k3, hq _ _ q⟩
theorem VC_skip {fv : FrV} {hv : HV} {Q : Ex → FrV → HV → Prop} (h : Q .normal fv hv) : VC P X n0 .skip fv hv Q := fun b c fr H hb hs => wpC_skip ⟨c, fv, hv, hs, h⟩
theorem VC_exit {id : Nat} {fv : FrV} {hv : HV} {Q : Ex → FrV → HV → Prop} (h : Q (.exit id) fv hv) : VC P X n0 (.exit id) fv hv Q := fun b c fr H hb hs => wpC_exit ⟨c, fv, hv, hs, h⟩
theorem VC_ret {fv : FrV} {hv : HV} {Q : Ex → FrV → HV → Prop} (h : Q .ret fv hv) : VC P X n0 .ret fv hv Q := fun b c fr H hb hs => wpC_ret ⟨c, fv, hv, hs, h⟩
theorem VC_seq {a d : Code} {fv : FrV} {hv : HV} {Q : Ex → FrV → HV → Prop} (h : VC P X n0 a fv hv (andThenV (fun fv hv => VC P X n0 d fv hv Q) Q)) : VC P X n0 (.seq a d) fv hv Q := by
  intro b c fr H hb hs
  refine wpC_seq ((h b c fr H hb hs).mono fun e fr' H' hk => ?_)
  obtain ⟨c', fv', hv', k, q⟩ := hk
  cases e with
  | normal => exact q b c' fr' H' hb k
  | exit i => exact ⟨c', fv', hv', k, q⟩
  | ret => exact ⟨c', fv', hv', k, q⟩
theorem VC_cond {x : Operand} {a d : Code} {fv : FrV} {hv : HV} {Q : Ex → FrV → HV → Prop} {t : Bool} (hc : evV fv x = .bool t) (h1 : t = true → VC P X n0 a fv hv Q) (h2 : t = false → VC P X n0 d fv hv Q) : VC P X n0 (.cond x a d) fv hv Q := by
  intro b c fr H hb hs
  have := rd_ev hs.fr x
  rw [hc] at this
  simp only [RD] at this
  exact wpC_cond this (fun e => h1 e b c fr H hb hs) (fun e => h2 e b c fr H hb hs)
theorem VC_block {id : Nat} {a : Code} {fv : FrV} {hv : HV} {Q : Ex → FrV → HV → Prop} (h : VC P X n0 a fv hv (outOfV id Q)) : VC P X n0 (.block id a) fv hv Q :=
  fun b c fr H hb hs => wpC_block ((h b c fr H hb hs).mono fun e fr' H' ⟨c', fv', hv', k, q⟩ => ⟨c', fv', hv', k, q⟩)
theorem VC_loopN {a : Code} {Q : Ex → FrV → HV → Prop} (I : Nat → FrV → HV → Prop) (round : ∀ n fv hv, I n fv hv → VC P X n0 a fv hv (andThenV (fun fv' hv' => ∃ m, m < n ∧ I m fv' hv') Q)) {n : Nat} {fv : FrV} {hv : HV} (h0 : I n fv hv) : VC P X n0 (.loop a) fv hv Q := by
  intro b c fr H hb hs
  refine wpC_loopN (fun n fr H => ∃ c fv hv, St b c fv hv fr H ∧ I n fv hv) (fun n fr H hk => ?_) (n := n) ⟨c, fv, hv, hs, h0⟩
  obtain ⟨c, fv, hv, hs, hi⟩ := hk
  refine (round n fv hv hi b c fr H hb hs).mono fun e fr' H' hk => ?_
  obtain ⟨c', fv', hv', k, q⟩ := hk
  cases e with
  | normal => obtain ⟨m, hm, q⟩ := q; exact ⟨m, hm, c', fv', hv', k, q⟩
  | exit i => exact ⟨c', fv', hv', k, q⟩
  | ret => exact ⟨c', fv', hv', k, q⟩
theorem VC_region {id : Nat} {l : List Oper} {fv : FrV} {hv : HV} {Q : Ex → FrV → HV → Prop} (h : VO P X n0 l.toArray l fv hv (Q .normal)) : VC P X n0 (.region id l.toArray false) fv hv Q :=
  fun b c fr H hb hs => wpC_region (h b c fr H hb hs)
theorem VC_draw {id : Nat} {l : List Oper} {fv : FrV} {hv : HV} {Q : Ex → FrV → HV → Prop} (hc : confl l = []) (h : VO P X n0 l.toArray l fv hv (Q .normal)) : VC P X n0 (.region id l.toArray true) fv hv Q :=
  fun b c fr H hb hs => wpC_draw hc (h b c fr H hb hs)
theorem VO_nil {all : Array Oper} {fv : FrV} {hv : HV} {K : FrV → HV → Prop} (h : K fv hv) : VO P X n0 all [] fv hv K := fun b c fr H hb hs => wpO_nil ⟨c, fv, hv, hs, h⟩
section
variable {all : Array Oper} {o : Oper} {rest : List Oper} {fv : FrV} {hv : HV}
theorem VO_pass {K : FrV → HV → Prop} (hw : guardV all fv o = some false) (h : VO P X n0 all rest (fv.put o.dst undefV) hv K) : VO P X n0 all (o :: rest) fv hv K :=
  fun b c fr H hb hs => wpO_pass (guard_ok hs.fr hw) (h b c _ H hb ⟨rd_put hs.fr rd_undef _, hs.hr, hs.sp⟩)
theorem VO_prim {K : FrV → HV → Prop} {d : D} {hv1 : HV} (hw : guardV all fv o = some true) (hp : primV P (evV fv) o.op hv = some (d, hv1)) (h : VO P X n0 all rest (fv.put o.dst d) hv1 K) : VO P X n0 all (o :: rest) fv hv K := by
  intro b c fr H hb hs
  obtain ⟨v, H', c', e1, e2, e3, e4⟩ := primV_ok hs.hr (rd_ev hs.fr) hp
  exact wpO_prim (guard_ok hs.fr hw) e1 (h b c' _ H' hb ⟨rd_put (fun t => e4.rd (hs.fr t)) e2 _, e3, hs.sp.trans e4⟩)
theorem VO_call {K : FrV → HV → Prop} {f : FuncId} {ds : List D} (hw : guardV all fv o = some true) (hc : calleeV (evV fv) o.op = some (f, ds)) (h : VF P X f ds hv (fun d hv1 => VO P X n0 all rest (fv.put o.dst d) hv1 K)) : VO P X n0 all (o :: rest) fv hv K := by
  intro b c fr H hb hs
  obtain ⟨vs, e1, e2⟩ := calleeV_ok (rd_ev hs.fr) hc
  refine wpO_call (guard_ok hs.fr hw) e1 ((h c H vs hs.hr e2).mono fun v H' hk => ?_)
  obtain ⟨c', d, hv', k1, k2, k3, q⟩ := hk
  exact q b c' _ H' hb ⟨rd_put (fun t => k3.rd (hs.fr t)) k1 _, k2, hs.sp.trans k3⟩
def primGoV (r : Option (D × HV)) (K : D → HV → Prop) : Prop :=
  match r with
  | some (v, H) => K v H
  | none => False
theorem primGoV_some (v : D) (H : HV) (K : D → HV → Prop) : primGoV (some (v, H)) K = K v H := rfl
theorem putV_some (fr : FrV) (d : Nat) (v : D) (t : Nat) : FrV.put fr (some d) v t = if t = d then v else fr t := rfl
theorem putV_none (fr : FrV) (v : D) : FrV.put fr none v = fr := rfl
theorem VO_step {K : FrV → HV → Prop} (hg : o.guard = none)
    (h : ∀ K' : FrV → HV → Prop, (∀ fv hv, VO P X n0 all rest fv hv K → K' fv hv) → primGoV (primV P (evV fv) o.op hv) (fun d hv1 => K' (fv.put o.dst d) hv1)) : VO P X n0 all (o :: rest) fv hv K := by
  have h1 := h _ (fun _ _ h => h)
  have hw : guardV all fv o = some true := by simp [guardV, hg]
  cases hp : primV P (evV fv) o.op hv with
  | none => rw [hp] at h1; exact h1.elim
  | some r => obtain ⟨d, hv1⟩ := r; rw [hp] at h1; exact VO_prim hw hp h1
theorem VO_guard {K : FrV → HV → Prop} {j : Nat} {want : Bool} {t : Tmp} {b : Bool} (hg : o.guard = some (j, want)) (ht : (all[j]?).bind (·.dst) = some t) (hb : fv t = .bool b)
    (h : ∀ K' : FrV → HV → Prop, (∀ fv hv, VO P X n0 all rest fv hv K → K' fv hv) → (b = want → primGoV (primV P (evV fv) o.op hv) (fun d hv1 => K' (fv.put o.dst d) hv1)) ∧ (b ≠ want → K' (fv.put o.dst undefV) hv)) : VO P X n0 all (o :: rest) fv hv K := by
  have h1 := h _ (fun _ _ h => h)
  have hw : guardV all fv o = some (b == want) := by simp only [guardV, hg, ht, hb]
  by_cases e : b = want
  · replace h1 := h1.1 e
    subst e
    cases hp : primV P (evV fv) o.op hv with
    | none => rw [hp] at h1; exact h1.elim
    | some r => obtain ⟨d, hv1⟩ := r; rw [hp] at h1; exact VO_prim (by rw [hw]; simp) hp h1
  · exact VO_pass (by rw [hw]; simpa using e) (h1.2 e)
theorem VO_guardU {K : FrV → HV → Prop} {j : Nat} {want : Bool} {t : Tmp} (hg : o.guard = some (j, want)) (ht : (all[j]?).bind (·.dst) = some t) (hb : fv t = undefV)
    (h : ∀ K' : FrV → HV → Prop, (∀ fv hv, VO P X n0 all rest fv hv K → K' fv hv) → K' (fv.put o.dst undefV) hv) : VO P X n0 all (o :: rest) fv hv K :=
  VO_pass (by simp only [guardV, hg, ht, hb, undefV]; rfl) (h _ (fun _ _ h => h))
theorem VO_invoke {K : FrV → HV → Prop} {f : FuncId} {ds : List D} (hg : o.guard = none) (hc : calleeV (evV fv) o.op = some (f, ds))
    (h : ∀ K' : FrV → HV → Prop, (∀ fv hv, VO P X n0 all rest fv hv K → K' fv hv) → VF P X f ds hv (fun d hv1 => K' (fv.put o.dst d) hv1)) : VO P X n0 all (o :: rest) fv hv K :=
  VO_call (by simp [guardV, hg]) hc (h _ (fun _ _ h => h))
theorem VO_invokeG {K : FrV → HV → Prop} {j : Nat} {want : Bool} {t : Tmp} {b : Bool} {f : FuncId} {ds : List D} (hg : o.guard = some (j, want)) (ht : (all[j]?).bind (·.dst) = some t) (hb : fv t = .bool b) (hc : b = want → calleeV (evV fv) o.op = some (f, ds))
    (h : ∀ K' : FrV → HV → Prop, (∀ fv hv, VO P X n0 all rest fv hv K → K' fv hv) → (b = want → VF P X f ds hv (fun d hv1 => K' (fv.put o.dst d) hv1)) ∧ (b ≠ want → K' (fv.put o.dst undefV) hv)) : VO P X n0 all (o :: rest) fv hv K := by
  have h1 := h _ (fun _ _ h => h)
  have hw : guardV all fv o = some (b == want) := by simp only [guardV, hg, ht, hb]
  by_cases e : b = want
  · exact VO_call (by rw [hw, e]; simp) (hc e) (h1.1 e)
  · exact VO_pass (by rw [hw]; simpa using e) (h1.2 e)
end
/-- Behind a function's body. -/
def atEndV (P : Program) (rs : List ResultVar) (Q : D → HV → Prop) : Ex → FrV → HV → Prop
  | .exit _, _, _ => False
  | _, fv, hv => ∃ ds, resultsV P rs fv hv = some ds ∧ dflats ds = true ∧ Q (tupledV ds) hv
theorem atEndV_ret (P : Program) (rs : List ResultVar) (Q : D → HV → Prop) (fv : FrV) (hv : HV) : atEndV P rs Q .ret fv hv = ∃ ds, resultsV P rs fv hv = some ds ∧ dflats ds = true ∧ Q (tupledV ds) hv := rfl
theorem atEndV_normal (P : Program) (rs : List ResultVar) (Q : D → HV → Prop) (fv : FrV) (hv : HV) : atEndV P rs Q .normal fv hv = ∃ ds, resultsV P rs fv hv = some ds ∧ dflats ds = true ∧ Q (tupledV ds) hv := rfl
theorem rd_init {c : Cx} {H : Heap} {ds : List D} {vs : List Value} (h : RCells c H ds vs) : ∀ t, RD c H (initV ds t) (initFr vs t) := by
  intro t
  unfold initV initFr
  rw [List.getD_eq_getElem?_getD, List.getD_eq_getElem?_getD]
  cases hd : ds[t]? with
  | none => simp only [Option.getD_none, RD]
  | some d =>
    obtain ⟨v, e1, e2⟩ := h.get hd
    rw [e1]; exact e2
theorem VF_body {f : FuncId} {fn : Func} {code : Code} {rs : List ResultVar} {ds : List D} {hv : HV} {Q : D → HV → Prop} (hf : P.funcs[f]? = some fn) (hb : fn.body = some code) (hr : fn.results.toList = rs) (hk : okFunc fn = true) (hn : ds.length ≤ fn.ntmps)
    (h : VC P X hv.length code (initV ds) hv (atEndV P rs Q)) : VF P X f ds hv Q := by
  intro c H vs hh ha
  refine wpF_body hf hb hr hk (by rw [ha.length]; exact hn) ((h ⟨c, hv, H⟩ c (initFr vs) H hh.n ⟨rd_init ha, hh, .refl hh⟩).mono fun e fr' H' hk => ?_)
  obtain ⟨c', fv', hv', k, q⟩ := hk
  have fin : ∀ ds', resultsV P rs fv' hv' = some ds' → dflats ds' = true → Q (tupledV ds') hv' → ∃ vs, resultsA P rs fr' H' = some vs ∧ flats vs = true ∧ ∃ c' d hv', RD c' H' d (tupled vs) ∧ HR c' hv' H' ∧ Sp c hv H c' hv' H' ∧ Q d hv' := by
    intro ds' h1 h2 h3
    obtain ⟨us, e1, e2⟩ := results_ok k.hr k.fr h1
    exact ⟨us, e1, flats_ok e2 h2, c', _, hv', tupled_ok e2, k.hr, k.sp, h3⟩
  cases e with
  | normal => obtain ⟨ds', h1, h2, h3⟩ := q; exact fin ds' h1 h2 h3
  | ret => obtain ⟨ds', h1, h2, h3⟩ := q; exact fin ds' h1 h2 h3
  | exit i => exact q.elim

/-! ### Data for other data -/
/-- What may stand for the first may stand for the second. -/
def LeD (d d' : D) : Prop := ∀ c H v, RD c H d v → RD c H d' v
theorem LeD.refl (d : D) : LeD d d := fun _ _ _ h => h
theorem LeD.any (d : D) : LeD d .any := fun _ _ _ _ => by simp only [RD]
theorem LeD.nil (w : Nat) : LeD .nil (.sl w []) := fun _ _ _ h => by unfold RD at h ⊢; exact ⟨0, 0, h, .inl rfl⟩
theorem LeD.nil' (w : Nat) {rows : List (List D)} (h : rows = []) : LeD .nil (.sl w rows) := by subst h; exact .nil w
theorem LeD.empty (id off w : Nat) : LeD (.ref id off 0) (.sl w []) := fun _ _ _ h => by unfold RD at h ⊢; obtain ⟨_, rfl⟩ := h; exact ⟨_, _, rfl, .inl rfl⟩
theorem LeD.of_eq {d d' : D} (h : d = d') : LeD d d' := h ▸ .refl d
theorem LeD.trans {a b d : D} (h : LeD a b) (k : LeD b d) : LeD a d := fun c H v x => k c H v (h c H v x)
def LeL : List D → List D → Prop
  | [], ds => ds = []
  | d :: ds, es => match es with
    | [] => False
    | e :: es => LeD d e ∧ LeL ds es
theorem LeL.rd : ∀ {ds es : List D}, LeL ds es → ∀ {c : Cx} {H : Heap} {vs : List Value}, RCells c H ds vs → RCells c H es vs
  | [], es, h, c, H, vs, k => by simp only [LeL] at h; subst h; exact k
  | d :: ds, [], h, _, _, _, _ => by simp only [LeL] at h
  | d :: ds, e :: es, h, c, H, vs, k => by
    simp only [LeL] at h
    simp only [RCells] at k ⊢
    obtain ⟨v, vs', rfl, k1, k2⟩ := k
    exact ⟨v, vs', rfl, h.1 c H v k1, LeL.rd h.2 k2⟩
theorem LeL.refl : ∀ ds : List D, LeL ds ds
  | [] => rfl
  | d :: ds => ⟨.refl d, LeL.refl ds⟩
theorem LeD.agg {ds es : List D} (h : LeL ds es) : LeD (.agg ds) (.agg es) := fun c H v k => by
  simp only [RD] at k ⊢
  obtain ⟨vs, rfl, k⟩ := k
  exact ⟨vs, rfl, h.rd k⟩
theorem VF.le {f : FuncId} {ds es : List D} {hv : HV} {Q : D → HV → Prop} (h : LeL ds es) (k : VF P X f es hv Q) : VF P X f ds hv Q := fun c H vs hr ha => k c H vs hr (h.rd ha)
theorem VC.le {code : Code} {fv fv' : FrV} {hv : HV} {Q : Ex → FrV → HV → Prop} (h : ∀ t, LeD (fv t) (fv' t)) (k : VC P X n0 code fv' hv Q) : VC P X n0 code fv hv Q :=
  fun b c fr H hb hs => k b c fr H hb ⟨fun t => h t c H _ (hs.fr t), hs.hr, hs.sp⟩
/-- A frame told by its slots. -/
def FL (l : List (Nat × D)) : FrV := fun t => (l.lookup t).getD .any
theorem FL_cons (k : Nat) (d : D) (l : List (Nat × D)) (t : Nat) : FL ((k, d) :: l) t = if t = k then d else FL l t := by
  unfold FL
  rw [List.lookup_cons]
  by_cases h : t = k
  · subst h; simp
  · rw [if_neg h]
    have : (t == k) = false := by simpa using h
    rw [this]
theorem FL_nil (t : Nat) : FL [] t = .any := rfl
def AllLe (fv : FrV) : List (Nat × D) → Prop
  | [] => True
  | (k, d) :: l => LeD (fv k) d ∧ AllLe fv l
theorem AllLe.le {fv : FrV} : ∀ {l : List (Nat × D)}, AllLe fv l → ∀ t, LeD (fv t) (FL l t)
  | [], _, t => by rw [FL_nil]; exact .any _
  | (k, d) :: l, h, t => by
    simp only [AllLe] at h
    rw [FL_cons]
    split
    · rename_i e; subst e; exact h.1
    · exact AllLe.le h.2 t
theorem VC.slots {code : Code} {fv : FrV} {hv : HV} {Q : Ex → FrV → HV → Prop} (l : List (Nat × D)) (h : AllLe fv l) (k : VC P X n0 code (FL l) hv Q) : VC P X n0 code fv hv Q := .le h.le k
end
end Go.Proofs.Ytmbikamebhoelaa.Ai.Av
