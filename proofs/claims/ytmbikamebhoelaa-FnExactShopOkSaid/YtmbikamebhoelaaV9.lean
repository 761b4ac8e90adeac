/- Regions that draw their order, over data: rules. No condition. -/
import Derived.Test.YtmbikamebhoelaaV8
set_option linter.unusedVariables false
set_option linter.unusedSimpArgs false
namespace Go.Proofs.Ytmbikamebhoelaa.Ai.Av
open Go
/-- Not one of the slots that the region itself made out of a call's result. -/
def ninN (N : List Nat) : Operand → Bool
  | .tmp t => !N.contains t
  | .const _ => true
  | .func _ => true
  | .global _ => false
/-- Its result is of what was there when the region began. -/
def oldOK (ρ : Operand → D) (Wa N : List Nat) (m : Nat) : Op → Bool
  | .move x | .assign x | .fieldAddr _ x _ | .field _ x _ | .unOp _ _ x => ninN N x
  | .indexAddr _ x i | .index _ x i | .binOp _ _ x i _ => ninN N x && ninN N i
  | .load _ a => ninN N a && (match ρ a with
    | .ptr id _ => !Wa.contains id && decide (id < m)
    | .vp _ => true
    | _ => false)
  | .call { callee := .builtin .len, args, .. } => args.toList.all (ninN N)
  | _ => false
def rdV (ρ : Operand → D) (N : List Nat) : Op → Option (D × Bool)
  | .load _ a => some (ρ a, ninN N a)
  | .convert _ _ _ => some (.any, false)
  | _ => none
def addN (b : Bool) (dst : Option Tmp) (N : List Nat) : List Nat := if b then N else dst.toList ++ N
section
variable {P : Program} {X : FuncId → List Value → Value → Prop} {n0 : Nat}

structure QS (b : Bs) (c0 : Cx) (hv0 : HV) (H0 : Heap) (N Wa : List Nat) (c : Cx) (fv : FrV) (hv : HV) (fr : Fr) (H : Heap) : Prop where
  st : St b c fv hv fr H
  hr0 : HR c0 hv0 H0
  sp0 : Sp c0 hv0 H0 c hv H
  old : ∀ t, t ∉ N → RD c0 H0 (fv t) (fr t)
  un : ∀ i r, readV hv0 i = some r → i ∉ Wa → readV hv i = some r ∧ readRow H (c0.μ i) = readRow H0 (c0.μ i)
def VD (P : Program) (X : FuncId → List Value → Value → Prop) (n0 : Nat) (hv0 : HV) (all : Array Oper) (l : List Oper) (N Wa : List Nat) (fv : FrV) (hv : HV) (K : List VT → FrV → HV → Prop) : Prop :=
  ∀ b c0 H0, b.c.n = n0 → ∀ c fr H, QS b c0 hv0 H0 N Wa c fv hv fr H → wpD P X all l fr H (fun tr fr' H' => ∃ vt c' fv' hv', TRs c0 H0 tr vt c hv H c' hv' H' ∧ St b c' fv' hv' fr' H' ∧ K vt fv' hv')
theorem old_ev {N : List Nat} {c0 : Cx} {H0 : Heap} {fv : FrV} {fr : Fr} (h : ∀ t, t ∉ N → RD c0 H0 (fv t) (fr t)) {x : Operand} (hx : ninN N x = true) : RD c0 H0 (evV fv x) (ev fr x) := by
  cases x with
  | tmp t => exact h t (by simpa [ninN] using hx)
  | const v => exact rd_dof v
  | global g => simp [ninN] at hx
  | func f => simp only [evV, ev, RD]; exact ⟨[], rfl, .nil⟩
theorem primV_w {ρ : Operand → D} {o : Op} {hv hv' : HV} {d : D} (h : primV P ρ o hv = some (d, hv')) : ∀ i r, readV hv i = some r → i ∉ wOf ρ hv.length o → readV hv' i = some r := by
  intro i r hi hni
  have hlt := readV_lt hi
  have new : ∀ cs e, readV (newV hv cs e) i = some r := fun cs e => by rw [readV_new, if_neg (by omega)]; exact hi
  have same : ∀ {x : Option D}, x.map (·, hv) = some (d, hv') → readV hv' i = some r := by
    intro x hx
    cases x with
    | none => cases hx
    | some y => cases hx; exact hi
  by_cases hn : isNew o = true
  · obtain ⟨cs, e, rfl⟩ := primV_new h hn
    exact new cs e
  unfold primV at h
  split at h
  · cases h; exact hi
  · cases h; exact hi
  · split at h
    · cases h; exact hi
    · cases h
  · simp [isNew] at hn
  · simp [isNew] at hn
  · exact same h
  · simp [isNew] at hn
  · exact same h
  · rename_i t a x
    cases hs : storeV P t (ρ a) (ρ x) hv with
    | none => rw [hs] at h; cases h
    | some hv1 =>
      rw [hs] at h; cases h
      unfold storeV at hs
      split at hs
      · rename_i id off ha
        obtain ⟨q, _, hs⟩ := bind_some' hs
        split at hs
        · cases hs
          have : i ≠ id := by
            intro e; subst e
            simp only [wOf, ha] at hni
            simp at hni
          rw [readV_set_ne this]; exact hi
        · cases hs
      · cases hs
  · split at h
    · cases h; exact hi
    · cases h; exact hi
    · cases h
  · exact same h
  · exact same h
  · exact same h
  · exact same h
  · simp [isNew] at hn
  · exact same h
  · exact same h
  · exact same h
  · exact same h
  · exact same h
  · split at h
    · exact same h
    · cases h
  · rename_i b args ts
    have hin : i ∈ List.range hv.length := List.mem_range.2 hlt
    cases b
    case append => exact absurd hin hni
    case copy => exact absurd hin hni
    all_goals
      unfold builtinV at h
      split at h
      all_goals first | exact same h | (rename_i hb _ _; cases hb) | cases h
  · cases h
theorem old_ok {b : Bs} {c0 c : Cx} {hv0 hv hv' : HV} {H0 H H' : Heap} {N Wa : List Nat} {fv : FrV} {fr : Fr} {o : Op} {d : D} {v : Value} (qs : QS b c0 hv0 H0 N Wa c fv hv fr H) (ho : oldOK (evV fv) Wa N hv0.length o = true)
    (hv1 : primV P (evV fv) o hv = some (d, hv')) (h : primA P (ev fr) o H = some (v, H')) : RD c0 H0 d v := by
  have E : ∀ {x : Operand}, ninN N x = true → RD c0 H0 (evV fv x) (ev fr x) := fun hx => old_ev qs.old hx
  have fin : ∀ {x : Option D} {y : Option Value}, x.map (·, hv) = some (d, hv') → y.map (·, H) = some (v, H') → (∀ d', x = some d' → ∃ v', y = some v' ∧ RD c0 H0 d' v') → RD c0 H0 d v := by
    intro x y h1 h2 k
    cases x with
    | none => cases h1
    | some d' =>
      obtain ⟨v', e, k⟩ := k d' rfl
      cases h1
      rw [e] at h2; cases h2
      exact k
  cases o <;> simp only [oldOK, Bool.and_eq_true, Bool.false_eq_true] at ho
  case move x => simp only [primV, primA] at hv1 h; cases hv1; cases h; exact E ho
  case assign x => simp only [primV, primA] at hv1 h; cases hv1; cases h; exact E ho
  case fieldAddr s x f => simp only [primV, primA] at hv1 h; exact fin hv1 h fun d' e => fieldAddrV_ok (E ho) e
  case field s x f => simp only [primV, primA] at hv1 h; exact fin hv1 h fun d' e => fieldV_ok (E ho) e
  case unOp op t x => simp only [primV, primA] at hv1 h; exact fin hv1 h fun d' e => unV_ok (E ho) e
  case indexAddr t x i => simp only [primV, primA] at hv1 h; exact fin hv1 h fun d' e => indexAddrV_ok (E ho.1) (E ho.2) e
  case index t x i => simp only [primV, primA] at hv1 h; exact fin hv1 h fun d' e => indexV_ok (E ho.1) (E ho.2) e
  case binOp op t x y u => simp only [primV, primA] at hv1 h; exact fin hv1 h fun d' e => binV_ok (E ho.1) (E ho.2) e
  case load t a =>
    simp only [primV, primA] at hv1 h
    obtain ⟨ha, hq⟩ := ho
    have ea := E ha
    refine fin hv1 h fun d' e => ?_
    cases hd : evV fv a with
    | ptr id off =>
      rw [hd] at ea e hq
      simp only [Bool.and_eq_true, Bool.not_eq_true', List.contains_eq_mem, decide_eq_false_iff_not, decide_eq_true_eq] at hq
      have eb : RD c0 H0 (.ptr id off) (ev fr a) := ea
      have ha2 : ev fr a = pt (c0.μ id) off := by simp only [RD] at ea; exact ea.2
      unfold loadV at e
      simp only at e
      obtain ⟨q, hq1, hq2⟩ := bind_some' e
      -- the row is as it was
      have : ∃ q0, readV hv0 id = some q0 := by
        exact qs.sp0.res id q (by rw [qs.hr0.n]; exact hq.2) hq1
      obtain ⟨q0, hq0⟩ := this
      obtain ⟨u1, u2⟩ := qs.un id q0 hq0 hq.1
      rw [hq1] at u1; cases u1
      obtain ⟨v', k1, k2⟩ := loadV_ok qs.hr0 eb (t := t) (d := d') (P := P) (by unfold loadV; simp only [hq0, Option.bind_some]; exact hq2)
      refine ⟨v', ?_, k2⟩
      rw [ha2] at k1 ⊢
      unfold loadA at k1 ⊢
      simp only [pt] at k1 ⊢
      rw [u2]; exact k1
    | vp cs =>
      rw [hd] at ea e
      obtain ⟨v', k1, k2⟩ := loadV_ok qs.hr0 ea (t := t) (d := d') (P := P) (by unfold loadV at e ⊢; exact e)
      refine ⟨v', ?_, k2⟩
      simp only [RD] at ea
      obtain ⟨id, off, r, a1, b1, e1, e2, e3, _⟩ := ea
      rw [e1] at k1 ⊢
      unfold loadA at k1 ⊢
      simp only [pt] at k1 ⊢
      rw [qs.sp0.zrow id e2]; exact k1
    | _ => rw [hd] at hq; simp at hq
  case call cl =>
    obtain ⟨cal, args, ts⟩ := cl
    cases cal with
    | value f => simp at ho
    | invoke r m => simp at ho
    | builtin bi =>
      cases bi <;> simp only [Bool.false_eq_true] at ho
      case len =>
        simp only [primV, primA, builtinV, builtinA] at hv1 h
        split at hv1
        · rename_i t x hb hts hargs
          obtain ⟨s0, r0, e1, e2, e3⟩ := List.map_eq_cons_iff.1 hargs
          have e4 : r0 = [] := by simpa using e3
          subst e4
          rw [hts, e1] at h
          simp only [List.map_cons, List.map_nil] at h
          rw [e1] at ho
          simp only [List.all_cons, List.all_nil, Bool.and_true] at ho
          refine fin hv1 h fun d' e => lenV_ok (E ho) ?_
          rw [e2]; exact e
        all_goals first | contradiction | cases hv1
section
variable {hv0 : HV} {all : Array Oper} {o : Oper} {rest : List Oper} {fv : FrV} {hv : HV} {N Wa : List Nat} {K : List VT → FrV → HV → Prop}
theorem VD_nil (h : K [] fv hv) : VD P X n0 hv0 all [] N Wa fv hv K := fun b c0 H0 hb c fr H qs => wpD_nil ⟨[], c, fv, hv, .nil c hv H, qs.st, h⟩
theorem put_old {c0 : Cx} {H0 : Heap} {fr : Fr} {d : D} {v : Value} {N N' : List Nat} (h : ∀ t, t ∉ N → RD c0 H0 (fv t) (fr t)) (dst : Option Tmp) (hN : ∀ t, t ∉ N' → t ∉ N) (hd : ∀ t, dst = some t → t ∉ N' → RD c0 H0 d v) : ∀ t, t ∉ N' → RD c0 H0 (fv.put dst d t) (fr.put dst v t) := by
  intro t ht
  cases dst with
  | none => exact h t (hN t ht)
  | some x =>
    simp only [FrV.put, Fr.put]
    by_cases e : t = x
    · rw [if_pos e, if_pos e]; exact hd x rfl (e ▸ ht)
    · rw [if_neg e, if_neg e]; exact h t (hN t ht)
theorem VD_pass {nw : Bool} (hw : guardV all fv o = some false) (h : VD P X n0 hv0 all rest N Wa (fv.put o.dst undefV) hv (fun vt => K (⟨false, none, hv.length, hv.length, [], nw⟩ :: vt))) : VD P X n0 hv0 all (o :: rest) N Wa fv hv K := by
  intro b c0 H0 hb c fr H qs
  refine wpD_pass (guard_ok qs.st.fr hw) ?_
  obtain ⟨tr, fr', H', h1, vt, c', fv', hv', k1, k2, k3⟩ := h b c0 H0 hb c (fr.put o.dst undef) H ⟨⟨rd_put qs.st.fr rd_undef _, qs.st.hr, qs.st.sp⟩, qs.hr0, qs.sp0, put_old qs.old _ (fun t ht => ht) (fun _ _ _ => rd_undef), qs.un⟩
  refine ⟨tr, fr', H', h1, _, c', fv', hv', .cons (t := ⟨o, fr, H, false, undef, H⟩) ?_ k1, k2, k3⟩
  exact ⟨qs.st.hr, qs.st.hr, .refl qs.st.hr, qs.sp0.z, qs.sp0.len, rfl, rfl, rfl, fun _ _ _ _ => rfl, fun h => (by cases h), fun h => (by cases h)⟩
theorem VD_prim {d : D} {hv1 : HV} (hw : guardV all fv o = some true) (hp : primV P (evV fv) o.op hv = some (d, hv1))
    (h : VD P X n0 hv0 all rest (addN (oldOK (evV fv) Wa N hv0.length o.op) o.dst N) (wOf (evV fv) hv.length o.op ++ Wa) (fv.put o.dst d) hv1 (fun vt => K (⟨true, rdV (evV fv) N o.op, hv.length, hv1.length, wOf (evV fv) hv.length o.op, isNew o.op⟩ :: vt))) : VD P X n0 hv0 all (o :: rest) N Wa fv hv K := by
  intro b c0 H0 hb c fr H qs
  obtain ⟨v, H', c', e1, e2, e3, e4⟩ := primV_ok qs.st.hr (rd_ev qs.st.fr) hp
  refine wpD_prim (guard_ok qs.st.fr hw) e1 ?_
  have hpw := prim_w qs.st.hr (rd_ev qs.st.fr) hp e1
  have hq : QS b c0 hv0 H0 (addN (oldOK (evV fv) Wa N hv0.length o.op) o.dst N) (wOf (evV fv) hv.length o.op ++ Wa) c' (fv.put o.dst d) hv1 (fr.put o.dst v) H' := by
    refine ⟨⟨rd_put (fun t => e4.rd (qs.st.fr t)) e2 _, e3, qs.st.sp.trans e4⟩, qs.hr0, qs.sp0.trans e4, ?_, fun i r hi hni => ?_⟩
    · refine put_old qs.old _ (fun t ht => ?_) fun t ht hnt => ?_
      · unfold addN at ht
        split at ht
        · exact ht
        · simp only [List.mem_append, not_or] at ht; exact ht.2
      · unfold addN at hnt
        split at hnt
        · rename_i ho; exact old_ok qs ho hp e1
        · rw [ht] at hnt; simp at hnt
    · simp only [List.mem_append, not_or] at hni
      obtain ⟨u1, u2⟩ := qs.un i r hi hni.2
      refine ⟨primV_w hp i r u1 hni.1, ?_⟩
      have := hpw i r u1 hni.1
      rw [qs.sp0.mu i (qs.hr0.lt hi)] at this
      rw [this, u2]
  obtain ⟨tr, fr', H2, h1, vt, c2, fv', hv', k1, k2, k3⟩ := h b c0 H0 hb c' _ H' hq
  refine ⟨tr, fr', H2, h1, _, c2, fv', hv', .cons (t := ⟨o, fr, H, true, v, H'⟩) ?_ k1, k2, k3⟩
  refine ⟨qs.st.hr, e3, e4, qs.sp0.z, qs.sp0.len, rfl, rfl, rfl, hpw, fun _ x hx => ?_, fun _ hn => ?_⟩
  · have hx : readOf (ev fr) o.op = some x := hx
    cases hop : o.op <;> rw [hop] at hx <;> simp only [readOf, reduceCtorEq] at hx
    case load t a =>
      rw [hop] at hp
      simp only [primV] at hp
      refine ⟨evV fv a, ninN N a, by simp only [rdV], ?_⟩
      have ea := rd_ev qs.st.fr a
      cases hl : loadV P t (evV fv a) hv with
      | none => rw [hl] at hp; cases hp
      | some d' =>
        unfold loadV at hl
        cases hd : evV fv a <;> rw [hd] at hl ea <;> simp only [reduceCtorEq] at hl
        case ptr id off =>
          obtain ⟨q, hq, _⟩ := bind_some' hl
          simp only [RD] at ea
          rw [ea.2] at hx
          simp only [pt, Option.some.injEq] at hx
          exact ⟨⟨q, hq⟩, hx⟩
        case vp cs =>
          intro hold
          have e0 := old_ev qs.old (x := a) hold
          rw [hd] at e0
          simp only [RD] at e0
          obtain ⟨id, off, r, a1, b1, e1', e2', _⟩ := e0
          rw [e1'] at hx
          simp only [pt, Option.some.injEq] at hx
          rw [← hx]; exact e2'
    case convert s t y =>
      refine ⟨.any, false, by simp only [rdV], ?_⟩
      intro h; cases h
  · obtain ⟨cs, e, rfl⟩ := primV_new hp hn
    have hl := primA_new e1 hn
    have hlive : readV (newV hv cs e) hv.length = some ⟨cs, e⟩ := readV_new_eq rfl
    refine ⟨hn, length_newV _ _ _, ?_, ⟨_, hlive⟩, fun i hi => primA_touch e1 i hi fun x hx => ?_⟩
    · have a1 := e4.loc hv.length _ (by rw [qs.st.hr.n]; exact Nat.le_refl _) hlive
      have a2 := e3.mlt hlive
      simp only at a1 a2 ⊢
      omega
    · cases hop : o.op <;> rw [hop] at hn hx <;> simp [isNew, wrOf] at hn hx
theorem VD_call {f : FuncId} {ds : List D} {W : List Nat} (hw : guardV all fv o = some true) (hc : calleeV (evV fv) o.op = some (f, ds))
    (h : VFw P X f ds hv W (fun d hv1 => (∀ i r, readV hv i = some r → i ∉ W → readV hv1 i = some r) ∧ VD P X n0 hv0 all rest (o.dst.toList ++ N) (W ++ Wa) (fv.put o.dst d) hv1 (fun vt => K (⟨true, none, hv.length, hv1.length, W, false⟩ :: vt)))) : VD P X n0 hv0 all (o :: rest) N Wa fv hv K := by
  intro b c0 H0 hb c fr H qs
  obtain ⟨vs, e1, e2⟩ := calleeV_ok (rd_ev qs.st.fr) hc
  refine wpD_call (guard_ok qs.st.fr hw) e1 ((h c H vs qs.st.hr e2).mono fun v H' hk => ?_)
  obtain ⟨c', d, hv1, k1, k2, k3, k4, hkv, q⟩ := hk
  have hq : QS b c0 hv0 H0 (o.dst.toList ++ N) (W ++ Wa) c' (fv.put o.dst d) hv1 (fr.put o.dst v) H' := by
    refine ⟨⟨rd_put (fun t => k3.rd (qs.st.fr t)) k1 _, k2, qs.st.sp.trans k3⟩, qs.hr0, qs.sp0.trans k3, ?_, fun i r hi hni => ?_⟩
    · refine put_old qs.old _ (fun t ht => ?_) fun t ht hnt => ?_
      · simp only [List.mem_append, not_or] at ht; exact ht.2
      · rw [ht] at hnt; simp at hnt
    · simp only [List.mem_append, not_or] at hni
      obtain ⟨u1, u2⟩ := qs.un i r hi hni.2
      refine ⟨hkv i r u1 hni.1, ?_⟩
      have := k4 i r u1 hni.1
      rw [qs.sp0.mu i (qs.hr0.lt hi)] at this
      rw [this, u2]
  obtain ⟨tr, fr', H2, h1, vt, c2, fv', hv', m1, m2, m3⟩ := q b c0 H0 hb c' _ H' hq
  refine ⟨tr, fr', H2, h1, _, c2, fv', hv', .cons (t := ⟨o, fr, H, true, v, H'⟩) ?_ m1, m2, m3⟩
  have hcall : ∀ x, ¬ (readOf (ev fr) o.op = some x) ∧ ¬ (isNew o.op = true) := by
    intro x
    unfold calleeV at hc
    split at hc
    · rename_i hop; rw [hop]; simp [readOf, isNew]
    · cases hc
  exact ⟨qs.st.hr, k2, k3, qs.sp0.z, qs.sp0.len, rfl, rfl, rfl, k4, fun _ x hx => absurd hx (hcall x).1, fun _ hn => absurd hn (hcall 0).2⟩
end
theorem confl_ne {l : List Oper} {p : Nat × Nat} (h : p ∈ confl l) : p.1 ≠ p.2 := by
  intro e
  unfold confl at h
  simp only [List.mem_flatMap] at h
  obtain ⟨⟨oi, i⟩, h1, h2⟩ := h
  split at h2
  · rename_i hri
    simp only [List.mem_filterMap] at h2
    obtain ⟨⟨oj, j⟩, h3, h4⟩ := h2
    split at h4
    · rename_i hw
      simp only [Option.some.injEq] at h4
      subst h4
      simp only at e
      subst e
      have e1 := List.mem_zipIdx_iff_getElem?.1 h1
      have e2 := List.mem_zipIdx_iff_getElem?.1 h3
      rw [e1] at e2
      cases e2
      simp only [Bool.and_eq_true, Bool.or_eq_true] at hw hri
      have w := hw.1.1
      cases ho : oi.op <;> rw [ho] at w hri <;> simp [isW, isR, isNew] at w hri
    · cases h4
  · cases h2
theorem VC_drawV {id : Nat} {l : List Oper} {fv : FrV} {hv : HV} {Q : Ex → FrV → HV → Prop} (h : VD P X n0 hv l.toArray l [] [] fv hv (fun vt fv' hv' => okVs l vt = true ∧ Q .normal fv' hv')) : VC P X n0 (.region id l.toArray true) fv hv Q := by
  intro b c fr H hb hs
  refine wpC_drawD ?_
  obtain ⟨tr, fr', H', h1, vt, c', fv', hv', k1, k2, k3, k4⟩ := h b c H hb c fr H ⟨hs, hs.hr, .refl hs.hr, fun t _ => hs.fr t, fun i r hi _ => ⟨hi, rfl⟩⟩
  refine ⟨tr, fr', H', h1, fun p hp => ?_, c', fv', hv', k2, k4⟩
  unfold okPair
  split
  · rename_i r s hr1 hs1
    have hlen : ∀ {tr : List Step} {vt : List VT} {c c2 : Cx} {hv hv2 : HV} {H1 H2 : Heap} {c0 : Cx} {H0 : Heap}, TRs c0 H0 tr vt c hv H1 c2 hv2 H2 → vt.length = tr.length := by
      intro tr vt c c2 hv hv2 H1 H2 c0 H0 h
      induction h with
      | nil => rfl
      | cons _ _ ih => simp [ih]
    have hl := hlen k1
    obtain ⟨q1, q2⟩ := List.getElem?_eq_some_iff.1 hr1
    obtain ⟨q3, q4⟩ := List.getElem?_eq_some_iff.1 hs1
    obtain ⟨rv, hrv⟩ : ∃ rv, vt[p.1]? = some rv := ⟨vt[p.1], List.getElem?_eq_getElem (by omega)⟩
    obtain ⟨sv, hsv⟩ : ∃ sv, vt[p.2]? = some sv := ⟨vt[p.2], List.getElem?_eq_getElem (by omega)⟩
    have ok := List.all_eq_true.1 k3 p hp
    simp only [hrv, hsv] at ok
    exact okV_ok k1 hs.hr (fun id hz => hs.hr.zlt hz) hr1 hs1 hrv hsv (confl_ne hp) ok
  · trivial
end
end Go.Proofs.Ytmbikamebhoelaa.Ai.Av
