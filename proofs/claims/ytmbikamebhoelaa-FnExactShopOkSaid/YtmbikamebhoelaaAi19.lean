/- One more operation of a drawn order comes up: what holds behind it. No condition. -/
import Derived.Test.YtmbikamebhoelaaAi18
set_option linter.unusedVariables false
set_option linter.unusedSimpArgs false
namespace Go.Proofs.Ytmbikamebhoelaa.Ai
open Go
section
variable {P : Program} {n : Nat} {ops : Array Oper} {FR : Nat → Fr} {HP : Nat → Heap} {st : Nat → Step} {ρ₀ : Rho} {w₀ : World} {a₀ : Act} {bef : Nat → Nat → Bool}

theorem bef_le (d : DO ops bef) {i j : Nat} (hj : j < ops.size) (h : bef i j = true) : i ≤ j := by
  have := d.clos (fun k => decide (k ≤ j)) (fun k o ho hk e he hb => by
    have := d.edge k o ho e he hb
    have hk : k ≤ j := by simpa using hk
    simp; omega) i j h (by simp) hj
  simpa using this
/-- The operations known by their places, and what may not come in either order. -/
structure Drawn (P : Program) (n : Nat) (ops : Array Oper) (FR : Nat → Fr) (HP : Nat → Heap) (st : Nat → Step) (ρ₀ : Rho) (w₀ : World) (a₀ : Act) (bef : Nat → Nat → Bool) : Prop where
  dc : DC P n ops FR HP st
  d : DO ops bef
  hr : Rel ρ₀ (HP 0) w₀
  hf : FrRel ρ₀ n (FR 0) a₀
  conf : ∀ (i j : Nat) (oi oj : Oper), ops[i]? = some oi → ops[j]? = some oj → (isR oi.op || isNew oi.op) = true → isW oj.op = true → bef i j = false → bef j i = false → (st i).ran = true → (st j).ran = true → ∀ x, (readOf (ev (FR i)) oi.op = some x ∨ (isNew oi.op = true ∧ x = (HP i).length)) → readRow (HP j) x = readRow (HP (j + 1)) x

variable {S : Nat → Bool} {p : Nat} {ρ : Rho} {a : Act} {w : World} {i : Nat} {o : Oper}

theorem ready_bef (D : Drawn P n ops FR HP st ρ₀ w₀ a₀ bef) (I : Inv P n ops FR HP st ρ₀ w₀ a₀ S p ρ a w) (ho : ops[i]? = some o) (hS : S i = false) (hrd : ∀ e ∈ o.after.toList, Region.binds .any e = true → S e.on = true) {j : Nat} (hb : bef j i = true) (hj : j ≠ i) : S j = true := by
  have hi : i < ops.size := by
    rcases Nat.lt_or_ge i ops.size with h | h
    · exact h
    · rw [Array.getElem?_eq_none h] at ho; cases ho
  have := D.d.clos (fun k => S k || decide (k = i)) (fun k q hq hk e he hbd => by
    simp only [Bool.or_eq_true, decide_eq_true_eq] at hk ⊢
    rcases hk with hk | hk
    · exact .inl (I.cl k q hq hk e he hbd)
    · subst hk
      rw [ho] at hq; cases hq
      exact .inl (hrd e he hbd)) j i hb (by simp) hi
  simp only [Bool.or_eq_true, decide_eq_true_eq] at this
  exact this.resolve_right hj
theorem lt_size (ho : ops[i]? = some o) : i < ops.size := by
  rcases Nat.lt_or_ge i ops.size with h | h
  · exact h
  · rw [Array.getElem?_eq_none h] at ho; cases ho
/-- A temporary that the operation looks at holds what it holds in the text's order. -/
theorem look_at (D : Drawn P n ops FR HP st ρ₀ w₀ a₀ bef) (I : Inv P n ops FR HP st ρ₀ w₀ a₀ S p ρ a w) (ho : ops[i]? = some o) (hS : S i = false) (hrd : ∀ e ∈ o.after.toList, Region.binds .any e = true → S e.on = true) {t : Tmp} (ht : t ∈ looks ops.toList o) :
    frS FR st ops S ops.size t = FR i t := by
  have hi := lt_size ho
  have hc : (looks ops.toList o).contains t = true := by simpa using ht
  refine frS_at D.dc (Nat.le_of_lt hi) (fun j hj hd => ?_) ops.size (Nat.le_of_lt hi) fun j h1 h2 hd => ?_
  · have hoj : ops[j]? = some ops[j] := Array.getElem?_eq_getElem (by omega)
    have hd : ops[j].dst = some t := by simpa [dstAt, hoj] using hd
    refine ready_bef D I ho hS hrd (D.d.touch j i _ _ hoj ho hj ?_) (by omega)
    simp only [touchTmps, hd, hc, Bool.true_or]
  · rcases Nat.lt_or_ge i j with h | h
    · have hoj : ops[j]? = some ops[j] := Array.getElem?_eq_getElem (by omega)
      have hd : ops[j].dst = some t := by simpa [dstAt, hoj] using hd
      have hb := D.d.touch i j _ _ ho hoj h (by simp only [touchTmps, hd, hc, Bool.or_true])
      cases hSj : S j with
      | false => rfl
      | true =>
        have := D.d.clos S I.cl i j hb hSj h2
        rw [hS] at this; cases this
    · have : j = i := by omega
      subst this; exact hS
theorem ops_V (D : Drawn P n ops FR HP st ρ₀ w₀ a₀ bef) (I : Inv P n ops FR HP st ρ₀ w₀ a₀ S p ρ a w) (ho : ops[i]? = some o) (hS : S i = false) (hrd : ∀ e ∈ o.after.toList, Region.binds .any e = true → S e.on = true) : ∀ x ∈ o.op.operands, V ρ (ev (FR i) x) (a.eval x) := fun x hx => by
  have hok := D.dc.ok i _ ho
  simp only [okOper, Bool.and_eq_true, Array.all_eq_true_iff_forall_mem] at hok
  have h := I.frs.eval (hok.1.2 x hx)
  have e : ev (FR i) x = ev (frS FR st ops S ops.size) x := by
    cases x with
    | tmp t =>
      refine (look_at D I ho hS hrd (List.mem_append_left _ (List.mem_filterMap.2 ⟨.tmp t, by simpa using hx, rfl⟩))).symm
    | const v => rfl
    | global g => rfl
    | func f => rfl
  rw [e]; exact h
theorem ops_guard (D : Drawn P n ops FR HP st ρ₀ w₀ a₀ bef) (I : Inv P n ops FR HP st ρ₀ w₀ a₀ S p ρ a w) (ho : ops[i]? = some o) (hS : S i = false) (hrd : ∀ e ∈ o.after.toList, Region.binds .any e = true → S e.on = true) : Region.wanted o (yielded ops a.tmps) = (st i).ran := by
  refine guard_ok I.frs ?_
  rw [← D.dc.guard i o ho]
  refine guardA_congr fun g want t hg ht => ?_
  refine look_at D I ho hS hrd (List.mem_append_right _ ?_)
  rw [hg]
  have : (ops.toList[g]?).bind (·.dst) = some t := by simpa using ht
  simp only [this, Option.toList_some, List.mem_singleton]
/-- The frame once the operation has come up. -/
theorem frs_next (D : Drawn P n ops FR HP st ρ₀ w₀ a₀ bef) (I : Inv P n ops FR HP st ρ₀ w₀ a₀ S p ρ a w) (ho : ops[i]? = some o) (hS : S i = false) {ρ' : Rho} {v' : Value} (hle : ρ.le ρ') (hv : V ρ' (st i).v v') :
    FrRel ρ' n (frS FR st ops (fun k => S k || decide (k = i)) ops.size) (a.put o.dst v') := by
  have hi := lt_size ho
  have hok := D.dc.ok i _ ho
  simp only [okOper, Bool.and_eq_true, Array.all_eq_true_iff_forall_mem] at hok
  have h := (I.frs.mono hle).put hok.1.1 hv
  refine ⟨h.size, fun t => ?_⟩
  have hd : dstAt ops i = o.dst := by simp [dstAt, ho]
  have := frS_add (FR := FR) (st := st) (ops := ops) (S := S) (S' := fun k => S k || decide (k = i)) (i := i) (fun j => rfl) hS (fun j t hj hSj h1 h2 => by
    have hjs : j < ops.size := by
      rcases Nat.lt_or_ge j ops.size with q | q
      · exact q
      · rw [dstAt, Array.getElem?_eq_none q] at h2; cases h2
    have hoj : ops[j]? = some ops[j] := Array.getElem?_eq_getElem hjs
    have h2 : ops[j].dst = some t := by simpa [dstAt, hoj] using h2
    rw [hd] at h1
    have hb := D.d.touch i j _ _ ho hoj hj (by simp only [touchTmps, h1, h2]; simp)
    have := D.d.clos S I.cl i j hb hSj hjs
    rw [hS] at this; cases this) ops.size t
  rw [this, if_pos hi, hd]
  exact h.slot t
theorem cl_next (I : Inv P n ops FR HP st ρ₀ w₀ a₀ S p ρ a w) (ho : ops[i]? = some o) (hrd : ∀ e ∈ o.after.toList, Region.binds .any e = true → S e.on = true) : ∀ (j : Nat) (q : Oper), ops[j]? = some q → (S j || decide (j = i)) = true → ∀ e ∈ q.after.toList, Region.binds .any e = true → (S e.on || decide (e.on = i)) = true := fun j q hq hj e he hb => by
  simp only [Bool.or_eq_true, decide_eq_true_eq] at hj ⊢
  rcases hj with hj | hj
  · exact .inl (I.cl j q hq hj e he hb)
  · subst hj
    rw [ho] at hq; cases hq
    exact .inl (hrd e he hb)
theorem put_df (dst : Option Tmp) (v : Value) : (a.put dst v).defers = a.defers := by cases dst <;> rfl
theorem wAt_of (ho : ops[i]? = some o) : wAt ops i = isW o.op := by simp [wAt, ho]
/-- The next to write is the least that has not come up. -/
theorem w_is_p (D : Drawn P n ops FR HP st ρ₀ w₀ a₀ bef) (I : Inv P n ops FR HP st ρ₀ w₀ a₀ S p ρ a w) (ho : ops[i]? = some o) (hS : S i = false) (hrd : ∀ e ∈ o.after.toList, Region.binds .any e = true → S e.on = true) (hw : isW o.op = true) : p = i := by
  have hi := lt_size ho
  have h1 : ¬ i < p := fun h => by
    have := (I.wS i hi (by rw [wAt_of ho]; exact hw)).2 h
    rw [hS] at this; cases this
  rcases Nat.lt_or_ge p i with h | h
  · exfalso
    have hp : wAt ops p = true := I.pW.resolve_left (by omega)
    have hop : ops[p]? = some ops[p] := Array.getElem?_eq_getElem (by omega)
    have hwp : isW ops[p].op = true := by rw [← wAt_of hop]; exact hp
    have hb := D.d.ordW p i _ _ hop ho h hwp hw
    have := (I.wS p (by omega) hp).1 (ready_bef D I ho hS hrd hb (by omega))
    omega
  · omega
theorem wS_same (I : Inv P n ops FR HP st ρ₀ w₀ a₀ S p ρ a w) (ho : ops[i]? = some o) (hw : isW o.op = false) : ∀ j, j < ops.size → wAt ops j = true → ((S j || decide (j = i)) = true ↔ j < p) := fun j hj hwj => by
  have hne : j ≠ i := fun e => by subst e; rw [wAt_of ho, hw] at hwj; cases hwj
  rw [← I.wS j hj hwj]
  simp [hne]
theorem wS_next {p' : Nat} (I : Inv P n ops FR HP st ρ₀ w₀ a₀ S p ρ a w) (hp : p < p') (hno : ∀ j, p < j → j < p' → wAt ops j = false) : ∀ j, j < ops.size → wAt ops j = true → ((S j || decide (j = p)) = true ↔ j < p') := fun j hj hwj => by
  simp only [Bool.or_eq_true, decide_eq_true_eq, I.wS j hj hwj]
  constructor
  · intro h; omega
  · intro h
    rcases Nat.lt_trichotomy j p with q | q | q
    · exact .inl q
    · exact .inr q
    · have := hno j q h; rw [hwj] at this; cases this
end
end Go.Proofs.Ytmbikamebhoelaa.Ai
