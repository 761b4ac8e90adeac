/- A run of operations whose order is drawn: what is known of the text's order, and of every state on the way. No condition. -/
import Derived.Test.YtmbikamebhoelaaAi13
set_option linter.unusedVariables false
set_option linter.unusedSimpArgs false
namespace Go.Proofs.Ytmbikamebhoelaa.Ai
open Go
section
variable {P : Program}

/-- An operation of which something holds behind it has a state behind it. -/
theorem wp_state {o : Oper} {a : Act} {w : World} {K : Act → World → Prop} (h : o.wp P a w K (fun _ _ _ => False)) : ∃ a' w', K a' w' := by
  unfold Oper.wp at h
  generalize (execOp a.eval o).run P w = r at h
  cases r with
  | ok x w' =>
    cases x <;> simp only [Oper.upon] at h
    case value v => exact ⟨_, _, h⟩
    case skip => exact ⟨_, _, h⟩
    case defer d => exact ⟨_, _, h⟩
    case enter f args =>
      obtain ⟨e, w'', fr, h1, _⟩ := h []
      cases e with
      | returned v => exact ⟨_, _, h1⟩
      | panicked c => exact h1.elim
      | outgrown => obtain ⟨_, _, h2⟩ := h1; exact h2.elim
    case row row args =>
      obtain ⟨v, w'', h1, _⟩ := h default []
      exact ⟨_, _, h1⟩
  | halt x w' => cases x <;> simp only [Oper.upon] at h

/-- The steps of a run of operations, by their places. -/
structure DC (P : Program) (n : Nat) (ops : Array Oper) (FR : Nat → Fr) (HP : Nat → Heap) (st : Nat → Step) : Prop where
  so : ∀ (i : Nat) (o : Oper), ops[i]? = some o → (st i).o = o ∧ (st i).fr = FR i ∧ (st i).H = HP i ∧ (st i).H' = HP (i + 1)
  fr : ∀ (i : Nat) (o : Oper), ops[i]? = some o → FR (i + 1) = (FR i).put o.dst (st i).v
  guard : ∀ (i : Nat) (o : Oper), ops[i]? = some o → guardA ops (FR i) o = some (st i).ran
  skip : ∀ (i : Nat) (o : Oper), ops[i]? = some o → (st i).ran = false → (st i).v = undef ∧ HP (i + 1) = HP i
  sim : ∀ (i : Nat) (o : Oper), ops[i]? = some o → SimStep P (st i)
  prim : ∀ (i : Nat) (o : Oper), ops[i]? = some o → (st i).ran = true → isW o.op = false → primA P (ev (FR i)) o.op (HP i) = some ((st i).v, HP (i + 1))
  ok : ∀ (i : Nat) (o : Oper), ops[i]? = some o → okOper n o = true
theorem chain_get {all : Array Oper} {l : List Oper} {fr fr' : Fr} {H H' : Heap} {tr : List Step} (h : Chain P all l fr H tr fr' H') :
    ∃ (FR : Nat → Fr) (HP : Nat → Heap) (st : Nat → Step), FR 0 = fr ∧ HP 0 = H ∧ FR l.length = fr' ∧ HP l.length = H' ∧ (∀ i, i < l.length → tr[i]? = some (st i)) ∧ tr.length = l.length ∧
      ∀ (i : Nat) (o : Oper), l[i]? = some o → ((st i).o = o ∧ (st i).fr = FR i ∧ (st i).H = HP i ∧ (st i).H' = HP (i + 1)) ∧ FR (i + 1) = (FR i).put o.dst (st i).v ∧ guardA all (FR i) o = some (st i).ran ∧ ((st i).ran = false → (st i).v = undef ∧ HP (i + 1) = HP i) ∧ SimStep P (st i) ∧
        ((st i).ran = true → isW o.op = false → primA P (ev (FR i)) o.op (HP i) = some ((st i).v, HP (i + 1))) := by
  induction h with
  | nil fr H => exact ⟨fun _ => fr, fun _ => H, fun _ => ⟨default, fr, H, false, undef, H⟩, rfl, rfl, rfl, rfl, fun i hi => by simp at hi, rfl, fun i o hi => by simp at hi⟩
  | @cons o rest fr fr' H H₁ H' b v tr hg hb hs hp hc ih =>
    obtain ⟨FR, HP, st, h1, h2, h3, h4, h5, h6, h7⟩ := ih
    refine ⟨fun i => match i with | 0 => fr | i + 1 => FR i, fun i => match i with | 0 => H | i + 1 => HP i, fun i => match i with | 0 => ⟨o, fr, H, b, v, H₁⟩ | i + 1 => st i, rfl, rfl, h3, h4, fun i hi => ?_, by simp [h6], fun i q hi => ?_⟩
    · cases i with
      | zero => rfl
      | succ i => simpa using h5 i (by simpa using hi)
    · cases i with
      | zero =>
        simp at hi
        subst hi
        exact ⟨⟨rfl, rfl, rfl, h2.symm⟩, h1, hg, fun e => ⟨(hb e).1, h2.trans (hb e).2⟩, hs, fun e1 e2 => by show _ = some (v, HP 0); rw [h2]; exact hp e1 e2⟩
      | succ i => exact h7 i q (by simpa using hi)

section
variable {n : Nat} {ops : Array Oper} {FR : Nat → Fr} {HP : Nat → Heap} {st : Nat → Step} {ρ₀ : Rho} {w₀ : World} {a₀ : Act}
/-- In the text's order the run goes through: at each place some state of the machine stands for the heap and the frame. -/
theorem canon (dc : DC P n ops FR HP st) (hr : Rel ρ₀ (HP 0) w₀) (hf : FrRel ρ₀ n (FR 0) a₀) : ∀ i, i ≤ ops.size → ∃ ρ w a, Stp ρ₀ (HP 0) w₀ ρ (HP i) w ∧ Full (HP 0) (HP i) ρ ∧ FrRel ρ n (FR i) a := by
  intro i
  induction i with
  | zero => exact fun _ => ⟨ρ₀, w₀, a₀, Stp.refl hr, full_same (Nat.le_refl _), hf⟩
  | succ i ih =>
    intro hi
    obtain ⟨ρ, w, a, hst, hfu, hf⟩ := ih (by omega)
    have hr' := hst.rel
    have ho : ops[i]? = some ops[i] := Array.getElem?_eq_getElem (by omega)
    obtain ⟨s1, s2, s3, s4⟩ := dc.so i _ ho
    have hok := dc.ok i _ ho
    simp only [okOper, Bool.and_eq_true, Array.all_eq_true_iff_forall_mem] at hok
    obtain ⟨⟨o1, o2⟩, o3⟩ := hok
    cases hran : (st i).ran with
    | false =>
      obtain ⟨e1, e2⟩ := dc.skip i _ ho hran
      refine ⟨ρ, w, a.put ops[i].dst undef, by rw [e2]; exact hst, by rw [e2]; exact hfu, ?_⟩
      rw [dc.fr i _ ho, e1]
      exact hf.put o1 V_undef
    | true =>
      have hs := dc.sim i _ ho hran ρ w a (by rw [s3]; exact hr') (fun x hx => by rw [s2]; rw [s1] at hx; exact hf.eval (o2 x hx)) (fun a' w' => ∃ ρ', Stp ρ₀ (HP 0) w₀ ρ' (HP (i + 1)) w' ∧ Full (HP 0) (HP (i + 1)) ρ' ∧ FrRel ρ' n (FR (i + 1)) a') (fun _ _ _ => False) (fun v' ρ' w' h1 h2 h3 => by
        rw [s3, s4] at h1 h3
        refine ⟨ρ', hst.trans hr h1, hfu.trans h1 h3, ?_⟩
        rw [dc.fr i _ ho, s1]
        exact (hf.mono (h1.le hr')).put o1 h2)
      obtain ⟨a', w', ρ', h1, h2, h3⟩ := wp_state hs
      exact ⟨ρ', w', a', h1, h2, h3⟩
/-- Heaps grow, and what is dead stays dead. -/
theorem step_len (dc : DC P n ops FR HP st) (hr : Rel ρ₀ (HP 0) w₀) (hf : FrRel ρ₀ n (FR 0) a₀) {i : Nat} (hi : i < ops.size) : (HP i).length ≤ (HP (i + 1)).length ∧ ∀ id, id < (HP i).length → readRow (HP i) id = none → readRow (HP (i + 1)) id = none := by
  obtain ⟨ρ, w, a, hst, _, hf⟩ := canon dc hr hf i (by omega)
  have hr := hst.rel
  have ho : ops[i]? = some ops[i] := Array.getElem?_eq_getElem hi
  obtain ⟨s1, s2, s3, s4⟩ := dc.so i _ ho
  have hok := dc.ok i _ ho
  simp only [okOper, Bool.and_eq_true, Array.all_eq_true_iff_forall_mem] at hok
  obtain ⟨⟨o1, o2⟩, o3⟩ := hok
  cases hran : (st i).ran with
  | false => rw [(dc.skip i _ ho hran).2]; exact ⟨Nat.le_refl _, fun _ _ h => h⟩
  | true =>
    have hs := dc.sim i _ ho hran ρ w a (by rw [s3]; exact hr) (fun x hx => by rw [s2]; rw [s1] at hx; exact hf.eval (o2 x hx)) (fun a' w' => (HP i).length ≤ (HP (i + 1)).length ∧ ∀ id, id < (HP i).length → readRow (HP i) id = none → readRow (HP (i + 1)) id = none) (fun _ _ _ => False) (fun v' ρ' w' h1 h2 _ => by
      rw [s3, s4] at h1
      exact ⟨h1.len, h1.dead⟩)
    obtain ⟨_, _, h⟩ := wp_state hs
    exact h
theorem len_mono (dc : DC P n ops FR HP st) (hr : Rel ρ₀ (HP 0) w₀) (hf : FrRel ρ₀ n (FR 0) a₀) {i j : Nat} (hij : i ≤ j) (hj : j ≤ ops.size) : (HP i).length ≤ (HP j).length := by
  induction j with
  | zero => have : i = 0 := by omega
            subst this; exact Nat.le_refl _
  | succ j ih =>
    rcases Nat.lt_or_ge i (j + 1) with h | h
    · exact Nat.le_trans (ih (by omega) (by omega)) (step_len dc hr hf (by omega)).1
    · have : i = j + 1 := by omega
      subst this; exact Nat.le_refl _
/-- An operation that writes nothing leaves the rows that were there. -/
theorem still (dc : DC P n ops FR HP st) (hr : Rel ρ₀ (HP 0) w₀) {i : Nat} {o : Oper} (ho : ops[i]? = some o) (hw : isW o.op = false) : (HP (i + 1) = HP i) ∨ (isNew o.op = true ∧ (st i).ran = true ∧ ∃ r, HP (i + 1) = HP i ++ [some r]) := by
  cases hran : (st i).ran with
  | false => exact .inl (dc.skip i _ ho hran).2
  | true =>
    have hp := dc.prim i _ ho hran hw
    by_cases hn : isNew o.op = true
    · refine .inr ⟨hn, rfl, ?_⟩
      have key : ∀ {op : Op} {ρa : Operand → Value} {H H₁ : Heap} {v : Value}, isNew op = true → primA P ρa op H = some (v, H₁) → ∃ r, H₁ = H ++ [some r] := by
        intro op ρa H H₁ v hn h
        cases op <;> try (cases hn; done)
        case alloc t =>
          simp only [primA] at h
          cases hz : tzero P t with
          | none => simp [hz] at h
          | some z =>
            simp only [hz, Option.bind_some] at h
            split at h
            · cases h; exact ⟨_, rfl⟩
            · cases h
        case box t x =>
          simp only [primA] at h
          split at h
          · cases h; exact ⟨_, rfl⟩
          · cases h
        case buildSlice t len ps =>
          simp only [primA, buildSliceA] at h
          cases he : telem P t with
          | none => simp [he] at h
          | some e =>
            cases hn : tsz P e with
            | none => simp [he, hn] at h
            | some n =>
              cases hz : zeroCellsT P e with
              | none => simp [he, hn, hz] at h
              | some z =>
                simp only [he, hn, hz, Option.bind_some] at h
                split at h
                · cases hf : fillA (fun i => some (i * n, n)) (zerosOf len z) (ps.toList.map fun p => (p.1, ρa p.2)) with
                  | none => simp [hf] at h
                  | some cs => simp [hf] at h; exact ⟨_, h.2.symm⟩
                · cases h
        case makeSlice t l c =>
          simp only [primA] at h
          unfold makeSliceA at h
          split at h
          · rename_i k1 l1 k2 c1 _ _
            cases he : telem P t with
            | none => simp [he] at h
            | some e =>
              cases hn : tsz P e with
              | none => simp [he, hn] at h
              | some n =>
                cases hb : tby P e with
                | none => simp [he, hn, hb] at h
                | some b =>
                  cases hz : zeroCellsT P e with
                  | none => simp [he, hn, hb, hz] at h
                  | some z =>
                    simp only [he, hn, hb, hz, Option.bind_some] at h
                    split at h
                    · cases h; exact ⟨_, rfl⟩
                    · cases h
          · cases h
      exact key hn hp
    · refine .inl ?_
      have hn : isNew o.op = false := by simpa using hn
      have key : ∀ {op : Op} {ρa : Operand → Value} {H H₁ : Heap} {v : Value}, isNew op = false → isW op = false → primA P ρa op H = some (v, H₁) → H₁ = H := by
        intro op ρa H H₁ v hn hw h
        cases op <;> try (cases hn; done)
        all_goals try (cases hw; done)
        all_goals simp only [primA, reduceCtorEq] at h
        all_goals try (cases h; rfl)
        case call c =>
          obtain ⟨callee, args, ats⟩ := c
          cases callee with
          | value f => simp only [primA, reduceCtorEq] at h
          | invoke r m => simp only [primA, reduceCtorEq] at h
          | builtin b =>
            simp only [primA] at h
            unfold builtinA at h
            split at h
            · rename_i t x _ _
              cases hb : lenA P t x with
              | none => simp [hb] at h
              | some u => simp [hb] at h; exact h.2.symm
            · cases hw
            · cases hw
            · rename_i x y _
              cases hb : min2A x y with
              | none => simp [hb] at h
              | some u => simp [hb] at h; exact h.2.symm
            · rename_i x y _
              cases hb : max2A x y with
              | none => simp [hb] at h
              | some u => simp [hb] at h; exact h.2.symm
            · cases h
        case extract x i =>
          split at h
          · rename_i vs _
            cases hq : vs[i]? with
            | none => simp [hq] at h
            | some u => simp [hq] at h; exact h.2.symm
          · cases h
        all_goals first
          | (rw [Option.map_eq_some_iff] at h; obtain ⟨_, _, h⟩ := h; cases h; rfl)
          | (split at h <;> first | (cases h; rfl) | cases h)
      exact key hn hw hp
end
end
end Go.Proofs.Ytmbikamebhoelaa.Ai
