/- Operations that make a row: what the machine makes stands for what the plain heap holds then. No condition. -/
import Derived.Test.YtmbikamebhoelaaAi8
import Derived.IntWalk
set_option linter.unusedVariables false
set_option linter.unusedSimpArgs false
namespace Go.Proofs.Ytmbikamebhoelaa.Ai
open Go
section
variable {P : Program} {w : World} {ρ : Rho}

theorem zeros_get {z : List Value} {n : Nat} (hn : z.length = n) (h0 : 0 < n) : ∀ (len i : Nat), (zerosOf len z)[i]? = if i < len * n then z[i % n]? else none
  | 0, i => by simp [zerosOf]
  | len + 1, i => by
    have ih := zeros_get hn h0 len (i - n)
    have e : zerosOf (len + 1) z = z ++ zerosOf len z := by simp [zerosOf, List.replicate_succ]
    rw [e, List.getElem?_append, hn]
    have hm : (len + 1) * n = len * n + n := by rw [Nat.add_mul, Nat.one_mul]
    by_cases h : i < n
    · rw [if_pos h, if_pos (by omega), Nat.mod_eq_of_lt h]
    · rw [if_neg h, ih]
      have : (i - n) % n = i % n := by rw [← Nat.mod_eq_sub_mod (by omega)]
      rw [this]
      by_cases h2 : i - n < len * n
      · rw [if_pos h2, if_pos (by omega)]
      · rw [if_neg h2, if_neg (by omega)]
theorem zeros_length {z : List Value} (len : Nat) : (zerosOf len z).length = len * z.length := by
  simp [zerosOf]
theorem range_zeros {z : Array Value} {n : Nat} (hn : z.size = n) (h0 : 0 < n) (len : Nat) : ((Array.range (len * n)).map (z[· % z.size]!)).toList = zerosOf len z.toList := by
  apply List.ext_getElem?
  intro i
  rw [zeros_get (by simpa using hn) h0, Array.toList_map, Array.toList_range, List.getElem?_map]
  by_cases h : i < len * n
  · rw [if_pos h, List.getElem?_range h]
    have : i % n < z.size := by rw [hn]; exact Nat.mod_lt _ h0
    simp only [Option.map_some, hn, Array.getElem?_toList]
    rw [getElem!_pos z (i % n) this, getElem?_pos z (i % n) this]
  · rw [if_neg h, List.getElem?_eq_none (by simp; omega)]; rfl
theorem zeroT_ok {e : TypeId} {z : List Value} (h : zeroCellsT P e = some z) : ∃ y n, (zeroValue e).run P w = .ok y w ∧ tsz P e = some n ∧ 0 < n ∧ z.length = n ∧ y.cells.size = n ∧ z.all scalar = true ∧ All2 (VS ρ) z y.cells.toList := by
  unfold zeroCellsT at h
  cases hz : tzero P e with
  | none => simp [hz] at h
  | some y =>
    cases hn : tsz P e with
    | none => simp [hz, hn] at h
    | some n =>
      simp only [hz, hn, Option.bind_some] at h
      split at h
      · rename_i hc
        obtain ⟨c1, c2, c3⟩ := hc
        cases h
        obtain ⟨z1, z2⟩ := run_zero_t (P := P) (w := w) hz
        have hv := V.cells (ρ := ρ) c3 (.of_VA (V_closed z2))
        exact ⟨y, n, z1, rfl, c2, c1, by rw [← c1, hv.length]; simp, c3, hv⟩
      · cases h
theorem zeros_all2 {z z' : List Value} (h : All2 (VS ρ) z z') (n : Nat) : All2 (VS ρ) (zerosOf n z) (zerosOf n z') := All2.flat (All2.replicate h n)
theorem run_newRow_push (e : TypeId) (c : Array Value) : (newRow e c).run P w = .ok ⟨w.heap.size, 0, none⟩ { w with heap := w.heap.push (.cells c e) } := by
  simp [newRow, Sem.run_bind, run_newObj]

theorem new_ok {o : Oper} {ρa ρm : Operand → Value} {H H₁ : Heap} {v : Value} (hops : ∀ x ∈ o.op.operands, V ρ (ρa x) (ρm x)) (hn : isNew o.op = true) (h : primA P ρa o.op H = some (v, H₁)) :
    ∃ (r : Row) (f : Nat → Value), r.own = true ∧ v = f H.length ∧ H₁ = H ++ [some r] ∧ (∀ H' : Heap, primA P ρa o.op H' = some (f H'.length, H' ++ [some r])) ∧
      ∃ c e v', (execOp ρm o).run P w = .ok (.value v') { w with heap := w.heap.push (.cells c e) } ∧ All2 (VS ρ) r.cells c.toList ∧ ∀ id ρ', id ≠ 0 → ρ' id = some ⟨w.heap.size, 0, true, c.size, r.esz⟩ → V ρ' (f id) v' := by
  obtain ⟨dst, op, type, pos, after, guard⟩ := o
  cases op <;> try (cases hn; done)
  case alloc t =>
    simp only [primA] at h
    cases hz : tzero P t with
    | none => simp [hz] at h
    | some z =>
      simp only [hz, Option.bind_some] at h
      split at h
      · rename_i hs
        cases h
        obtain ⟨z1, z2⟩ := run_zero_t (P := P) (w := w) hz
        refine ⟨⟨cellsOf (nv z), 0, true⟩, fun id => pt id 0, rfl, rfl, rfl, fun H' => by simp only [primA, hz, Option.bind_some]; rw [if_pos hs]; rfl, z.cells, t, .pointer (some ⟨w.heap.size, 0, none⟩), ?_, V.cells hs (.of_VA (V_closed z2)), fun id ρ' hid hl => ⟨rfl, _, hl, rfl⟩⟩
        simp only [execOp, Instr.alloc, newVar, Sem.run_bind, z1, Result.andThen_ok, run_newRow_push, Sem.run_pure]
      · cases h
  case box t x =>
    simp only [primA] at h
    split at h
    · rename_i hs
      cases h
      refine ⟨⟨cellsOf (ρa x), 0, true⟩, fun id => pt id 0, rfl, rfl, rfl, fun H' => by simp only [primA]; rw [if_pos hs]; rfl, (ρm x).cells, t, .pointer (some ⟨w.heap.size, 0, none⟩), ?_, V.cells hs (hops x (by simp [Op.operands])), fun id ρ' hid hl => ⟨rfl, _, hl, rfl⟩⟩
      simp only [execOp, Instr.box, newVar, Sem.run_bind, Result.andThen_ok, run_newRow_push, Sem.run_pure]
    · cases h
  case buildSlice t len ps =>
    simp only [primA, buildSliceA] at h
    cases he : telem P t with
    | none => simp [he] at h
    | some e =>
      cases hz : zeroCellsT P e with
      | none => simp [he, hz] at h
      | some z =>
        obtain ⟨y, n, y1, hn1, hn0, hzl, hyl, hzs, hzv⟩ := zeroT_ok (w := w) (ρ := ρ) hz
        simp only [he, hn1, hz, Option.bind_some] at h
        split at h
        · rename_i hlen
          cases hf : fillA (fun i => some (i * n, n)) (zerosOf len z) (ps.toList.map fun p => (p.1, ρa p.2)) with
          | none => simp [hf] at h
          | some cs =>
            simp [hf] at h
            obtain ⟨rfl, rfl⟩ := h
            have hvp := vps_map (ρ := ρ) (ρa := ρa) (ρm := ρm) (ps := ps) fun x hx => hops x (by simpa [Op.operands] using hx)
            have hzr := range_zeros hyl hn0 len
            have hz2 : ∃ zr : Array Value, ((len * n = 0 ∧ zr = #[]) ∨ (len * n ≠ 0 ∧ zr = y.cells)) ∧ ((Array.range (len * n)).map (zr[· % zr.size]!)).toList = zerosOf len y.cells.toList := by
              by_cases h0 : len * n = 0
              · refine ⟨#[], .inl ⟨h0, rfl⟩, ?_⟩
                have : len = 0 := by rcases Nat.mul_eq_zero.1 h0 with h | h <;> omega
                subst this
                simp [zerosOf]
              · exact ⟨y.cells, .inr ⟨h0, rfl⟩, hzr⟩
            obtain ⟨zr, zr1, zr2⟩ := hz2
            obtain ⟨cs', k1, k2, k3⟩ := fill_ok _ _ (zerosOf len z) ((Array.range (len * n)).map (zr[· % zr.size]!)) cs hvp (by rw [zr2]; exact zeros_all2 hzv len) hf
            have hcl : cs'.size = len * n := by
              have e1 := k2.length
              rw [k3, zeros_length, hzl] at e1
              simpa using e1.symm
            refine ⟨⟨cs, n, true⟩, fun id => sl id 0 len, rfl, rfl, rfl, fun H' => ?_, cs', e, .slice (some ⟨w.heap.size, 0, none⟩) len len, ?_, k2, fun id ρ' hid hl => ?_⟩
            · simp only [primA, buildSliceA, he, hn1, hz, Option.bind_some]
              rw [if_pos hlen, hf]
              rfl
            · simp only [execOp, Instr.buildSlice, Sem.run_bind, run_und (telem_und he), Result.andThen_ok, run_sizeOf_t hn1]
              rw [if_neg (by omega)]
              rcases zr1 with ⟨h0, rfl⟩ | ⟨h0, rfl⟩
              · simp only [if_pos h0, Sem.run_bind, Sem.run_pure, Result.andThen_ok, k1, run_newRow_push]
              · simp only [if_neg h0, Sem.run_bind, Sem.run_pure, y1, Result.andThen_ok, k1, run_newRow_push]
            · exact ⟨rfl, rfl, .inr ⟨hid, _, hl, _, _, rfl, Nat.le_refl _, fun _ => rfl, fun _ _ => ⟨rfl, by show len * n ≤ cs'.size; omega⟩⟩⟩
        · cases h
  case makeSlice t l c =>
    simp only [primA] at h
    unfold makeSliceA at h
    split at h
    · rename_i k1 l1 k2 c1 hl1 hc1
      cases he : telem P t with
      | none => simp [he] at h
      | some e =>
        cases hb : tby P e with
        | none => simp [he, hb] at h
        | some b =>
        cases hz : zeroCellsT P e with
        | none => simp [he, hb, hz] at h
        | some z =>
          obtain ⟨y, n, y1, hn1, hn0, hzl, hyl, hzs, hzv⟩ := zeroT_ok (w := w) (ρ := ρ) hz
          simp only [he, hn1, hb, hz, Option.bind_some] at h
          split at h
          · rename_i hq
            obtain ⟨q1, q2, q3⟩ := hq
            cases h
            subst q1
            have hml : ρm l = .int k1 l1 := by have := hops l (by simp [Op.operands]); rw [hl1] at this; exact this
            have hmc : ρm c = .int k2 l1 := by have := hops c (by simp [Op.operands]); rw [hc1] at this; exact this
            have hsmall : l1.toNat ≤ 1099511627776 := Nat.le_trans (Nat.le_mul_of_pos_right _ (by omega)) q3
            have hw64 : IntKind.i64.wrap l1 = l1 := IntWalk.i64_in _ (by omega)
            obtain ⟨ti, hti, hbb⟩ : ∃ i, P.info? e = some i ∧ i.bytes = b := by
              unfold tby at hb
              cases hi : P.info? e with
              | none => simp [hi] at hb
              | some i => simp [hi] at hb; exact ⟨i, rfl, hb⟩
            have hbi : (typeInfo e).run P w = .ok ti w := by simp [typeInfo, hti]
            have hzr := range_zeros hyl hn0 l1.toNat
            have hz2 : ∃ zr : Array Value, ((l1.toNat * n = 0 ∧ zr = #[]) ∨ (l1.toNat * n ≠ 0 ∧ zr = y.cells)) ∧ ((Array.range (l1.toNat * n)).map (zr[· % zr.size]!)).toList = zerosOf l1.toNat y.cells.toList := by
              by_cases h0 : l1.toNat * n = 0
              · refine ⟨#[], .inl ⟨h0, rfl⟩, ?_⟩
                have : l1.toNat = 0 := by rcases Nat.mul_eq_zero.1 h0 with h | h <;> omega
                rw [this]
                simp [zerosOf]
              · exact ⟨y.cells, .inr ⟨h0, rfl⟩, hzr⟩
            obtain ⟨zr, zr1, zr2⟩ := hz2
            have hcl : ((Array.range (l1.toNat * n)).map (zr[· % zr.size]!)).size = l1.toNat * n := by simp
            refine ⟨⟨zerosOf l1.toNat z, n, true⟩, fun id => sl id 0 l1.toNat, rfl, rfl, rfl, fun H' => ?_, (Array.range (l1.toNat * n)).map (zr[· % zr.size]!), e, .slice (some ⟨w.heap.size, 0, none⟩) l1.toNat l1.toNat, ?_, by rw [zr2]; exact zeros_all2 hzv _, fun id ρ' hid hl => ?_⟩
            · simp only [primA, makeSliceA, hl1, hc1, he, hn1, hb, hz, Option.bind_some]
              rw [if_pos ⟨trivial, q2, q3⟩]
              rfl
            · have hlarge : ¬ ((l1 : Int) < 0 ∨ (b : Int) * l1 > 2 ^ 48) := by
                have h1 : (l1.toNat : Int) = l1 := Int.toNat_of_nonneg q2
                have h2 : b * l1.toNat ≤ 1099511627776 := by
                  have := Nat.mul_comm b l1.toNat
                  have := Nat.mul_le_mul_left l1.toNat (show b ≤ b + 1 by omega)
                  omega
                have h3 : ((b * l1.toNat : Nat) : Int) = (b : Int) * l1 := by push_cast; rw [h1]
                omega
              have hlarge' : (decide (l1 < 0) || decide ((b : Int) * l1 > 2 ^ 48)) = false := by simp; omega
              simp only [execOp, Instr.makeSlice, Sem.run_bind, run_und (telem_und he), Result.andThen_ok, hml, hmc, asInt, asIntOf, Sem.run_pure, hbi, hbb, hw64, hlarge']
              rw [if_neg (by simp; omega)]
              rcases zr1 with ⟨h0, rfl⟩ | ⟨h0, rfl⟩
              · simp only [Sem.run_bind, run_askRoom, Result.andThen_ok, run_sizeOf_t hn1, if_pos h0, run_newRow_push, Sem.run_pure]
              · simp only [Sem.run_bind, run_askRoom, Result.andThen_ok, run_sizeOf_t hn1, if_neg h0, y1, run_newRow_push, Sem.run_pure]
            · exact ⟨rfl, rfl, .inr ⟨hid, _, hl, _, _, rfl, Nat.le_refl _, fun _ => rfl, fun _ _ => ⟨rfl, by show l1.toNat * n ≤ ((Array.range (l1.toNat * n)).map (zr[· % zr.size]!)).size; omega⟩⟩⟩
          · cases h
    · cases h
end
end Go.Proofs.Ytmbikamebhoelaa.Ai
