/- Operations that turn no memory, on the machine and on the plain heap: what they yield stands for one another. No condition. -/
import Derived.Test.YtmbikamebhoelaaAi3
import Derived.Laws.CopyRow
set_option linter.unusedVariables false
set_option linter.unusedSimpArgs false
namespace Go.Proofs.Ytmbikamebhoelaa.Ai
open Go
section
variable {P : Program} {w : World} {ρ : Rho}

theorem run_sizeOf_t {t : TypeId} {n : Nat} (h : tsz P t = some n) : (sizeOf t).run P w = .ok n w := by
  unfold tsz at h
  cases hi : P.info? t with
  | none => simp [hi] at h
  | some i => simp [hi] at h; simp [sizeOf, typeInfo, hi, h]
theorem run_und {t : TypeId} {d : TypeDesc} (h : P.underlying t = some d) : (underlying t).run P w = .ok d w := by simp [underlying, h]
theorem run_isAgg_t {t : TypeId} {b : Bool} (h : tagg P t = some b) : (isAgg t).run P w = .ok b w := by
  unfold tagg at h
  cases hu : P.underlying t with
  | none => simp [hu] at h
  | some d => cases d <;> simp [hu] at h <;> simp [isAgg, run_und hu, h]
theorem run_zero_t {t : TypeId} {z : Value} (h : tzero P t = some z) : (zeroValue t).run P w = .ok z w ∧ z.cells.toList.all closedConst = true := by
  unfold tzero at h
  cases hi : P.info? t with
  | none => simp [hi] at h
  | some i =>
    rw [hi] at h
    simp only [Option.bind_some] at h
    cases hz : i.zero with
    | none => simp [hz] at h
    | some z' =>
      simp only [hz] at h
      split at h
      · rename_i hc
        cases h
        exact ⟨by simp [zeroValue, typeInfo, hi, hz], hc⟩
      · cases h
theorem telem_und {t e : TypeId} (h : telem P t = some e) : P.underlying t = some (.slice e) := by
  unfold telem at h
  split at h
  · rename_i h1; cases h; exact h1
  · cases h
theorem tarr_und {t e : TypeId} {n : Nat} (h : tarr P t = some (n, e)) : P.underlying t = some (.array n e) := by
  unfold tarr at h
  split at h
  · rename_i h1; cases h; exact h1
  · cases h
theorem tstr_und {t : TypeId} (h : tstr P t = true) : P.underlying t = some .string := by
  unfold tstr at h
  split at h
  · assumption
  · cases h
theorem tbool_und {t : TypeId} (h : tbool P t = true) : P.underlying t = some .bool := by
  unfold tbool at h
  split at h
  · assumption
  · cases h
theorem tkind_und {t : TypeId} {k : IntKind} (h : tkind P t = some k) : P.underlying t = some (.int k) := by
  unfold tkind at h
  split at h
  · rename_i h1; cases h; exact h1
  · cases h
theorem tfield_und {t : TypeId} {f o u : Nat} (h : tfield P t f = some (o, u)) : ∃ fs x, P.underlying t = some (.struct fs) ∧ fs[f]? = some x ∧ x.offset = o ∧ x.type = u := by
  unfold tfield at h
  split at h
  · rename_i fs h1
    cases hx : fs[f]? with
    | none => simp [hx] at h
    | some x => simp [hx] at h; exact ⟨fs, x, h1, hx, h.1, h.2⟩
  · cases h

theorem VS_closed {c : Value} (h : closedConst c = true) : VS ρ (nv1 c) c := by
  unfold closedConst at h
  split at h <;> first | rfl | (simp [nv1, nilS, sl, VS]; done) | cases h
theorem V_closed {z : Value} (h : z.cells.toList.all closedConst = true) : VA ρ (nv z) z := by
  cases z with
  | agg cs =>
    refine ⟨cs, rfl, ?_⟩
    rw [Array.toList_map]
    have : All2 (VS ρ) (cs.toList.map nv1) (cs.toList.map fun x => x) := All2.self fun x hx => VS_closed (by
      simp only [Value.cells, List.all_eq_true] at h; exact h x hx)
    simpa using this
  | _ => exact VA.of_VS (by simp only [Value.cells, List.all_cons, List.all_nil, Bool.and_true] at h; exact VS_closed h)

theorem part_ok {t : TypeId} {cs : List Value} {cs' : Array Value} {off : Nat} {v : Value} (hc : All2 (VS ρ) cs cs'.toList) (h : partOf P t cs off = some v) :
    ∃ v', (part t cs' off).run P w = .ok v' w ∧ VA ρ v v' := by
  unfold partOf at h
  cases hb : tagg P t with
  | none => simp [hb] at h
  | some b =>
    cases b with
    | true =>
      simp only [hb] at h
      cases hn : tsz P t with
      | none => simp [hn] at h
      | some n =>
        simp only [hn, Option.bind_some] at h
        split at h
        · rename_i hl
          cases h
          refine ⟨.agg (cs'.extract off (off + n)), by simp [part, run_isAgg_t hb, run_sizeOf_t hn], _, rfl, ?_⟩
          have := (hc.drop off).take n
          rw [Array.toList_extract]
          simpa [List.extract_eq_take_drop] using this
        · cases h
    | false =>
      simp only [hb] at h
      obtain ⟨v', h1, h2⟩ := hc.get h
      refine ⟨v', ?_, VA.of_VS h2⟩
      have : cs'[off]? = some v' := by simpa using h1
      simp [part, run_isAgg_t hb, this]
theorem loadVar_ok {t : TypeId} {l : Loc} {r : Row} {off : Nat} {v : Value} (hr : RowOk ρ w l r) (h : partOf P t r.cells off = some v) :
    ∃ v', (loadVar t ⟨l.block, l.base + off, none⟩).run P w = .ok v' w ∧ VA ρ v v' := by
  unfold partOf at h
  cases hb : tagg P t with
  | none => simp [hb] at h
  | some b =>
    cases b with
    | true =>
      simp only [hb] at h
      cases hn : tsz P t with
      | none => simp [hn] at h
      | some n =>
        simp only [hn, Option.bind_some] at h
        split at h
        · rename_i hl
          cases h
          have hcell : ∀ j, j < n → ∃ v', w.cell? ⟨l.block, l.base + (off + j), none⟩ = some v' ∧ VS ρ ((r.cells.drop off).take n)[j]! v' := fun j hj => by
            have hlt : off + j < r.cells.length := by omega
            obtain ⟨v', h1, h2⟩ := hr.cell (List.getElem?_eq_getElem hlt)
            refine ⟨v', h1, ?_⟩
            have : ((r.cells.drop off).take n)[j]! = r.cells[off + j] := by
              rw [List.getElem!_eq_getElem?_getD, List.getElem?_take_of_lt hj, List.getElem?_drop, List.getElem?_eq_getElem hlt]; rfl
            rw [this]; exact h2
          let f : Nat → Value := fun j => if hj : j < n then Classical.choose (hcell j hj) else undef
          have hf : ∀ j (hj : j < n), w.cell? ⟨l.block, l.base + (off + j), none⟩ = some (f j) ∧ VS ρ ((r.cells.drop off).take n)[j]! (f j) := fun j hj => by
            simp only [f, hj, dif_pos]; exact Classical.choose_spec (hcell j hj)
          have hadd : ∀ j, (⟨l.block, l.base + off, none⟩ : Addr).add j = ⟨l.block, l.base + (off + j), none⟩ := fun j => by
            unfold Addr.add; split <;> simp_all [Nat.add_assoc]
          have hrun := run_loadCells (P := P) w ⟨l.block, l.base + off, none⟩ n f (fun j hj => by rw [hadd]; exact (hf j hj).1)
          refine ⟨.agg ((List.range n).map f).toArray, ?_, _, rfl, ?_⟩
          · simp [loadVar, run_isAgg_t hb, run_sizeOf_t hn, hrun]
          · have hlen : ((r.cells.drop off).take n).length = n := by simp; omega
            refine All2.of_get (by simp; omega) fun i a hi => ?_
            have hi' : ((r.cells.drop off).take n)[i]? = some a := by simpa using hi
            have hin : i < n := by
              rcases Nat.lt_or_ge i n with k | k
              · exact k
              · rw [List.getElem?_eq_none (by omega)] at hi'; cases hi'
            refine ⟨f i, by simp [hin], ?_⟩
            have := (hf i hin).2
            rw [List.getElem!_eq_getElem?_getD, hi'] at this
            exact this
        · cases h
    | false =>
      simp only [hb] at h
      obtain ⟨v', h1, h2⟩ := hr.cell h
      exact ⟨v', by simp [loadVar, run_isAgg_t hb, run_load, h1], VA.of_VS h2⟩
end
end Go.Proofs.Ytmbikamebhoelaa.Ai
