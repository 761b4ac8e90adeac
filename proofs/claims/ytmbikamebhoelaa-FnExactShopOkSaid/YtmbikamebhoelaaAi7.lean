/- Every operation that makes memory, on the machine and on the plain heap; the parts of a value laid together. No condition. -/
import Derived.Test.YtmbikamebhoelaaAi6
set_option linter.unusedVariables false
set_option linter.unusedSimpArgs false
namespace Go.Proofs.Ytmbikamebhoelaa.Ai
open Go
section
variable {P : Program} {w : World} {ρ : Rho}

/-! ### Parts laid into cells -/
theorem splice_length {cs xs : List Value} {off : Nat} (h : off + xs.length ≤ cs.length) : (splice cs off xs).length = cs.length := by simp [splice]; omega
theorem setcells : ∀ (l : List Value) (k off : Nat) (cells : Array Value), off + k + l.length ≤ cells.size →
    ((l.zipIdx k).foldl (fun cs (p : Value × Nat) => cs.setIfInBounds (off + p.2) p.1) cells).toList = splice cells.toList (off + k) l
  | [], k, off, cells, _ => by simp [splice]
  | v :: l, k, off, cells, h => by
    simp only [List.zipIdx_cons, List.foldl_cons]
    rw [setcells l (k + 1) off _ (by simp at h ⊢; omega)]
    apply List.ext_getElem?
    intro i
    simp at h
    simp only [splice, Array.toList_setIfInBounds, List.getElem?_append, List.length_append, List.length_take, List.length_set, List.length_cons, List.getElem?_take, List.getElem?_set, List.getElem?_drop, Array.length_toList]
    rcases Nat.lt_trichotomy i (off + k) with hi | hi | hi
    · have h1 : i < min (off + (k + 1)) cells.size + l.length := by omega
      have h2 : i < min (off + (k + 1)) cells.size := by omega
      have h3 : i < min (off + k) cells.size + (l.length + 1) := by omega
      have h4 : i < min (off + k) cells.size := by omega
      simp [h1, h2, h3, h4, hi, show i < off + (k + 1) from by omega, show off + k ≠ i from by omega]
    · subst hi
      have h1 : off + k < min (off + (k + 1)) cells.size + l.length := by omega
      have h2 : off + k < min (off + (k + 1)) cells.size := by omega
      have h3 : off + k < min (off + k) cells.size + (l.length + 1) := by omega
      have h4 : ¬ off + k < min (off + k) cells.size := by omega
      simp [h1, h2, h3, h4, show off + k < cells.size from by omega, show off + k - min (off + k) cells.size = 0 from by omega, show off + k < off + (k + 1) from by omega]
    · have h2 : ¬ i < min (off + (k + 1)) cells.size := by omega
      have h4 : ¬ i < min (off + k) cells.size := by omega
      by_cases h1 : i < min (off + (k + 1)) cells.size + l.length
      · have h3 : i < min (off + k) cells.size + (l.length + 1) := by omega
        simp only [h1, h2, h3, h4, if_true, if_false]
        rw [show i - min (off + k) cells.size = (i - min (off + (k + 1)) cells.size) + 1 from by omega, List.getElem?_cons_succ]
      · have h3 : ¬ i < min (off + k) cells.size + (l.length + 1) := by omega
        simp only [h1, h2, h3, h4, if_false]
        rw [show off + (k + 1) + l.length + (i - (min (off + (k + 1)) cells.size + l.length)) = i from by omega, show off + k + (l.length + 1) + (i - (min (off + k) cells.size + (l.length + 1))) = i from by omega]
        rw [if_neg (by omega)]
theorem All2.splice {cs xs : List Value} {cs' xs' : List Value} {off : Nat} (h : All2 (VS ρ) cs cs') (k : All2 (VS ρ) xs xs') : All2 (VS ρ) (Ai.splice cs off xs) (Ai.splice cs' off xs') := by
  unfold Ai.splice
  rw [k.length]
  exact ((h.take off).append k).append (h.drop _)
/-- Parts: a place and a value each. -/
def VPs (ρ : Rho) (ps ps' : List (Nat × Value)) : Prop := All2 (fun p p' => p.1 = p'.1 ∧ V ρ p.2 p'.2) ps ps'
theorem fill_ok {place : Nat → Option (Nat × Nat)} : ∀ (ps ps' : List (Nat × Value)) (cells : List Value) (cells' : Array Value) (cs : List Value), VPs ρ ps ps' → All2 (VS ρ) cells cells'.toList → fillA place cells ps = some cs →
    ∃ cs', Instr.fill place cells' ps' = some cs' ∧ All2 (VS ρ) cs cs'.toList ∧ cs.length = cells.length
  | [], [], cells, cells', cs, _, hc, h => by simp [fillA] at h; subst h; exact ⟨cells', rfl, hc, rfl⟩
  | [], _ :: _, _, _, _, h, _, _ => h.elim
  | _ :: _, [], _, _, _, h, _, _ => h.elim
  | (i, v) :: ps, (i', v') :: ps', cells, cells', cs, hp, hc, h => by
    obtain ⟨⟨e1, hv⟩, hr⟩ := hp
    simp only at e1 hv
    subst e1
    simp only [fillA] at h
    cases hpl : place i with
    | none => simp [hpl] at h
    | some q =>
      obtain ⟨off, size⟩ := q
      simp only [hpl, Option.bind_some] at h
      split at h
      · rename_i hq
        obtain ⟨q1, q2, q3⟩ := hq
        have hcv := V.cells q3 hv
        have hsz : v'.cells.size = size := by rw [← q1, hcv.length]; simp
        have hcl : cells.length = cells'.size := by rw [hc.length]; simp
        have hset : (v'.cells.zipIdx.foldl (fun cs (p : Value × Nat) => cs.setIfInBounds (off + p.2) p.1) cells').toList = splice cells'.toList off v'.cells.toList := by
          have := setcells v'.cells.toList 0 off cells' (by simp; omega)
          rw [Nat.add_zero] at this
          rw [← this, ← Array.foldl_toList, Array.toList_zipIdx]
        obtain ⟨cs', k1, k2, k3⟩ := fill_ok ps ps' (splice cells off (cellsOf v)) (v'.cells.zipIdx.foldl (fun cs (p : Value × Nat) => cs.setIfInBounds (off + p.2) p.1) cells') cs hr (by rw [hset]; exact hc.splice hcv) h
        refine ⟨cs', ?_, k2, by rw [k3, splice_length q2]⟩
        simp only [Instr.fill, hpl]
        rw [if_neg (by simp [hsz]; omega)]
        exact k1
      · cases h
theorem tplaces_go {fs : List Field} {ps : List (Nat × Nat)} (h : tplaces.go P fs = some ps) : (fs.mapM fun f => (do pure (f.offset, ← sizeOf f.type) : Sem (Nat × Nat))).run P w = .ok ps w := by
  induction fs generalizing ps with
  | nil => simp [tplaces.go] at h; subst h; rfl
  | cons f fs ih =>
    simp only [tplaces.go] at h
    cases hn : tsz P f.type with
    | none => simp [hn] at h
    | some n =>
      cases hr : tplaces.go P fs with
      | none => simp [hn, hr] at h
      | some r =>
        simp [hn, hr] at h
        subst h
        simp only [List.mapM_cons, Sem.run_bind, run_sizeOf_t hn, Result.andThen_ok, Sem.run_pure, ih hr]
theorem build_ok {t : TypeId} {ps : List (Nat × Value)} {ps' : Array (Nat × Value)} {v : Value} (hp : VPs ρ ps ps'.toList) (h : buildA P t ps = some v) : ∃ v', (Instr.build t ps').run P w = .ok v' w ∧ V ρ v v' := by
  unfold buildA at h
  cases hz : tzero P t with
  | none => simp [hz] at h
  | some z =>
    cases hpl : tplaces P t with
    | none => simp [hz, hpl] at h
    | some pl =>
      simp only [hz, hpl, Option.bind_some] at h
      cases hf : fillA (pl[·]?) (cellsOf (nv z)) ps with
      | none => simp [hf] at h
      | some cs =>
        simp [hf] at h
        subst h
        obtain ⟨z1, z2⟩ := run_zero_t (P := P) (w := w) hz
        unfold tplaces at hpl
        split at hpl
        · rename_i fs hu
          have hc : All2 (VS ρ) (cellsOf (nv z)) z.cells.toList := by
            have := V_closed (ρ := ρ) z2
            cases z with
            | agg c => obtain ⟨c', e, h2⟩ := this; cases e; exact h2
            | _ =>
              simp only [Value.cells, List.all_cons, List.all_nil, Bool.and_true] at z2
              have hs := VS_closed (ρ := ρ) z2
              first
              | (simp only [nv, cellsOf]; unfold nv1; split <;> first | exact ⟨hs, trivial⟩ | (simp_all [nv1, nilS, sl, Value.cells, VS, All2]; done))
          obtain ⟨cs', k1, k2, _⟩ := fill_ok ps ps'.toList (cellsOf (nv z)) z.cells cs hp hc hf
          refine ⟨.agg cs', ?_, _, rfl, by simpa using k2⟩
          have hm : (fs.mapM fun f => (do pure (f.offset, ← sizeOf f.type) : Sem (Nat × Nat))).run P w = .ok pl.toArray w := by
            have := tplaces_go (P := P) (w := w) hpl
            rw [Array.mapM_eq_mapM_toList]
            simp only [Sem.run_map, this, Result.andThen_ok]
          simp only [Instr.build, Sem.run_bind, z1, Result.andThen_ok, run_und hu, hm]
          have hpl' : (fun (i : Nat) => pl.toArray[i]?) = (fun (i : Nat) => pl[i]?) := by funext i; simp
          simp only [hpl', k1]
          rfl
        · cases hpl
end
end Go.Proofs.Ytmbikamebhoelaa.Ai
