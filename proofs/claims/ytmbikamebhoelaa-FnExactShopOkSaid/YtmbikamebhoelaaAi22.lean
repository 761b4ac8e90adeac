/- What is shown over the plain heap holds of the machine. No condition. -/
import Derived.Test.YtmbikamebhoelaaAi21
set_option linter.unusedVariables false
set_option linter.unusedSimpArgs false
namespace Go.Proofs.Ytmbikamebhoelaa.Ai
open Go
section
variable {P : Program} {X : FuncId → List Value → Value → Prop}

def exitOf : Ex → Exit
  | .normal => .normal
  | .exit id => .exit id
  | .ret => .ret
theorem V_flat {ρ : Rho} {x x' : Value} (hf : flat x = true) (h : V ρ x x') : VA ρ x x' := by
  refine (V_VA (fun vs e => ?_) (fun f a b e => ?_)).1 h <;> (subst e; simp [flat] at hf)
theorem load_res {ρ : Rho} {H : Heap} {w : World} {t : TypeId} {x x' v : Value} (hr : Rel ρ H w) (hx : V ρ x x') (h : loadA P t x H = some v) : ∃ v', (do loadVar t (← asAddr x') : Sem Value).run P w = .ok v' w ∧ VA ρ v v' := by
  unfold loadA at h
  split at h
  · rename_i id off
    cases hrow : readRow H id with
    | none => simp [hrow] at h
    | some r =>
      simp only [hrow, Option.bind_some] at h
      obtain ⟨_, l, hl, hm⟩ := V_ptr hx
      obtain ⟨v', h1, h2⟩ := loadVar_ok (P := P) (hr.rows id l r hl hrow) h
      refine ⟨v', ?_, h2⟩
      rw [hm]
      simp only [asAddr, Sem.run_bind, Sem.run_pure, Result.andThen_ok]
      exact h1
  · cases h
def resFn (tmps : Array Value) : ResultVar → Sem Value
  | .tmp t => pure (tmps.getD t undef)
  | .cell b t => do loadVar t (← asAddr (tmps.getD b undef))
theorem results_eq (fn : Func) (tmps : Array Value) : results fn tmps = (do let vs ← fn.results.mapM (resFn tmps); pure (if h : vs.size = 1 then vs[0] else .tuple vs) : Sem Value) := rfl
theorem results_ok {ρ : Rho} {H : Heap} {w : World} {n : Nat} {fr : Fr} {a : Act} (hr : Rel ρ H w) (hf : FrRel ρ n fr a) : ∀ (rs : List ResultVar) (vs : List Value), resultsA P rs fr H = some vs →
    ∃ vs', (rs.mapM (resFn a.tmps)).run P w = .ok vs' w ∧ All2 (V ρ) vs vs'
  | [], vs, h => by simp [resultsA] at h; subst h; exact ⟨[], rfl, trivial⟩
  | .tmp t :: rs, vs, h => by
    simp only [resultsA] at h
    cases hq : resultsA P rs fr H with
    | none => simp [hq] at h
    | some us =>
      simp [hq] at h
      subst h
      obtain ⟨us', h1, h2⟩ := results_ok hr hf rs us hq
      refine ⟨a.tmps.getD t undef :: us', ?_, hf.slot t, h2⟩
      simp only [List.mapM_cons, resFn, Sem.run_bind, Sem.run_pure, Result.andThen_ok, h1]
  | .cell b t :: rs, vs, h => by
    simp only [resultsA] at h
    cases hl : loadA P t (fr b) H with
    | none => simp [hl] at h
    | some v =>
      cases hq : resultsA P rs fr H with
      | none => simp [hl, hq] at h
      | some us =>
        simp [hl, hq] at h
        subst h
        obtain ⟨us', h1, h2⟩ := results_ok hr hf rs us hq
        obtain ⟨v', h3, h4⟩ := load_res hr (hf.slot b) hl
        refine ⟨v' :: us', ?_, .of_VA h4, h2⟩
        rw [List.mapM_cons]
        rw [Sem.run_bind, show (resFn a.tmps (.cell b t)).run P w = .ok v' w from h3]
        simp only [Sem.run_bind, Sem.run_pure, Result.andThen_ok, h1]
theorem all2_flat {ρ : Rho} : ∀ {vs vs' : List Value}, vs.all flat = true → All2 (V ρ) vs vs' → All2 (VA ρ) vs vs'
  | [], [], _, _ => trivial
  | [], _ :: _, _, h => h.elim
  | _ :: _, [], _, h => h.elim
  | v :: vs, v' :: vs', hf, h => by
    simp only [List.all_cons, Bool.and_eq_true] at hf
    exact ⟨V_flat hf.1 h.1, all2_flat hf.2 h.2⟩
theorem results_run {ρ : Rho} {H : Heap} {w : World} {n : Nat} {fr : Fr} {a : Act} {fn : Func} {vs : List Value} (hr : Rel ρ H w) (hf : FrRel ρ n fr a) (h : resultsA P fn.results.toList fr H = some vs) (hfl : flats vs = true) : ∃ v', (results fn a.tmps).run P w = .ok v' w ∧ V ρ (tupled vs) v' := by
  obtain ⟨vs', h1, h2⟩ := results_ok hr hf _ _ h
  rw [results_eq, Array.mapM_eq_mapM_toList]
  refine ⟨_, by simp only [Sem.run_bind, Sem.run_pure, Sem.run_map, h1, Result.andThen_ok]; rfl, ?_⟩
  have hlen := h2.length
  cases vs with
  | nil =>
    cases vs' with
    | nil => exact ⟨#[], rfl, trivial⟩
    | cons a l => simp at hlen
  | cons v vs => cases vs with
    | nil => cases vs' with
      | nil => simp at hlen
      | cons v' vs' => cases vs' with
        | nil => exact h2.1
        | cons x y => simp at hlen
    | cons u us =>
      have h3 := all2_flat (by exact hfl) h2
      rw [dif_neg (by simp at hlen ⊢; omega)]
      exact ⟨_, rfl, by simpa using h3⟩
end
end Go.Proofs.Ytmbikamebhoelaa.Ai
