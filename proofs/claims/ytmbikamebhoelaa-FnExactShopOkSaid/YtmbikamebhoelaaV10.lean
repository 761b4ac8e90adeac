/- Regions that draw their order, over data: rules for walking. No condition. -/
import Derived.Test.YtmbikamebhoelaaV9
set_option linter.unusedVariables false
set_option linter.unusedSimpArgs false
namespace Go.Proofs.Ytmbikamebhoelaa.Ai.Av
open Go
section
variable {P : Program} {X : FuncId → List Value → Value → Prop} {n0 : Nat} {hv0 : HV} {all : Array Oper} {o : Oper} {rest : List Oper} {fv : FrV} {hv : HV} {N Wa : List Nat} {K : List VT → FrV → HV → Prop}
/-- A call of a region: W are the rows that it touches. -/
def callGoD (P : Program) (X : FuncId → List Value → Value → Prop) (r : Option (FuncId × List D)) (hv : HV) (K : List Nat → D → HV → Prop) : Prop :=
  match r with
  | some (f, ds) => ∃ W, VFw P X f ds hv W (fun d hv1 => (∀ i r, readV hv i = some r → i ∉ W → readV hv1 i = some r) ∧ K W d hv1)
  | none => False
theorem callGoD_some (P : Program) (X : FuncId → List Value → Value → Prop) (f : FuncId) (ds : List D) (hv : HV) (K : List Nat → D → HV → Prop) :
    callGoD P X (some (f, ds)) hv K = ∃ W, VFw P X f ds hv W (fun d hv1 => (∀ i r, readV hv i = some r → i ∉ W → readV hv1 i = some r) ∧ K W d hv1) := rfl
/-- A call in a region without an order of its own. -/
theorem VO_goC {K : FrV → HV → Prop} (hg : o.guard = none) (_ : isCallV o.op = true)
    (h : ∀ K' : FrV → HV → Prop, (∀ fv hv, VO P X n0 all rest fv hv K → K' fv hv) → callGoD P X (calleeV (evV fv) o.op) hv (fun _ d hv1 => K' (fv.put o.dst d) hv1)) : VO P X n0 all (o :: rest) fv hv K := by
  have h1 := h _ (fun _ _ h => h)
  cases hc : calleeV (evV fv) o.op with
  | none => rw [hc] at h1; exact h1.elim
  | some r => obtain ⟨f, ds⟩ := r; rw [hc] at h1; obtain ⟨W, h1⟩ := h1; exact VO_call (by simp [guardV, hg]) hc (h1.vf.mono fun _ _ k => k.2)
theorem VO_goG {K : FrV → HV → Prop} {j : Nat} {want : Bool} {t : Tmp} (hg : o.guard = some (j, want)) (ht : (all[j]?).bind (·.dst) = some t) (_ : isCallV o.op = true)
    (h : ∀ K' : FrV → HV → Prop, (∀ fv hv, VO P X n0 all rest fv hv K → K' fv hv) → guardGo (fv t) want (callGoD P X (calleeV (evV fv) o.op) hv (fun _ d hv1 => K' (fv.put o.dst d) hv1)) (K' (fv.put o.dst undefV) hv)) : VO P X n0 all (o :: rest) fv hv K := by
  have h1 := h _ (fun _ _ h => h)
  unfold guardGo at h1
  split at h1
  · rename_i b hb
    have hw : guardV all fv o = some (b == want) := by simp only [guardV, hg, ht, hb]
    by_cases e : b = want
    · replace h1 := h1.1 e
      cases hc : calleeV (evV fv) o.op with
      | none => rw [hc] at h1; exact h1.elim
      | some r => obtain ⟨f, ds⟩ := r; rw [hc] at h1; obtain ⟨W, h1⟩ := h1; exact VO_call (by rw [hw, e]; simp) hc (h1.vf.mono fun _ _ k => k.2)
    · exact VO_pass (by rw [hw]; simpa using e) (h1.2 (by cases b <;> cases want <;> simp_all))
  · rename_i hb
    exact VO_guardU hg ht hb fun K' hK' => by have := (h K' hK'); rw [hb] at this; exact this
  · exact h1.elim
abbrev KD := Bool → List Nat → List Nat → Option (D × Bool) → List Nat → D → HV → Prop
theorem VD_stepP (hg : o.guard = none) (_ : isCallV o.op = false)
    (h : ∀ K' : KD, (∀ ran N' Wa' rd W d hv1, VD P X n0 hv0 all rest N' Wa' (fv.put o.dst d) hv1 (fun vt => K (⟨ran, rd, hv.length, hv1.length, W, isNew o.op⟩ :: vt)) → K' ran N' Wa' rd W d hv1) →
      primGoV (primV P (evV fv) o.op hv) (fun d hv1 => K' true (addN (oldOK (evV fv) Wa N hv0.length o.op) o.dst N) (wOf (evV fv) hv.length o.op ++ Wa) (rdV (evV fv) N o.op) (wOf (evV fv) hv.length o.op) d hv1)) : VD P X n0 hv0 all (o :: rest) N Wa fv hv K := by
  have h1 := h _ (fun _ _ _ _ _ _ _ h => h)
  have hw : guardV all fv o = some true := by simp [guardV, hg]
  cases hp : primV P (evV fv) o.op hv with
  | none => rw [hp] at h1; exact h1.elim
  | some r => obtain ⟨d, hv1⟩ := r; rw [hp] at h1; exact VD_prim hw hp h1
theorem call_new {f : FuncId} {ds : List D} (hc : calleeV (evV fv) o.op = some (f, ds)) : isNew o.op = false := by
  unfold calleeV at hc
  split at hc
  · rename_i hop; rw [hop]; rfl
  · cases hc
theorem VD_goC (hg : o.guard = none) (_ : isCallV o.op = true)
    (h : ∀ K' : KD, (∀ ran N' Wa' rd W d hv1, VD P X n0 hv0 all rest N' Wa' (fv.put o.dst d) hv1 (fun vt => K (⟨ran, rd, hv.length, hv1.length, W, isNew o.op⟩ :: vt)) → K' ran N' Wa' rd W d hv1) →
      callGoD P X (calleeV (evV fv) o.op) hv (fun W d hv1 => K' true (o.dst.toList ++ N) (W ++ Wa) none W d hv1)) : VD P X n0 hv0 all (o :: rest) N Wa fv hv K := by
  have h1 := h _ (fun _ _ _ _ _ _ _ h => h)
  cases hc : calleeV (evV fv) o.op with
  | none => rw [hc] at h1; exact h1.elim
  | some r => obtain ⟨f, ds⟩ := r; rw [hc] at h1; obtain ⟨W, h1⟩ := h1; rw [call_new hc] at h1; exact VD_call (by simp [guardV, hg]) hc h1
theorem VD_guardP {j : Nat} {want : Bool} {t : Tmp} (hg : o.guard = some (j, want)) (ht : (all[j]?).bind (·.dst) = some t) (_ : isCallV o.op = false)
    (h : ∀ K' : KD, (∀ ran N' Wa' rd W d hv1, VD P X n0 hv0 all rest N' Wa' (fv.put o.dst d) hv1 (fun vt => K (⟨ran, rd, hv.length, hv1.length, W, isNew o.op⟩ :: vt)) → K' ran N' Wa' rd W d hv1) →
      guardGo (fv t) want (primGoV (primV P (evV fv) o.op hv) (fun d hv1 => K' true (addN (oldOK (evV fv) Wa N hv0.length o.op) o.dst N) (wOf (evV fv) hv.length o.op ++ Wa) (rdV (evV fv) N o.op) (wOf (evV fv) hv.length o.op) d hv1)) (K' false N Wa none [] undefV hv)) : VD P X n0 hv0 all (o :: rest) N Wa fv hv K := by
  have h1 := h _ (fun _ _ _ _ _ _ _ h => h)
  unfold guardGo at h1
  split at h1
  · rename_i b hb
    have hw : guardV all fv o = some (b == want) := by simp only [guardV, hg, ht, hb]
    by_cases e : b = want
    · replace h1 := h1.1 e
      cases hp : primV P (evV fv) o.op hv with
      | none => rw [hp] at h1; exact h1.elim
      | some r => obtain ⟨d, hv1⟩ := r; rw [hp] at h1; exact VD_prim (by rw [hw, e]; simp) hp h1
    · exact VD_pass (by rw [hw]; simpa using e) (h1.2 (by cases b <;> cases want <;> simp_all))
  · rename_i hb
    exact VD_pass (by simp only [guardV, hg, ht, hb]; rfl) h1
  · exact h1.elim
theorem VD_goG {j : Nat} {want : Bool} {t : Tmp} (hg : o.guard = some (j, want)) (ht : (all[j]?).bind (·.dst) = some t) (_ : isCallV o.op = true)
    (h : ∀ K' : KD, (∀ ran N' Wa' rd W d hv1, VD P X n0 hv0 all rest N' Wa' (fv.put o.dst d) hv1 (fun vt => K (⟨ran, rd, hv.length, hv1.length, W, isNew o.op⟩ :: vt)) → K' ran N' Wa' rd W d hv1) →
      guardGo (fv t) want (callGoD P X (calleeV (evV fv) o.op) hv (fun W d hv1 => K' true (o.dst.toList ++ N) (W ++ Wa) none W d hv1)) (K' false N Wa none [] undefV hv)) : VD P X n0 hv0 all (o :: rest) N Wa fv hv K := by
  have h1 := h _ (fun _ _ _ _ _ _ _ h => h)
  unfold guardGo at h1
  split at h1
  · rename_i b hb
    have hw : guardV all fv o = some (b == want) := by simp only [guardV, hg, ht, hb]
    by_cases e : b = want
    · replace h1 := h1.1 e
      cases hc : calleeV (evV fv) o.op with
      | none => rw [hc] at h1; exact h1.elim
      | some r => obtain ⟨f, ds⟩ := r; rw [hc] at h1; obtain ⟨W, h1⟩ := h1; rw [call_new hc] at h1; exact VD_call (by rw [hw, e]; simp) hc h1
    · exact VD_pass (by rw [hw]; simpa using e) (h1.2 (by cases b <;> cases want <;> simp_all))
  · rename_i hb
    exact VD_pass (by simp only [guardV, hg, ht, hb]; rfl) h1
  · exact h1.elim
theorem Pu.g {f : FuncId} {ds : List D} {d : D} {Q : List Nat → D → HV → Prop} (h : Pu P X f ds d) (hd : noRefs ds = true) (hi : noRef d = true) (q : Q [] d hv) :
    ∃ W, VFw P X f ds hv W (fun d hv1 => (∀ i r, readV hv i = some r → i ∉ W → readV hv1 i = some r) ∧ Q W d hv1) :=
  ⟨[], h.callW (RNL.same (noRefs_ok hd).1) (noRef_ok hi).2 ⟨fun _ _ hi _ => hi, q⟩⟩
end
attribute [go_sem] callGoD_some addN oldOK ninN wOf rdV isNew Option.toList_some Option.toList_none List.contains_cons List.contains_nil Bool.or_false Bool.or_true Bool.false_or Bool.true_or Bool.false_and Bool.and_false
end Go.Proofs.Ytmbikamebhoelaa.Ai.Av
