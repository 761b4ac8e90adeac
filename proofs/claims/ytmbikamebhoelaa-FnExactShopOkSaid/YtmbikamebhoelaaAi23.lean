/- What is shown over the plain heap holds of the machine: every task. No condition. -/
import Derived.Test.YtmbikamebhoelaaAi22
import Derived.LoopN
set_option linter.unusedVariables false
set_option linter.unusedSimpArgs false
namespace Go.Proofs.Ytmbikamebhoelaa.Ai
open Go
section
variable {P : Program} {X : FuncId → List Value → Value → Prop}

/-- Behind a run: the memory stands as the plain heap says, the frame too. -/
def Post (ρ : Rho) (H : Heap) (w : World) (a : Act) (n : Nat) (fr' : Fr) (H' : Heap) (Q : Act → World → Prop) : Prop :=
  ∀ ρ' w' a', Stp ρ H w ρ' H' w' → FrRel ρ' n fr' a' → Full H H' ρ' → a'.defers = a.defers → Q a' w'
def LoopOk (P : Program) (n : Nat) (c : Code) (fr : Fr) (H : Heap) (e : Ex) (fr' : Fr) (H' : Heap) : Prop :=
  ∀ d, c = .loop d → ∃ m, ∀ ρ w a, Rel ρ H w → FrRel ρ n fr a → ∀ Q, Post ρ H w a n fr' H' (Q (exitOf e)) → Code.rounds P d Q m a w
def TaskOk (P : Program) : Task → Prop
  | .code c fr H e fr' H' => ∀ n, okCode n c = true → (∀ ρ w a, Rel ρ H w → FrRel ρ n fr a → ∀ Q, Post ρ H w a n fr' H' (Q (exitOf e)) → c.wp P Q a w) ∧ LoopOk P n c fr H e fr' H'
  | .ops all l fr H tr fr' H' => Chain P all l fr H tr fr' H'
  | .call f args H v H' => SimCall P f args H v H'
theorem Post.then {ρ ρ₁ : Rho} {H H₁ H₂ : Heap} {w w₁ : World} {a a₁ : Act} {n : Nat} {fr₂ : Fr} {Q : Act → World → Prop} (hr : Rel ρ H w) (h : Stp ρ H w ρ₁ H₁ w₁) (hfu : Full H H₁ ρ₁) (hd : a₁.defers = a.defers) (hq : Post ρ H w a n fr₂ H₂ Q) : Post ρ₁ H₁ w₁ a₁ n fr₂ H₂ Q := fun ρ' w' a' k1 k2 k3 k4 => hq ρ' w' a' (h.trans hr k1) k2 (hfu.trans k1 k3) (k4.trans hd)
theorem not_loop {n : Nat} {c : Code} {fr fr' : Fr} {H H' : Heap} {e : Ex} (h : ∀ d, c ≠ .loop d) : LoopOk P n c fr H e fr' H' := fun d hd => absurd hd (h d)
theorem then_ne {K : Act → World → Prop} {Q : Exit → Act → World → Prop} {e : Ex} (h : e ≠ .normal) (a : Act) (w : World) : Exit.then K Q (exitOf e) a w = Q (exitOf e) a w := by
  cases e with
  | normal => exact absurd rfl h
  | exit i => rfl
  | ret => rfl
theorem inBlock_eq {id : Nat} {Q : Exit → Act → World → Prop} {e : Ex} (a : Act) (w : World) (h : Q (exitOf (e.out id)) a w) : Exit.inBlock id Q (exitOf e) a w := by
  cases e with
  | normal => exact h
  | exit i =>
    by_cases hi : i = id
    · simp only [Ex.out, if_pos hi, exitOf] at h
      simp only [exitOf, Exit.inBlock, if_pos hi]; exact h
    · simp only [Ex.out, if_neg hi, exitOf] at h
      simp only [exitOf, Exit.inBlock, if_neg hi]; exact h
  | ret => exact h
theorem init_frame {ρ : Rho} {args : List Value} {args' : Array Value} {n : Nat} (h : All2 (V ρ) args args'.toList) (hn : args.length ≤ n) : FrRel ρ n (initFr args) { tmps := args' ++ Array.replicate (n - args'.size) undef, defers := [] } := by
  have hlen : args.length = args'.size := by rw [h.length]; simp
  refine ⟨by simp; omega, fun t => ?_⟩
  unfold initFr
  rw [Array.getD_eq_getD_getElem?, List.getD_eq_getElem?_getD]
  rcases Nat.lt_or_ge t args.length with q | q
  · obtain ⟨b, h1, h2⟩ := h.get (List.getElem?_eq_getElem q)
    rw [List.getElem?_eq_getElem q, Array.getElem?_append_left (by omega)]
    have : args'[t]? = some b := by simpa using h1
    rw [this]; exact h2
  · rw [List.getElem?_eq_none (by omega), Array.getElem?_append_right (by omega)]
    have : ((Array.replicate (n - args'.size) undef)[t - args'.size]?).getD undef = undef := by
      rw [Array.getElem?_replicate]; split <;> rfl
    rw [this]; exact V_undef
theorem callee_isW {o : Oper} {ρ : Operand → Value} {f : FuncId} {args : List Value} (h : calleeA ρ o.op = some (f, args)) : isW o.op = true := by
  unfold calleeA at h
  split at h
  · rename_i he; simp only [he]; rfl
  · cases h
theorem sound (hm : P.follows .mixedOrders = true) (hX : ∀ f args v, X f args v → ∀ H, SimCall P f args H v H) {t : Task} (h : Ev P X t) : TaskOk P t := by
  induction h with
  | skip fr H => exact fun n hk => ⟨fun ρ w a hr hf Q hq => wp_skip (hq ρ w a (Stp.refl hr) hf (full_same (Nat.le_refl _)) rfl), not_loop (by simp)⟩
  | exit id fr H => exact fun n hk => ⟨fun ρ w a hr hf Q hq => wp_exit (hq ρ w a (Stp.refl hr) hf (full_same (Nat.le_refl _)) rfl), not_loop (by simp)⟩
  | ret fr H => exact fun n hk => ⟨fun ρ w a hr hf Q hq => wp_ret (hq ρ w a (Stp.refl hr) hf (full_same (Nat.le_refl _)) rfl), not_loop (by simp)⟩
  | seqN _ _ ih1 ih2 =>
    intro n hk
    simp only [okCode, Bool.and_eq_true] at hk
    refine ⟨fun ρ w a hr hf Q hq => wp_seq ((ih1 n hk.1).1 ρ w a hr hf _ fun ρ' w' a' k1 k2 k3 k4 => ?_), not_loop (by simp)⟩
    exact (ih2 n hk.2).1 ρ' w' a' k1.rel k2 Q (hq.then hr k1 k3 k4)
  | seqE _ hne ih1 =>
    intro n hk
    simp only [okCode, Bool.and_eq_true] at hk
    refine ⟨fun ρ w a hr hf Q hq => wp_seq ((ih1 n hk.1).1 ρ w a hr hf _ fun ρ' w' a' k1 k2 k3 k4 => ?_), not_loop (by simp)⟩
    rw [then_ne hne]
    exact hq ρ' w' a' k1 k2 k3 k4
  | @cond c x y fr fr₁ H H₁ e t hc _ ih =>
    intro n hk
    simp only [okCode, Bool.and_eq_true] at hk
    refine ⟨fun ρ w a hr hf Q hq => ?_, not_loop (by simp)⟩
    have hv := hf.eval hk.1.1
    rw [hc] at hv
    refine wp_cond (t := t) hv ?_
    exact (ih n (by cases t; exact hk.2; exact hk.1.2)).1 ρ w a hr hf Q hq
  | block _ ih =>
    intro n hk
    refine ⟨fun ρ w a hr hf Q hq => wp_block ((ih n hk).1 ρ w a hr hf _ fun ρ' w' a' k1 k2 k3 k4 => ?_), not_loop (by simp)⟩
    exact inBlock_eq a' w' (hq ρ' w' a' k1 k2 k3 k4)
  | @loopN c fr fr₁ fr₂ H H₁ H₂ e _ _ ih1 ih2 =>
    intro n hk
    have key : LoopOk P n (.loop c) fr H e fr₂ H₂ := fun d hd => by
      cases hd
      obtain ⟨m, hm2⟩ := (ih2 n hk).2 c rfl
      refine ⟨m + 1, fun ρ w a hr hf Q hq => ?_⟩
      refine (ih1 n hk).1 ρ w a hr hf _ fun ρ' w' a' k1 k2 k3 k4 => ?_
      exact hm2 ρ' w' a' k1.rel k2 Q (hq.then hr k1 k3 k4)
    refine ⟨fun ρ w a hr hf Q hq => ?_, key⟩
    obtain ⟨m, hm2⟩ := key c rfl
    exact wp_loop_rounds m (hm2 ρ w a hr hf Q hq)
  | @loopE c fr fr₁ H H₁ e _ hne ih1 =>
    intro n hk
    have key : LoopOk P n (.loop c) fr H e fr₁ H₁ := fun d hd => by
      cases hd
      refine ⟨1, fun ρ w a hr hf Q hq => ?_⟩
      refine (ih1 n hk).1 ρ w a hr hf _ fun ρ' w' a' k1 k2 k3 k4 => ?_
      rw [then_ne hne]
      exact hq ρ' w' a' k1 k2 k3 k4
    refine ⟨fun ρ w a hr hf Q hq => ?_, key⟩
    obtain ⟨m, hm2⟩ := key c rfl
    exact wp_loop_rounds m (hm2 ρ w a hr hf Q hq)
  | region _ ih =>
    intro n hk
    simp only [okCode, Bool.and_eq_true, Array.all_eq_true_iff_forall_mem] at hk
    refine ⟨fun ρ w a hr hf Q hq => wp_region_list (chain_seq ih (fun o ho => hk.1 o (by simpa using ho)) ρ w a hr hf fun ρ' w' a' k1 k2 k3 k4 => hq ρ' w' a' k1 k2 k3 k4), not_loop (by simp)⟩
  | regionD _ hcf ih =>
    intro n hk
    simp only [okCode, Bool.and_eq_true, Array.all_eq_true_iff_forall_mem] at hk
    refine ⟨fun ρ w a hr hf Q hq => wp_region_any hm (chain_any ih (fun o ho => hk.1 o ho) (by simpa using hk.2) hcf hr hf fun ρ' w' a' k1 k2 k3 k4 => hq ρ' w' a' k1 k2 k3 k4), not_loop (by simp)⟩
  | nil all fr H => exact .nil fr H
  | pass hg _ ih => exact .cons hg (fun _ => ⟨rfl, rfl⟩) (fun h => by cases h) (fun h => by cases h) ih
  | prim hg hp _ ih => exact .cons hg (fun h => by cases h) (simStep_prim hp) (fun _ _ => hp) ih
  | calls hg hc _ _ ih1 ih2 => exact .cons hg (fun h => by cases h) (simStep_call hc ih1) (fun _ hw => by rw [callee_isW hc] at hw; cases hw) ih2
  | @call f args H H₁ fr e fn c vs hf hb hok hn _ he hres hfl ih =>
    simp only [okFunc, Bool.and_eq_true] at hok
    obtain ⟨⟨k1, k2⟩, k3⟩ := hok
    rw [hb] at k2
    refine ⟨⟨fn, hf, by rw [hb]; rfl, by simpa using k1⟩, fun ρ w args' hr ha => calls_of_wp hf hb ?_⟩
    refine (ih fn.ntmps k2).1 ρ w _ hr (init_frame ha hn) _ fun ρ' w' a' g1 g2 g3 g4 => ?_
    obtain ⟨v', h1, h2⟩ := results_run g1.rel g2 hres hfl
    rcases he with he | he <;> (subst he; exact ⟨g4, v', h1, v', ρ', rfl, g1, h2, g3⟩)
  | ext H hx => exact hX _ _ _ hx H
/-- What is shown of a call over the plain heap, for the machine's. -/
theorem calls_of_wpF (hm : P.follows .mixedOrders = true) (hX : ∀ f args v, X f args v → ∀ H, SimCall P f args H v H) {f : FuncId} {args : List Value} {H : Heap} {R : Value → Heap → Prop} (h : wpF P X f args H R) {ρ : Rho} {w : World} {args' : Array Value} (hr : Rel ρ H w) (ha : All2 (V ρ) args args'.toList) :
    Calls P f args' w fun e w' => ∃ v v' H' ρ', e = .returned v' ∧ R v H' ∧ Stp ρ H w ρ' H' w' ∧ V ρ' v v' := by
  obtain ⟨v, H', h1, h2⟩ := h
  have hs : SimCall P f args H v H' := sound hm hX h1
  refine (hs.2 ρ w args' hr ha).mono ?_
  rintro e w' ⟨v', ρ', k1, k2, k3, _⟩
  exact ⟨v, v', H', ρ', k1, h2, k2, k3⟩
end
end Go.Proofs.Ytmbikamebhoelaa.Ai
