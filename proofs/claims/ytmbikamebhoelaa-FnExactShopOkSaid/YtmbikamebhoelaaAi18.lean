/- One more operation of a drawn order comes up: what it finds. No condition. -/
import Derived.Test.YtmbikamebhoelaaAi17
set_option linter.unusedVariables false
set_option linter.unusedSimpArgs false
namespace Go.Proofs.Ytmbikamebhoelaa.Ai
open Go
section
variable {P : Program} {n : Nat} {ops : Array Oper} {FR : Nat → Fr} {HP : Nat → Heap} {st : Nat → Step} {ρ₀ : Rho} {w₀ : World} {a₀ : Act} {bef : Nat → Nat → Bool}

theorem join_le1 {ρ ρ' : Rho} {B B' : Heap} {w w' : World} (hk : Stp (ρ.cut B.length) B w ρ' B' w') : ρ'.le (Rho.join ρ' ρ B'.length) := fun id l h => by
  rcases Nat.lt_or_ge id B'.length with q | q
  · rw [Rho.join_lt q]; exact h
  · rw [hk.rel.dom id q] at h; cases h
theorem join_le2 {ρ ρ' : Rho} {B B' : Heap} {w w' : World} (hk : Stp (ρ.cut B.length) B w ρ' B' w') (hnone : ∀ id, B.length ≤ id → id < B'.length → ρ id = none) : ρ.le (Rho.join ρ' ρ B'.length) := fun id l h => by
  by_cases q : id < B'.length
  · rw [Rho.join_lt q]
    rcases Nat.lt_or_ge id B.length with z | z
    · rw [hk.old id z, Rho.cut_lt z]; exact h
    · rw [hnone id z q] at h; cases h
  · rw [Rho.join_ge q]; exact h
theorem Rel.cut {ρ : Rho} {A B : Heap} {w : World} (h : Rel ρ A w) (hB : 0 < B.length) (hAB : ∀ id, id < B.length → readRow A id = readRow B id) (hclosed : ∀ id l r, ρ id = some l → readRow B id = some r → RowOk (ρ.cut B.length) w l r) : Rel (ρ.cut B.length) B w := by
  refine ⟨fun id l r hi hr => ?_, fun i j li lj ri rj hi hj hri hrj => ?_, fun id l hi => h.lt id l (Rho.cut_some hi).2, fun id hi => by simp only [Rho.cut]; rw [if_neg (by omega)], ?_, hB⟩
  · exact hclosed id l r (Rho.cut_some hi).2 hr
  · obtain ⟨x1, x2⟩ := Rho.cut_some hi
    obtain ⟨y1, y2⟩ := Rho.cut_some hj
    exact h.inj i j li lj ri rj x2 y2 (by rw [hAB i x1]; exact hri) (by rw [hAB j y1]; exact hrj)
  · rw [Rho.cut_lt hB]; exact h.zero

theorem row_keep (dc : DC P n ops FR HP st) (hr : Rel ρ₀ (HP 0) w₀) {x a : Nat} : ∀ b, a ≤ b → b ≤ ops.size → x < (HP a).length → (∀ j, a ≤ j → j < b → wAt ops j = true → x < (HP j).length → readRow (HP (j + 1)) x = readRow (HP j) x ∧ (HP j).length ≤ (HP (j + 1)).length) → readRow (HP b) x = readRow (HP a) x ∧ x < (HP b).length := by
  intro b
  induction b with
  | zero => intro h1 h2 h3 h4; have : a = 0 := by omega
            subst this; exact ⟨rfl, h3⟩
  | succ b ih =>
    intro h1 h2 h3 h4
    rcases Nat.lt_or_ge b a with h | h
    · have : a = b + 1 := by omega
      subst this; exact ⟨rfl, h3⟩
    · obtain ⟨e1, e2⟩ := ih h (by omega) h3 (fun j u v => h4 j u (by omega))
      cases hw : wAt ops b with
      | true => obtain ⟨q1, q2⟩ := h4 b h (by omega) hw e2; exact ⟨q1.trans e1, by omega⟩
      | false =>
        have := no_w_keep dc hr (b + 1) (Nat.le_succ b) h2 (fun j u v => (by have q : j = b := by omega
                                                                             rw [q]; exact hw)) x e2
        exact ⟨this.1.trans e1, by omega⟩
theorem next_w (ops : Array Oper) (p : Nat) (hp : p < ops.size) : ∃ p', p < p' ∧ p' ≤ ops.size ∧ (∀ j, p < j → j < p' → wAt ops j = false) ∧ (p' = ops.size ∨ wAt ops p' = true) := by
  have key : ∀ k p, ops.size - p = k → p < ops.size → ∃ p', p < p' ∧ p' ≤ ops.size ∧ (∀ j, p < j → j < p' → wAt ops j = false) ∧ (p' = ops.size ∨ wAt ops p' = true) := by
    intro k
    induction k with
    | zero => intro p h1 h2; omega
    | succ k ih =>
      intro p h1 h2
      by_cases he : p + 1 = ops.size
      · exact ⟨ops.size, by omega, by omega, fun j a b => by omega, .inl rfl⟩
      · cases hw : wAt ops (p + 1) with
        | true => exact ⟨p + 1, by omega, by omega, fun j a b => by omega, .inr hw⟩
        | false =>
          obtain ⟨p', h3, h4, h5, h6⟩ := ih (p + 1) (by omega) (by omega)
          refine ⟨p', by omega, h4, fun j a b => ?_, h6⟩
          by_cases hj : j = p + 1
          · subst hj; exact hw
          · exact h5 j (by omega) b
  exact key _ p rfl hp

theorem guardA_congr {all : Array Oper} {fr fr' : Fr} {o : Oper} (h : ∀ g want t, o.guard = some (g, want) → (all[g]?).bind (·.dst) = some t → fr t = fr' t) : guardA all fr o = guardA all fr' o := by
  unfold guardA
  cases hq : o.guard with
  | none => rfl
  | some q =>
    obtain ⟨j, want⟩ := q
    simp only
    cases ht : (all[j]?).bind (·.dst) with
    | none => rfl
    | some t => simp only [h j want t hq ht]

/-- What is known when the operations of S have come up. -/
structure Inv (P : Program) (n : Nat) (ops : Array Oper) (FR : Nat → Fr) (HP : Nat → Heap) (st : Nat → Step) (ρ₀ : Rho) (w₀ : World) (a₀ : Act) (S : Nat → Bool) (p : Nat) (ρ : Rho) (a : Act) (w : World) : Prop where
  pN : p ≤ ops.size
  pW : p = ops.size ∨ wAt ops p = true
  wS : ∀ j, j < ops.size → wAt ops j = true → (S j = true ↔ j < p)
  cl : ∀ (j : Nat) (o : Oper), ops[j]? = some o → S j = true → ∀ e ∈ o.after.toList, Region.binds .any e = true → S e.on = true
  dom : ∀ j id, j < ops.size → S j = false → (HP j).length ≤ id → id < (HP (j + 1)).length → ρ id = none
  full : ∀ j id r, j < ops.size → S j = true → (HP j).length ≤ id → id < (HP (j + 1)).length → readRow (HV HP ops.size p) id = some r → ∃ l, ρ id = some l
  stp : Stp ρ₀ (HP 0) w₀ ρ (HV HP ops.size p) w
  frs : FrRel ρ n (frS FR st ops S ops.size) a
  df : a.defers = a₀.defers
end
end Go.Proofs.Ytmbikamebhoelaa.Ai
