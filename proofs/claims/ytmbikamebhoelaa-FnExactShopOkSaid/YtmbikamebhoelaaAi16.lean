/- The states on the way of a run whose order is drawn: frames and rows. No condition. -/
import Derived.Test.YtmbikamebhoelaaAi15
set_option linter.unusedVariables false
set_option linter.unusedSimpArgs false
namespace Go.Proofs.Ytmbikamebhoelaa.Ai
open Go
section
variable {P : Program} {n : Nat} {ops : Array Oper} {FR : Nat → Fr} {HP : Nat → Heap} {st : Nat → Step} {ρ₀ : Rho} {w₀ : World} {a₀ : Act}

def dstAt (ops : Array Oper) (i : Nat) : Option Tmp := (ops[i]?).bind (·.dst)
def wAt (ops : Array Oper) (i : Nat) : Bool := match ops[i]? with | some o => isW o.op | none => false
/-- The frame once the operations of S have come up. -/
def frS (FR : Nat → Fr) (st : Nat → Step) (ops : Array Oper) (S : Nat → Bool) : Nat → Fr
  | 0 => FR 0
  | k + 1 => if S k then (frS FR st ops S k).put (dstAt ops k) (st k).v else frS FR st ops S k
theorem put_other {fr : Fr} {d : Option Tmp} {v : Value} {t : Tmp} (h : d ≠ some t) : fr.put d v t = fr t := by
  cases d with
  | none => rfl
  | some d => simp only [Fr.put]; rw [if_neg (fun e => h (by rw [e]))]
theorem put_same {fr fr' : Fr} {d : Option Tmp} {v : Value} {t : Tmp} (h : d ≠ some t → fr t = fr' t) : fr.put d v t = fr'.put d v t := by
  cases d with
  | none => exact h (by simp)
  | some d =>
    simp only [Fr.put]
    split
    · rfl
    · rename_i hne; exact h (fun e => hne (by cases e; rfl))
theorem frS_at (dc : DC P n ops FR HP st) {S : Nat → Bool} {i t : Nat} (hi : i ≤ ops.size) (h1 : ∀ j, j < i → dstAt ops j = some t → S j = true) : ∀ k, i ≤ k → (∀ j, i ≤ j → j < k → dstAt ops j = some t → S j = false) → frS FR st ops S k t = FR i t := by
  have pre : ∀ m, m ≤ i → frS FR st ops S m t = FR m t := by
    intro m
    induction m with
    | zero => exact fun _ => rfl
    | succ m ih =>
      intro hm
      have ho : ops[m]? = some ops[m] := Array.getElem?_eq_getElem (by omega)
      have hd : dstAt ops m = ops[m].dst := by simp [dstAt, ho]
      rw [dc.fr m _ ho]
      simp only [frS]
      split
      · rw [hd]; exact put_same fun _ => ih (by omega)
      · rename_i hS
        rw [ih (by omega), put_other]
        intro e
        exact hS (h1 m (by omega) (by rw [hd]; exact e))
  intro k
  induction k with
  | zero => intro hk h2; have : i = 0 := by omega
            subst this; rfl
  | succ k ih =>
    intro hk h2
    rcases Nat.lt_or_ge k i with h | h
    · have : i = k + 1 := by omega
      subst this
      exact pre _ (Nat.le_refl _)
    · simp only [frS]
      split
      · rename_i hS
        rw [put_other (fun e => by have := h2 k h (by omega) e; rw [hS] at this; cases this)]
        exact ih h fun j a b c => h2 j a (by omega) c
      · exact ih h fun j a b c => h2 j a (by omega) c
theorem frS_add {S S' : Nat → Bool} {i : Nat} (h1 : ∀ j, S' j = (S j || decide (j = i))) (hS : S i = false) (h2 : ∀ j t, i < j → S j = true → dstAt ops i = some t → dstAt ops j ≠ some t) :
    ∀ k t, frS FR st ops S' k t = if i < k then (frS FR st ops S k).put (dstAt ops i) (st i).v t else frS FR st ops S k t := by
  intro k
  induction k with
  | zero => intro t; rfl
  | succ k ih =>
    intro t
    by_cases hk : k = i
    · subst hk
      have e1 : frS FR st ops S' (k + 1) t = (frS FR st ops S' k).put (dstAt ops k) (st k).v t := by simp [frS, h1]
      have e2 : frS FR st ops S (k + 1) = frS FR st ops S k := by simp [frS, hS]
      rw [e1, e2, if_pos (Nat.lt_succ_self _)]
      exact put_same fun _ => by rw [ih t, if_neg (Nat.lt_irrefl _)]
    · have hd : decide (k = i) = false := by simpa using hk
      cases hSk : S k with
      | false =>
        have e1 : frS FR st ops S' (k + 1) = frS FR st ops S' k := by simp [frS, h1, hSk, hk]
        have e2 : frS FR st ops S (k + 1) = frS FR st ops S k := by simp [frS, hSk]
        rw [e1, e2, ih t]
        by_cases hik : i < k
        · rw [if_pos hik, if_pos (by omega)]
        · rw [if_neg hik, if_neg (by omega)]
      | true =>
        have e1 : frS FR st ops S' (k + 1) t = (frS FR st ops S' k).put (dstAt ops k) (st k).v t := by simp [frS, h1, hSk]
        have e2 : frS FR st ops S (k + 1) = (frS FR st ops S k).put (dstAt ops k) (st k).v := by simp [frS, hSk]
        rw [e1, e2]
        by_cases hik : i < k
        · rw [if_pos (by omega)]
          by_cases q1 : dstAt ops k = some t
          · rw [q1]
            have hne : dstAt ops i ≠ some t := fun e => h2 k t hik hSk e q1
            rw [put_other hne]
            simp [Fr.put]
          · rw [put_other q1, ih t, if_pos hik]
            exact put_same fun _ => (put_other q1).symm
        · rw [if_neg (by omega)]
          exact put_same fun _ => by rw [ih t, if_neg hik]

/-! ### Rows -/
theorem no_w_keep (dc : DC P n ops FR HP st) (hr : Rel ρ₀ (HP 0) w₀) {a : Nat} : ∀ b, a ≤ b → b ≤ ops.size → (∀ j, a ≤ j → j < b → wAt ops j = false) → ∀ id, id < (HP a).length → readRow (HP b) id = readRow (HP a) id ∧ (HP a).length ≤ (HP b).length := by
  intro b
  induction b with
  | zero => intro h1 h2 h3 id hid; have : a = 0 := by omega
            subst this; exact ⟨rfl, Nat.le_refl _⟩
  | succ b ih =>
    intro h1 h2 h3 id hid
    rcases Nat.lt_or_ge b a with h | h
    · have : a = b + 1 := by omega
      subst this; exact ⟨rfl, Nat.le_refl _⟩
    · obtain ⟨e1, e2⟩ := ih h (by omega) (fun j x y => h3 j x (by omega)) id hid
      have ho : ops[b]? = some ops[b] := Array.getElem?_eq_getElem (by omega)
      have hw : isW ops[b].op = false := by have := h3 b h (by omega); simpa [wAt, ho] using this
      rcases still dc hr ho hw with e | ⟨_, _, r, e⟩
      · rw [e]; exact ⟨e1, e2⟩
      · rw [e, readRow_append_lt (by omega)]
        exact ⟨e1, by simp; omega⟩
/-- Where a row is first there. -/
def born (HP : Nat → Heap) (N id : Nat) : Nat := ((List.range (N + 1)).find? fun m => decide (id < (HP m).length)).getD 0
theorem born_ok {N id : Nat} (h : id < (HP N).length) : born HP N id ≤ N ∧ id < (HP (born HP N id)).length ∧ ∀ m, m < born HP N id → (HP m).length ≤ id := by
  unfold born
  cases hf : (List.range (N + 1)).find? fun m => decide (id < (HP m).length) with
  | none =>
    rw [List.find?_eq_none] at hf
    have := hf N (by simp)
    simp at this
    omega
  | some m =>
    simp only [Option.getD_some]
    obtain ⟨h1, h2⟩ := List.find?_eq_some_iff_append.1 hf
    obtain ⟨as, bs, h3, h4⟩ := h2
    have hm : m ∈ List.range (N + 1) := by rw [h3]; simp
    have hm' : m < N + 1 := by simpa using hm
    refine ⟨by omega, by simpa using h1, fun k hk => ?_⟩
    have hlen : as.length = m := by
      have e : (List.range (N + 1))[as.length]? = some m := by rw [h3]; simp
      have hl : as.length < N + 1 := by
        have := congrArg List.length h3
        simp at this; omega
      rw [List.getElem?_range hl] at e
      simpa using e
    have : k ∈ as := by
      have e : as[k]? = some k := by
        have e : (List.range (N + 1))[k]? = some k := List.getElem?_range (by omega)
        rw [h3, List.getElem?_append_left (by omega)] at e
        exact e
      exact List.mem_of_getElem? e
    have := h4 k this
    simp at this
    omega
/-- What the rows hold when the operations that write have come up as far as number p: those not made yet as they will be made. -/
def HV (HP : Nat → Heap) (N p : Nat) : Heap := (List.range (HP N).length).map fun id => if id < (HP p).length then readRow (HP p) id else readRow (HP (born HP N id)) id
theorem HV_len (N p : Nat) : (HV HP N p).length = (HP N).length := by simp [HV]
theorem HV_read {N p id : Nat} (h : id < (HP N).length) : readRow (HV HP N p) id = if id < (HP p).length then readRow (HP p) id else readRow (HP (born HP N id)) id := by
  unfold readRow HV
  rw [List.getElem?_map, List.getElem?_range h]
  rfl
theorem HV_move (dc : DC P n ops FR HP st) (hr : Rel ρ₀ (HP 0) w₀) (hf : FrRel ρ₀ n (FR 0) a₀) {p p' : Nat} (hp : p < p') (hp' : p' ≤ ops.size) (hno : ∀ j, p < j → j < p' → wAt ops j = false) {id : Nat} (hid : id < (HP ops.size).length) :
    readRow (HV HP ops.size p') id = if id < (HP (p + 1)).length then readRow (HP (p + 1)) id else readRow (HV HP ops.size p) id := by
  have hl1 : (HP p).length ≤ (HP (p + 1)).length := (step_len dc hr hf (by omega)).1
  have hl2 : (HP (p + 1)).length ≤ (HP p').length := len_mono dc hr hf (by omega) hp'
  rw [HV_read hid]
  by_cases h1 : id < (HP (p + 1)).length
  · rw [if_pos h1, if_pos (by omega)]
    exact (no_w_keep dc hr p' (by omega) hp' (fun j a b => hno j (by omega) b) id h1).1
  · rw [if_neg h1, HV_read hid, if_neg (show ¬ id < (HP p).length by omega)]
    split
    · rename_i h2
      obtain ⟨b1, b2, b3⟩ := born_ok hid
      have hb : p + 1 < born HP ops.size id := by
        rcases Nat.lt_or_ge (p + 1) (born HP ops.size id) with h | h
        · exact h
        · exfalso
          have := len_mono dc hr hf h (by omega)
          omega
      have hb2 : born HP ops.size id ≤ p' := by
        rcases Nat.lt_or_ge p' (born HP ops.size id) with h | h
        · have := b3 p' h; omega
        · exact h
      exact (no_w_keep dc hr p' hb2 hp' (fun j a b => hno j (by omega) b) id b2).1
    · rfl
theorem HV_end {id : Nat} {N : Nat} (h : id < (HP N).length) : readRow (HV HP N N) id = readRow (HP N) id := by
  rw [HV_read h, if_pos h]
end
end Go.Proofs.Ytmbikamebhoelaa.Ai
