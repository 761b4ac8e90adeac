/- A run of operations whose order is drawn comes to what the text's order comes to. No condition. -/
import Derived.Test.YtmbikamebhoelaaAi14
set_option linter.unusedVariables false
set_option linter.unusedSimpArgs false
namespace Go.Proofs.Ytmbikamebhoelaa.Ai
open Go

/-! ### What the text alone says of the order -/
structure DO (ops : Array Oper) (bef : Nat → Nat → Bool) : Prop where
  edge : ∀ (j : Nat) (o : Oper), ops[j]? = some o → ∀ e ∈ o.after.toList, Region.binds .any e = true → e.on < j
  ordW : ∀ (i j : Nat) (oi oj : Oper), ops[i]? = some oi → ops[j]? = some oj → i < j → isW oi.op = true → isW oj.op = true → bef i j = true
  touch : ∀ (i j : Nat) (oi oj : Oper), ops[i]? = some oi → ops[j]? = some oj → i < j → touchTmps ops.toList oi oj = true → bef i j = true
  clos : ∀ S : Nat → Bool, (∀ (j : Nat) (o : Oper), ops[j]? = some o → S j = true → ∀ e ∈ o.after.toList, Region.binds .any e = true → S e.on = true) → ∀ i j, bef i j = true → S j = true → j < ops.size → S i = true
theorem foldl_or {l : List Edge} {acc : List Nat} {i : Nat} : ∀ s : Nat, (l.foldl (fun s e => if Region.binds .any e then s ||| 2 ^ e.on ||| acc.getD e.on 0 else s) s).testBit i = true → s.testBit i = true ∨ ∃ e ∈ l, Region.binds .any e = true ∧ (e.on = i ∨ (acc.getD e.on 0).testBit i = true) := by
  induction l with
  | nil => intro s h; exact .inl h
  | cons e l ih =>
    intro s h
    simp only [List.foldl_cons] at h
    rcases ih _ h with h | ⟨e', h1, h2⟩
    · split at h
      · rename_i hb
        simp only [Nat.testBit_or, Bool.or_eq_true, Nat.testBit_two_pow, decide_eq_true_eq] at h
        rcases h with (h | h) | h
        · exact .inl h
        · exact .inr ⟨e, by simp, hb, .inl h⟩
        · exact .inr ⟨e, by simp, hb, .inr h⟩
      · exact .inl h
    · exact .inr ⟨e', by simp [h1], h2⟩
theorem befs_go : ∀ (l : List Oper) (acc : List Nat), (befs.go l acc).length = acc.length + l.length ∧ (∀ j, j < acc.length → (befs.go l acc).getD j 0 = acc.getD j 0) ∧
    ∀ (j : Nat) (o : Oper), l[j]? = some o → ∀ i, ((befs.go l acc).getD (acc.length + j) 0).testBit i = true → ∃ e ∈ o.after.toList, Region.binds .any e = true ∧ (e.on = i ∨ (e.on < acc.length + j ∧ ((befs.go l acc).getD e.on 0).testBit i = true))
  | [], acc => ⟨by simp [befs.go], fun _ _ => rfl, fun j o h => by simp at h⟩
  | o :: l, acc => by
    simp only [befs.go]
    generalize hx : o.after.toList.foldl (fun s e => if Region.binds .any e then s ||| 2 ^ e.on ||| acc.getD e.on 0 else s) 0 = x
    obtain ⟨h1, h2, h3⟩ := befs_go l (acc ++ [x])
    refine ⟨by rw [h1]; simp; omega, fun j hj => ?_, fun j q hq i hi => ?_⟩
    · rw [h2 j (by simp; omega)]
      simp [List.getD_eq_getElem?_getD, List.getElem?_append_left hj]
    · cases j with
      | zero =>
        simp at hq
        subst hq
        rw [Nat.add_zero, h2 _ (by simp)] at hi
        have e1 : (acc ++ [x]).getD acc.length 0 = x := by simp [List.getD_eq_getElem?_getD]
        rw [e1, ← hx] at hi
        rcases foldl_or 0 hi with h | ⟨e, g1, g2, g3⟩
        · simp at h
        · refine ⟨e, g1, g2, g3.imp (fun h => h) fun h => ?_⟩
          have hlt : e.on < acc.length := by
            rcases Nat.lt_or_ge e.on acc.length with k | k
            · exact k
            · rw [List.getD_eq_getElem?_getD, List.getElem?_eq_none k] at h; simp at h
          refine ⟨by omega, ?_⟩
          rw [h2 _ (by simp; omega)]
          simpa [List.getD_eq_getElem?_getD, List.getElem?_append_left hlt] using h
      | succ j =>
        have := h3 j q (by simpa using hq) i (by simpa [Nat.add_assoc, Nat.add_comm 1 j] using hi)
        obtain ⟨e, g1, g2, g3⟩ := this
        refine ⟨e, g1, g2, g3.imp (fun h => h) fun h => ⟨?_, h.2⟩⟩
        have := h.1
        simp at this
        omega
theorem do_of_drawOk {ops : Array Oper} (h : drawOk ops.toList = true) : DO ops (isBefore (befs ops.toList)) := by
  unfold drawOk at h
  simp only [List.all_eq_true, Bool.and_eq_true] at h
  have mem : ∀ {i : Nat} {o : Oper}, ops[i]? = some o → (o, i) ∈ ops.toList.zipIdx := fun {i o} ho => by
    rw [List.mem_zipIdx_iff_getElem?]; simpa using ho
  have edge : ∀ (j : Nat) (o : Oper), ops[j]? = some o → ∀ e ∈ o.after.toList, Region.binds .any e = true → e.on < j := fun j o ho e he hb => by
    have := (h (o, j) (mem ho)).1 e he
    simpa [hb] using this
  refine ⟨edge, fun i j oi oj hi hj hij h1 h2 => ?_, fun i j oi oj hi hj hij h1 => ?_, fun S hS i => ?_⟩
  · have := (h (oj, j) (mem hj)).2 (oi, i) (mem hi)
    simp only [Bool.or_eq_true, Bool.not_eq_true', Bool.and_eq_true, decide_eq_false_iff_not, Bool.and_eq_false_iff] at this
    rcases this with (h3 | ⟨h3, _⟩) | h3
    · exact absurd hij h3
    · rw [h1, h2] at h3; simp at h3
    · exact h3
  · have := (h (oj, j) (mem hj)).2 (oi, i) (mem hi)
    simp only [Bool.or_eq_true, Bool.not_eq_true', Bool.and_eq_true, decide_eq_false_iff_not, Bool.and_eq_false_iff] at this
    rcases this with (h3 | ⟨_, h3⟩) | h3
    · exact absurd hij h3
    · rw [h1] at h3; simp at h3
    · exact h3
  · intro j
    induction j using Nat.strongRecOn with
    | _ j ih =>
      intro hb hj hlt
      have ho : ops[j]? = some ops[j] := Array.getElem?_eq_getElem hlt
      obtain ⟨_, _, h3⟩ := befs_go ops.toList []
      have hb' : ((befs.go ops.toList []).getD (([] : List Nat).length + j) 0).testBit i = true := by
        have hb0 : ((befs.go ops.toList []).getD j 0).testBit i = true := hb
        simpa using hb0
      obtain ⟨e, g1, g2, g3⟩ := h3 j ops[j] (by simp) i hb'
      have hS' := hS j _ ho hj e g1 g2
      rcases g3 with g3 | ⟨g3, g4⟩
      · rw [← g3]; exact hS'
      · have := edge j _ ho e g1 g2
        exact ih e.on this g4 hS' (by omega)
end Go.Proofs.Ytmbikamebhoelaa.Ai
