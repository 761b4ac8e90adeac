/- One more operation of a drawn order: the memory's side. No condition. -/
import Derived.Test.YtmbikamebhoelaaAi16
set_option linter.unusedVariables false
set_option linter.unusedSimpArgs false
namespace Go.Proofs.Ytmbikamebhoelaa.Ai
open Go

def Rho.cut (ρ : Rho) (N : Nat) : Rho := fun id => if id < N then ρ id else none
theorem Rho.cut_lt {ρ : Rho} {N id : Nat} (h : id < N) : ρ.cut N id = ρ id := by simp [Rho.cut, h]
theorem Rho.cut_some {ρ : Rho} {N id : Nat} {l : Loc} (h : ρ.cut N id = some l) : id < N ∧ ρ id = some l := by
  unfold Rho.cut at h
  split at h
  · exact ⟨by assumption, h⟩
  · cases h
theorem VS.cut {ρ ρc : Rho} {N : Nat} (hc : ∀ id, N ≤ id → ρc id = none) {x x' y : Value} (h : VS ρ x x') (k : VS ρc x y) : VS (ρ.cut N) x x' := by
  have lt : ∀ {id : Nat} {l : Loc}, ρc id = some l → id < N := fun {id l} hl => by
    rcases Nat.lt_or_ge id N with q | q
    · exact q
    · rw [hc id q] at hl; cases hl
  cases x with
  | pointer a => cases a with
    | none => exact h
    | some a =>
      obtain ⟨h1, l, h2, h3⟩ := h
      obtain ⟨_, l', k2, _⟩ := k
      exact ⟨h1, l, by rw [Rho.cut_lt (lt k2)]; exact h2, h3⟩
  | slice a len cap => cases a with
    | none => exact h.elim
    | some a =>
      obtain ⟨h1, h2, h3⟩ := h
      obtain ⟨_, _, k3⟩ := k
      refine ⟨h1, h2, h3.imp (fun x => x) ?_⟩
      rintro ⟨h4, l, h5, h6⟩
      rcases k3 with ⟨k4, _⟩ | ⟨_, l', k5, _⟩
      · exact absurd k4 h4
      · exact ⟨h4, l, by rw [Rho.cut_lt (lt k5)]; exact h5, h6⟩
  | chan c => cases c <;> exact h
  | _ => exact h
theorem All2.both {α β γ : Type} {R : α → β → Prop} {S : α → γ → Prop} {T : α → β → Prop} (hT : ∀ a b c, R a b → S a c → T a b) : ∀ {l : List α} {m : List β} {k : List γ}, All2 R l m → All2 S l k → All2 T l m
  | [], [], _, _, _ => trivial
  | [], _ :: _, _, h, _ => h.elim
  | _ :: _, [], _, h, _ => h.elim
  | _ :: _, _ :: _, [], _, k => k.elim
  | _ :: _, _ :: _, _ :: _, h, k => ⟨hT _ _ _ h.1 k.1, All2.both hT h.2 k.2⟩
theorem VA.cut {ρ ρc : Rho} {N : Nat} (hc : ∀ id, N ≤ id → ρc id = none) {x x' y : Value} (h : VA ρ x x') (k : VA ρc x y) : VA (ρ.cut N) x x' := by
  unfold VA at *
  cases x with
  | agg cs =>
    obtain ⟨cs', h1, h2⟩ := h
    obtain ⟨ds, k1, k2⟩ := k
    exact ⟨cs', h1, All2.both (R := VS ρ) (S := VS ρc) (T := VS (ρ.cut N)) (fun _ _ _ a b => VS.cut hc a b) h2 k2⟩
  | _ => exact VS.cut hc h k
theorem V_VA {ρ : Rho} {x x' : Value} (h1 : ∀ vs, x ≠ .tuple vs) (h2 : ∀ f a b, x ≠ .func (.func f) a b) : V ρ x x' ↔ VA ρ x x' := by
  unfold V
  split
  · exact absurd rfl (h1 _)
  · exact absurd rfl (h2 _ _ _)
  · exact Iff.rfl
theorem V.cut {ρ ρc : Rho} {N : Nat} (hc : ∀ id, N ≤ id → ρc id = none) {x x' y : Value} (h : V ρ x x') (k : V ρc x y) : V (ρ.cut N) x x' := by
  by_cases q1 : ∃ vs, x = .tuple vs
  · obtain ⟨vs, rfl⟩ := q1
    obtain ⟨vs', h1, h2⟩ := h
    obtain ⟨us, k1, k2⟩ := k
    exact ⟨vs', h1, All2.both (R := VA ρ) (S := VA ρc) (T := VA (ρ.cut N)) (fun _ _ _ a b => VA.cut hc a b) h2 k2⟩
  · by_cases q2 : ∃ f a b, x = .func (.func f) a b
    · obtain ⟨f, first, caps, rfl⟩ := q2
      obtain ⟨h0, vs', h1, h2⟩ := h
      obtain ⟨_, us, k1, k2⟩ := k
      exact ⟨h0, vs', h1, All2.both (R := VS ρ) (S := VS ρc) (T := VS (ρ.cut N)) (fun _ _ _ a b => VS.cut hc a b) h2 k2⟩
    · have n1 : ∀ vs, x ≠ .tuple vs := fun vs e => q1 ⟨vs, e⟩
      have n2 : ∀ f a b, x ≠ .func (.func f) a b := fun f a b e => q2 ⟨f, a, b, e⟩
      exact (V_VA n1 n2).2 (VA.cut hc ((V_VA n1 n2).1 h) ((V_VA n1 n2).1 k))

def Rho.join (ρ' ρ : Rho) (N : Nat) : Rho := fun id => if id < N then ρ' id else ρ id
theorem Rho.join_lt {ρ' ρ : Rho} {N id : Nat} (h : id < N) : Rho.join ρ' ρ N id = ρ' id := by simp [Rho.join, h]
theorem Rho.join_ge {ρ' ρ : Rho} {N id : Nat} (h : ¬ id < N) : Rho.join ρ' ρ N id = ρ id := by simp [Rho.join, h]
theorem readRow_ge {H : Heap} {id : Nat} (h : H.length ≤ id) : readRow H id = none := by simp [readRow, List.getElem?_eq_none h]
theorem Stp.congr {ρ₀ ρ : Rho} {H₀ A B : Heap} {w₀ w : World} (h : Stp ρ₀ H₀ w₀ ρ A w) (hl : B.length = A.length) (hb : ∀ id, readRow B id = readRow A id) : Stp ρ₀ H₀ w₀ ρ B w :=
  ⟨h.rel.more (by omega) (fun id l _ => hb id), h.old, fun id l hi hl' => by
    obtain ⟨h1, h2⟩ := h.new id l hi hl'
    refine ⟨h1, h2.imp (fun x => x) ?_⟩
    rintro ⟨i, li, ri, x1, x2, x3, x4, x5⟩
    exact ⟨i, li, ri, x1, x2, x3, x4, by rw [hb]; exact x5⟩, h.frame, h.os, h.tape, h.output, h.size, by rw [hl]; exact h.len, fun id hi hd => by rw [hb]; exact h.dead id hi hd⟩
/-- A row made ahead of its place in the text. -/
theorem Stp.adopt {ρ₀ ρ : Rho} {H₀ A : Heap} {w₀ w : World} (h : Stp ρ₀ H₀ w₀ ρ A w) {id : Nat} {r : Row} {c : Array Value} {e : TypeId} (hid : ρ id = none) (h0 : H₀.length ≤ id) (hpos : 0 < H₀.length) (hl : id < A.length) (hrow : readRow A id = some r) (ho : r.own = true) (hc : ∀ (j : Nat) (v : Value), r.cells[j]? = some v → ∃ v', c[j]? = some v' ∧ VS ρ v v') :
    Stp ρ₀ H₀ w₀ (ρ.put id ⟨w.heap.size, 0, true, c.size, r.esz⟩) A (World.grow w (.cells c e)) :=
  ⟨h.rel.adopt hid (by omega) hl hrow ho hc, fun i hi => by rw [Rho.put_ne _ _ (by omega)]; exact h.old i hi, fun i l hi hl' => by
    by_cases e' : i = id
    · subst e'
      rw [Rho.put_self] at hl'
      cases hl'
      exact ⟨rfl, .inl h.size⟩
    · rw [Rho.put_ne _ _ e'] at hl'
      exact h.new i l hi hl', fun b hb hn => (grow_old w _ (Nat.lt_of_lt_of_le hb h.size)).trans (h.frame b hb hn), h.os, h.tape, h.output, by rw [grow_size]; have := h.size; omega, h.len, h.dead⟩
/-- A writing operation, come up in its turn. -/
theorem Stp.join {ρ₀ ρ ρ' : Rho} {H₀ A A' B B' : Heap} {w₀ w w' : World} (hr0 : Rel ρ₀ H₀ w₀) (h0 : Stp ρ₀ H₀ w₀ ρ A w) (hk : Stp (ρ.cut B.length) B w ρ' B' w') (hHB : H₀.length ≤ B.length) (hBA : B'.length ≤ A.length) (hAB : ∀ id, id < B.length → readRow A id = readRow B id)
    (hnone : ∀ id, B.length ≤ id → id < B'.length → ρ id = none) (hl : A'.length = A.length) (hA' : ∀ id, id < A.length → readRow A' id = if id < B'.length then readRow B' id else readRow A id) :
    Stp ρ₀ H₀ w₀ (Rho.join ρ' ρ B'.length) A' w' := by
  have hBB := hk.len
  -- what the new reading says
  have rlt : ∀ id, id < B'.length → Rho.join ρ' ρ B'.length id = ρ' id := fun id h => Rho.join_lt h
  have rge : ∀ id, ¬ id < B'.length → Rho.join ρ' ρ B'.length id = ρ id := fun id h => Rho.join_ge h
  have aget : ∀ id, readRow A' id = if id < B'.length then readRow B' id else readRow A id := fun id => by
    rcases Nat.lt_or_ge id A.length with h | h
    · exact hA' id h
    · rw [readRow_ge (by omega), if_neg (by omega), readRow_ge h]
  have hle1 : ρ'.le (Rho.join ρ' ρ B'.length) := fun id l h => by
    rcases Nat.lt_or_ge id B'.length with q | q
    · rw [rlt id q]; exact h
    · rw [hk.rel.dom id q] at h; cases h
  have hle2 : ρ.le (Rho.join ρ' ρ B'.length) := fun id l h => by
    by_cases q : id < B'.length
    · rw [rlt id q]
      rcases Nat.lt_or_ge id B.length with z | z
      · rw [hk.old id z, Rho.cut_lt z]; exact h
      · rw [hnone id z q] at h; cases h
    · rw [rge id q]; exact h
  have far : ∀ id l, B'.length ≤ id → ρ id = some l → l.own = true := fun id l h1 h2 => (h0.new id l (by omega) h2).1
  -- an own block of the old reading, still there
  have keptB : ∀ id l r, B'.length ≤ id → ρ id = some l → readRow A id = some r → w'.heap[l.block]? = w.heap[l.block]? := fun id l r h1 h2 h3 => by
    refine hk.frame l.block (h0.rel.lt id l h2) fun i li ri x1 x2 x3 => ?_
    obtain ⟨y1, y2⟩ := Rho.cut_some x1
    exact h0.rel.inj i id li l ri r y2 h2 (by rw [hAB i y1]; exact x2) h3 (by omega) x3
  have mixed : ∀ i j li lj ri rj, i < B'.length → B'.length ≤ j → ρ' i = some li → ρ j = some lj → readRow B' i = some ri → readRow A j = some rj → li.block ≠ lj.block := fun i j li lj ri rj h1 h2 x1 x2 x3 x4 => by
    rcases Nat.lt_or_ge i B.length with z | z
    · rw [hk.old i z, Rho.cut_lt z] at x1
      have hlive : ∃ q, readRow A i = some q := by
        rw [hAB i z]
        cases hq : readRow B i with
        | some q => exact ⟨q, rfl⟩
        | none => rw [hk.dead i z hq] at x3; cases x3
      obtain ⟨q, hq⟩ := hlive
      exact Ne.symm (h0.rel.inj j i lj li rj q x2 x1 x4 hq (by omega) (far j lj h2 x2))
    · obtain ⟨_, hb⟩ := hk.new i li z x1
      have hlt := h0.rel.lt j lj x2
      rcases hb with hb | ⟨k, lk, rk, y1, y2, y3, y4, _⟩
      · omega
      · obtain ⟨z1, z2⟩ := Rho.cut_some y1
        rw [← y4]
        exact h0.rel.inj k j lk lj rk rj z2 x2 (by rw [hAB k z1]; exact y2) x4 (by omega) y3
  refine ⟨⟨fun id l r hi hq => ?_, fun i j li lj ri rj hi hj hri hrj hne ho => ?_, fun id l hi => ?_, fun id hi => ?_, ?_, by have := hr0.pos; omega⟩, fun id hi => ?_, fun id l hi hl' => ?_, fun b hb hn => ?_, hk.os.trans h0.os, hk.tape.trans h0.tape, hk.output.trans h0.output, Nat.le_trans h0.size hk.size, by omega, fun id hi hd => ?_⟩
  · rw [aget] at hq
    by_cases q : id < B'.length
    · rw [if_pos q] at hq
      rw [rlt id q] at hi
      exact (hk.rel.rows id l r hi hq).mono hle1
    · rw [if_neg q] at hq
      rw [rge id q] at hi
      exact ((h0.rel.rows id l r hi hq).mono hle2).block (keptB id l r (by omega) hi hq)
  · rw [aget] at hri hrj
    by_cases qi : i < B'.length <;> by_cases qj : j < B'.length
    · rw [if_pos qi] at hri
      rw [if_pos qj] at hrj
      rw [rlt i qi] at hi
      rw [rlt j qj] at hj
      exact hk.rel.inj i j li lj ri rj hi hj hri hrj hne ho
    · rw [if_pos qi] at hri
      rw [if_neg qj] at hrj
      rw [rlt i qi] at hi
      rw [rge j qj] at hj
      exact mixed i j li lj ri rj qi (by omega) hi hj hri hrj
    · rw [if_neg qi] at hri
      rw [if_pos qj] at hrj
      rw [rge i qi] at hi
      rw [rlt j qj] at hj
      exact Ne.symm (mixed j i lj li rj ri qj (by omega) hj hi hrj hri)
    · rw [if_neg qi] at hri
      rw [if_neg qj] at hrj
      rw [rge i qi] at hi
      rw [rge j qj] at hj
      exact h0.rel.inj i j li lj ri rj hi hj hri hrj hne ho
  · by_cases q : id < B'.length
    · rw [rlt id q] at hi; exact hk.rel.lt id l hi
    · rw [rge id q] at hi; exact Nat.lt_of_lt_of_le (h0.rel.lt id l hi) hk.size
  · rw [rge id (by omega)]; exact h0.rel.dom id (by omega)
  · rw [rlt 0 (by have := hk.rel.pos; omega)]; exact hk.rel.zero
  · rw [rlt id (by omega), hk.old id (by omega), Rho.cut_lt (by omega)]; exact h0.old id hi
  · have killed : ∀ i, i < H₀.length → readRow A i = none → readRow A' i = none := fun i hi' hd => by
      rw [aget, if_pos (by omega)]
      exact hk.dead i (by omega) (by rw [← hAB i (by omega)]; exact hd)
    have fromOld : ∀ id l, H₀.length ≤ id → ρ id = some l → l.own = true ∧ (w₀.heap.size ≤ l.block ∨ ∃ i li ri, ρ₀ i = some li ∧ readRow H₀ i = some ri ∧ li.own = true ∧ li.block = l.block ∧ readRow A' i = none) := fun id l hi hl' => by
      obtain ⟨x1, x2⟩ := h0.new id l hi hl'
      refine ⟨x1, x2.imp (fun x => x) ?_⟩
      rintro ⟨i, li, ri, y1, y2, y3, y4, y5⟩
      exact ⟨i, li, ri, y1, y2, y3, y4, killed i (readRow_lt y2) y5⟩
    by_cases q : id < B'.length
    · rw [rlt id q] at hl'
      rcases Nat.lt_or_ge id B.length with z | z
      · rw [hk.old id z, Rho.cut_lt z] at hl'
        exact fromOld id l hi hl'
      · obtain ⟨x1, x2⟩ := hk.new id l z hl'
        refine ⟨x1, ?_⟩
        rcases x2 with x2 | ⟨i, li, ri, y1, y2, y3, y4, y5⟩
        · exact .inl (Nat.le_trans h0.size x2)
        · obtain ⟨z1, z2⟩ := Rho.cut_some y1
          rcases Nat.lt_or_ge i H₀.length with u | u
          · have hρ := h0.old i u
            rw [z2] at hρ
            have hlive : ∃ q, readRow H₀ i = some q := by
              cases hq : readRow H₀ i with
              | some q => exact ⟨q, rfl⟩
              | none => have := h0.dead i u hq; rw [hAB i z1, y2] at this; cases this
            obtain ⟨q', hq'⟩ := hlive
            exact .inr ⟨i, li, q', hρ.symm, hq', y3, y4, by rw [aget, if_pos (by omega)]; exact y5⟩
          · obtain ⟨_, v2⟩ := fromOld i li u z2
            rw [y4] at v2
            exact v2
    · rw [rge id q] at hl'
      exact fromOld id l hi hl'
  · have e1 := h0.frame b hb hn
    rw [← e1]
    refine hk.frame b (Nat.lt_of_lt_of_le hb h0.size) fun i li ri x1 x2 x3 => ?_
    obtain ⟨z1, z2⟩ := Rho.cut_some x1
    rcases Nat.lt_or_ge i H₀.length with u | u
    · have hρ := h0.old i u
      rw [z2] at hρ
      cases hq : readRow H₀ i with
      | some q => exact hn i li q hρ.symm hq x3
      | none => have := h0.dead i u hq; rw [hAB i z1, x2] at this; cases this
    · obtain ⟨_, v⟩ := h0.new i li u z2
      rcases v with v | ⟨j, lj, rj, y1, y2, y3, y4, _⟩
      · omega
      · rw [← y4]; exact hn j lj rj y1 y2 y3
  · rw [aget, if_pos (by omega)]
    exact hk.dead id (by omega) (by rw [← hAB id (by omega)]; exact h0.dead id hi hd)
end Go.Proofs.Ytmbikamebhoelaa.Ai
