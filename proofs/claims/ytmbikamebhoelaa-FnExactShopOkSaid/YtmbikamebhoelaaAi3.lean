/- The machine's memory beside the plain heap: which value stands for which, row by row; what an operation may turn. No condition. -/
import Derived.Test.YtmbikamebhoelaaAi1
set_option linter.unusedVariables false
set_option linter.unusedSimpArgs false
namespace Go.Proofs.Ytmbikamebhoelaa.Ai
open Go

/-! ### Two lists, place by place -/
def All2 {α β : Type} (R : α → β → Prop) : List α → List β → Prop
  | [], [] => True
  | a :: as, b :: bs => R a b ∧ All2 R as bs
  | _, _ => False
section
variable {α β : Type} {R : α → β → Prop}
theorem All2.length {l : List α} {m : List β} (h : All2 R l m) : l.length = m.length := by
  induction l generalizing m with
  | nil => cases m with
    | nil => rfl
    | cons b m => exact h.elim
  | cons a l ih => cases m with
    | nil => exact h.elim
    | cons b m => simp [ih h.2]
theorem All2.get {l : List α} {m : List β} (h : All2 R l m) {i : Nat} {a : α} (hi : l[i]? = some a) : ∃ b, m[i]? = some b ∧ R a b := by
  induction l generalizing m i with
  | nil => simp at hi
  | cons x l ih => cases m with
    | nil => exact h.elim
    | cons y m => cases i with
      | zero => simp at hi; subst hi; exact ⟨y, by simp, h.1⟩
      | succ i => simp at hi; obtain ⟨b, h1, h2⟩ := ih h.2 hi; exact ⟨b, by simpa using h1, h2⟩
theorem All2.of_get {l : List α} {m : List β} (hl : l.length = m.length) (h : ∀ (i : Nat) a, l[i]? = some a → ∃ b, m[i]? = some b ∧ R a b) : All2 R l m := by
  induction l generalizing m with
  | nil => cases m with
    | nil => trivial
    | cons b m => simp at hl
  | cons a l ih => cases m with
    | nil => simp at hl
    | cons b m =>
      refine ⟨?_, ih (by simpa using hl) fun i x hx => ?_⟩
      · obtain ⟨b', h1, h2⟩ := h 0 a (by simp); simp at h1; subst h1; exact h2
      · obtain ⟨b', h1, h2⟩ := h (i + 1) x (by simpa using hx); exact ⟨b', by simpa using h1, h2⟩
theorem All2.mono {S : α → β → Prop} {l : List α} {m : List β} (h : All2 R l m) (hs : ∀ a b, R a b → S a b) : All2 S l m := by
  induction l generalizing m with
  | nil => cases m with
    | nil => trivial
    | cons b m => exact h.elim
  | cons a l ih => cases m with
    | nil => exact h.elim
    | cons b m => exact ⟨hs _ _ h.1, ih h.2⟩
theorem All2.append {l l' : List α} {m m' : List β} (h : All2 R l m) (k : All2 R l' m') : All2 R (l ++ l') (m ++ m') := by
  induction l generalizing m with
  | nil => cases m with
    | nil => exact k
    | cons b m => exact h.elim
  | cons a l ih => cases m with
    | nil => exact h.elim
    | cons b m => exact ⟨h.1, ih h.2⟩
theorem All2.take {l : List α} {m : List β} (h : All2 R l m) (n : Nat) : All2 R (l.take n) (m.take n) := by
  induction l generalizing m n with
  | nil => cases m with
    | nil => simp [All2]
    | cons b m => exact h.elim
  | cons a l ih => cases m with
    | nil => exact h.elim
    | cons b m => cases n with
      | zero => simp [All2]
      | succ n => exact ⟨h.1, ih h.2 n⟩
theorem All2.drop {l : List α} {m : List β} (h : All2 R l m) (n : Nat) : All2 R (l.drop n) (m.drop n) := by
  induction l generalizing m n with
  | nil => cases m with
    | nil => simp [All2]
    | cons b m => exact h.elim
  | cons a l ih => cases m with
    | nil => exact h.elim
    | cons b m => cases n with
      | zero => exact h
      | succ n => exact ih h.2 n
theorem All2.map_left {γ : Type} {f : γ → α} {l : List γ} {m : List β} (h : All2 (fun x b => R (f x) b) l m) : All2 R (l.map f) m := by
  induction l generalizing m with
  | nil => cases m with
    | nil => trivial
    | cons b m => exact h.elim
  | cons a l ih => cases m with
    | nil => exact h.elim
    | cons b m => exact ⟨h.1, ih h.2⟩
theorem All2.map_both {γ δ : Type} {f : γ → α} {g : δ → β} {l : List γ} {m : List δ} (h : All2 (fun x y => R (f x) (g y)) l m) : All2 R (l.map f) (m.map g) := by
  induction l generalizing m with
  | nil => cases m with
    | nil => trivial
    | cons b m => exact h.elim
  | cons a l ih => cases m with
    | nil => exact h.elim
    | cons b m => exact ⟨h.1, ih h.2⟩
theorem All2.self {γ : Type} {f : γ → α} {g : γ → β} {l : List γ} (h : ∀ x ∈ l, R (f x) (g x)) : All2 R (l.map f) (l.map g) := by
  induction l with
  | nil => trivial
  | cons a l ih => exact ⟨h a (by simp), ih fun x hx => h x (by simp [hx])⟩
theorem All2.flat {ls : List (List α)} {ms : List (List β)} (h : All2 (All2 R) ls ms) : All2 R ls.flatten ms.flatten := by
  induction ls generalizing ms with
  | nil => cases ms with
    | nil => trivial
    | cons b m => exact h.elim
  | cons a l ih => cases ms with
    | nil => exact h.elim
    | cons b m => simpa using All2.append h.1 (ih h.2)
theorem All2.replicate {a : α} {b : β} (h : R a b) (n : Nat) : All2 R (List.replicate n a) (List.replicate n b) := by
  induction n with
  | zero => trivial
  | succ n ih => exact ⟨h, ih⟩
end

/-! ### Which value stands for which -/
/-- Where a row lies in the machine's memory: a block, from which cell on; whether it is the run's own: then the block's cells, and an element's. -/
structure Loc where
  block : Nat
  base : Nat
  own : Bool
  cells : Nat
  esz : Nat
abbrev Rho := Nat → Option Loc

def VS (ρ : Rho) : Value → Value → Prop
  | .bool b, v => v = .bool b
  | .int k n, v => v = .int k n
  | .string s, v => v = .string s
  | .nilFunc, v => v = .nilFunc
  | .pointer none, v => v = .pointer none
  | .pointer (some a), v => a.spot = none ∧ ∃ l, ρ a.block = some l ∧ v = .pointer (some ⟨l.block, l.base + a.off, none⟩)
  | .slice (some a) len cap, v => a.spot = none ∧ cap = 0 ∧
      ((a.block = 0 ∧ len = 0 ∧ a.off = 0 ∧ v = .slice none 0 0) ∨
       (a.block ≠ 0 ∧ ∃ l, ρ a.block = some l ∧ ∃ A c, v = .slice A len c ∧ len ≤ c ∧ (0 < len → A = some ⟨l.block, l.base + a.off, none⟩) ∧ (l.own = true → a.off = 0 → A = some ⟨l.block, 0, none⟩ ∧ c * l.esz ≤ l.cells)))
  | .chan none, _ => True
  | _, _ => False
def VA (ρ : Rho) (x x' : Value) : Prop :=
  match x with
  | .agg cs => ∃ cs', x' = .agg cs' ∧ All2 (VS ρ) cs.toList cs'.toList
  | x => VS ρ x x'
def V (ρ : Rho) (x x' : Value) : Prop :=
  match x with
  | .tuple vs => ∃ vs', x' = .tuple vs' ∧ All2 (VA ρ) vs.toList vs'.toList
  | .func (.func f) first caps => first = #[] ∧ ∃ caps', x' = .func (.func f) #[] caps' ∧ All2 (VS ρ) caps.toList caps'.toList
  | x => VA ρ x x'
/-- One says of each row where it lies as the other does, and may say more. -/
def Rho.le (ρ ρ' : Rho) : Prop := ∀ id l, ρ id = some l → ρ' id = some l
theorem Rho.le_refl (ρ : Rho) : ρ.le ρ := fun _ _ h => h
theorem Rho.le_trans {a b c : Rho} (h : a.le b) (k : b.le c) : a.le c := fun id l x => k id l (h id l x)
theorem VS.mono {ρ ρ' : Rho} (h : ρ.le ρ') {x x' : Value} (hv : VS ρ x x') : VS ρ' x x' := by
  cases x with
  | pointer a => cases a with
    | none => exact hv
    | some a => obtain ⟨h1, l, h2, h3⟩ := hv; exact ⟨h1, l, h _ _ h2, h3⟩
  | slice a len cap => cases a with
    | none => exact hv
    | some a =>
      obtain ⟨h1, h2, h3⟩ := hv
      refine ⟨h1, h2, h3.imp (fun x => x) ?_⟩
      rintro ⟨h4, l, h5, h6⟩
      exact ⟨h4, l, h _ _ h5, h6⟩
  | chan c => cases c <;> exact hv
  | _ => exact hv
theorem VA.mono {ρ ρ' : Rho} (h : ρ.le ρ') {x x' : Value} (hv : VA ρ x x') : VA ρ' x x' := by
  unfold VA at *
  cases x with
  | agg cs => obtain ⟨cs', h1, h2⟩ := hv; exact ⟨cs', h1, h2.mono fun _ _ k => k.mono h⟩
  | _ => exact VS.mono h hv
theorem V.mono {ρ ρ' : Rho} (h : ρ.le ρ') {x x' : Value} (hv : V ρ x x') : V ρ' x x' := by
  unfold V at *
  split at hv
  · obtain ⟨vs', h1, h2⟩ := hv; exact ⟨vs', h1, h2.mono fun _ _ k => k.mono h⟩
  · obtain ⟨h0, vs', h1, h2⟩ := hv; exact ⟨h0, vs', h1, h2.mono fun _ _ k => k.mono h⟩
  · exact VA.mono h hv
theorem V.of_VA {ρ : Rho} {x x' : Value} (h : VA ρ x x') : V ρ x x' := by
  unfold V
  split
  · simp [VA, VS] at h
  · simp [VA, VS] at h
  · exact h
theorem VA.of_VS {ρ : Rho} {x x' : Value} (h : VS ρ x x') : VA ρ x x' := by
  unfold VA
  split
  · simp [VS] at h
  · exact h
theorem V.of_VS {ρ : Rho} {x x' : Value} (h : VS ρ x x') : V ρ x x' := .of_VA (.of_VS h)
theorem V_scalar {ρ : Rho} {x x' : Value} (hs : scalar x = true) (h : V ρ x x') : VS ρ x x' := by
  cases x <;> simp [scalar] at hs <;> exact h
theorem VA_scalar {ρ : Rho} {x x' : Value} (hs : scalar x = true) (h : VA ρ x x') : VS ρ x x' := by
  cases x <;> simp [scalar] at hs <;> exact h
/-- What stands for a one-cell value is a one-cell value. -/
theorem VS.oneCell {ρ : Rho} {x x' : Value} (hs : scalar x = true) (h : VS ρ x x') : x'.cells = #[x'] ∧ (∀ c, x' ≠ .agg c) ∧ (∀ c, x' ≠ .tuple c) := by
  cases x with
  | bool b => rw [show x' = .bool b from h]; exact ⟨rfl, fun _ => by simp, fun _ => by simp⟩
  | int k n => rw [show x' = .int k n from h]; exact ⟨rfl, fun _ => by simp, fun _ => by simp⟩
  | string s => rw [show x' = .string s from h]; exact ⟨rfl, fun _ => by simp, fun _ => by simp⟩
  | nilFunc => rw [show x' = .nilFunc from h]; exact ⟨rfl, fun _ => by simp, fun _ => by simp⟩
  | pointer a => cases a with
    | none => rw [show x' = .pointer none from h]; exact ⟨rfl, fun _ => by simp, fun _ => by simp⟩
    | some a => obtain ⟨_, l, _, h3⟩ := h; rw [h3]; exact ⟨rfl, fun _ => by simp, fun _ => by simp⟩
  | slice a len cap => cases a with
    | none => exact h.elim
    | some a =>
      obtain ⟨_, _, h3⟩ := h
      rcases h3 with ⟨_, _, _, h3⟩ | ⟨_, l, _, A, c, h3, _⟩ <;> (rw [h3]; exact ⟨rfl, fun _ => by simp, fun _ => by simp⟩)
  | _ => simp [scalar] at hs
/-- The cells of a value and of what stands for it, all of one cell each. -/
theorem V.cells {ρ : Rho} {x x' : Value} (hs : (cellsOf x).all scalar = true) (h : V ρ x x') : All2 (VS ρ) (cellsOf x) x'.cells.toList := by
  cases x with
  | agg cs => obtain ⟨cs', h1, h2⟩ := h; subst h1; exact h2
  | tuple vs => simp [cellsOf, Value.cells, scalar] at hs
  | func fn a b => simp [cellsOf, Value.cells, scalar] at hs
  | float _ _ => simp [cellsOf, Value.cells, scalar] at hs
  | complex _ _ _ => simp [cellsOf, Value.cells, scalar] at hs
  | map _ => simp [cellsOf, Value.cells, scalar] at hs
  | chan _ => simp [cellsOf, Value.cells, scalar] at hs
  | iface _ _ => simp [cellsOf, Value.cells, scalar] at hs
  | nilIface => simp [cellsOf, Value.cells, scalar] at hs
  | bool b => have := (VS.oneCell (ρ := ρ) (x := .bool b) rfl h).1; rw [this]; exact ⟨h, trivial⟩
  | int k n => have := (VS.oneCell (ρ := ρ) (x := .int k n) rfl h).1; rw [this]; exact ⟨h, trivial⟩
  | string s => have := (VS.oneCell (ρ := ρ) (x := .string s) rfl h).1; rw [this]; exact ⟨h, trivial⟩
  | nilFunc => have := (VS.oneCell (ρ := ρ) (x := .nilFunc) rfl h).1; rw [this]; exact ⟨h, trivial⟩
  | pointer a => have := (VS.oneCell (ρ := ρ) (x := .pointer a) rfl h).1; rw [this]; exact ⟨h, trivial⟩
  | slice a l c => have := (VS.oneCell (ρ := ρ) (x := .slice a l c) rfl h).1; rw [this]; exact ⟨h, trivial⟩

/-! ### A row of the heap and a block of the memory -/
structure RowOk (ρ : Rho) (w : World) (l : Loc) (r : Row) : Prop where
  ok : ∃ c e fr, w.heap[l.block]? = some (.cells c e fr) ∧ (∀ j v, r.cells[j]? = some v → ∃ v', c[l.base + j]? = some v' ∧ VS ρ v v') ∧ l.own = r.own ∧ (l.own = true → fr = (0, 0) ∧ l.base = 0 ∧ c.size = l.cells ∧ r.esz = l.esz)
theorem RowOk.mono {ρ ρ' : Rho} {w : World} {l : Loc} {r : Row} (h : RowOk ρ w l r) (hm : ρ.le ρ') : RowOk ρ' w l r := by
  obtain ⟨c, e, fr, h1, h2, h3⟩ := h.ok
  exact ⟨c, e, fr, h1, fun j v hv => let ⟨v', k1, k2⟩ := h2 j v hv; ⟨v', k1, k2.mono hm⟩, h3⟩
theorem RowOk.block {ρ : Rho} {w w' : World} {l : Loc} {r : Row} (h : RowOk ρ w l r) (hb : w'.heap[l.block]? = w.heap[l.block]?) : RowOk ρ w' l r := by
  obtain ⟨c, e, fr, h1, h2, h3⟩ := h.ok
  exact ⟨c, e, fr, hb.trans h1, h2, h3⟩
theorem RowOk.cell {ρ : Rho} {w : World} {l : Loc} {r : Row} (h : RowOk ρ w l r) {j : Nat} {v : Value} (hj : r.cells[j]? = some v) : ∃ v', w.cell? ⟨l.block, l.base + j, none⟩ = some v' ∧ VS ρ v v' := by
  obtain ⟨c, e, fr, h1, h2, _⟩ := h.ok
  obtain ⟨v', k1, k2⟩ := h2 j v hj
  exact ⟨v', by simp [World.cell?, h1, k1], k2⟩
structure Rel (ρ : Rho) (H : Heap) (w : World) : Prop where
  rows : ∀ id l r, ρ id = some l → readRow H id = some r → RowOk ρ w l r
  inj : ∀ i j li lj ri rj, ρ i = some li → ρ j = some lj → readRow H i = some ri → readRow H j = some rj → i ≠ j → li.own = true → li.block ≠ lj.block
  lt : ∀ id l, ρ id = some l → l.block < w.heap.size
  dom : ∀ id, H.length ≤ id → ρ id = none
  zero : ρ 0 = none
  pos : 0 < H.length
/-- What a step of the run does to the memory, told of the rows that the heap ahead of it holds. -/
structure Stp (ρ : Rho) (H : Heap) (w : World) (ρ' : Rho) (H' : Heap) (w' : World) : Prop where
  rel : Rel ρ' H' w'
  old : ∀ id, id < H.length → ρ' id = ρ id
  new : ∀ id l, H.length ≤ id → ρ' id = some l → l.own = true ∧ (w.heap.size ≤ l.block ∨ ∃ i li ri, ρ i = some li ∧ readRow H i = some ri ∧ li.own = true ∧ li.block = l.block ∧ readRow H' i = none)
  frame : ∀ b, b < w.heap.size → (∀ i li ri, ρ i = some li → readRow H i = some ri → li.own = true → li.block ≠ b) → w'.heap[b]? = w.heap[b]?
  os : w'.os = w.os
  tape : w'.tape = w.tape
  output : w'.output = w.output
  size : w.heap.size ≤ w'.heap.size
  len : H.length ≤ H'.length
  dead : ∀ id, id < H.length → readRow H id = none → readRow H' id = none
theorem readRow_lt {H : Heap} {id : Nat} {r : Row} (h : readRow H id = some r) : id < H.length := by
  unfold readRow at h
  rcases Nat.lt_or_ge id H.length with k | k
  · exact k
  · simp [List.getElem?_eq_none k] at h
theorem Stp.refl {ρ : Rho} {H : Heap} {w : World} (h : Rel ρ H w) : Stp ρ H w ρ H w :=
  ⟨h, fun _ _ => rfl, fun id l hi hl => (by rw [h.dom id hi] at hl; cases hl), fun _ _ _ => rfl, rfl, rfl, rfl, Nat.le_refl _, Nat.le_refl _, fun _ _ h => h⟩
theorem Stp.le {ρ ρ' : Rho} {H H' : Heap} {w w' : World} (h : Stp ρ H w ρ' H' w') (hr : Rel ρ H w) : ρ.le ρ' := fun id l hl => by
  rcases Nat.lt_or_ge id H.length with k | k
  · rw [h.old id k]; exact hl
  · rw [hr.dom id k] at hl; cases hl
theorem Stp.trans {ρ ρ₁ ρ₂ : Rho} {H H₁ H₂ : Heap} {w w₁ w₂ : World} (hr : Rel ρ H w) (h : Stp ρ H w ρ₁ H₁ w₁) (k : Stp ρ₁ H₁ w₁ ρ₂ H₂ w₂) : Stp ρ H w ρ₂ H₂ w₂ := by
  have hle := h.le hr
  refine ⟨k.rel, fun id hi => (k.old id (Nat.lt_of_lt_of_le hi h.len)).trans (h.old id hi), fun id l hi hl => ?_, fun b hb hn => ?_, k.os.trans h.os, k.tape.trans h.tape, k.output.trans h.output, Nat.le_trans h.size k.size, Nat.le_trans h.len k.len,
    fun id hi hd => k.dead id (Nat.lt_of_lt_of_le hi h.len) (h.dead id hi hd)⟩
  · rcases Nat.lt_or_ge id H₁.length with h1 | h1
    · rw [k.old id h1] at hl
      obtain ⟨ho, hb⟩ := h.new id l hi hl
      refine ⟨ho, hb.imp (fun x => x) ?_⟩
      rintro ⟨i, li, ri, x1, x2, x3, x4, x5⟩
      exact ⟨i, li, ri, x1, x2, x3, x4, k.dead i (Nat.lt_of_lt_of_le (readRow_lt x2) h.len) x5⟩
    · obtain ⟨ho, hb⟩ := k.new id l h1 hl
      refine ⟨ho, ?_⟩
      rcases hb with hb | ⟨i, li, ri, x1, x2, x3, x4, x5⟩
      · exact .inl (Nat.le_trans h.size hb)
      · rcases Nat.lt_or_ge i H.length with h2 | h2
        · rw [h.old i h2] at x1
          have : ∃ r0, readRow H i = some r0 := by
            cases hx : readRow H i with
            | some r0 => exact ⟨r0, rfl⟩
            | none => rw [h.dead i h2 hx] at x2; cases x2
          obtain ⟨r0, hr0⟩ := this
          exact .inr ⟨i, li, r0, x1, hr0, x3, x4, x5⟩
        · obtain ⟨_, hb⟩ := h.new i li h2 x1
          rcases hb with hb | ⟨j, lj, rj, y1, y2, y3, y4, y5⟩
          · exact .inl (x4 ▸ hb)
          · exact .inr ⟨j, lj, rj, y1, y2, y3, y4.trans x4, k.dead j (Nat.lt_of_lt_of_le (readRow_lt y2) h.len) y5⟩
  · have e1 := h.frame b hb hn
    rw [← e1]
    refine k.frame b (Nat.lt_of_lt_of_le hb h.size) fun i li ri x1 x2 x3 x4 => ?_
    rcases Nat.lt_or_ge i H.length with h2 | h2
    · rw [h.old i h2] at x1
      cases hx : readRow H i with
      | some r0 => exact hn i li r0 x1 hx x3 x4
      | none => rw [h.dead i h2 hx] at x2; cases x2
    · obtain ⟨_, hb'⟩ := h.new i li h2 x1
      rcases hb' with hb' | ⟨j, lj, rj, y1, y2, y3, y4, _⟩
      · omega
      · exact hn j lj rj y1 y2 y3 (y4.trans x4)
end Go.Proofs.Ytmbikamebhoelaa.Ai
