/- Values as data: what a function's text does, told over lists and numbers, local rows apart. No condition. -/
import Derived.Test.YtmbikamebhoelaaAi2
set_option linter.unusedVariables false
set_option linter.unusedSimpArgs false
namespace Go.Proofs.Ytmbikamebhoelaa.Ai.Av
open Go

/-- A value as data. 'sl': a slice that is only read, its rows of 'w' cells each; 'ref', 'ptr': into a row that the run may write; 'vp': where cells lie that are only read; 'any': whatever it is. -/
inductive D where
  | int (k : IntKind) (n : Int)
  | bool (b : Bool)
  | str (s : ByteArray)
  | nil
  | sl (w : Nat) (rows : List (List D))
  | ref (id off len : Nat)
  | ptr (id off : Nat)
  | vp (cells : List D)
  | agg (cells : List D)
  | tup (vs : List D)
  | fn (f : FuncId) (caps : List D)
  | nilf
  | any
  deriving Inhabited
structure VRow where
  cells : List D
  esz : Nat
abbrev HV := List (Option VRow)
abbrev FrV := Tmp → D
def readV (hv : HV) (id : Nat) : Option VRow := (hv[id]?).join

/-- Which rows of the plain heap are only read, which rows the written ones are, how many of those there are. -/
structure Cx where
  Z : Nat → Prop
  μ : Nat → Nat
  n : Nat

/-- As data alone: no row that may be written. -/
def Cx.im (c : Cx) : Cx := ⟨c.Z, c.μ, 0⟩
mutual
def RD (c : Cx) (H : Heap) : D → Value → Prop
  | .int k n, v => v = .int k n
  | .bool b, v => v = .bool b
  | .str s, v => v = .string s
  | .nil, v => v = nilS
  | .sl w rows, v => ∃ id off, v = sl id off rows.length ∧ (rows = [] ∨ (c.Z id ∧ ∃ r, readRow H id = some r ∧ RRows c.im H w rows (r.cells.drop off)))
  | .ref id off len, v => id < c.n ∧ v = sl (c.μ id) off len
  | .ptr id off, v => id < c.n ∧ v = pt (c.μ id) off
  | .vp cs, v => ∃ id off r a b, v = pt id off ∧ c.Z id ∧ readRow H id = some r ∧ off ≤ r.cells.length ∧ r.cells.drop off = a ++ b ∧ RCells c.im H cs a
  | .agg cs, v => ∃ vs, v = .agg vs.toArray ∧ RCells c H cs vs
  | .tup ds, v => ∃ vs, v = .tuple vs.toArray ∧ RCells c H ds vs
  | .fn f caps, v => ∃ vs, v = .func (.func f) #[] vs.toArray ∧ RCells c H caps vs
  | .nilf, v => v = .nilFunc
  | .any, _ => True
def RCells (c : Cx) (H : Heap) : List D → List Value → Prop
  | [], vs => vs = []
  | d :: ds, vs => ∃ v vs', vs = v :: vs' ∧ RD c H d v ∧ RCells c H ds vs'
def RRows (c : Cx) (H : Heap) (w : Nat) : List (List D) → List Value → Prop
  | [], vs => True
  | r :: rs, vs => ∃ a b, vs = a ++ b ∧ a.length = w ∧ RCells c H r a ∧ RRows c H w rs b
end

/-! ### Lists of cells -/
section
variable {c : Cx} {H : Heap}
theorem RCells.length : ∀ {ds : List D} {vs : List Value}, RCells c H ds vs → vs.length = ds.length
  | [], vs, h => by simp only [RCells] at h; simp [h]
  | d :: ds, vs, h => by
    simp only [RCells] at h
    obtain ⟨v, vs', rfl, _, h⟩ := h
    simp [RCells.length h]
theorem RCells.get : ∀ {ds : List D} {vs : List Value} {i : Nat} {d : D}, RCells c H ds vs → ds[i]? = some d → ∃ v, vs[i]? = some v ∧ RD c H d v
  | [], vs, i, d, h, hi => by simp at hi
  | d0 :: ds, vs, i, d, h, hi => by
    simp only [RCells] at h
    obtain ⟨v, vs', rfl, h1, h2⟩ := h
    cases i with
    | zero => simp at hi; subst hi; exact ⟨v, rfl, h1⟩
    | succ i => simp at hi; obtain ⟨v', k1, k2⟩ := RCells.get h2 hi; exact ⟨v', by simpa using k1, k2⟩
theorem RCells.of_get : ∀ {ds : List D} {vs : List Value}, vs.length = ds.length → (∀ (i : Nat) (d : D) (v : Value), ds[i]? = some d → vs[i]? = some v → RD c H d v) → RCells c H ds vs
  | [], vs, hl, _ => by simp only [RCells]; exact List.length_eq_zero_iff.1 (by simpa using hl)
  | d :: ds, [], hl, _ => by simp at hl
  | d :: ds, v :: vs, hl, h => by
    simp only [RCells]
    exact ⟨v, vs, rfl, h 0 d v rfl rfl, RCells.of_get (by simpa using hl) fun i d' v' h1 h2 => h (i + 1) d' v' (by simpa using h1) (by simpa using h2)⟩
theorem RCells.append : ∀ {ds es : List D} {vs us : List Value}, RCells c H ds vs → RCells c H es us → RCells c H (ds ++ es) (vs ++ us)
  | [], es, vs, us, h, k => by simp only [RCells] at h; subst h; simpa using k
  | d :: ds, es, vs, us, h, k => by
    simp only [RCells] at h
    obtain ⟨v, vs', rfl, h1, h2⟩ := h
    simp only [List.cons_append, RCells]
    exact ⟨v, _, rfl, h1, h2.append k⟩
theorem RCells.split : ∀ {ds es : List D} {vs : List Value}, RCells c H (ds ++ es) vs → ∃ a b, vs = a ++ b ∧ RCells c H ds a ∧ RCells c H es b
  | [], es, vs, h => ⟨[], vs, rfl, by simp only [RCells], by simpa using h⟩
  | d :: ds, es, vs, h => by
    simp only [List.cons_append, RCells] at h
    obtain ⟨v, vs', rfl, h1, h2⟩ := h
    obtain ⟨a, b, rfl, k1, k2⟩ := RCells.split h2
    exact ⟨v :: a, b, rfl, by simp only [RCells]; exact ⟨v, a, rfl, h1, k1⟩, k2⟩
theorem RCells.take {ds : List D} {vs : List Value} (n : Nat) (h : RCells c H ds vs) : RCells c H (ds.take n) (vs.take n) := by
  refine .of_get (by simp [h.length]) fun i d v h1 h2 => ?_
  rw [List.getElem?_take] at h1 h2
  split at h1
  · rw [if_pos (by assumption)] at h2
    obtain ⟨v', k1, k2⟩ := h.get h1
    rw [k1] at h2; cases h2; exact k2
  · cases h1
theorem RCells.drop {ds : List D} {vs : List Value} (n : Nat) (h : RCells c H ds vs) : RCells c H (ds.drop n) (vs.drop n) := by
  refine .of_get (by simp [h.length]) fun i d v h1 h2 => ?_
  rw [List.getElem?_drop] at h1 h2
  obtain ⟨v', k1, k2⟩ := h.get h1
  rw [k1] at h2; cases h2; exact k2
theorem RCells.nil : RCells c H [] [] := by simp only [RCells]
theorem RCells.cons {d : D} {v : Value} {ds : List D} {vs : List Value} (h : RD c H d v) (k : RCells c H ds vs) : RCells c H (d :: ds) (v :: vs) := by simp only [RCells]; exact ⟨v, vs, rfl, h, k⟩
theorem RCells.one {d : D} {v : Value} (h : RD c H d v) : RCells c H [d] [v] := .cons h .nil
theorem RCells.replicate {ds : List D} {vs : List Value} (h : RCells c H ds vs) : ∀ n, RCells c H (List.replicate n ds).flatten (List.replicate n vs).flatten
  | 0 => by simp only [List.replicate_zero, List.flatten_nil]; exact .nil
  | n + 1 => by simp only [List.replicate_succ, List.flatten_cons]; exact h.append (h.replicate n)
theorem RRows.get {w : Nat} : ∀ {rs : List (List D)} {vs : List Value} {i : Nat} {r : List D}, RRows c H w rs vs → rs[i]? = some r → ∃ a b, vs.drop (i * w) = a ++ b ∧ a.length = w ∧ RCells c H r a
  | [], vs, i, r, h, hi => by simp at hi
  | r0 :: rs, vs, i, r, h, hi => by
    simp only [RRows] at h
    obtain ⟨a, b, rfl, h0, h1, h2⟩ := h
    cases i with
    | zero => simp at hi; subst hi; exact ⟨a, b, by simp, h0, h1⟩
    | succ i =>
      simp at hi
      obtain ⟨a', b', k1, k2, k3⟩ := RRows.get h2 hi
      refine ⟨a', b', ?_, k2, k3⟩
      rw [← k1, List.drop_append, List.drop_eq_nil_of_le (by rw [h0, Nat.succ_mul]; omega), List.nil_append, h0]
      congr 1
      rw [Nat.succ_mul]; omega
theorem RRows.cells {w : Nat} : ∀ {rs : List (List D)} {vs : List Value}, RRows c H w rs vs → ∃ a b, vs = a ++ b ∧ a.length = rs.length * w ∧ RCells c H rs.flatten a
  | [], vs, h => ⟨[], vs, rfl, by simp, by simp only [List.flatten_nil]; exact .nil⟩
  | r :: rs, vs, h => by
    simp only [RRows] at h
    obtain ⟨a, b, rfl, h0, h1, h2⟩ := h
    obtain ⟨a', b', rfl, k0, k1⟩ := RRows.cells h2
    exact ⟨a ++ a', b', by simp, by simp [h0, k0, Nat.succ_mul]; omega, by simp only [List.flatten_cons]; exact h1.append k1⟩
theorem RRows.drop {w : Nat} : ∀ {rs : List (List D)} {vs : List Value} (n : Nat), RRows c H w rs vs → RRows c H w (rs.drop n) (vs.drop (n * w))
  | rs, vs, 0, h => by simpa using h
  | [], vs, n + 1, h => by simp only [List.drop_nil, RRows]
  | r :: rs, vs, n + 1, h => by
    simp only [RRows] at h
    obtain ⟨a, b, rfl, h0, h1, h2⟩ := h
    have := h2.drop n
    have e : (a ++ b).drop ((n + 1) * w) = b.drop (n * w) := by
      rw [List.drop_append, List.drop_eq_nil_of_le (by rw [h0, Nat.succ_mul]; omega), List.nil_append, h0, show (n + 1) * w - w = n * w by rw [Nat.succ_mul]; omega]
    rw [List.drop_succ_cons, e]
    exact this
theorem RRows.take {w : Nat} : ∀ {rs : List (List D)} {vs : List Value} (n : Nat), RRows c H w rs vs → RRows c H w (rs.take n) vs
  | rs, vs, 0, h => by simp only [List.take_zero, RRows]
  | [], vs, n + 1, h => by simp only [List.take_nil, RRows]
  | r :: rs, vs, n + 1, h => by
    simp only [RRows] at h
    obtain ⟨a, b, rfl, h0, h1, h2⟩ := h
    simp only [List.take_succ_cons, RRows]
    exact ⟨a, b, rfl, h0, h1, h2.take n⟩
theorem RRows.of_cells {w : Nat} : ∀ {rs : List (List D)} {vs : List Value} {b : List Value}, (∀ r ∈ rs, r.length = w) → RCells c H rs.flatten vs → RRows c H w rs (vs ++ b)
  | [], vs, b, _, h => by simp only [RRows]
  | r :: rs, vs, b, hw, h => by
    simp only [List.flatten_cons] at h
    obtain ⟨a1, a2, rfl, h1, h2⟩ := RCells.split h
    simp only [RRows]
    exact ⟨a1, a2 ++ b, by simp, by rw [h1.length]; exact hw r (by simp), h1, RRows.of_cells (fun r' hr => hw r' (by simp [hr])) h2⟩
end

/-! ### What stays when more rows are only read -/
mutual
theorem RD.mono {c c' : Cx} {H H' : Heap} (hz : ∀ id, c.Z id → c'.Z id) (hr : ∀ id, c.Z id → readRow H' id = readRow H id) (hm : ∀ i, i < c.n → c'.μ i = c.μ i) (hn : c.n ≤ c'.n) : ∀ {d : D} {v : Value}, RD c H d v → RD c' H' d v
  | .int k n, v, h => by simp only [RD] at h ⊢; exact h
  | .bool b, v, h => by simp only [RD] at h ⊢; exact h
  | .str s, v, h => by simp only [RD] at h ⊢; exact h
  | .nil, v, h => by simp only [RD] at h ⊢; exact h
  | .sl w rows, v, h => by
    simp only [RD] at h ⊢
    obtain ⟨id, off, rfl, h⟩ := h
    refine ⟨id, off, rfl, h.imp (fun x => x) ?_⟩
    rintro ⟨k1, r, k2, k3⟩
    exact ⟨hz id k1, r, by rw [hr id k1]; exact k2, RRows.mono (c := c.im) (c' := c'.im) hz hr (fun i hi => absurd hi (Nat.not_lt_zero _)) (Nat.le_refl 0) k3⟩
  | .ref id off len, v, h => by simp only [RD] at h ⊢; exact ⟨by omega, by rw [hm id h.1]; exact h.2⟩
  | .ptr id off, v, h => by simp only [RD] at h ⊢; exact ⟨by omega, by rw [hm id h.1]; exact h.2⟩
  | .vp cs, v, h => by
    simp only [RD] at h ⊢
    obtain ⟨id, off, r, a, b, rfl, k1, k2, k0, k3, k4⟩ := h
    exact ⟨id, off, r, a, b, rfl, hz id k1, by rw [hr id k1]; exact k2, k0, k3, RCells.mono (c := c.im) (c' := c'.im) hz hr (fun i hi => absurd hi (Nat.not_lt_zero _)) (Nat.le_refl 0) k4⟩
  | .agg cs, v, h => by
    simp only [RD] at h ⊢
    obtain ⟨vs, rfl, h⟩ := h
    exact ⟨vs, rfl, RCells.mono hz hr hm hn h⟩
  | .tup ds, v, h => by
    simp only [RD] at h ⊢
    obtain ⟨vs, rfl, h⟩ := h
    exact ⟨vs, rfl, RCells.mono hz hr hm hn h⟩
  | .fn f caps, v, h => by
    simp only [RD] at h ⊢
    obtain ⟨vs, rfl, h⟩ := h
    exact ⟨vs, rfl, RCells.mono hz hr hm hn h⟩
  | .nilf, v, h => by simp only [RD] at h ⊢; exact h
  | .any, v, h => by simp only [RD]
theorem RCells.mono {c c' : Cx} {H H' : Heap} (hz : ∀ id, c.Z id → c'.Z id) (hr : ∀ id, c.Z id → readRow H' id = readRow H id) (hm : ∀ i, i < c.n → c'.μ i = c.μ i) (hn : c.n ≤ c'.n) : ∀ {ds : List D} {vs : List Value}, RCells c H ds vs → RCells c' H' ds vs
  | [], vs, h => by simp only [RCells] at h ⊢; exact h
  | d :: ds, vs, h => by
    simp only [RCells] at h ⊢
    obtain ⟨v, vs', rfl, h1, h2⟩ := h
    exact ⟨v, vs', rfl, RD.mono hz hr hm hn h1, RCells.mono hz hr hm hn h2⟩
theorem RRows.mono {c c' : Cx} {H H' : Heap} (hz : ∀ id, c.Z id → c'.Z id) (hr : ∀ id, c.Z id → readRow H' id = readRow H id) (hm : ∀ i, i < c.n → c'.μ i = c.μ i) (hn : c.n ≤ c'.n) {w : Nat} : ∀ {rs : List (List D)} {vs : List Value}, RRows c H w rs vs → RRows c' H' w rs vs
  | [], vs, h => by simp only [RRows]
  | r :: rs, vs, h => by
    simp only [RRows] at h ⊢
    obtain ⟨a, b, rfl, h0, h1, h2⟩ := h
    exact ⟨a, b, rfl, h0, RCells.mono hz hr hm hn h1, RRows.mono hz hr hm hn h2⟩
end

theorem RD.im {c : Cx} {H : Heap} {d : D} {v : Value} (h : RD c.im H d v) : RD c H d v := RD.mono (c := c.im) (c' := c) (fun _ k => k) (fun _ _ => rfl) (fun i hi => absurd hi (Nat.not_lt_zero _)) (Nat.zero_le _) h
theorem RCells.im {c : Cx} {H : Heap} {d : List D} {v : List Value} (h : RCells c.im H d v) : RCells c H d v := RCells.mono (c := c.im) (c' := c) (fun _ k => k) (fun _ _ => rfl) (fun i hi => absurd hi (Nat.not_lt_zero _)) (Nat.zero_le _) h

/-! ### The two heaps -/
structure HR (c : Cx) (hv : HV) (H : Heap) : Prop where
  row : ∀ i r, readV hv i = some r → ∃ rp, readRow H (c.μ i) = some rp ∧ rp.own = true ∧ rp.esz = r.esz ∧ RCells c H r.cells rp.cells
  inj : ∀ i j r s, readV hv i = some r → readV hv j = some s → c.μ i = c.μ j → i = j
  dis : ∀ i r, readV hv i = some r → ¬ c.Z (c.μ i)
  zin : ∀ id, c.Z id → ∃ r, readRow H id = some r
  n : c.n = hv.length
  row0 : readRow H 0 = none
  pos : 0 < H.length

/-- What a run leaves: rows that are only read are as they were, no other row but the written ones is touched. -/
structure Sp (c : Cx) (hv : HV) (H : Heap) (c' : Cx) (hv' : HV) (H' : Heap) : Prop where
  z : ∀ id, c.Z id → c'.Z id
  zrow : ∀ id, c.Z id → readRow H' id = readRow H id
  mu : ∀ i, i < c.n → c'.μ i = c.μ i
  n : c.n ≤ c'.n
  len : H.length ≤ H'.length
  oth : ∀ id, id < H.length → (∀ i r, readV hv i = some r → c.μ i ≠ id) → readRow H' id = readRow H id ∧ (c'.Z id → c.Z id)
  loc : ∀ i r, c.n ≤ i → readV hv' i = some r → H.length ≤ c'.μ i
  res : ∀ i r, i < c.n → readV hv' i = some r → ∃ s, readV hv i = some s

theorem readV_lt {hv : HV} {i : Nat} {r : VRow} (h : readV hv i = some r) : i < hv.length := by
  unfold readV at h
  rcases Nat.lt_or_ge i hv.length with q | q
  · exact q
  · simp [List.getElem?_eq_none q] at h
theorem readRow_lt {H : Heap} {i : Nat} {r : Row} (h : readRow H i = some r) : i < H.length := by
  unfold readRow at h
  rcases Nat.lt_or_ge i H.length with q | q
  · exact q
  · simp [List.getElem?_eq_none q] at h
theorem Sp.refl {c : Cx} {hv : HV} {H : Heap} (h : HR c hv H) : Sp c hv H c hv H :=
  ⟨fun _ h => h, fun _ _ => rfl, fun _ _ => rfl, Nat.le_refl _, Nat.le_refl _, fun _ _ _ => ⟨rfl, fun h => h⟩, fun i r hi hr => by have := readV_lt hr; rw [← h.n] at this; omega, fun i r _ hr => ⟨r, hr⟩⟩
theorem Sp.trans {c c1 c2 : Cx} {hv hv1 hv2 : HV} {H H1 H2 : Heap} (h : Sp c hv H c1 hv1 H1) (k : Sp c1 hv1 H1 c2 hv2 H2) : Sp c hv H c2 hv2 H2 := by
  refine ⟨fun id hz => k.z id (h.z id hz), fun id hz => (k.zrow id (h.z id hz)).trans (h.zrow id hz), fun i hi => (k.mu i (Nat.lt_of_lt_of_le hi h.n)).trans (h.mu i hi), Nat.le_trans h.n k.n, Nat.le_trans h.len k.len, ?_, ?_, ?_⟩
  · intro id hid ho
    have h1 := h.oth id hid ho
    have h2 := k.oth id (Nat.lt_of_lt_of_le hid h.len) fun i r hr => by
      rcases Nat.lt_or_ge i c.n with q | q
      · obtain ⟨s, hs⟩ := h.res i r q hr
        rw [h.mu i q]; exact ho i s hs
      · have := h.loc i r q hr; omega
    exact ⟨h2.1.trans h1.1, fun z => h1.2 (h2.2 z)⟩
  · intro i r hi hr
    rcases Nat.lt_or_ge i c1.n with q | q
    · obtain ⟨s, hs⟩ := k.res i r q hr
      rw [k.mu i q]; exact h.loc i s hi hs
    · exact Nat.le_trans h.len (k.loc i r q hr)
  · intro i r hi hr
    obtain ⟨s, hs⟩ := k.res i r (Nat.lt_of_lt_of_le hi h.n) hr
    exact h.res i s hi hs
theorem Sp.rd {c c' : Cx} {hv hv' : HV} {H H' : Heap} (h : Sp c hv H c' hv' H') {d : D} {v : Value} (k : RD c H d v) : RD c' H' d v := k.mono h.z h.zrow h.mu h.n
theorem Sp.cells {c c' : Cx} {hv hv' : HV} {H H' : Heap} (h : Sp c hv H c' hv' H') {ds : List D} {vs : List Value} (k : RCells c H ds vs) : RCells c' H' ds vs := k.mono h.z h.zrow h.mu h.n
end Go.Proofs.Ytmbikamebhoelaa.Ai.Av
