/- Functions over data: what they come to; rows made for the result; rows lent to a call. No condition. -/
import Derived.Test.YtmbikamebhoelaaV4
set_option linter.unusedVariables false
set_option linter.unusedSimpArgs false
namespace Go.Proofs.Ytmbikamebhoelaa.Ai.Av
open Go

/-! ### Heaps that only grow -/
structure ExtV (hv hv' : HV) : Prop where
  len : hv.length ≤ hv'.length
  row : ∀ i, i < hv.length → readV hv' i = readV hv i
theorem ExtV.refl (hv : HV) : ExtV hv hv := ⟨Nat.le_refl _, fun _ _ => rfl⟩
theorem ExtV.trans {a b d : HV} (h : ExtV a b) (k : ExtV b d) : ExtV a d := ⟨Nat.le_trans h.len k.len, fun i hi => (k.row i (Nat.lt_of_lt_of_le hi h.len)).trans (h.row i hi)⟩
theorem length_newV (hv : HV) (c : List D) (e : Nat) : (newV hv c e).length = hv.length + 1 := by simp [newV]
theorem length_setV (hv : HV) (i : Nat) (c : List D) (e : Nat) : (setV hv i c e).length = hv.length := by simp [setV]
theorem length_killV (hv : HV) (i : Nat) : (killV hv i).length = hv.length := by simp [killV]
theorem readV_new_lt {hv : HV} {c : List D} {e i : Nat} (h : i < hv.length) : readV (newV hv c e) i = readV hv i := by rw [readV_new, if_neg (by omega)]
theorem readV_new_eq {hv : HV} {c : List D} {e i : Nat} (h : i = hv.length) : readV (newV hv c e) i = some ⟨c, e⟩ := by rw [readV_new, if_pos h]
theorem readV_set_ne {hv : HV} {c : List D} {e i j : Nat} (h : j ≠ i) : readV (setV hv i c e) j = readV hv j := by
  unfold readV setV; rw [List.getElem?_set_ne (Ne.symm h)]
theorem readV_set_eq {hv : HV} {c : List D} {e i j : Nat} (h : j = i) (hl : i < hv.length) : readV (setV hv i c e) j = some ⟨c, e⟩ := by
  subst h; unfold readV setV; simp [hl]
theorem readV_kill_ne {hv : HV} {i j : Nat} (h : j ≠ i) : readV (killV hv i) j = readV hv j := by
  unfold readV killV; rw [List.getElem?_set_ne (Ne.symm h)]
theorem ExtV.new {a b : HV} (h : ExtV a b) (c : List D) (e : Nat) : ExtV a (newV b c e) := ⟨by rw [length_newV]; have := h.len; omega, fun i hi => by rw [readV_new_lt (Nat.lt_of_lt_of_le hi h.len)]; exact h.row i hi⟩
theorem ExtV.set {a b : HV} (h : ExtV a b) {i : Nat} (hi : a.length ≤ i) (c : List D) (e : Nat) : ExtV a (setV b i c e) := ⟨by rw [length_setV]; exact h.len, fun j hj => by rw [readV_set_ne (by omega)]; exact h.row j hj⟩
theorem ExtV.kill {a b : HV} (h : ExtV a b) {i : Nat} (hi : a.length ≤ i) : ExtV a (killV b i) := ⟨by rw [length_killV]; exact h.len, fun j hj => by rw [readV_kill_ne (by omega)]; exact h.row j hj⟩
theorem ExtV.lt {a b : HV} (h : ExtV a b) {i : Nat} (hi : i < a.length) : i < b.length := Nat.lt_of_lt_of_le hi h.len

/-! ### Rows that hold data -/
mutual
/-- The second stands for the data of the first, by the rows from n0 on. -/
def Deep (n0 : Nat) (hv : HV) : D → D → Prop
  | .int k n, s => s = .int k n
  | .bool b, s => s = .bool b
  | .str t, s => s = .str t
  | .nil, s => s = .nil
  | .sl w rows, s => s = .sl w rows ∨ (rows = [] ∧ (s = .nil ∨ ∃ id off, s = .ref id off 0)) ∨ ∃ id off r, n0 ≤ id ∧ s = .ref id off rows.length ∧ readV hv id = some r ∧ DeepRows n0 hv w rows (r.cells.drop off)
  | .ref _ _ _, _ => False
  | .ptr _ _, _ => False
  | .vp cs, s => s = .vp cs
  | .agg cs, s => ∃ ss, s = .agg ss ∧ DeepCells n0 hv cs ss
  | .tup cs, s => ∃ ss, s = .tup ss ∧ DeepCells n0 hv cs ss
  | .fn f cs, s => ∃ ss, s = .fn f ss ∧ DeepCells n0 hv cs ss
  | .nilf, s => s = .nilf
  | .any, _ => True
def DeepCells (n0 : Nat) (hv : HV) : List D → List D → Prop
  | [], ss => ss = []
  | d :: ds, ss => ∃ s ss', ss = s :: ss' ∧ Deep n0 hv d s ∧ DeepCells n0 hv ds ss'
def DeepRows (n0 : Nat) (hv : HV) (w : Nat) : List (List D) → List D → Prop
  | [], _ => True
  | r :: rs, ss => ∃ a b, ss = a ++ b ∧ a.length = w ∧ DeepCells n0 hv r a ∧ DeepRows n0 hv w rs b
end
/-- The rows from n0 on are only read from now on. -/
def Cx.fz (c : Cx) (n0 : Nat) (hv : HV) : Cx := ⟨fun id => c.Z id ∨ ∃ i r, n0 ≤ i ∧ readV hv i = some r ∧ c.μ i = id, c.μ, n0⟩
mutual
theorem Deep.rd {c : Cx} {hv : HV} {H : Heap} {n0 : Nat} (hr : HR c hv H) : ∀ {d s : D} {v : Value}, Deep n0 hv d s → RD c H s v → RD (c.fz n0 hv).im H d v
  | .int k n, s, v, h, k' => by simp only [Deep] at h; subst h; simp only [RD] at k' ⊢; exact k'
  | .bool b, s, v, h, k' => by simp only [Deep] at h; subst h; simp only [RD] at k' ⊢; exact k'
  | .str t, s, v, h, k' => by simp only [Deep] at h; subst h; simp only [RD] at k' ⊢; exact k'
  | .nil, s, v, h, k' => by simp only [Deep] at h; subst h; simp only [RD] at k' ⊢; exact k'
  | .sl w rows, s, v, h, k' => by
    simp only [Deep] at h
    rcases h with rfl | ⟨rfl, rfl | ⟨id, off, rfl⟩⟩ | ⟨id, off, r, h0, rfl, h1, h2⟩
    · simp only [RD] at k' ⊢
      obtain ⟨id, off, rfl, k'⟩ := k'
      refine ⟨id, off, rfl, k'.imp (fun x => x) ?_⟩
      rintro ⟨q1, r, q2, q3⟩
      exact ⟨.inl q1, r, q2, RRows.mono (c := c.im) (c' := (c.fz n0 hv).im) (fun _ h => Or.inl h) (fun _ _ => rfl) (fun _ _ => rfl) (Nat.le_refl _) q3⟩
    · unfold RD at k' ⊢; exact ⟨0, 0, k', .inl rfl⟩
    · unfold RD at k' ⊢; obtain ⟨_, rfl⟩ := k'; exact ⟨_, _, rfl, .inl rfl⟩
    · simp only [RD] at k' ⊢
      obtain ⟨_, rfl⟩ := k'
      obtain ⟨rp, q1, q2, q3, q4⟩ := hr.row id r h1
      exact ⟨_, _, rfl, .inr ⟨.inr ⟨id, r, h0, h1, rfl⟩, rp, q1, DeepRows.rd hr h2 (q4.drop off)⟩⟩
  | .ref _ _ _, s, v, h, k' => by simp only [Deep] at h
  | .ptr _ _, s, v, h, k' => by simp only [Deep] at h
  | .vp cs, s, v, h, k' => by
    simp only [Deep] at h; subst h
    simp only [RD] at k' ⊢
    obtain ⟨id, off, r, a, b, rfl, q1, q2, q0, q3, q4⟩ := k'
    exact ⟨id, off, r, a, b, rfl, .inl q1, q2, q0, q3, RCells.mono (c := c.im) (c' := (c.fz n0 hv).im) (fun _ h => Or.inl h) (fun _ _ => rfl) (fun _ _ => rfl) (Nat.le_refl _) q4⟩
  | .agg cs, s, v, h, k' => by
    simp only [Deep] at h
    obtain ⟨ss, rfl, h⟩ := h
    simp only [RD] at k' ⊢
    obtain ⟨vs, rfl, k'⟩ := k'
    exact ⟨vs, rfl, DeepCells.rd hr h k'⟩
  | .tup cs, s, v, h, k' => by
    simp only [Deep] at h
    obtain ⟨ss, rfl, h⟩ := h
    simp only [RD] at k' ⊢
    obtain ⟨vs, rfl, k'⟩ := k'
    exact ⟨vs, rfl, DeepCells.rd hr h k'⟩
  | .fn f cs, s, v, h, k' => by
    simp only [Deep] at h
    obtain ⟨ss, rfl, h⟩ := h
    simp only [RD] at k' ⊢
    obtain ⟨vs, rfl, k'⟩ := k'
    exact ⟨vs, rfl, DeepCells.rd hr h k'⟩
  | .nilf, s, v, h, k' => by simp only [Deep] at h; subst h; simp only [RD] at k' ⊢; exact k'
  | .any, s, v, h, k' => by simp only [RD]
theorem DeepCells.rd {c : Cx} {hv : HV} {H : Heap} {n0 : Nat} (hr : HR c hv H) : ∀ {ds ss : List D} {vs : List Value}, DeepCells n0 hv ds ss → RCells c H ss vs → RCells (c.fz n0 hv).im H ds vs
  | [], ss, vs, h, k => by simp only [DeepCells] at h; subst h; simp only [RCells] at k ⊢; exact k
  | d :: ds, ss, vs, h, k => by
    simp only [DeepCells] at h
    obtain ⟨s, ss', rfl, h1, h2⟩ := h
    simp only [RCells] at k ⊢
    obtain ⟨v, vs', rfl, k1, k2⟩ := k
    exact ⟨v, vs', rfl, Deep.rd hr h1 k1, DeepCells.rd hr h2 k2⟩
theorem DeepRows.rd {c : Cx} {hv : HV} {H : Heap} {n0 : Nat} (hr : HR c hv H) {w : Nat} : ∀ {rs : List (List D)} {ss : List D} {vs : List Value}, DeepRows n0 hv w rs ss → RCells c H ss vs → RRows (c.fz n0 hv).im H w rs vs
  | [], ss, vs, h, k => by simp only [RRows]
  | r :: rs, ss, vs, h, k => by
    simp only [DeepRows] at h
    obtain ⟨a, b, rfl, h0, h1, h2⟩ := h
    obtain ⟨x, y, rfl, k1, k2⟩ := RCells.split k
    simp only [RRows]
    exact ⟨x, y, rfl, by rw [k1.length]; exact h0, DeepCells.rd hr h1 k1, DeepRows.rd hr h2 k2⟩
end

mutual
/-- The same data with fewer rows that may be written: where it names none of the others. -/
theorem RD.shrink {c c' : Cx} {H H' : Heap} : ∀ {d : D} {v v' : Value}, RD c H d v → RD c' H' d v' → RD ⟨c'.Z, c'.μ, c.n⟩ H' d v'
  | .int k n, _, _, _, h => by simp only [RD] at h ⊢; exact h
  | .bool b, _, _, _, h => by simp only [RD] at h ⊢; exact h
  | .str s, _, _, _, h => by simp only [RD] at h ⊢; exact h
  | .nil, _, _, _, h => by simp only [RD] at h ⊢; exact h
  | .sl w rows, _, _, _, h => by simp only [RD] at h ⊢; exact h
  | .ref id off len, _, _, k, h => by simp only [RD] at h k ⊢; exact ⟨k.1, h.2⟩
  | .ptr id off, _, _, k, h => by simp only [RD] at h k ⊢; exact ⟨k.1, h.2⟩
  | .vp cs, _, _, _, h => by simp only [RD] at h ⊢; exact h
  | .agg cs, _, _, k, h => by
    simp only [RD] at h k ⊢
    obtain ⟨vs, rfl, h⟩ := h
    obtain ⟨us, rfl, k⟩ := k
    exact ⟨vs, rfl, RCells.shrink k h⟩
  | .tup cs, _, _, k, h => by
    simp only [RD] at h k ⊢
    obtain ⟨vs, rfl, h⟩ := h
    obtain ⟨us, rfl, k⟩ := k
    exact ⟨vs, rfl, RCells.shrink k h⟩
  | .fn f cs, _, _, k, h => by
    simp only [RD] at h k ⊢
    obtain ⟨vs, rfl, h⟩ := h
    obtain ⟨us, rfl, k⟩ := k
    exact ⟨vs, rfl, RCells.shrink k h⟩
  | .nilf, _, _, _, h => by simp only [RD] at h ⊢; exact h
  | .any, _, _, _, _ => by simp only [RD]
theorem RCells.shrink {c c' : Cx} {H H' : Heap} : ∀ {ds : List D} {vs vs' : List Value}, RCells c H ds vs → RCells c' H' ds vs' → RCells ⟨c'.Z, c'.μ, c.n⟩ H' ds vs'
  | [], _, _, _, h => by simp only [RCells] at h ⊢; exact h
  | d :: ds, _, _, k, h => by
    simp only [RCells] at h k ⊢
    obtain ⟨v, vs, rfl, h1, h2⟩ := h
    obtain ⟨u, us, rfl, k1, k2⟩ := k
    exact ⟨v, vs, rfl, RD.shrink k1 h1, RCells.shrink k2 h2⟩
end
/-- A row's data, where it names no row that may be written. -/
def NoRef (d : D) : Prop := ∀ (c c' : Cx) H v, c'.Z = c.Z → RD c H d v → RD c' H d v
/-- The first rows, with the later ones as data that are only read. -/
def DeepH (n0 : Nat) (hv' : HV) : HV → HV → Prop
  | [], [] => True
  | none :: a, _ :: b => DeepH n0 hv' a b
  | some r :: a, some r' :: b => (r.esz = r'.esz ∧ DeepCells n0 hv' r.cells r'.cells) ∧ DeepH n0 hv' a b
  | _, _ => False
theorem DeepH.length {n0 : Nat} {hv' : HV} : ∀ {a b : HV}, DeepH n0 hv' a b → a.length = b.length
  | [], [], _ => rfl
  | none :: a, _ :: b, h => by simp only [DeepH] at h; simp [h.length]
  | some r :: a, some r' :: b, h => by simp only [DeepH] at h; simp [h.2.length]
  | [], _ :: _, h => by simp only [DeepH] at h
  | some _ :: _, none :: _, h => by simp only [DeepH] at h
  | some _ :: _, [], h => by simp only [DeepH] at h
  | none :: _, [], h => by simp only [DeepH] at h
theorem DeepH.get {n0 : Nat} {hv' : HV} : ∀ {a b : HV}, DeepH n0 hv' a b → ∀ {i : Nat} {r : VRow}, readV a i = some r → ∃ r', readV b i = some r' ∧ r.esz = r'.esz ∧ DeepCells n0 hv' r.cells r'.cells
  | [], [], _, i, r, h => by simp [readV] at h
  | none :: a, x :: b, h, i, r, k => by
    simp only [DeepH] at h
    cases i with
    | zero => simp [readV] at k
    | succ i => simpa [readV] using h.get (i := i) (by simpa [readV] using k)
  | some r0 :: a, some r' :: b, h, i, r, k => by
    simp only [DeepH] at h
    cases i with
    | zero => simp [readV] at k; subst k; exact ⟨r', rfl, h.1⟩
    | succ i => simpa [readV] using h.2.get (i := i) (by simpa [readV] using k)
  | [], _ :: _, h, _, _, _ => by simp only [DeepH] at h
  | some _ :: _, none :: _, h, _, _, _ => by simp only [DeepH] at h
  | some _ :: _, [], h, _, _, _ => by simp only [DeepH] at h
  | none :: _, [], h, _, _, _ => by simp only [DeepH] at h
theorem readV_take {hv : HV} {n i : Nat} {r : VRow} (h : readV (hv.take n) i = some r) : readV hv i = some r ∧ i < n := by
  unfold readV at h ⊢
  rw [List.getElem?_take] at h
  split at h
  · exact ⟨h, by assumption⟩
  · cases h
/-- Behind a call: rows that it made are only read from now on. -/
theorem frozen {c c' : Cx} {hv hv' hb : HV} {H H' : Heap} {d s : D} {v : Value} (hr : HR c hv H) (hr' : HR c' hv' H') (sp : Sp c hv H c' hv' H') (hh : DeepH hv.length hv' hb (hv'.take hv.length)) (hd : Deep hv.length hv' d s) (hv1 : RD c' H' s v) :
    ∃ c'', RD c'' H' d v ∧ HR c'' hb H' ∧ Sp c hv H c'' hb H' := by
  have hn := hr.n
  have hn' := hr'.n
  have hle := sp.n
  have hbl : hb.length = hv.length := by rw [hh.length, List.length_take]; omega
  have live : ∀ {i : Nat} {r : VRow}, readV hb i = some r → ∃ r', readV hv' i = some r' ∧ i < hv.length ∧ r.esz = r'.esz ∧ DeepCells hv.length hv' r.cells r'.cells := by
    intro i r hi
    obtain ⟨r', k1, k2, k3⟩ := hh.get hi
    obtain ⟨k1, k4⟩ := readV_take k1
    exact ⟨r', k1, k4, k2, k3⟩
  refine ⟨c'.fz hv.length hv', (Deep.rd hr' hd hv1).im, ⟨fun i r hi => ?_, fun i j r s hi hj hm => ?_, fun i r hi => ?_, fun id hz => ?_, by rw [hbl]; rfl, hr'.row0, hr'.pos⟩, ⟨fun id hz => .inl (sp.z id hz), sp.zrow, sp.mu, by rw [hn]; exact Nat.le_refl _, sp.len, fun id hid ho => ⟨(sp.oth id hid ho).1, fun hz => ?_⟩, fun i r hi hr1 => ?_, fun i r hi hr1 => ?_⟩⟩
  · obtain ⟨r', k1, k2, k3, k4⟩ := live hi
    obtain ⟨rp, p1, p2, p3, p4⟩ := hr'.row i r' k1
    exact ⟨rp, p1, p2, p3.trans k3.symm, (DeepCells.rd hr' k4 p4).im⟩
  · obtain ⟨r', k1, _⟩ := live hi
    obtain ⟨s', m1, _⟩ := live hj
    exact hr'.inj i j r' s' k1 m1 hm
  · obtain ⟨r', k1, k2, _⟩ := live hi
    rintro (hz | ⟨j, s, h0, h1, h2⟩)
    · exact hr'.dis i r' k1 hz
    · have := hr'.inj i j r' s k1 h1 h2.symm
      omega
  · rcases hz with hz | ⟨j, s, h0, h1, rfl⟩
    · exact hr'.zin id hz
    · obtain ⟨rp, q, _⟩ := hr'.row j s h1; exact ⟨rp, q⟩
  · rcases hz with hz | ⟨j, s, h0, h1, rfl⟩
    · exact (sp.oth id hid ho).2 hz
    · have := sp.loc j s (by rw [hn]; exact h0) h1; omega
  · obtain ⟨r', k1, k2, _⟩ := live hr1; omega
  · obtain ⟨r', k1, k2, _⟩ := live hr1; exact sp.res i r' hi k1

/-! ### Rows under other numbers -/
mutual
def D.ren (f : Nat → Nat) : D → D
  | .int k n => .int k n
  | .bool b => .bool b
  | .str s => .str s
  | .nil => .nil
  | .sl w rows => .sl w rows
  | .ref id off len => .ref (f id) off len
  | .ptr id off => .ptr (f id) off
  | .vp cs => .vp cs
  | .agg cs => .agg (renL f cs)
  | .tup cs => .tup (renL f cs)
  | .fn g cs => .fn g (renL f cs)
  | .nilf => .nilf
  | .any => .any
def renL (f : Nat → Nat) : List D → List D
  | [] => []
  | d :: ds => d.ren f :: renL f ds
end
mutual
theorem RD.ren {c c' : Cx} {H : Heap} {f : Nat → Nat} (hz : ∀ id, c.Z id → c'.Z id) (hf : ∀ i, i < c.n → f i < c'.n ∧ c'.μ (f i) = c.μ i) : ∀ {d : D} {v : Value}, RD c H d v → RD c' H (d.ren f) v
  | .int k n, v, h => by simp only [D.ren, RD] at h ⊢; exact h
  | .bool b, v, h => by simp only [D.ren, RD] at h ⊢; exact h
  | .str s, v, h => by simp only [D.ren, RD] at h ⊢; exact h
  | .nil, v, h => by simp only [D.ren, RD] at h ⊢; exact h
  | .sl w rows, v, h => by
    simp only [D.ren, RD] at h ⊢
    obtain ⟨id, off, rfl, h⟩ := h
    refine ⟨id, off, rfl, h.imp (fun x => x) ?_⟩
    rintro ⟨k1, r, k2, k3⟩
    exact ⟨hz id k1, r, k2, RRows.mono (c := c.im) (c' := c'.im) hz (fun _ _ => rfl) (fun i hi => absurd hi (Nat.not_lt_zero _)) (Nat.le_refl 0) k3⟩
  | .ref id off len, v, h => by simp only [D.ren, RD] at h ⊢; exact ⟨(hf id h.1).1, by rw [(hf id h.1).2]; exact h.2⟩
  | .ptr id off, v, h => by simp only [D.ren, RD] at h ⊢; exact ⟨(hf id h.1).1, by rw [(hf id h.1).2]; exact h.2⟩
  | .vp cs, v, h => by
    simp only [D.ren, RD] at h ⊢
    obtain ⟨id, off, r, a, b, rfl, k1, k2, k0, k3, k4⟩ := h
    exact ⟨id, off, r, a, b, rfl, hz id k1, k2, k0, k3, RCells.mono (c := c.im) (c' := c'.im) hz (fun _ _ => rfl) (fun i hi => absurd hi (Nat.not_lt_zero _)) (Nat.le_refl 0) k4⟩
  | .agg cs, v, h => by
    simp only [D.ren, RD] at h ⊢
    obtain ⟨vs, rfl, h⟩ := h
    exact ⟨vs, rfl, RCells.ren hz hf h⟩
  | .tup cs, v, h => by
    simp only [D.ren, RD] at h ⊢
    obtain ⟨vs, rfl, h⟩ := h
    exact ⟨vs, rfl, RCells.ren hz hf h⟩
  | .fn g cs, v, h => by
    simp only [D.ren, RD] at h ⊢
    obtain ⟨vs, rfl, h⟩ := h
    exact ⟨vs, rfl, RCells.ren hz hf h⟩
  | .nilf, v, h => by simp only [D.ren, RD] at h ⊢; exact h
  | .any, v, h => by simp only [D.ren, RD]
theorem RCells.ren {c c' : Cx} {H : Heap} {f : Nat → Nat} (hz : ∀ id, c.Z id → c'.Z id) (hf : ∀ i, i < c.n → f i < c'.n ∧ c'.μ (f i) = c.μ i) : ∀ {ds : List D} {vs : List Value}, RCells c H ds vs → RCells c' H (renL f ds) vs
  | [], vs, h => by simp only [renL, RCells] at h ⊢; exact h
  | d :: ds, vs, h => by
    simp only [renL, RCells] at h ⊢
    obtain ⟨v, vs', rfl, h1, h2⟩ := h
    exact ⟨v, vs', rfl, RD.ren hz hf h1, RCells.ren hz hf h2⟩
end
/-- The rows of a frame's list are those of the numbers 'keep'. -/
def RN (keep : List Nat) (d d' : D) : Prop := ∀ (c : Cx) H v, RD c H d v → RD ⟨c.Z, fun j => c.μ (keep.getD j 0), keep.length⟩ H d' v
def RNL (keep : List Nat) : List D → List D → Prop
  | [], ds => ds = []
  | d :: ds, es => match es with
    | [] => False
    | e :: es => RN keep d e ∧ RNL keep ds es
theorem RNL.rd {keep : List Nat} : ∀ {ds es : List D}, RNL keep ds es → ∀ {c : Cx} {H : Heap} {vs : List Value}, RCells c H ds vs → RCells ⟨c.Z, fun j => c.μ (keep.getD j 0), keep.length⟩ H es vs
  | [], es, h, c, H, vs, k => by simp only [RNL] at h; subst h; simp only [RCells] at k ⊢; exact k
  | d :: ds, [], h, _, _, _, _ => by simp only [RNL] at h
  | d :: ds, e :: es, h, c, H, vs, k => by
    simp only [RNL] at h
    simp only [RCells] at k ⊢
    obtain ⟨v, vs', rfl, k1, k2⟩ := k
    exact ⟨v, vs', rfl, h.1 c H v k1, RNL.rd h.2 k2⟩
theorem RN.any (keep : List Nat) (d : D) : RN keep d .any := fun c H v _ => by simp only [RD]
theorem RN.same {keep : List Nat} {d : D} (h : NoRef d) : RN keep d d := fun c H v k => h c _ H v rfl k
theorem RN.le {keep : List Nat} {d d' : D} (h : NoRef d) (k : LeD d d') : RN keep d d' := fun c H v q => k _ H v (h c _ H v rfl q)
theorem RN.ref {keep : List Nat} {id j : Nat} (off len : Nat) (h : keep[j]? = some id) : RN keep (.ref id off len) (.ref j off len) := fun c H v k => by
  simp only [RD] at k ⊢
  rw [List.getD_eq_getElem?_getD, h]
  exact ⟨(List.getElem?_eq_some_iff.1 h).1, k.2⟩
theorem RN.ptr {keep : List Nat} {id j : Nat} (off : Nat) (h : keep[j]? = some id) : RN keep (.ptr id off) (.ptr j off) := fun c H v k => by
  simp only [RD] at k ⊢
  rw [List.getD_eq_getElem?_getD, h]
  exact ⟨(List.getElem?_eq_some_iff.1 h).1, k.2⟩
theorem RN.agg {keep : List Nat} {ds es : List D} (h : RNL keep ds es) : RN keep (.agg ds) (.agg es) := fun c H v k => by
  simp only [RD] at k ⊢
  obtain ⟨vs, rfl, k⟩ := k
  exact ⟨vs, rfl, h.rd k⟩
theorem RN.tup {keep : List Nat} {ds es : List D} (h : RNL keep ds es) : RN keep (.tup ds) (.tup es) := fun c H v k => by
  simp only [RD] at k ⊢
  obtain ⟨vs, rfl, k⟩ := k
  exact ⟨vs, rfl, h.rd k⟩
theorem RN.fn {keep : List Nat} {f : FuncId} {ds es : List D} (h : RNL keep ds es) : RN keep (.fn f ds) (.fn f es) := fun c H v k => by
  simp only [RD] at k ⊢
  obtain ⟨vs, rfl, k⟩ := k
  exact ⟨vs, rfl, h.rd k⟩
theorem RNL.same {keep : List Nat} : ∀ {ds : List D}, (∀ d ∈ ds, NoRef d) → RNL keep ds ds
  | [], _ => by simp only [RNL]
  | d :: ds, h => by simp only [RNL]; exact ⟨.same (h d (by simp)), RNL.same fun x hx => h x (by simp [hx])⟩
theorem NoRef.int (k : IntKind) (n : Int) : NoRef (.int k n) := fun c c' H v _ h => by simp only [RD] at h ⊢; exact h
theorem NoRef.bool (b : Bool) : NoRef (.bool b) := fun c c' H v _ h => by simp only [RD] at h ⊢; exact h
theorem NoRef.str (s : ByteArray) : NoRef (.str s) := fun c c' H v _ h => by simp only [RD] at h ⊢; exact h
theorem NoRef.nil : NoRef .nil := fun c c' H v _ h => by simp only [RD] at h ⊢; exact h
theorem NoRef.nilf : NoRef .nilf := fun c c' H v _ h => by simp only [RD] at h ⊢; exact h
theorem NoRef.any : NoRef .any := fun c c' H v _ h => by simp only [RD]
theorem NoRef.sl (w : Nat) (rows : List (List D)) : NoRef (.sl w rows) := fun c c' H v hz h => by
  have := RD.mono (c := c.im) (c' := c'.im) (H' := H) (d := .sl w rows) (v := v) (fun id k => by simpa [Cx.im, hz] using k) (fun _ _ => rfl) (fun i hi => absurd hi (Nat.not_lt_zero _)) (Nat.le_refl 0)
  simp only [RD] at this h ⊢
  exact this h
theorem NoRef.vp (cs : List D) : NoRef (.vp cs) := fun c c' H v hz h => by
  have := RD.mono (c := c.im) (c' := c'.im) (H' := H) (d := .vp cs) (v := v) (fun id k => by simpa [Cx.im, hz] using k) (fun _ _ => rfl) (fun i hi => absurd hi (Nat.not_lt_zero _)) (Nat.le_refl 0)
  simp only [RD] at this h ⊢
  exact this h
theorem NoRef.cells {c c' : Cx} {H : Heap} (hz : c'.Z = c.Z) : ∀ {ds : List D} {vs : List Value}, (∀ d ∈ ds, NoRef d) → RCells c H ds vs → RCells c' H ds vs
  | [], vs, _, k => by simp only [RCells] at k ⊢; exact k
  | d :: ds, vs, h, k => by
    simp only [RCells] at k ⊢
    obtain ⟨v, vs', rfl, k1, k2⟩ := k
    exact ⟨v, vs', rfl, h d (by simp) c c' H v hz k1, NoRef.cells hz (fun d hd => h d (by simp [hd])) k2⟩
theorem NoRef.agg {ds : List D} (h : ∀ d ∈ ds, NoRef d) : NoRef (.agg ds) := fun c c' H v hz k => by
  simp only [RD] at k ⊢
  obtain ⟨vs, rfl, k⟩ := k
  exact ⟨vs, rfl, NoRef.cells hz h k⟩
theorem NoRef.tup {ds : List D} (h : ∀ d ∈ ds, NoRef d) : NoRef (.tup ds) := fun c c' H v hz k => by
  simp only [RD] at k ⊢
  obtain ⟨vs, rfl, k⟩ := k
  exact ⟨vs, rfl, NoRef.cells hz h k⟩
theorem NoRef.undef : NoRef undefV := .tup (by simp)
/-- The heap under the numbers 'keep'. -/
def RNH (keep : List Nat) (hv : HV) : List Nat → HV → Prop
  | [], [] => True
  | _ :: ks, none :: hs => RNH keep hv ks hs
  | id :: ks, some r1 :: hs => (∃ r, readV hv id = some r ∧ r.esz = r1.esz ∧ RNL keep r.cells r1.cells) ∧ RNH keep hv ks hs
  | _, _ => False
theorem RNH.length {keep : List Nat} {hv : HV} : ∀ {ks : List Nat} {hs : HV}, RNH keep hv ks hs → hs.length = ks.length
  | [], [], _ => rfl
  | _ :: ks, none :: hs, h => by simp only [RNH] at h; simp [h.length]
  | id :: ks, some r1 :: hs, h => by simp only [RNH] at h; simp [h.2.length]
  | [], _ :: _, h => by simp only [RNH] at h
  | _ :: _, [], h => by simp only [RNH] at h
theorem RNH.get {keep : List Nat} {hv : HV} : ∀ {ks : List Nat} {hs : HV}, RNH keep hv ks hs → ∀ {i : Nat} {r1 : VRow}, readV hs i = some r1 → ∃ id r, ks[i]? = some id ∧ readV hv id = some r ∧ r.esz = r1.esz ∧ RNL keep r.cells r1.cells
  | [], [], _, i, r1, k => by simp [readV] at k
  | id :: ks, none :: hs, h, i, r1, k => by
    simp only [RNH] at h
    cases i with
    | zero => simp [readV] at k
    | succ i => simpa using h.get (i := i) (by simpa [readV] using k)
  | id :: ks, some r0 :: hs, h, i, r1, k => by
    simp only [RNH] at h
    cases i with
    | zero => simp [readV] at k; subst k; obtain ⟨r, h1⟩ := h.1; exact ⟨id, r, rfl, h1⟩
    | succ i => simpa using h.2.get (i := i) (by simpa [readV] using k)
  | [], _ :: _, h, _, _, _ => by simp only [RNH] at h
  | _ :: _, [], h, _, _, _ => by simp only [RNH] at h
def AllRN (keep : List Nat) (fv : FrV) : List (Nat × D) → Prop
  | [] => True
  | (k, d) :: l => RN keep (fv k) d ∧ AllRN keep fv l
theorem AllRN.rd {keep : List Nat} {fv : FrV} : ∀ {l : List (Nat × D)}, AllRN keep fv l → ∀ t, RN keep (fv t) (FL l t)
  | [], _, t => by rw [FL_nil]; exact .any _ _
  | (k, d) :: l, h, t => by
    simp only [AllRN] at h
    rw [FL_cons]
    split
    · rename_i e; subst e; exact h.1
    · exact AllRN.rd h.2 t
/-- The same state, told by other slots and other numbers of rows. -/
structure Ren (n0 : Nat) (fv : FrV) (hv : HV) (L : List (Nat × D)) (hv1 : HV) : Prop where
  ex : ∃ keep : List Nat, AllRN keep fv L ∧ RNH keep hv keep hv1 ∧ keep.Nodup ∧ ∀ i, i < n0 → keep[i]? = some i
theorem St.ren {b : Bs} {c : Cx} {fv : FrV} {hv : HV} {fr : Fr} {H : Heap} {L : List (Nat × D)} {hv1 : HV} (hs : St b c fv hv fr H) (h : Ren b.c.n fv hv L hv1) : ∃ c', St b c' (FL L) hv1 fr H := by
  obtain ⟨keep, h1, h2, h3, h4⟩ := h.ex
  have hget : ∀ {i id : Nat}, keep[i]? = some id → keep.getD i 0 = id := fun h => by rw [List.getD_eq_getElem?_getD, h]; rfl
  have hlen := h2.length
  have live : ∀ {i : Nat} {r : VRow}, readV hv1 i = some r → ∃ id r', keep[i]? = some id ∧ keep.getD i 0 = id ∧ readV hv id = some r' ∧ r'.esz = r.esz ∧ RNL keep r'.cells r.cells := by
    intro i r hi
    obtain ⟨id, r', k1, k2⟩ := h2.get hi
    exact ⟨id, r', k1, hget k1, k2⟩
  have hbn : b.c.n ≤ keep.length := by
    rcases Nat.eq_zero_or_pos b.c.n with q | q
    · omega
    · have := (List.getElem?_eq_some_iff.1 (h4 (b.c.n - 1) (by omega))).1
      omega
  refine ⟨⟨c.Z, fun j => c.μ (keep.getD j 0), keep.length⟩, fun t => h1.rd t c H _ (hs.fr t), ⟨fun i r hi => ?_, fun i j r s hi hj hm => ?_, fun i r hi => ?_, hs.hr.zin, hlen.symm, hs.hr.row0, hs.hr.pos⟩,
    ⟨hs.sp.z, hs.sp.zrow, fun i hi => ?_, hbn, hs.sp.len, hs.sp.oth, fun i r hi hr => ?_, fun i r hi hr => ?_⟩⟩
  · obtain ⟨id, r', k1, k2, k3, k4, k5⟩ := live hi
    obtain ⟨rp, p1, p2, p3, p4⟩ := hs.hr.row id r' k3
    exact ⟨rp, by show readRow H (c.μ (keep.getD i 0)) = _; rw [k2]; exact p1, p2, p3.trans k4, k5.rd p4⟩
  · obtain ⟨id, r', k1, k2, k3, _⟩ := live hi
    obtain ⟨jd, s', m1, m2, m3, _⟩ := live hj
    have hm : c.μ (keep.getD i 0) = c.μ (keep.getD j 0) := hm
    rw [k2, m2] at hm
    have := hs.hr.inj id jd r' s' k3 m3 hm
    subst this
    obtain ⟨q1, q2⟩ := List.getElem?_eq_some_iff.1 k1
    obtain ⟨q3, q4⟩ := List.getElem?_eq_some_iff.1 m1
    exact (List.getElem_inj h3).1 (q2.trans q4.symm)
  · obtain ⟨id, r', k1, k2, k3, _⟩ := live hi
    show ¬ c.Z (c.μ (keep.getD i 0))
    rw [k2]; exact hs.hr.dis id r' k3
  · show c.μ (keep.getD i 0) = _
    rw [hget (h4 i hi)]; exact hs.sp.mu i hi
  · obtain ⟨id, r', k1, k2, k3, _⟩ := live hr
    show _ ≤ c.μ (keep.getD i 0)
    rw [k2]
    refine hs.sp.loc id r' ?_ k3
    rcases Nat.lt_or_ge id b.c.n with q | q
    · have := h4 id q
      obtain ⟨q1, q2⟩ := List.getElem?_eq_some_iff.1 k1
      obtain ⟨q3, q4⟩ := List.getElem?_eq_some_iff.1 this
      have := (List.getElem_inj h3).1 (q2.trans q4.symm)
      omega
    · exact q
  · obtain ⟨id, r', k1, k2, k3, _⟩ := live hr
    rw [h4 i hi] at k1
    cases k1
    exact hs.sp.res i r' hi k3

section
variable {P : Program} {X : FuncId → List Value → Value → Prop} {n0 : Nat}
theorem VC_loopX {a : Code} {Q : Ex → FrV → HV → Prop} (I : Nat → FrV → HV → Prop) (round : ∀ n fv hv, I n fv hv → VC P X n0 a fv hv (andThenV (fun fv' hv' => ∃ m L hv1, m < n ∧ Ren n0 fv' hv' L hv1 ∧ I m (FL L) hv1) Q)) {n : Nat} {fv : FrV} {hv : HV} (h0 : I n fv hv) : VC P X n0 (.loop a) fv hv Q := by
  intro b c fr H hb hs
  refine wpC_loopN (fun n fr H => ∃ c fv hv, St b c fv hv fr H ∧ I n fv hv) (fun n fr H hk => ?_) (n := n) ⟨c, fv, hv, hs, h0⟩
  obtain ⟨c, fv, hv, hs, hi⟩ := hk
  refine (round n fv hv hi b c fr H hb hs).mono fun e fr' H' hk => ?_
  obtain ⟨c', fv', hv', k, q⟩ := hk
  cases e with
  | normal =>
    obtain ⟨m, L, hv1, hm, q1, q2⟩ := q
    subst hb
    obtain ⟨c2, k2⟩ := k.ren q1
    exact ⟨m, hm, c2, _, _, k2, q2⟩
  | exit i => exact ⟨c', fv', hv', k, q⟩
  | ret => exact ⟨c', fv', hv', k, q⟩
theorem VC.ren {code : Code} {fv : FrV} {hv : HV} {Q : Ex → FrV → HV → Prop} (L : List (Nat × D)) (hv1 : HV) (h : Ren n0 fv hv L hv1) (k : VC P X n0 code (FL L) hv1 Q) : VC P X n0 code fv hv Q := by
  intro b c fr H hb hs
  subst hb
  obtain ⟨c', hs'⟩ := hs.ren h
  exact k b c' fr H rfl hs'
/-- A loop, told by its slots and its rows. -/
theorem VC_loop {α : Type} {a : Code} {Q : Ex → FrV → HV → Prop} (m : α → Nat) (L : α → List (Nat × D)) (h : α → HV) (ok : α → Prop)
    (round : ∀ x, ok x → VC P X n0 a (FL (L x)) (h x) (andThenV (fun fv hv => ∃ y, m y < m x ∧ ok y ∧ Ren n0 fv hv (L y) (h y)) Q))
    {fv : FrV} {hv : HV} (x : α) (h0 : ok x) (hl : Ren n0 fv hv (L x) (h x)) : VC P X n0 (.loop a) fv hv Q := by
  refine .ren (L x) (h x) hl ?_
  have key : ∀ n x, m x = n → ok x → VC P X n0 (.loop a) (FL (L x)) (h x) Q := by
    intro n x hm h0
    refine VC_loopX (n := n) (fun n fv hv => ∃ x, m x = n ∧ ok x ∧ fv = FL (L x) ∧ hv = h x) (fun n fv hv hk => ?_) ⟨x, hm, h0, rfl, rfl⟩
    obtain ⟨x, rfl, h0, rfl, rfl⟩ := hk
    refine (round x h0).mono fun e fv' hv' q => ?_
    cases e with
    | normal => obtain ⟨y, q1, q2, q3⟩ := q; exact ⟨m y, L y, h y, q1, q3, y, rfl, q2, rfl, rfl⟩
    | exit i => exact q
    | ret => exact q
  exact key _ x rfl h0


/-! ### A call among other rows -/
def VRow.ren (f : Nat → Nat) (r : VRow) : VRow := ⟨renL f r.cells, r.esz⟩
def putRows (g : VRow → VRow) : List Nat → HV → HV → HV
  | [], rest, hv => hv ++ rest.map (Option.map g)
  | id :: ks, r :: hs, hv => putRows g ks hs (hv.set id (r.map g))
  | _ :: _, [], hv => hv
def reN (keep : List Nat) (n : Nat) : Nat → Nat := fun j => if j < keep.length then keep.getD j 0 else n + (j - keep.length)
theorem readV_setO {hv : HV} {i j : Nat} {o : Option VRow} (hi : i < hv.length) : readV (hv.set i o) j = if j = i then o else readV hv j := by
  unfold readV
  split
  · rename_i h; subst h; simp [hi]
  · rename_i h; rw [List.getElem?_set_ne (Ne.symm h)]
theorem putRows_spec (g : VRow → VRow) : ∀ (ks : List Nat) (hs hv : HV), ks.Nodup → (∀ i ∈ ks, i < hv.length) → ks.length ≤ hs.length →
    (putRows g ks hs hv).length = hv.length + (hs.length - ks.length) ∧ (∀ j id, ks[j]? = some id → readV (putRows g ks hs hv) id = (readV hs j).map g) ∧
    (∀ i, i < hv.length → i ∉ ks → readV (putRows g ks hs hv) i = readV hv i) ∧ (∀ i, hv.length ≤ i → readV (putRows g ks hs hv) i = (readV hs (ks.length + (i - hv.length))).map g)
  | [], hs, hv, _, _, _ => by
    refine ⟨by simp [putRows], by simp, fun i hi _ => ?_, fun i hi => ?_⟩
    · simp only [putRows, readV]; rw [List.getElem?_append_left hi]
    · simp only [putRows, readV, List.length_nil, Nat.zero_add]
      rw [List.getElem?_append_right hi, List.getElem?_map]
      cases hs[i - hv.length]? with
      | none => rfl
      | some o => rfl
  | id :: ks, [], hv, _, _, hl => by simp at hl
  | id :: ks, r :: hs, hv, hnd, hb, hl => by
    rw [List.nodup_cons] at hnd
    have hid := hb id (by simp)
    obtain ⟨k1, k2, k3, k4⟩ := putRows_spec g ks hs (hv.set id (r.map g)) hnd.2 (fun i hi => by rw [List.length_set]; exact hb i (by simp [hi])) (by simpa using hl)
    rw [List.length_set] at k1 k3 k4
    simp only [putRows]
    refine ⟨by rw [k1]; simp, fun j x hj => ?_, fun i hi hni => ?_, fun i hi => ?_⟩
    · cases j with
      | zero =>
        simp at hj; subst hj
        rw [k3 id hid hnd.1, readV_setO hid, if_pos rfl]
        simp only [readV, List.getElem?_cons_zero, Option.join_some]
      | succ j =>
        rw [k2 j x (by simpa using hj)]
        simp only [readV, List.getElem?_cons_succ]
    · simp only [List.mem_cons, not_or] at hni
      rw [k3 i hi hni.2, readV_setO hid, if_neg hni.1]
    · rw [k4 i hi]
      simp only [readV, List.length_cons]
      rw [show ks.length + 1 + (i - hv.length) = (ks.length + (i - hv.length)) + 1 by omega, List.getElem?_cons_succ]
/-- As 'VF'; only the rows of W are touched. -/
def VFw (P : Program) (X : FuncId → List Value → Value → Prop) (f : FuncId) (ds : List D) (hv : HV) (W : List Nat) (Q : D → HV → Prop) : Prop :=
  ∀ c H vs, HR c hv H → RCells c H ds vs → wpF P X f vs H (fun v H' => ∃ c' d hv', RD c' H' d v ∧ HR c' hv' H' ∧ Sp c hv H c' hv' H' ∧ (∀ i r, readV hv i = some r → i ∉ W → readRow H' (c.μ i) = readRow H (c.μ i)) ∧ Q d hv')
theorem VFw.vf {f : FuncId} {ds : List D} {hv : HV} {W : List Nat} {Q : D → HV → Prop} (h : VFw P X f ds hv W Q) : VF P X f ds hv Q :=
  fun c H vs hr ha => (h c H vs hr ha).mono fun v H' ⟨c', d, hv', k1, k2, k3, _, q⟩ => ⟨c', d, hv', k1, k2, k3, q⟩
theorem VF_frameW {f : FuncId} {ds es : List D} {hv hl : HV} {Q : D → HV → Prop} (keep : List Nat) (ha : RNL keep ds es) (hk : RNH keep hv keep hl) (hnd : keep.Nodup) (hb : ∀ i ∈ keep, i < hv.length)
    (h : VF P X f es hl (fun d hl' => Q (d.ren (reN keep hv.length)) (putRows (VRow.ren (reN keep hv.length)) keep hl' hv))) : VFw P X f ds hv keep Q := by
  intro c H vs hr hargs
  have hn := hr.n
  have hll := hk.length
  have hget : ∀ {i id : Nat}, keep[i]? = some id → keep.getD i 0 = id := fun h => by rw [List.getD_eq_getElem?_getD, h]; rfl
  have live : ∀ {i : Nat} {r : VRow}, readV hl i = some r → ∃ id r', keep[i]? = some id ∧ keep.getD i 0 = id ∧ readV hv id = some r' ∧ r'.esz = r.esz ∧ RNL keep r'.cells r.cells := by
    intro i r hi
    obtain ⟨id, r', k1, k2⟩ := hk.get hi
    exact ⟨id, r', k1, hget k1, k2⟩
  have hrl : HR ⟨c.Z, fun j => c.μ (keep.getD j 0), keep.length⟩ hl H := by
    refine ⟨fun i r hi => ?_, fun i j r s hi hj hm => ?_, fun i r hi => ?_, hr.zin, hll.symm, hr.row0, hr.pos⟩
    · obtain ⟨id, r', k1, k2, k3, k4, k5⟩ := live hi
      obtain ⟨rp, p1, p2, p3, p4⟩ := hr.row id r' k3
      exact ⟨rp, by show readRow H (c.μ (keep.getD i 0)) = _; rw [k2]; exact p1, p2, p3.trans k4, k5.rd p4⟩
    · obtain ⟨id, r', k1, k2, k3, _⟩ := live hi
      obtain ⟨jd, s', m1, m2, m3, _⟩ := live hj
      have hm : c.μ (keep.getD i 0) = c.μ (keep.getD j 0) := hm
      rw [k2, m2] at hm
      have := hr.inj id jd r' s' k3 m3 hm
      subst this
      obtain ⟨q1, q2⟩ := List.getElem?_eq_some_iff.1 k1
      obtain ⟨q3, q4⟩ := List.getElem?_eq_some_iff.1 m1
      exact (List.getElem_inj hnd).1 (q2.trans q4.symm)
    · obtain ⟨id, r', k1, k2, k3, _⟩ := live hi
      show ¬ c.Z (c.μ (keep.getD i 0))
      rw [k2]; exact hr.dis id r' k3
  refine (h _ H vs hrl (ha.rd hargs)).mono fun v H1 hk1 => ?_
  obtain ⟨c1, d, hl', e1, e2, sp, q⟩ := hk1
  have hn1 := e2.n
  have hmn : keep.length ≤ hl'.length := by rw [← hn1]; exact sp.n
  have spmu : ∀ j, j < keep.length → c1.μ j = c.μ (keep.getD j 0) := sp.mu
  have sploc : ∀ j r, keep.length ≤ j → readV hl' j = some r → H.length ≤ c1.μ j := sp.loc
  have spres : ∀ j r, j < keep.length → readV hl' j = some r → ∃ s, readV hl j = some s := sp.res
  have spz : ∀ id, c.Z id → c1.Z id := sp.z
  have spzr : ∀ id, c.Z id → readRow H1 id = readRow H id := sp.zrow
  have spoth : ∀ id, id < H.length → (∀ i r, readV hv i = some r → i ∈ keep → c.μ i ≠ id) → readRow H1 id = readRow H id ∧ (c1.Z id → c.Z id) := by
    intro id hid ho
    refine sp.oth id hid fun j r hj => ?_
    obtain ⟨x, r', k1, k2, k3, _⟩ := live hj
    show c.μ (keep.getD j 0) ≠ id
    rw [k2]
    exact ho x r' k3 (List.mem_of_getElem? k1)
  obtain ⟨p1, p2, p3, p4⟩ := putRows_spec (VRow.ren (reN keep hv.length)) keep hl' hv hnd hb hmn
  have hc'n : keep.length ≤ c1.n := by omega
  have reNlt : ∀ {j : Nat}, j < keep.length → ∃ id, keep[j]? = some id ∧ reN keep hv.length j = id ∧ id < hv.length := by
    intro j hj
    refine ⟨keep[j], List.getElem?_eq_getElem hj, ?_, hb _ (List.getElem_mem hj)⟩
    unfold reN
    rw [if_pos hj]; exact hget (List.getElem?_eq_getElem hj)
  have hf : ∀ i, i < c1.n → reN keep hv.length i < hv.length + (c1.n - keep.length) ∧ (if reN keep hv.length i < hv.length then c.μ (reN keep hv.length i) else c1.μ (keep.length + (reN keep hv.length i - hv.length))) = c1.μ i := by
    intro j hj
    by_cases hjk : j < keep.length
    · obtain ⟨id, k1, k2, k3⟩ := reNlt hjk
      rw [k2]
      refine ⟨by omega, ?_⟩
      rw [if_pos k3, spmu j hjk, hget k1]
    · have : reN keep hv.length j = hv.length + (j - keep.length) := by unfold reN; rw [if_neg hjk]
      rw [this]
      refine ⟨by omega, ?_⟩
      rw [if_neg (by omega)]
      congr 1; omega
  -- every row: of the call, or of the others
  have kind : ∀ {i : Nat} {r : VRow}, readV (putRows (VRow.ren (reN keep hv.length)) keep hl' hv) i = some r → (∃ j r1, readV hl' j = some r1 ∧ reN keep hv.length j = i ∧ r = r1.ren (reN keep hv.length)) ∨ (i < hv.length ∧ i ∉ keep ∧ readV hv i = some r) := by
    intro i r hi
    rcases Nat.lt_or_ge i hv.length with q | q
    · by_cases hm : i ∈ keep
      · obtain ⟨j, hj, e⟩ := List.mem_iff_getElem.1 hm
        have e' : keep[j]? = some i := by rw [List.getElem?_eq_getElem hj, e]
        rw [p2 j i e'] at hi
        cases hx : readV hl' j with
        | none => rw [hx] at hi; cases hi
        | some r1 =>
          rw [hx] at hi; cases hi
          refine .inl ⟨j, r1, hx, ?_, rfl⟩
          unfold reN; rw [if_pos hj]; exact hget e'
      · rw [p3 i q hm] at hi
        exact .inr ⟨q, hm, hi⟩
    · rw [p4 i q] at hi
      cases hx : readV hl' (keep.length + (i - hv.length)) with
      | none => rw [hx] at hi; cases hi
      | some r1 =>
        rw [hx] at hi; cases hi
        refine .inl ⟨_, r1, hx, ?_, rfl⟩
        unfold reN; rw [if_neg (by omega)]; omega
  have hmu : ∀ {j i : Nat} {r1 : VRow}, readV hl' j = some r1 → reN keep hv.length j = i → (if i < hv.length then c.μ i else c1.μ (keep.length + (i - hv.length))) = c1.μ j := by
    intro j i r1 hj e
    subst e
    exact (hf j (by rw [hn1]; exact readV_lt hj)).2
  have mixed : ∀ {i : Nat} {r : VRow} {j : Nat} {r1 : VRow}, i < hv.length → i ∉ keep → readV hv i = some r → readV hl' j = some r1 → c.μ i ≠ c1.μ j := by
    intro i r j r1 hi hni hri hj e
    by_cases hjk : j < keep.length
    · obtain ⟨s, hs⟩ := spres j r1 hjk hj
      obtain ⟨id, r', k1, k2, k3, _⟩ := live hs
      rw [spmu j hjk, k2] at e
      have := hr.inj i id r r' hri k3 e
      subst this
      exact hni (List.mem_of_getElem? k1)
    · have := sploc j r1 (by omega) hj
      have := hr.mlt hri
      omega
  refine ⟨⟨c1.Z, fun i => if i < hv.length then c.μ i else c1.μ (keep.length + (i - hv.length)), hv.length + (c1.n - keep.length)⟩, _, _, RD.ren (c := c1) (c' := ⟨c1.Z, fun i => if i < hv.length then c.μ i else c1.μ (keep.length + (i - hv.length)), hv.length + (c1.n - keep.length)⟩) (f := reN keep hv.length) (fun _ z => z) hf e1, ⟨fun i r hi => ?_, fun i j r s hi hj hm => ?_, fun i r hi => ?_, e2.zin, by rw [p1, hn1], e2.row0, e2.pos⟩, ⟨spz, spzr, fun i hi => ?_, by show c.n ≤ hv.length + (c1.n - keep.length); omega, sp.len, fun id hid ho => spoth id hid fun i r hi _ => ho i r hi, fun i r hi hir => ?_, fun i r hi hir => ?_⟩, fun i r hi hni => (spoth (c.μ i) (hr.mlt hi) fun x s hx hxk e => hni (hr.inj x i s r hx hi e ▸ hxk)).1, q⟩
  · rcases kind hi with ⟨j, r1, k1, k2, rfl⟩ | ⟨k1, k2, k3⟩
    · obtain ⟨rp, m1, m2, m3, m4⟩ := e2.row j r1 k1
      refine ⟨rp, ?_, m2, m3, RCells.ren (c := c1) (c' := ⟨c1.Z, fun i => if i < hv.length then c.μ i else c1.μ (keep.length + (i - hv.length)), hv.length + (c1.n - keep.length)⟩) (f := reN keep hv.length) (fun _ z => z) hf m4⟩
      show readRow H1 (if i < hv.length then c.μ i else c1.μ (keep.length + (i - hv.length))) = _
      rw [hmu k1 k2]; exact m1
    · obtain ⟨rp, m1, m2, m3, m4⟩ := hr.row i r k3
      have ho := spoth (c.μ i) (hr.mlt k3) fun x s hx hxk e => k2 (hr.inj x i s r hx k3 e ▸ hxk)
      refine ⟨rp, ?_, m2, m3, RCells.mono (c := c) (c' := ⟨c1.Z, fun i => if i < hv.length then c.μ i else c1.μ (keep.length + (i - hv.length)), hv.length + (c1.n - keep.length)⟩) spz spzr (fun x hx => ?_) (by show c.n ≤ hv.length + (c1.n - keep.length); omega) m4⟩
      · show readRow H1 (if i < hv.length then c.μ i else _) = _
        rw [if_pos k1, ho.1]; exact m1
      · show (if x < hv.length then c.μ x else _) = _
        rw [if_pos (by omega)]
  · have hm : (if i < hv.length then c.μ i else c1.μ (keep.length + (i - hv.length))) = (if j < hv.length then c.μ j else c1.μ (keep.length + (j - hv.length))) := hm
    rcases kind hi with ⟨x, r1, k1, k2, _⟩ | ⟨k1, k2, k3⟩
    · rcases kind hj with ⟨y, s1, m1, m2, _⟩ | ⟨m1, m2, m3⟩
      · rw [hmu k1 k2, hmu m1 m2] at hm
        have := e2.inj x y r1 s1 k1 m1 hm
        subst this
        exact k2.symm.trans m2
      · rw [hmu k1 k2, if_pos m1] at hm
        exact absurd hm.symm (mixed m1 m2 m3 k1)
    · rcases kind hj with ⟨y, s1, m1, m2, _⟩ | ⟨m1, m2, m3⟩
      · rw [hmu m1 m2, if_pos k1] at hm
        exact absurd hm (mixed k1 k2 k3 m1)
      · rw [if_pos k1, if_pos m1] at hm
        exact hr.inj i j r s k3 m3 hm
  · show ¬ c1.Z (if i < hv.length then c.μ i else c1.μ (keep.length + (i - hv.length)))
    rcases kind hi with ⟨x, r1, k1, k2, _⟩ | ⟨k1, k2, k3⟩
    · rw [hmu k1 k2]; exact e2.dis x r1 k1
    · rw [if_pos k1]
      have ho := spoth (c.μ i) (hr.mlt k3) fun x s hx hxk e => k2 (hr.inj x i s r hx k3 e ▸ hxk)
      exact fun z => hr.dis i r k3 (ho.2 z)
  · show (if i < hv.length then c.μ i else _) = _
    rw [if_pos (by omega)]
  · show H.length ≤ (if i < hv.length then c.μ i else c1.μ (keep.length + (i - hv.length)))
    rw [if_neg (by omega)]
    rw [p4 i (by omega)] at hir
    cases hx : readV hl' (keep.length + (i - hv.length)) with
    | none => rw [hx] at hir; cases hir
    | some r1 => exact sploc _ r1 (by omega) hx
  · rcases kind hir with ⟨j, r1, k1, k2, _⟩ | ⟨_, _, k3⟩
    · have hjk : j < keep.length := by
        rcases Nat.lt_or_ge j keep.length with z | z
        · exact z
        · unfold reN at k2; rw [if_neg (by omega)] at k2; omega
      obtain ⟨s, hs⟩ := spres j r1 hjk k1
      obtain ⟨id, r', m1, m2, m3, _⟩ := live hs
      obtain ⟨id', m4, m5, _⟩ := reNlt hjk
      rw [m4] at m1; cases m1
      rw [← k2, m5]
      exact ⟨r', m3⟩
    · exact ⟨r, k3⟩

theorem VF_frame {f : FuncId} {ds es : List D} {hv hl : HV} {Q : D → HV → Prop} (keep : List Nat) (ha : RNL keep ds es) (hk : RNH keep hv keep hl) (hnd : keep.Nodup) (hb : ∀ i ∈ keep, i < hv.length)
    (h : VF P X f es hl (fun d hl' => Q (d.ren (reN keep hv.length)) (putRows (VRow.ren (reN keep hv.length)) keep hl' hv))) : VF P X f ds hv Q := (VF_frameW keep ha hk hnd hb h).vf

/-! ### What functions come to -/
/-- The call comes to these data, with no row that may be written. -/
def Pu (P : Program) (X : FuncId → List Value → Value → Prop) (f : FuncId) (ds : List D) (d : D) : Prop := VF P X f ds [] (fun d' hv' => d' = d ∧ hv' = [])
theorem VF.freeze {f : FuncId} {ds : List D} {hv : HV} {Q : D → HV → Prop} (h : VF P X f ds hv (fun s hv' => ∃ d hb, DeepH hv.length hv' hb (hv'.take hv.length) ∧ Deep hv.length hv' d s ∧ Q d hb)) : VF P X f ds hv Q := by
  intro c H vs hr ha
  refine (h c H vs hr ha).mono fun v H' hk => ?_
  obtain ⟨c', s, hv', k1, k2, k3, d, hb, h1, h2, q⟩ := hk
  obtain ⟨c'', q1, q2, q3⟩ := frozen hr k2 k3 h1 h2 k1
  exact ⟨c'', d, hb, q1, q2, q3, q⟩
theorem Pu.of {f : FuncId} {ds : List D} {d : D} (h : VF P X f ds [] (fun s hv' => Deep 0 hv' d s)) : Pu P X f ds d :=
  VF.freeze (h.mono fun s hv' k => ⟨d, [], by simp only [List.length_nil, List.take_zero, DeepH], k, rfl, rfl⟩)
theorem renL_eq (f : Nat → Nat) : ∀ ds, renL f ds = ds.map (D.ren f)
  | [] => rfl
  | d :: ds => by simp only [renL, List.map_cons, renL_eq f ds]
/-- Names no row: the same under other numbers. -/
def Imm (d : D) : Prop := ∀ f, d.ren f = d
theorem Pu.call {f : FuncId} {ds : List D} {d : D} {hv : HV} {Q : D → HV → Prop} (h : Pu P X f ds d) (hd : RNL [] ds ds) (hi : Imm d) (q : Q d hv) : VF P X f ds hv Q := by
  refine VF_frame [] hd (by simp only [RNH]) (by simp) (by simp) (VF.mono h fun d' hv' e => ?_)
  rw [e.1, e.2, hi]
  simpa [putRows] using q
theorem Pu.callW {f : FuncId} {ds es : List D} {d : D} {hv : HV} {Q : D → HV → Prop} (h : Pu P X f es d) (hl : RNL [] ds es) (hi : Imm d) (q : Q d hv) : VFw P X f ds hv [] Q := by
  refine VF_frameW [] hl (by simp only [RNH]) (by simp) (by simp) (VF.mono h fun d' hv' e => ?_)
  rw [e.1, e.2, hi]
  simpa [putRows] using q
theorem Pu.callLe {f : FuncId} {ds es : List D} {d : D} {hv : HV} {Q : D → HV → Prop} (h : Pu P X f es d) (hl : RNL [] ds es) (hi : Imm d) (q : Q d hv) : VF P X f ds hv Q := by
  refine VF_frame [] hl (by simp only [RNH]) (by simp) (by simp) (VF.mono h fun d' hv' e => ?_)
  rw [e.1, e.2, hi]
  simpa [putRows] using q
end
mutual
/-- The second is the data of the first, in rows of its own: those of the list. -/
def Own (hv : HV) : D → D → List Nat → Prop
  | .int k n, s, F => s = .int k n ∧ F = []
  | .bool b, s, F => s = .bool b ∧ F = []
  | .str t, s, F => s = .str t ∧ F = []
  | .sl w rows, s, F => (rows = [] ∧ s = .nil ∧ F = []) ∨ ∃ id r G, s = .ref id 0 rows.length ∧ readV hv id = some r ∧ r.esz = w ∧ OwnRows hv w rows r.cells G ∧ F = id :: G
  | .agg cs, s, F => ∃ ss, s = .agg ss ∧ OwnCells hv cs ss F
  | .tup cs, s, F => ∃ ss, s = .tup ss ∧ OwnCells hv cs ss F
  | .nil, _, _ => False
  | .ref _ _ _, _, _ => False
  | .ptr _ _, _, _ => False
  | .vp _, _, _ => False
  | .fn _ _, _, _ => False
  | .nilf, _, _ => False
  | .any, _, _ => False
def OwnCells (hv : HV) : List D → List D → List Nat → Prop
  | [], ss, F => ss = [] ∧ F = []
  | d :: ds, ss, F => ∃ s ss' F1 F2, ss = s :: ss' ∧ Own hv d s F1 ∧ OwnCells hv ds ss' F2 ∧ F = F1 ++ F2
def OwnRows (hv : HV) (w : Nat) : List (List D) → List D → List Nat → Prop
  | [], ss, F => ss = [] ∧ F = []
  | r :: rs, ss, F => ∃ a b F1 F2, ss = a ++ b ∧ a.length = w ∧ OwnCells hv r a F1 ∧ OwnRows hv w rs b F2 ∧ F = F1 ++ F2
end
mutual
theorem Own.frame {hv hv' : HV} : ∀ {d s : D} {F : List Nat}, Own hv d s F → (∀ i ∈ F, readV hv' i = readV hv i) → Own hv' d s F
  | .int k n, s, F, h, _ => by simp only [Own] at h ⊢; exact h
  | .bool b, s, F, h, _ => by simp only [Own] at h ⊢; exact h
  | .str t, s, F, h, _ => by simp only [Own] at h ⊢; exact h
  | .sl w rows, s, F, h, k => by
    simp only [Own] at h ⊢
    refine h.imp (fun x => x) ?_
    rintro ⟨id, r, G, rfl, h1, h2, h3, rfl⟩
    exact ⟨id, r, G, rfl, by rw [k id (by simp)]; exact h1, h2, OwnRows.frame h3 (fun i hi => k i (by simp [hi])), rfl⟩
  | .agg cs, s, F, h, k => by
    simp only [Own] at h ⊢
    obtain ⟨ss, rfl, h⟩ := h
    exact ⟨ss, rfl, OwnCells.frame h k⟩
  | .tup cs, s, F, h, k => by
    simp only [Own] at h ⊢
    obtain ⟨ss, rfl, h⟩ := h
    exact ⟨ss, rfl, OwnCells.frame h k⟩
  | .nil, _, _, h, _ => by simp only [Own] at h
  | .ref _ _ _, _, _, h, _ => by simp only [Own] at h
  | .ptr _ _, _, _, h, _ => by simp only [Own] at h
  | .vp _, _, _, h, _ => by simp only [Own] at h
  | .fn _ _, _, _, h, _ => by simp only [Own] at h
  | .nilf, _, _, h, _ => by simp only [Own] at h
  | .any, _, _, h, _ => by simp only [Own] at h
theorem OwnCells.frame {hv hv' : HV} : ∀ {ds ss : List D} {F : List Nat}, OwnCells hv ds ss F → (∀ i ∈ F, readV hv' i = readV hv i) → OwnCells hv' ds ss F
  | [], ss, F, h, _ => by simp only [OwnCells] at h ⊢; exact h
  | d :: ds, ss, F, h, k => by
    simp only [OwnCells] at h ⊢
    obtain ⟨s, ss', F1, F2, rfl, h1, h2, rfl⟩ := h
    exact ⟨s, ss', F1, F2, rfl, Own.frame h1 (fun i hi => k i (by simp [hi])), OwnCells.frame h2 (fun i hi => k i (by simp [hi])), rfl⟩
theorem OwnRows.frame {hv hv' : HV} {w : Nat} : ∀ {rs : List (List D)} {ss : List D} {F : List Nat}, OwnRows hv w rs ss F → (∀ i ∈ F, readV hv' i = readV hv i) → OwnRows hv' w rs ss F
  | [], ss, F, h, _ => by simp only [OwnRows] at h ⊢; exact h
  | r :: rs, ss, F, h, k => by
    simp only [OwnRows] at h ⊢
    obtain ⟨a, b, F1, F2, rfl, h0, h1, h2, rfl⟩ := h
    exact ⟨a, b, F1, F2, rfl, h0, OwnCells.frame h1 (fun i hi => k i (by simp [hi])), OwnRows.frame h2 (fun i hi => k i (by simp [hi])), rfl⟩
end
mutual
theorem Own.deep {hv : HV} {n0 : Nat} : ∀ {d s : D} {F : List Nat}, Own hv d s F → (∀ i ∈ F, n0 ≤ i) → Deep n0 hv d s
  | .int k n, s, F, h, _ => by simp only [Own] at h; simp only [Deep]; exact h.1
  | .bool b, s, F, h, _ => by simp only [Own] at h; simp only [Deep]; exact h.1
  | .str t, s, F, h, _ => by simp only [Own] at h; simp only [Deep]; exact h.1
  | .sl w rows, s, F, h, k => by
    simp only [Own] at h
    simp only [Deep]
    rcases h with ⟨rfl, rfl, rfl⟩ | ⟨id, r, G, rfl, h1, h2, h3, rfl⟩
    · exact .inr (.inl ⟨rfl, .inl rfl⟩)
    · exact .inr (.inr ⟨id, 0, r, k id (by simp), rfl, h1, by rw [List.drop_zero]; exact OwnRows.deep h3 (fun i hi => k i (by simp [hi]))⟩)
  | .agg cs, s, F, h, k => by
    simp only [Own] at h
    simp only [Deep]
    obtain ⟨ss, rfl, h⟩ := h
    exact ⟨ss, rfl, OwnCells.deep h k⟩
  | .tup cs, s, F, h, k => by
    simp only [Own] at h
    simp only [Deep]
    obtain ⟨ss, rfl, h⟩ := h
    exact ⟨ss, rfl, OwnCells.deep h k⟩
  | .nil, _, _, h, _ => by simp only [Own] at h
  | .ref _ _ _, _, _, h, _ => by simp only [Own] at h
  | .ptr _ _, _, _, h, _ => by simp only [Own] at h
  | .vp _, _, _, h, _ => by simp only [Own] at h
  | .fn _ _, _, _, h, _ => by simp only [Own] at h
  | .nilf, _, _, h, _ => by simp only [Own] at h
  | .any, _, _, h, _ => by simp only [Own] at h
theorem OwnCells.deep {hv : HV} {n0 : Nat} : ∀ {ds ss : List D} {F : List Nat}, OwnCells hv ds ss F → (∀ i ∈ F, n0 ≤ i) → DeepCells n0 hv ds ss
  | [], ss, F, h, _ => by simp only [OwnCells] at h; simp only [DeepCells]; exact h.1
  | d :: ds, ss, F, h, k => by
    simp only [OwnCells] at h
    simp only [DeepCells]
    obtain ⟨s, ss', F1, F2, rfl, h1, h2, rfl⟩ := h
    exact ⟨s, ss', rfl, Own.deep h1 (fun i hi => k i (by simp [hi])), OwnCells.deep h2 (fun i hi => k i (by simp [hi]))⟩
theorem OwnRows.deep {hv : HV} {n0 : Nat} {w : Nat} : ∀ {rs : List (List D)} {ss : List D} {F : List Nat}, OwnRows hv w rs ss F → (∀ i ∈ F, n0 ≤ i) → DeepRows n0 hv w rs ss
  | [], ss, F, h, _ => by simp only [DeepRows]
  | r :: rs, ss, F, h, k => by
    simp only [OwnRows] at h
    simp only [DeepRows]
    obtain ⟨a, b, F1, F2, rfl, h0, h1, h2, rfl⟩ := h
    exact ⟨a, b, rfl, h0, OwnCells.deep h1 (fun i hi => k i (by simp [hi])), OwnRows.deep h2 (fun i hi => k i (by simp [hi]))⟩
end
/-- Rests on no row that is only read. -/
def NoIm (d : D) : Prop := ∀ (c c' : Cx) H v, c'.μ = c.μ → c'.n = c.n → RD c H d v → RD c' H d v
theorem NoIm.cells {c c' : Cx} {H : Heap} (hm : c'.μ = c.μ) (hn : c'.n = c.n) : ∀ {ds : List D} {vs : List Value}, (∀ d ∈ ds, NoIm d) → RCells c H ds vs → RCells c' H ds vs
  | [], vs, _, k => by simp only [RCells] at k ⊢; exact k
  | d :: ds, vs, h, k => by
    simp only [RCells] at k ⊢
    obtain ⟨v, vs', rfl, k1, k2⟩ := k
    exact ⟨v, vs', rfl, h d (by simp) c c' H v hm hn k1, NoIm.cells hm hn (fun d hd => h d (by simp [hd])) k2⟩
theorem NoIm.agg {ds : List D} (h : ∀ d ∈ ds, NoIm d) : NoIm (.agg ds) := fun c c' H v hm hn k => by
  simp only [RD] at k ⊢
  obtain ⟨vs, rfl, k⟩ := k
  exact ⟨vs, rfl, NoIm.cells hm hn h k⟩
theorem NoIm.tup {ds : List D} (h : ∀ d ∈ ds, NoIm d) : NoIm (.tup ds) := fun c c' H v hm hn k => by
  simp only [RD] at k ⊢
  obtain ⟨vs, rfl, k⟩ := k
  exact ⟨vs, rfl, NoIm.cells hm hn h k⟩
theorem NoIm.int (k : IntKind) (n : Int) : NoIm (.int k n) := fun c c' H v _ _ h => by simp only [RD] at h ⊢; exact h
theorem NoIm.bool (b : Bool) : NoIm (.bool b) := fun c c' H v _ _ h => by simp only [RD] at h ⊢; exact h
theorem NoIm.str (s : ByteArray) : NoIm (.str s) := fun c c' H v _ _ h => by simp only [RD] at h ⊢; exact h
theorem NoIm.nil : NoIm .nil := fun c c' H v _ _ h => by simp only [RD] at h ⊢; exact h
theorem NoIm.ref (i o l : Nat) : NoIm (.ref i o l) := fun c c' H v hm hn h => by simp only [RD] at h ⊢; rw [hm, hn]; exact h
mutual
theorem Own.noIm {hv : HV} : ∀ {d s : D} {F : List Nat}, Own hv d s F → NoIm s ∧ ∀ i ∈ F, ∀ r, readV hv i = some r → ∀ x ∈ r.cells, NoIm x
  | .int k n, s, F, h => by simp only [Own] at h; obtain ⟨rfl, rfl⟩ := h; exact ⟨.int _ _, by simp⟩
  | .bool b, s, F, h => by simp only [Own] at h; obtain ⟨rfl, rfl⟩ := h; exact ⟨.bool _, by simp⟩
  | .str t, s, F, h => by simp only [Own] at h; obtain ⟨rfl, rfl⟩ := h; exact ⟨.str _, by simp⟩
  | .sl w rows, s, F, h => by
    simp only [Own] at h
    rcases h with ⟨rfl, rfl, rfl⟩ | ⟨id, r, G, rfl, h1, h2, h3, rfl⟩
    · exact ⟨.nil, by simp⟩
    · obtain ⟨k1, k2⟩ := OwnRows.noIm h3
      refine ⟨.ref _ _ _, fun i hi r' hr' => ?_⟩
      simp only [List.mem_cons] at hi
      rcases hi with rfl | hi
      · rw [h1] at hr'; cases hr'; exact k1
      · exact k2 i hi r' hr'
  | .agg cs, s, F, h => by
    simp only [Own] at h
    obtain ⟨ss, rfl, h⟩ := h
    obtain ⟨k1, k2⟩ := OwnCells.noIm h
    exact ⟨.agg k1, k2⟩
  | .tup cs, s, F, h => by
    simp only [Own] at h
    obtain ⟨ss, rfl, h⟩ := h
    obtain ⟨k1, k2⟩ := OwnCells.noIm h
    exact ⟨.tup k1, k2⟩
  | .nil, _, _, h => by simp only [Own] at h
  | .ref _ _ _, _, _, h => by simp only [Own] at h
  | .ptr _ _, _, _, h => by simp only [Own] at h
  | .vp _, _, _, h => by simp only [Own] at h
  | .fn _ _, _, _, h => by simp only [Own] at h
  | .nilf, _, _, h => by simp only [Own] at h
  | .any, _, _, h => by simp only [Own] at h
theorem OwnCells.noIm {hv : HV} : ∀ {ds ss : List D} {F : List Nat}, OwnCells hv ds ss F → (∀ s ∈ ss, NoIm s) ∧ ∀ i ∈ F, ∀ r, readV hv i = some r → ∀ x ∈ r.cells, NoIm x
  | [], ss, F, h => by simp only [OwnCells] at h; obtain ⟨rfl, rfl⟩ := h; simp
  | d :: ds, ss, F, h => by
    simp only [OwnCells] at h
    obtain ⟨s, ss', F1, F2, rfl, h1, h2, rfl⟩ := h
    obtain ⟨k1, k2⟩ := Own.noIm h1
    obtain ⟨k3, k4⟩ := OwnCells.noIm h2
    refine ⟨fun x hx => ?_, fun i hi => ?_⟩
    · simp only [List.mem_cons] at hx
      rcases hx with rfl | hx
      · exact k1
      · exact k3 x hx
    · simp only [List.mem_append] at hi
      exact hi.elim (k2 i) (k4 i)
theorem OwnRows.noIm {hv : HV} {w : Nat} : ∀ {rs : List (List D)} {ss : List D} {F : List Nat}, OwnRows hv w rs ss F → (∀ s ∈ ss, NoIm s) ∧ ∀ i ∈ F, ∀ r, readV hv i = some r → ∀ x ∈ r.cells, NoIm x
  | [], ss, F, h => by simp only [OwnRows] at h; obtain ⟨rfl, rfl⟩ := h; simp
  | r :: rs, ss, F, h => by
    simp only [OwnRows] at h
    obtain ⟨a, b, F1, F2, rfl, h0, h1, h2, rfl⟩ := h
    obtain ⟨k1, k2⟩ := OwnCells.noIm h1
    obtain ⟨k3, k4⟩ := OwnRows.noIm h2
    refine ⟨fun x hx => ?_, fun i hi => ?_⟩
    · simp only [List.mem_append] at hx
      exact hx.elim (k1 x) (k3 x)
    · simp only [List.mem_append] at hi
      exact hi.elim (k2 i) (k4 i)
end
end Go.Proofs.Ytmbikamebhoelaa.Ai.Av
