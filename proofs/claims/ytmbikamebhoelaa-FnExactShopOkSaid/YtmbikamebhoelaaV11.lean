/- What the arguments of a law read as, as data over the plain heap. No condition. -/
import Derived.Test.YtmbikamebhoelaaV10
import Derived.Test.YtmbikamebhoelaaAi25
import Derived.ChangeArms
set_option linter.unusedVariables false
set_option linter.unusedSimpArgs false
namespace Go.Proofs.Ytmbikamebhoelaa.Ai.Av
open Go Go.ChangeShapes Go.WideShapes

/-- The flat shape of a type: one for each cell. -/
inductive Sh where
  | int (k : IntKind)
  | bool
  | str
  | sl (w : Nat) (rows : List Sh)
def shapeFields (P : Program) (g : TypeId → Option (List Sh)) : List Field → Nat → Option (List Sh)
  | [], _ => some []
  | f :: fs, off => if f.offset = off then (g f.type).bind fun s => if P.cellsOf f.type = s.length then (shapeFields P g fs (off + s.length)).map (s ++ ·) else none else none
def shapeOf (P : Program) : Nat → TypeId → Option (List Sh)
  | 0, _ => none
  | n + 1, t =>
    match P.underlying t with
    | some (.int k) => some [.int k]
    | some .bool => some [.bool]
    | some .string => some [.str]
    | some (.slice e) => (shapeOf P n e).bind fun s => if P.cellsOf e = s.length ∧ 0 < s.length then some [.sl s.length s] else none
    | some (.struct fs) => (shapeFields P (shapeOf P n) fs.toList 0).bind fun s => if P.cellsOf t = s.length then some s else none
    | _ => none
mutual
/-- The data have the shape, within the machine's bounds. -/
def Fit : Sh → D → Prop
  | .int k, d => ∃ n, d = .int k n ∧ k.min ≤ n ∧ n ≤ k.max
  | .bool, d => ∃ b, d = .bool b
  | .str, d => ∃ s, d = .str s ∧ s.size ≤ 9223372036854775807
  | .sl w s, d => ∃ rows, d = .sl w rows ∧ rows.length ≤ 9223372036854775807 ∧ ∀ r ∈ rows, FitAll s r
def FitAll : List Sh → List D → Prop
  | [], ds => ds = []
  | s :: ss, ds => ∃ d ds', ds = d :: ds' ∧ Fit s d ∧ FitAll ss ds'
end
theorem FitAll.append : ∀ {s s' : List Sh} {d d' : List D}, FitAll s d → FitAll s' d' → FitAll (s ++ s') (d ++ d')
  | [], s', d, d', h, k => by simp only [FitAll] at h; subst h; exact k
  | s :: ss, s', d, d', h, k => by
    simp only [FitAll] at h
    obtain ⟨x, ds, rfl, h1, h2⟩ := h
    simp only [List.cons_append, FitAll]
    exact ⟨x, ds ++ d', rfl, h1, FitAll.append h2 k⟩
theorem FitAll.one {s : Sh} {d : D} (h : Fit s d) : FitAll [s] [d] := by
  simp only [FitAll]
  exact ⟨d, [], rfl, h, rfl⟩
/-- All that was there is only read. -/
def cxW (W : World) : Cx := ⟨fun id => ∃ r, readRow (absH W) id = some r, fun _ => 0, 0⟩
theorem hrW (W : World) : HR (cxW W) [] (absH W) :=
  ⟨fun i r h => by simp [readV] at h, fun i j r s h => by simp [readV] at h, fun i r h => by simp [readV] at h, fun id h => h, rfl, rfl, by simp [absH]⟩
/-- Elements side by side. -/
theorem rows_build {W : World} {w : Nat} {s : List Sh} {cells : List Value} : ∀ (m j : Nat), (∀ i, i < m → ∃ c1 ds, c1.length = w ∧ (cells.drop ((j + i) * w)).take w = c1 ∧ RCells (cxW W).im (absH W) ds c1 ∧ FitAll s ds) →
    ∃ rows, rows.length = m ∧ RRows (cxW W).im (absH W) w rows (cells.drop (j * w)) ∧ ∀ r ∈ rows, FitAll s r
  | 0, j, _ => ⟨[], rfl, by simp only [RRows], by simp⟩
  | m + 1, j, h => by
    obtain ⟨c1, ds, h1, h2, h3, h4⟩ := h 0 (by omega)
    obtain ⟨rows, k1, k2, k3⟩ := rows_build m (j + 1) (fun i hi => by
      have := h (i + 1) (by omega)
      rwa [show j + (i + 1) = j + 1 + i from by omega] at this)
    refine ⟨ds :: rows, by simp [k1], ?_, fun r hr => ?_⟩
    · simp only [RRows]
      refine ⟨c1, cells.drop ((j + 1) * w), ?_, h1, h3, k2⟩
      rw [← h2, Nat.add_zero, Nat.succ_mul, ← List.drop_drop]
      exact (List.take_append_drop w _).symm
    · simp only [List.mem_cons] at hr
      rcases hr with rfl | hr
      · exact h4
      · exact k3 r hr
section
variable {H : Type} {enc : TypeId × Value → H} {P : Program} {W : World}
theorem read_fields {g : TypeId → Option (List Sh)} {n : Nat} (ih : ∀ t sh, g t = some sh → ∀ cs x, DataW.trod enc P W 0 (fun _ => true) true n t cs = some x → cs.length = sh.length ∧ ∃ ds, RCells (cxW W).im (absH W) ds (cs.map (absS W)) ∧ FitAll sh ds) :
    ∀ (fs : List Field) (off : Nat) (sh : List Sh), shapeFields P g fs off = some sh → ∀ cs : List Value, off + sh.length ≤ cs.length → (∀ f ∈ fs, ∃ x, DataW.trod enc P W 0 (fun _ => true) true n f.type ((cs.drop f.offset).take (P.cellsOf f.type)) = some x) →
      ∃ ds, RCells (cxW W).im (absH W) ds (((cs.drop off).take sh.length).map (absS W)) ∧ FitAll sh ds
  | [], off, sh, h, cs, hl, hx => by
    simp [shapeFields] at h
    subst h
    exact ⟨[], by simp only [List.length_nil, List.take_zero, List.map_nil]; exact .nil, by simp [FitAll]⟩
  | f :: fs, off, sh, h, cs, hl, hx => by
    simp only [shapeFields] at h
    split at h
    · rename_i ho
      cases hg : g f.type with
      | none => simp [hg] at h
      | some s =>
        simp only [hg, Option.bind_some] at h
        split at h
        · rename_i hc
          cases hr : shapeFields P g fs (off + s.length) with
          | none => simp [hr] at h
          | some s' =>
            simp [hr] at h
            subst h
            obtain ⟨x, hx1⟩ := hx f (by simp)
            rw [ho, hc] at hx1
            obtain ⟨e1, ds, e2, e3⟩ := ih f.type s hg _ x hx1
            simp at hl
            obtain ⟨ds', k1, k2⟩ := read_fields ih fs (off + s.length) s' hr cs (by omega) (fun f' hf => hx f' (by simp [hf]))
            refine ⟨ds ++ ds', ?_, e3.append k2⟩
            have : ((cs.drop off).take (s ++ s').length).map (absS W) = ((cs.drop off).take s.length).map (absS W) ++ ((cs.drop (off + s.length)).take s'.length).map (absS W) := by
              rw [← List.map_append, List.length_append, List.take_add, List.drop_drop]
            rw [this]
            exact e2.append k1
        · cases h
    · cases h
theorem read_shape (h0 : 0 < W.heap.size) : ∀ (n : Nat) (t : TypeId) (sh : List Sh), shapeOf P n t = some sh → ∀ (fuel : Nat) (cs : List Value) (x : DataW H × List MemPlace), DataW.trod enc P W 0 (fun _ => true) true fuel t cs = some x →
    cs.length = sh.length ∧ ∃ ds, RCells (cxW W).im (absH W) ds (cs.map (absS W)) ∧ FitAll sh ds := by
  intro n
  induction n with
  | zero => intro t sh h; simp [shapeOf] at h
  | succ n ih =>
    intro t sh h fuel cs x hx
    simp only [shapeOf] at h
    split at h
    · rename_i hu
      cases h
      obtain ⟨m, rfl, _, hw⟩ := DataW.trod_int hu hx
      simp only [Lit.wf, Bool.and_eq_true, decide_eq_true_eq] at hw
      exact ⟨rfl, [.int _ m], .one (by unfold RD; rfl), .one (by simp only [Fit]; exact ⟨m, rfl, hw.1, hw.2⟩)⟩
    · rename_i hu
      cases h
      obtain ⟨b, rfl, _⟩ := DataW.trod_bool hu hx
      exact ⟨rfl, [.bool b], .one (by unfold RD; rfl), .one (by simp only [Fit]; exact ⟨b, rfl⟩)⟩
    · rename_i hu
      cases h
      obtain ⟨b, rfl, _, hsz⟩ := DataW.trod_string hu hx
      exact ⟨rfl, [.str b], .one (by unfold RD; rfl), .one (by simp only [Fit]; exact ⟨b, rfl, hsz⟩)⟩
    · rename_i e hu
      cases hs : shapeOf P n e with
      | none => simp [hs] at h
      | some s =>
        simp only [hs, Option.bind_some] at h
        split at h
        · rename_i hc
          cases h
          rcases DataW.trod_slice hu hx with ⟨rfl, _⟩ | ⟨a, len, cap, elems, rest, m, _, rfl, _, _, hlc, hmx, hlen, hel, _⟩
          · refine ⟨rfl, [.sl s.length []], .one ?_, .one (by simp only [Fit]; exact ⟨[], rfl, by simp, by simp⟩)⟩
            unfold RD
            exact ⟨0, 0, rfl, .inl rfl⟩
          · refine ⟨rfl, ?_⟩
            by_cases hl0 : len = 0
            · subst hl0
              refine ⟨[.sl s.length []], .one ?_, .one (by simp only [Fit]; exact ⟨[], rfl, by simp, by simp⟩)⟩
              unfold RD
              refine ⟨1, 0, ?_, .inl rfl⟩
              show absS W (.slice (some a) 0 cap) = _
              unfold absS
              simp only [h0, if_true, List.length_nil]
            · -- every element's cells
              have hcell : ∀ i, i < len → ∃ ci y, W.cells? 0 (a.add (i * s.length)) s.length = some ci ∧ DataW.trod enc P W 0 (fun _ => true) true m e ci = some y := fun i hi => by
                have h1 := hel i hi
                rw [hc.1] at h1
                have hi' : i < elems.length := by omega
                rw [List.getElem?_eq_getElem hi'] at h1
                cases hci : W.cells? 0 (a.add (i * s.length)) s.length with
                | none => rw [hci] at h1; cases h1
                | some ci => rw [hci] at h1; exact ⟨ci, _, rfl, h1⟩
              obtain ⟨c0, y0, hc0, _⟩ := hcell 0 (by omega)
              have hc0' := World.cells?_some hc0
              have ha0 := hc0'.2.2 0 hc.2
              have hblk := World.cells?_block hc0 hc.2
              have hcell0 : W.cell? a = some (c0[0]'(by rw [hc0'.2.1]; exact hc.2)) := by
                rw [List.getElem?_eq_getElem (by rw [hc0'.2.1]; exact hc.2)] at ha0
                simpa [Addr.add] using ha0
              have hspot := World.cell?_spot hcell0
              obtain ⟨b, off, spot⟩ := a
              simp only at hspot
              subst hspot
              have hb : b < W.heap.size := by simpa [Addr.add] using hblk
              obtain ⟨c, ct, fr, hheap⟩ : ∃ c ct fr, W.heap[b]? = some (.cells c ct fr) := by
                unfold World.cell? at hcell0
                simp only at hcell0
                split at hcell0
                · exact ⟨_, _, _, by assumption⟩
                · cases hcell0
              have hrow : readRow (absH W) (b + 1) = some ⟨c.toList.map (absS W), 0, false⟩ := by
                rw [readRow_absH, hheap]; rfl
              obtain ⟨rows, k1, k2, k3⟩ := rows_build (W := W) (w := s.length) (s := s) (cells := (c.toList.map (absS W)).drop off) len 0 (fun i hi => by
                obtain ⟨ci, y, g1, g2⟩ := hcell i hi
                obtain ⟨q1, ds, q2, q3⟩ := ih e s hs m ci y g2
                obtain ⟨_, g4, g5⟩ := World.cells?_some g1
                refine ⟨ci.map (absS W), ds, by simp [g4], ?_, q2, q3⟩
                refine List.ext_getElem? fun j => ?_
                rcases Nat.lt_or_ge j s.length with hj | hj
                · have h1 := g5 j hj
                  rw [List.getElem?_take_of_lt hj, List.getElem?_drop, List.getElem?_drop, List.getElem?_map, List.getElem?_map, ← h1]
                  have hadd : ((⟨b, off, none⟩ : Addr).add (i * s.length)).add j = ⟨b, off + (i * s.length + j), none⟩ := by
                    rw [addr_add, addr_add]; congr 1; omega
                  rw [hadd]
                  simp only [World.cell?, hheap, Option.isSome_none, Bool.false_eq_true, if_false, Array.getElem?_toList, Nat.zero_add]
                · rw [List.getElem?_eq_none (by simp; omega), List.getElem?_eq_none (by simp [g4]; omega)])
              rw [Nat.zero_mul, List.drop_zero] at k2
              have hne : rows ≠ [] := fun e => by subst e; simp at k1; omega
              refine ⟨[.sl s.length rows], .one ?_, .one (by simp only [Fit]; exact ⟨rows, rfl, by rw [k1]; exact Nat.le_trans hlc hmx, k3⟩)⟩
              simp only [RD]
              refine ⟨b + 1, off, ?_, .inr ⟨⟨_, hrow⟩, _, hrow, k2⟩⟩
              show absS W (.slice (some ⟨b, off, none⟩) len cap) = _
              cases len with
              | zero => exact absurd rfl hl0
              | succ len => unfold absS; simp only [hb, hlc, and_self, if_true, k1]
        · cases h
    · rename_i fs hu
      cases hs : shapeFields P (shapeOf P n) fs.toList 0 with
      | none => simp [hs] at h
      | some s =>
        simp only [hs, Option.bind_some] at h
        split at h
        · rename_i hc
          cases h
          obtain ⟨xs, m, _, _, hl, hlen, hf⟩ := DataW.trod_struct hu hx
          have hl' : cs.length = sh.length := by rw [hl, hc]
          refine ⟨hl', ?_⟩
          have := read_fields (enc := enc) (W := W) (g := shapeOf P n) (n := m) (fun t sh h cs x hx => ih t sh h m cs x hx) fs.toList 0 sh hs cs (by omega) (fun f hf' => by
            obtain ⟨i, hi, rfl⟩ := List.getElem_of_mem hf'
            have hi' : i < fs.size := by simpa using hi
            have := hf i fs[i] (Array.getElem?_eq_getElem hi')
            rw [List.getElem?_eq_getElem (by omega)] at this
            exact ⟨_, by simpa using this⟩)
          obtain ⟨ds, k1, k2⟩ := this
          rw [List.drop_zero, List.take_of_length_le (by omega)] at k1
          exact ⟨ds, k1, k2⟩
        · cases h
    · cases h
end
end Go.Proofs.Ytmbikamebhoelaa.Ai.Av
