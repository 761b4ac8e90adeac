/- Stores, copies and appends, on the machine and on the plain heap. No condition. -/
import Derived.Test.YtmbikamebhoelaaAi10
set_option linter.unusedVariables false
set_option linter.unusedSimpArgs false
namespace Go.Proofs.Ytmbikamebhoelaa.Ai
open Go
section
variable {P : Program} {w : World} {ρ : Rho}

theorem store_ok {t : TypeId} {p p' x x' : Value} {H H₁ : Heap} (hr : Rel ρ H w) (hp : V ρ p p') (hx : V ρ x x') (h : storeA P t p x H = some H₁) :
    ∃ w', (Instr.storeAt t p' x').run P w = .ok () w' ∧ Stp ρ H w ρ H₁ w' := by
  unfold storeA at h
  split at h
  · rename_i id off
    cases hrow : readRow H id with
    | none => simp [hrow] at h
    | some r =>
      simp only [hrow, Option.bind_some] at h
      split at h
      · rename_i hc
        obtain ⟨c1, c2, c3, c4⟩ := hc
        cases h
        obtain ⟨_, l, hl, hm⟩ := V_ptr hp
        have hcv := V.cells c4 hx
        obtain ⟨c0, e0, fr0, g1, g2, g3, g4⟩ := (hr.rows id l r hl hrow).ok
        obtain ⟨_, _, gcs, _⟩ := g4 (g3.trans c1)
        have hrl : r.cells.length ≤ l.cells := by
          rcases Nat.eq_zero_or_pos r.cells.length with h0 | h0
          · omega
          · obtain ⟨v', k1, _⟩ := g2 (r.cells.length - 1) _ (List.getElem?_eq_getElem (by omega))
            have hlt : l.base + (r.cells.length - 1) < c0.size := by
              rcases Nat.lt_or_ge (l.base + (r.cells.length - 1)) c0.size with k | k
              · exact k
              · rw [Array.getElem?_eq_none k] at k1; cases k1
            omega
        obtain ⟨c, e, h1, hcs, hold, hbase, hrun⟩ := write_run (P := P) hr hl hrow c1 hcv c4 (off := off) (by omega)
        have hn : tsz P t = some x'.cells.size := by rw [← c2, hcv.length]; simp
        refine ⟨_, ?_, write_stp hr hl hrow c1 h1 (cells := splice r.cells off (cellsOf x)) (c' := (splice c.toList off x'.cells.toList).toArray) (by simp; rw [splice_length (by simp; rw [← Array.length_toList, ← hcv.length]; omega)]; simp) ?_⟩
        · rw [hm]
          simp only [Instr.storeAt, Instr.sureAddr, storeVar, Sem.run_bind, Sem.run_pure, Result.andThen_ok, run_sizeOf_t hn, hbase, Nat.zero_add]
          rw [if_neg (by simp)]
          simp only [hrun]
        · intro j v hj
          have hlen : (cellsOf x).length = x'.cells.toList.length := hcv.length
          simp only [splice, List.getElem?_append, List.length_append, List.length_take] at hj
          simp only [splice, List.getElem?_toArray, List.getElem?_append, List.length_append, List.length_take]
          have m1 : min off r.cells.length = off := by omega
          have m2 : min off c.toList.length = off := by simp; omega
          rw [m1] at hj
          rw [m2, ← hlen]
          by_cases j1 : j < off + (cellsOf x).length
          · rw [if_pos j1] at hj
            rw [if_pos j1]
            by_cases j2 : j < off
            · rw [if_pos j2] at hj
              rw [if_pos j2]
              rw [List.getElem?_take_of_lt j2] at hj
              obtain ⟨v', k1, k2⟩ := hold j v hj
              exact ⟨v', by rw [List.getElem?_take_of_lt j2]; simpa using k1, k2⟩
            · rw [if_neg j2] at hj
              rw [if_neg j2]
              exact hcv.get hj
          · rw [if_neg j1] at hj
            rw [if_neg j1]
            rw [List.getElem?_drop] at hj ⊢
            rw [show off + (cellsOf x).length + (j - (off + (cellsOf x).length)) = j from by omega] at hj ⊢
            obtain ⟨v', k1, k2⟩ := hold j v hj
            exact ⟨v', by simpa using k1, k2⟩
      · cases h
  · cases h

/-- A slice's first cells, as the machine reads them. -/
theorem first_ok {x x' : Value} {n size : Nat} {cs : List Value} {H : Heap} (hr : Rel ρ H w) (hx : V ρ x x') (h : cellsAt H x n size = some cs) : ∃ cs' : List Value, (Builtin.firstCells size n x').run P w = .ok cs'.toArray w ∧ All2 (VS ρ) cs cs' ∧ cs.length = n * size := by
  unfold cellsAt at h
  split at h
  · rename_i id off len
    split at h
    · rename_i hn
      obtain ⟨_, _, hx⟩ := hx
      split at h
      · rename_i h0
        cases h
        subst h0
        refine ⟨[], ?_, trivial, by simp⟩
        rcases hx with ⟨_, _, _, hx⟩ | ⟨_, l, _, A, c, hx, _⟩
        · rw [hx]; rfl
        · rw [hx]
          cases A with
          | none => rfl
          | some a =>
            show (loadCells a (0 * size)).run P w = _
            rw [Nat.zero_mul]; rfl
      · rename_i h0
        cases hrow : readRow H id with
        | none => simp [hrow] at h
        | some r =>
          simp only [hrow, Option.bind_some] at h
          split at h
          · rename_i hfit
            cases h
            rcases hx with ⟨_, hl0, _, _⟩ | ⟨_, l, hl, A, c, hx, hc, hA, _⟩
            · omega
            · rw [hx, hA (by omega)]
              have hok := hr.rows id l r hl hrow
              have hcell : ∀ j, j < n * size → ∃ v', w.cell? ⟨l.block, l.base + off + j, none⟩ = some v' ∧ VS ρ ((r.cells.drop off).take (n * size))[j]! v' := fun j hj => by
                have hlt : off + j < r.cells.length := by omega
                obtain ⟨v', h1, h2⟩ := hok.cell (List.getElem?_eq_getElem hlt)
                refine ⟨v', by rw [Nat.add_assoc]; exact h1, ?_⟩
                have : ((r.cells.drop off).take (n * size))[j]! = r.cells[off + j] := by
                  rw [List.getElem!_eq_getElem?_getD, List.getElem?_take_of_lt hj, List.getElem?_drop, List.getElem?_eq_getElem hlt]; rfl
                rw [this]; exact h2
              let f : Nat → Value := fun j => if hj : j < n * size then Classical.choose (hcell j hj) else undef
              have hf : ∀ j (hj : j < n * size), w.cell? ⟨l.block, l.base + off + j, none⟩ = some (f j) ∧ VS ρ ((r.cells.drop off).take (n * size))[j]! (f j) := fun j hj => by
                simp only [f, hj, dif_pos]; exact Classical.choose_spec (hcell j hj)
              have hrun := run_loadCells (P := P) w ⟨l.block, l.base + off, none⟩ (n * size) f (fun j hj => by rw [addr_add]; exact (hf j hj).1)
              have hlen : ((r.cells.drop off).take (n * size)).length = n * size := by simp; omega
              refine ⟨(List.range (n * size)).map f, hrun, All2.of_get (by simp; omega) fun i a hi => ?_, hlen⟩
              have hin : i < n * size := by
                rcases Nat.lt_or_ge i (n * size) with k | k
                · exact k
                · rw [List.getElem?_eq_none (by omega)] at hi; cases hi
              refine ⟨f i, by simp [hin], ?_⟩
              have := (hf i hin).2
              rw [List.getElem!_eq_getElem?_getD, hi] at this
              exact this
          · cases h
    · cases h
  · cases h
theorem run_storeCells_nil (a : Addr) : (storeCells a []).run P w = .ok () w := rfl
theorem V_slice_len {a : Addr} {n c : Nat} {v : Value} (h : V ρ (.slice (some a) n c) v) : ∃ A c', v = .slice A n c' ∧ n ≤ c' := by
  obtain ⟨_, _, h⟩ := h
  rcases h with ⟨_, h0, _, h⟩ | ⟨_, _, _, A, c', h, hc, _⟩
  · subst h0; exact ⟨none, 0, h, Nat.le_refl _⟩
  · exact ⟨A, c', h, hc⟩
theorem splice_get {cs xs : List Value} {cs' : List Value} {xs' : List Value} {off : Nat} (hx : All2 (VS ρ) xs xs') (h1 : off + xs.length ≤ cs'.length) (h2 : off ≤ cs.length)
    (hold : ∀ (j : Nat) (v : Value), cs[j]? = some v → ∃ v', cs'[j]? = some v' ∧ VS ρ v v') : ∀ (j : Nat) (v : Value), (splice cs off xs)[j]? = some v → ∃ v', (splice cs' off xs')[j]? = some v' ∧ VS ρ v v' := by
  intro j v hj
  have hlen : xs.length = xs'.length := hx.length
  simp only [splice, List.getElem?_append, List.length_append, List.length_take] at hj
  simp only [splice, List.getElem?_append, List.length_append, List.length_take]
  have m1 : min off cs.length = off := by omega
  have m2 : min off cs'.length = off := by omega
  rw [m1] at hj
  rw [m2, ← hlen]
  by_cases j1 : j < off + xs.length
  · rw [if_pos j1] at hj
    rw [if_pos j1]
    by_cases j2 : j < off
    · rw [if_pos j2] at hj
      rw [if_pos j2]
      rw [List.getElem?_take_of_lt j2] at hj
      obtain ⟨v', k1, k2⟩ := hold j v hj
      exact ⟨v', by rw [List.getElem?_take_of_lt j2]; exact k1, k2⟩
    · rw [if_neg j2] at hj
      rw [if_neg j2]
      exact hx.get hj
  · rw [if_neg j1] at hj
    rw [if_neg j1]
    rw [List.getElem?_drop] at hj ⊢
    rw [show off + xs.length + (j - (off + xs.length)) = j from by omega] at hj ⊢
    exact hold j v hj
theorem row_len {H : Heap} (hr : Rel ρ H w) {id : Nat} {l : Loc} {r : Row} (hl : ρ id = some l) (hrow : readRow H id = some r) (ho : r.own = true) : r.cells.length ≤ l.cells := by
  obtain ⟨c0, e0, fr0, g1, g2, g3, g4⟩ := (hr.rows id l r hl hrow).ok
  obtain ⟨_, _, gcs, _⟩ := g4 (g3.trans ho)
  rcases Nat.eq_zero_or_pos r.cells.length with h0 | h0
  · omega
  · obtain ⟨v', k1, _⟩ := g2 (r.cells.length - 1) _ (List.getElem?_eq_getElem (by omega))
    have hlt : l.base + (r.cells.length - 1) < c0.size := by
      rcases Nat.lt_or_ge (l.base + (r.cells.length - 1)) c0.size with k | k
      · exact k
      · rw [Array.getElem?_eq_none k] at k1; cases k1
    omega
theorem copy_ok {t : TypeId} {ts : Array TypeId} {ty : TypeId} {d d' s s' v : Value} {H H₁ : Heap} (hr : Rel ρ H w) (hd : V ρ d d') (hs : V ρ s s') (ht : ts[0]? = some t) (h : copyA P t d s H = some (v, H₁)) :
    ∃ w', (Builtin.copy_ ts ty #[d', s']).run P w = .ok v w' ∧ Stp ρ H w ρ H₁ w' ∧ V ρ v v := by
  unfold copyA at h
  split at h
  · rename_i id off dl sa sl
    cases he : telem P t with
    | none => simp [he] at h
    | some e =>
      cases hn : tsz P e with
      | none => simp [he, hn] at h
      | some n =>
        cases hc : cellsAt H (.slice (some sa) sl 0) (Nat.min sl dl) n with
        | none => simp [he, hn, hc] at h
        | some cs =>
          simp only [he, hn, hc, Option.bind_some] at h
          obtain ⟨cs', f1, f2, f3⟩ := first_ok (P := P) hr hs hc
          obtain ⟨A, c, e1, _⟩ := V_slice_len hd
          obtain ⟨B, c2, e2, _⟩ := V_slice_len hs
          have hu := telem_und he
          have run0 : ∀ w', (∀ a, A = some a → (storeCells a cs').run P w = .ok () w') → (A = none → w' = w) → (Builtin.copy_ ts ty #[d', s']).run P w = .ok (goInt (Nat.min sl dl)) w' := fun w' hst hno => by
            rw [e1]
            simp only [Builtin.copy_, ht]
            rw [show (#[Value.slice A dl c, s'] : Array Value)[0]? = some (.slice A dl c) from rfl, show (#[Value.slice A dl c, s'] : Array Value)[1]? = some s' from rfl]
            simp only [Sem.run_bind, run_und hu, Result.andThen_ok]
            rw [show (Builtin.lenOf s').run P w = .ok sl w from by rw [e2]; rfl]
            simp only [Result.andThen_ok, run_sizeOf_t hn, f1, Sem.run_bind]
            cases A with
            | none => rw [hno rfl]; rfl
            | some a => simp only [hst a rfl, Result.andThen_ok, Sem.run_bind, Sem.run_pure]
          split at h
          · rename_i h0
            cases h
            have hnil : cs' = [] := by
              have := f2.length
              rw [f3, h0, Nat.zero_mul] at this
              exact List.length_eq_zero_iff.1 this.symm
            refine ⟨w, ?_, Stp.refl hr, V_int'⟩
            rw [run0 w (fun a _ => by rw [hnil]; rfl) (fun _ => rfl), h0]
            rfl
          · rename_i h0
            cases hrow : readRow H id with
            | none => simp [hrow] at h
            | some r =>
              simp only [hrow, Option.bind_some] at h
              split at h
              · rename_i hq
                obtain ⟨q1, q2, q3⟩ := hq
                cases h
                obtain ⟨_, _, hd2⟩ := hd
                rcases hd2 with ⟨_, hl0, _, _⟩ | ⟨_, l, hl, A', c', e1', hc', hA, _⟩
                · exact absurd (by rw [hl0]; exact Nat.min_zero sl) h0
                · rw [e1] at e1'
                  cases e1'
                  have hpos : 0 < dl := by
                    rcases Nat.eq_zero_or_pos dl with k | k
                    · exact absurd (by rw [k]; exact Nat.min_zero sl) h0
                    · exact k
                  have hrl := row_len hr hl hrow q1
                  obtain ⟨c0, e0, h1, hcs, hold, hbase, hrun⟩ := write_run (P := P) hr hl hrow q1 f2 q3 (off := off) (by omega)
                  have hcl : c0.toList.length = l.cells := by simpa using hcs
                  refine ⟨_, run0 _ (fun a ha => ?_) (fun hA0 => ?_), write_stp hr hl hrow q1 h1 (cells := splice r.cells off cs) (c' := (splice c0.toList off cs').toArray) (by simp; rw [splice_length (by rw [← f2.length]; omega)]; simp) ?_, V_int'⟩
                  · rw [hA hpos] at ha
                    cases ha
                    rw [hbase, Nat.zero_add]
                    exact hrun
                  · rw [hA hpos] at hA0; cases hA0
                  · intro j v hj
                    have := splice_get (cs' := c0.toList) f2 (by omega) (by omega) (fun j v hv => by simpa using hold j v hv) j v hj
                    simpa using this
              · cases h
  · cases h
end
end Go.Proofs.Ytmbikamebhoelaa.Ai
