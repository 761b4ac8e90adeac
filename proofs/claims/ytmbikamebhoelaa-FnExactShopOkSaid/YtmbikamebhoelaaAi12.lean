/- append, on the machine and on the plain heap, whatever capacity the machine gives. No condition. -/
import Derived.Test.YtmbikamebhoelaaAi11
set_option linter.unusedVariables false
set_option linter.unusedSimpArgs false
namespace Go.Proofs.Ytmbikamebhoelaa.Ai
open Go
section
variable {P : Program} {w : World} {ρ : Rho}

theorem growBy_le : ∀ (r newLen c : Nat), 256 ≤ c → Builtin.growBy newLen r c ≤ max c (2 * newLen)
  | 0, _, c, _ => by simp only [Builtin.growBy]; omega
  | r + 1, newLen, c, hc => by
    simp only [Builtin.growBy]
    split
    · omega
    · have := growBy_le r newLen (c + (c + 768) / 4) (by omega)
      omega
theorem nextcap_le {need c : Nat} (h : c < need) : Builtin.nextslicecap need c ≤ 2 * need := by
  unfold Builtin.nextslicecap
  split
  · omega
  · split
    · omega
    · have := growBy_le 4 need c (by omega)
      omega
section
variable {t u e e2 : TypeId} {ts : Array TypeId} {ty : TypeId} {A B : Option Addr} {len c k c2 n b : Nat}
theorem append_fits (ht : ts[0]? = some t) (hu : ts[1]? = some u) (he : telem P t = some e) (hn : tsz P e = some n) (hue : telem P u = some e2) (xs : Array Value)
    (hnew : (Builtin.firstCells n k (.slice B k c2)).run P w = .ok xs w) (hle : len + k ≤ c) (w' : World) (hst : ∀ a, A = some a → (storeCells (a.add (len * n)) xs.toList).run P w = .ok () w') (hno : A = none → w' = w) :
    (Builtin.append_ ts ty #[.slice A len c, .slice B k c2]).run P w = .ok (.slice A (len + k) c) w' := by
  simp only [Builtin.append_, ht, hu]
  rw [show (#[Value.slice A len c, .slice B k c2] : Array Value)[0]? = some (.slice A len c) from rfl, show (#[Value.slice A len c, .slice B k c2] : Array Value)[1]? = some (.slice B k c2) from rfl]
  simp only [Sem.run_bind, run_und (telem_und he), Result.andThen_ok, run_sizeOf_t hn, run_und (telem_und hue), Sem.run_pure, Bool.false_eq_true, if_false, Builtin.lenOf]
  rw [if_pos hle]
  simp only [Bool.not_false, if_true, Sem.run_bind, hnew, Result.andThen_ok]
  cases A with
  | none => rw [hno rfl]; rfl
  | some a => simp only [Sem.run_bind, hst a rfl, Result.andThen_ok, Sem.run_pure]
theorem append_grows (ht : ts[0]? = some t) (hu : ts[1]? = some u) (he : telem P t = some e) (hn : tsz P e = some n) (hb : tby P e = some b) (hue : telem P u = some e2) (old xs : Array Value) (y : Value) (hz : ∀ w : World, (zeroValue e).run P w = .ok y w)
    (hold : ∀ m, (Builtin.firstCells n len (.slice A len c)).run P { w with drawn := m } = .ok old { w with drawn := m }) (hnew : ∀ m, (Builtin.firstCells n k (.slice B k c2)).run P { w with drawn := m } = .ok xs { w with drawn := m }) (hgt : c < len + k) (hbd : (len + k) * (b + 1) ≤ 1099511627776) :
    ∃ nc, len + k ≤ nc ∧ (Builtin.append_ ts ty #[.slice A len c, .slice B k c2]).run P w = .ok (.slice (some ⟨w.heap.size, 0, none⟩) (len + k) nc) (World.grow { w with drawn := w.drawn + 1 } (.cells (old ++ xs ++ Builtin.zeroCells y.cells (nc - (len + k))) e)) := by
  obtain ⟨ti, hti, hbb⟩ : ∃ i, P.info? e = some i ∧ i.bytes = b := by
    unfold tby at hb
    cases hi : P.info? e with
    | none => simp [hi] at hb
    | some i => simp [hi] at hb; exact ⟨i, rfl, hb⟩
  have hbi : ∀ w : World, (typeInfo e).run P w = .ok ti w := fun w => by simp [typeInfo, hti]
  have hsmall : len + k ≤ 1099511627776 := Nat.le_trans (Nat.le_mul_of_pos_right _ (by omega)) hbd
  have hcap : ¬ Builtin.nextslicecap (len + k) c * b > 2 ^ 48 := by
    have h1 := nextcap_le hgt
    have h2 : Builtin.nextslicecap (len + k) c * b ≤ (2 * (len + k)) * b := Nat.mul_le_mul_right _ h1
    have h3 : (len + k) * b ≤ (len + k) * (b + 1) := Nat.mul_le_mul_left _ (by omega)
    have h4 : 2 * (len + k) * b = 2 * ((len + k) * b) := by rw [Nat.mul_assoc]
    omega
  have hmax : IntKind.i64.max = 9223372036854775807 := by decide
  refine ⟨(Question.appendCap (len + k) c e).cut (w.tape w.drawn (.appendCap (len + k) c e)), by simp [Question.cut], ?_⟩
  have hch : (choose (.appendCap (len + k) c e)).run P w = .ok ((Question.appendCap (len + k) c e).cut (w.tape w.drawn (.appendCap (len + k) c e))) { w with drawn := w.drawn + 1 } := by
    simp [choose, Sem.run, Question.forced]
  simp only [Builtin.append_, ht, hu]
  rw [show (#[Value.slice A len c, .slice B k c2] : Array Value)[0]? = some (.slice A len c) from rfl, show (#[Value.slice A len c, .slice B k c2] : Array Value)[1]? = some (.slice B k c2) from rfl]
  simp only [Sem.run_bind, run_und (telem_und he), Result.andThen_ok, run_sizeOf_t hn, run_und (telem_und hue), Sem.run_pure, Bool.false_eq_true, if_false, Builtin.lenOf]
  rw [if_neg (by omega)]
  simp only [Sem.run_bind, hbi, Result.andThen_ok]
  rw [if_neg (by rw [hmax]; omega)]
  simp only [Sem.run_bind, hbi, Result.andThen_ok, hbb]
  rw [if_neg hcap]
  simp only [Sem.run_bind, hch, hbi, Result.andThen_ok, run_askRoom, hold, hnew, Bool.not_false, if_true, hz, run_newRow_push, Sem.run_pure]
  rfl
end
theorem zeroCells_size (z : Array Value) (n : Nat) : (Builtin.zeroCells z n).size = n * z.size := by simp [Builtin.zeroCells]
theorem first_drawn {x x' : Value} {n size : Nat} {cs : List Value} {H : Heap} (hr : Rel ρ H w) (hx : V ρ x x') (h : cellsAt H x n size = some cs) : ∃ cs' : List Value, (∀ m, (Builtin.firstCells size n x').run P { w with drawn := m } = .ok cs'.toArray { w with drawn := m }) ∧ (Builtin.firstCells size n x').run P w = .ok cs'.toArray w ∧ All2 (VS ρ) cs cs' ∧ cs.length = n * size := by
  obtain ⟨cs', h1, h2, h3⟩ := first_ok (P := P) hr hx h
  refine ⟨cs', fun m => ?_, h1, h2, h3⟩
  obtain ⟨cs'', k1, k2, k3⟩ := first_ok (P := P) (drew_stp hr m).rel hx h
  have hlen : cs''.length = cs'.length := by rw [← k2.length, ← h2.length]
  -- the same cells, whatever has been drawn
  have : ∀ (w : World) (m : Nat), (∃ c, (Builtin.firstCells size n x').run P w = .ok c w) → (Builtin.firstCells size n x').run P { w with drawn := m } = (match (Builtin.firstCells size n x').run P w with | .ok c _ => .ok c { w with drawn := m } | .halt h _ => .halt h { w with drawn := m }) := by
    intro w m ⟨c, hc⟩
    have key : ∀ (a : Addr) (q i : Nat) (acc c : Array Value), (loadCellsFrom a i q acc).run P w = .ok c w → (loadCellsFrom a i q acc).run P { w with drawn := m } = .ok c { w with drawn := m } := by
      intro a q
      induction q with
      | zero => intro i acc c h; simp [loadCellsFrom] at h ⊢; exact h
      | succ q ih =>
        intro i acc c h
        simp only [loadCellsFrom, Sem.run_bind] at h ⊢
        cases hcell : w.cell? (a.add i) with
        | some v =>
          have e1 : (load (a.add i)).run P w = .ok v w := by simp [run_load, hcell]
          have e2 : (load (a.add i)).run P { w with drawn := m } = .ok v { w with drawn := m } := by
            have : World.cell? { w with drawn := m } (a.add i) = some v := hcell
            simp [run_load, this]
          rw [e1, Result.andThen_ok] at h
          rw [e2, Result.andThen_ok]
          exact ih _ _ _ h
        | none =>
          have e1 : (load (a.add i)).run P w = (match w.farLoad P (a.add i) false with | .ok (v, _) => .ok v w | .error h => .halt h w) := by
            simp only [load, Sem.run, hcell]
            rfl
          have e2 : (load (a.add i)).run P { w with drawn := m } = (match World.farLoad P { w with drawn := m } (a.add i) false with | .ok (v, _) => .ok v { w with drawn := m } | .error h => .halt h { w with drawn := m }) := by
            have : World.cell? { w with drawn := m } (a.add i) = none := hcell
            simp only [load, Sem.run, this]
            rfl
          have e3 : World.farLoad P { w with drawn := m } (a.add i) false = w.farLoad P (a.add i) false := rfl
          rw [e3] at e2
          rw [e1] at h
          rw [e2]
          split at h
          · rename_i q1 q2; rw [Result.andThen_ok] at h ⊢; exact ih _ _ _ h
          · simp [Result.andThen] at h
    rw [hc]
    cases x' <;> first | (simp [Builtin.firstCells] at hc; done) | skip
    case string s => simp only [Builtin.firstCells, Sem.run_pure] at hc ⊢; cases hc; rfl
    case slice a l c2 =>
      cases a with
      | none => simp only [Builtin.firstCells, Sem.run_pure] at hc ⊢; cases hc; rfl
      | some a => exact key a _ _ _ _ hc
  rw [this w m ⟨_, h1⟩, h1]
theorem append_ok {t u : TypeId} {ts : Array TypeId} {ty : TypeId} {s s' x x' v : Value} {H H₁ : Heap} (hr : Rel ρ H w) (hs : V ρ s s') (hx : V ρ x x') (ht : ts[0]? = some t) (hu : ts[1]? = some u) (hue : (telem P u).isSome = true) (h : appendA P t s x H = some (v, H₁)) :
    ∃ v' ρ' w', (Builtin.append_ ts ty #[s', x']).run P w = .ok v' w' ∧ Stp ρ H w ρ' H₁ w' ∧ V ρ' v v' := by
  obtain ⟨e2, hue⟩ := Option.isSome_iff_exists.1 hue
  unfold appendA at h
  split at h
  · rename_i id off len xa k
    cases he : telem P t with
    | none => simp [he] at h
    | some e =>
    cases hb : tby P e with
    | none => simp [he, hb] at h
    | some b =>
    cases hz : zeroCellsT P e with
    | none => simp [he, hb, hz] at h
    | some z =>
      have hy : ∃ y n, (∀ w : World, (zeroValue e).run P w = .ok y w) ∧ tsz P e = some n ∧ 0 < n ∧ y.cells.size = n := by
        obtain ⟨y, n, y1, y2, y3, _, y5, _⟩ := zeroT_ok (w := w) (ρ := ρ) hz
        refine ⟨y, n, fun w' => ?_, y2, y3, y5⟩
        obtain ⟨y', n', y1', _⟩ := zeroT_ok (w := w') (ρ := ρ) hz
        have hz0 := hz
        unfold zeroCellsT at hz0
        cases hzz : tzero P e with
        | none => simp [hzz] at hz0
        | some q =>
          have g1 := (run_zero_t (P := P) (w := w) hzz).1
          have g2 := (run_zero_t (P := P) (w := w') hzz).1
          rw [y1] at g1
          cases g1
          exact g2
      obtain ⟨y, n, y1, hn, hn0, hyl⟩ := hy
      simp only [he, hn, hb, hz, Option.bind_some] at h
      obtain ⟨A, c, es, hlc⟩ := V_slice_len hs
      obtain ⟨B, c2, ex, hkc⟩ := V_slice_len hx
      rw [es, ex]
      rw [es] at hs
      rw [ex] at hx
      split at h
      · rename_i hk0
        cases h
        subst hk0
        refine ⟨.slice A len c, ρ, w, ?_, Stp.refl hr, hs⟩
        have hnew : (Builtin.firstCells n 0 (.slice B 0 c2)).run P w = .ok #[] w := by
          cases B with
          | none => rfl
          | some a => show (loadCells a (0 * n)).run P w = _; rw [Nat.zero_mul]; rfl
        exact append_fits ht hu he hn hue #[] hnew hlc w (fun a _ => rfl) (fun _ => rfl)
      · rename_i hk0
        split at h
        · rename_i hbd
          obtain ⟨hbd, hb4⟩ := hbd
          cases ho : cellsAt H (.slice (some ⟨id, off, none⟩) len 0) len n with
          | none => simp [ho] at h
          | some old =>
            cases hw : cellsAt H (.slice (some xa) k 0) k n with
            | none => simp [ho, hw] at h
            | some new =>
              simp only [ho, hw, Option.bind_some] at h
              obtain ⟨old', o1, o2, o3, o4⟩ := first_drawn (P := P) hr hs ho
              obtain ⟨new', n1, n2, n3, n4⟩ := first_drawn (P := P) hr hx hw
              split at h
              · cases h
              · rename_i hsc
                have hsc : new.all scalar = true := by simpa using hsc
                -- the machine makes a block of its own
                have grown : c < len + k → ∀ (hrd : Rel ρ H w), ∃ nc, len + k ≤ nc ∧ ∃ cells : Array Value, (Builtin.append_ ts ty #[.slice A len c, .slice B k c2]).run P w = .ok (.slice (some ⟨w.heap.size, 0, none⟩) (len + k) nc) (World.grow { w with drawn := w.drawn + 1 } (.cells cells e)) ∧ cells.size = nc * n ∧ (∀ (j : Nat) v, (old ++ new)[j]? = some v → ∃ v', cells[j]? = some v' ∧ VS ρ v v') := fun hgt hrd => by
                  obtain ⟨nc, g1, g2⟩ := append_grows ht hu he hn hb hue old'.toArray new'.toArray y y1 o1 n1 hgt hbd
                  refine ⟨nc, g1, _, g2, ?_, fun j v hj => ?_⟩
                  · have e1 : old'.length = len * n := by rw [← o3.length, o4]
                    have e2 : new'.length = k * n := by rw [← n3.length, n4]
                    have e3 : len * n + k * n = (len + k) * n := by rw [Nat.add_mul]
                    have e4 : (len + k) * n + (nc - (len + k)) * n = nc * n := by rw [← Nat.add_mul, show len + k + (nc - (len + k)) = nc from by omega]
                    simp [zeroCells_size, e1, e2, hyl]
                    omega
                  · obtain ⟨v', k1, k2⟩ := (o3.append n3).get hj
                    refine ⟨v', ?_, k2⟩
                    have hlt : j < (old' ++ new').length := by
                      rcases Nat.lt_or_ge j (old' ++ new').length with q | q
                      · exact q
                      · rw [List.getElem?_eq_none q] at k1; cases k1
                    rw [Array.getElem?_append_left (by simpa using hlt)]
                    simpa using k1
                split at h
                · rename_i hid
                  cases h
                  obtain ⟨_, _, hs2⟩ := hs
                  rcases hs2 with ⟨_, hl0, hoff, hs2⟩ | ⟨hne, _⟩
                  · cases hs2
                    obtain ⟨nc, g1, cells, g2, g3, g4⟩ := grown (by omega) hr
                    have hd := drew_stp hr (w.drawn + 1)
                    have hnw := new_stp hd.rel (r := ⟨old ++ new, n, true⟩) (c := cells) (e := e) rfl g4
                    refine ⟨_, _, _, g2, hd.trans hr hnw, rfl, rfl, .inr ⟨by have := hr.pos; show H.length ≠ 0; omega, _, Rho.put_self _ _ _, _, _, rfl, g1, fun _ => rfl, fun _ _ => ⟨rfl, by show nc * n ≤ cells.size; omega⟩⟩⟩
                  · exact absurd hid hne
                · rename_i hid
                  split at h
                  · rename_i hoff
                    subst hoff
                    cases hrow : readRow H id with
                    | none => simp [hrow] at h
                    | some r =>
                      simp only [hrow, Option.bind_some] at h
                      split at h
                      · rename_i hq
                        obtain ⟨q1, q2⟩ := hq
                        cases h
                        obtain ⟨_, _, hs2⟩ := hs
                        rcases hs2 with ⟨h0', _⟩ | ⟨_, l, hl, A', c', e1', hc', hA, hown⟩
                        · exact absurd h0' hid
                        · cases e1'
                          obtain ⟨c0, e0, fr0, r1, r2, r3, r4⟩ := (hr.rows id l r hl hrow).ok
                          have hlo : l.own = true := r3.trans q2
                          obtain ⟨rfl, hbase, hcs, hesz⟩ := r4 hlo
                          obtain ⟨hA0, hcap⟩ := hown hlo rfl
                          have hid' := readRow_lt hrow
                          by_cases hfit : len + k ≤ c
                          · -- in place
                            have hle : (len + k) * n ≤ l.cells := by
                              have : (len + k) * n ≤ c * n := Nat.mul_le_mul_right _ hfit
                              have : c * n = c * l.esz := by rw [← hesz, q1]
                              omega
                            have e3 : len * n + k * n = (len + k) * n := by rw [Nat.add_mul]
                            obtain ⟨c1, e1, w1, w2, w3, w4, w5⟩ := write_run (P := P) hr hl hrow q2 n3 hsc (off := len * n) (by omega)
                            rw [r1] at w1
                            cases w1
                            have hrun := append_fits (ty := ty) (A := A) (len := len) (c := c) ht hu he hn hue new'.toArray n2 hfit (w.setRow l.block (splice c0.toList (len * n) new').toArray) (fun a ha => by
                              rw [hA0] at ha; cases ha; rw [addr_add, Nat.zero_add]; exact w5) (fun ha => by rw [hA0] at ha; cases ha)
                            -- the old header is gone; the row lives on under a new one
                            have hk := kill_stp hr hid'
                            have hlen' : (H.set id none).length = H.length := by simp
                            have hnid : ρ H.length = none := hr.dom _ (Nat.le_refl _)
                            have hcl : c0.toList.length = l.cells := by simpa using hcs
                            have hsz : (splice c0.toList (len * n) new').toArray.size = c0.size := by
                              simp; rw [splice_length (by rw [← n3.length]; omega)]; simp
                            have hcells : ∀ (j : Nat) (v : Value), (old ++ new)[j]? = some v → ∃ v', (splice c0.toList (len * n) new').toArray[j]? = some v' ∧ VS ρ v v' := fun j v hj => by
                              rw [List.getElem?_append] at hj
                              simp only [splice, List.getElem?_toArray, List.getElem?_append, List.length_append, List.length_take]
                              have m2 : min (len * n) c0.toList.length = len * n := by omega
                              rw [m2, ← n3.length]
                              rw [o4] at hj
                              by_cases j2 : j < len * n
                              · rw [if_pos j2] at hj
                                rw [if_pos (by omega), if_pos j2, List.getElem?_take_of_lt j2]
                                have hjr : r.cells[j]? = some v := by
                                  have hlp : 0 < len := by
                                    rcases Nat.eq_zero_or_pos len with z0 | z0
                                    · subst z0; simp at j2
                                    · exact z0
                                  have ho2 := ho
                                  simp only [cellsAt, Nat.le_refl, if_true, hrow, Option.bind_some, Nat.zero_add] at ho2
                                  rw [if_neg (by omega)] at ho2
                                  split at ho2
                                  · cases ho2
                                    rw [List.getElem?_take_of_lt j2, List.drop_zero] at hj
                                    exact hj
                                  · cases ho2
                                obtain ⟨v', k1, k2⟩ := w3 j v hjr
                                exact ⟨v', by simpa using k1, k2⟩
                              · rw [if_neg j2] at hj
                                have hjn : j - len * n < new.length := by
                                  rcases Nat.lt_or_ge (j - len * n) new.length with q | q
                                  · exact q
                                  · rw [List.getElem?_eq_none q] at hj; cases hj
                                rw [if_pos (by omega), if_neg j2]
                                exact n3.get hj
                            have hle2 : ρ.le (ρ.put H.length l) := Rho.le_put hnid
                            have hpos := hr.pos
                            have live : ∀ i q, readRow (newA (H.set id none) (old ++ new) n) i = some q → (i = H.length ∧ q = ⟨old ++ new, n, true⟩) ∨ (i < H.length ∧ i ≠ id ∧ readRow H i = some q) := fun i q hq => by
                              unfold newA at hq
                              rcases Nat.lt_trichotomy i H.length with hi | hi | hi
                              · rw [readRow_append_lt (by simpa using hi), readRow_set hid'] at hq
                                split at hq
                                · cases hq
                                · rename_i hne; exact .inr ⟨hi, hne, hq⟩
                              · have hh := readRow_append_eq (H := H.set id none) (r := ⟨old ++ new, n, true⟩)
                                rw [hlen'] at hh
                                rw [hi, hh] at hq
                                cases hq
                                exact .inl ⟨hi, rfl⟩
                              · exfalso
                                have := readRow_lt hq
                                simp at this
                                omega
                            have hrel : Rel (ρ.put H.length l) (newA (H.set id none) (old ++ new) n) (w.setRow l.block (splice c0.toList (len * n) new').toArray) := by
                              refine ⟨fun i k' q hi hq => ?_, fun i j li lj ri rj hi hj hri hrj hne ho' => ?_, fun i k' hi => ?_, fun i hi => ?_, ?_, by simp [newA]⟩
                              · rcases live i q hq with ⟨h1, h2⟩ | ⟨h1, h2, h3⟩
                                · subst h1 h2
                                  rw [Rho.put_self] at hi
                                  cases hi
                                  refine ⟨_, e0, (0, 0), setRow_heap w l.block c0 _ e0 (0, 0) r1, fun j v hv => ?_, hlo, fun _ => ⟨rfl, hbase, hsz.trans hcs, by rw [← hesz, q1]⟩⟩
                                  rw [hbase, Nat.zero_add]
                                  obtain ⟨v', k1, k2⟩ := hcells j v hv
                                  exact ⟨v', k1, k2.mono hle2⟩
                                · rw [Rho.put_ne _ _ (by omega)] at hi
                                  exact ((hr.rows i k' q hi h3).mono hle2).block (setRow_other w l.block k'.block _ (Ne.symm (hr.inj id i l k' r q hl hi hrow h3 (Ne.symm h2) hlo)))
                              · rcases live i ri hri with ⟨h1, _⟩ | ⟨h1, h2, h3⟩ <;> rcases live j rj hrj with ⟨g1, _⟩ | ⟨g1, g2, g3⟩
                                · omega
                                · subst h1
                                  rw [Rho.put_self] at hi
                                  rw [Rho.put_ne _ _ (by omega)] at hj
                                  cases hi
                                  exact hr.inj id j l lj r rj hl hj hrow g3 (Ne.symm g2) hlo
                                · subst g1
                                  rw [Rho.put_self] at hj
                                  rw [Rho.put_ne _ _ (by omega)] at hi
                                  cases hj
                                  exact Ne.symm (hr.inj id i l li r ri hl hi hrow h3 (Ne.symm h2) hlo)
                                · rw [Rho.put_ne _ _ (by omega)] at hi hj
                                  exact hr.inj i j li lj ri rj hi hj h3 g3 hne ho'
                              · rw [(setRow_frame w l.block _).2.2.2]
                                unfold Rho.put at hi
                                split at hi
                                · cases hi; exact hr.lt id l hl
                                · exact hr.lt i k' hi
                              · simp only [newA, List.length_append, List.length_set, List.length_cons, List.length_nil] at hi
                                rw [Rho.put_ne _ _ (by omega)]
                                exact hr.dom i (by omega)
                              · rw [Rho.put_ne _ _ (by omega)]
                                exact hr.zero
                            obtain ⟨f1, f2, f3, f4⟩ := setRow_frame w l.block (splice c0.toList (len * n) new').toArray
                            have hdead : readRow (newA (H.set id none) (old ++ new) n) id = none := by
                              unfold newA
                              rw [readRow_append_lt (by simpa using hid'), readRow_set hid', if_pos rfl]
                            refine ⟨.slice A (len + k) c, _, _, hrun, ⟨hrel, fun i hi => Rho.put_ne _ _ (by omega), fun i k' hi hk' => ?_, fun b' hb' hn' => setRow_other w l.block b' _ (Ne.symm (hn' id l r hl hrow hlo)), f1, f2, f3, by rw [f4]; exact Nat.le_refl _, by simp [newA], fun i hi hd => ?_⟩,
                              rfl, rfl, .inr ⟨by show H.length ≠ 0; omega, l, Rho.put_self _ _ _, _, _, rfl, hfit, fun _ => ?_, fun _ _ => ⟨hA0, hcap⟩⟩⟩
                            · unfold Rho.put at hk'
                              split at hk'
                              · cases hk'; exact ⟨hlo, .inr ⟨id, l, r, hl, hrow, hlo, rfl, hdead⟩⟩
                              · rw [hr.dom i hi] at hk'; cases hk'
                            · unfold newA
                              rw [readRow_append_lt (by simpa using hi), readRow_set hid']
                              split
                              · rfl
                              · exact hd
                            · show A = some ⟨l.block, l.base + 0, none⟩
                              rw [hA0, hbase]
                          · obtain ⟨nc, g1, cells, g2, g3, g4⟩ := grown (by omega) hr
                            have hd := drew_stp hr (w.drawn + 1)
                            have hk := kill_stp hd.rel hid'
                            have hlen' : (H.set id none).length = H.length := by simp
                            have hnw := new_stp hk.rel (r := ⟨old ++ new, n, true⟩) (c := cells) (e := e) rfl g4
                            rw [hlen'] at hnw
                            refine ⟨_, _, _, g2, hd.trans hr (hk.trans hd.rel hnw), rfl, rfl, .inr ⟨by have := hr.pos; show H.length ≠ 0; omega, _, Rho.put_self _ _ _, _, _, rfl, g1, fun _ => rfl, fun _ _ => ⟨rfl, by show nc * n ≤ cells.size; omega⟩⟩⟩
                      · cases h
                  · cases h
        · cases h
  · cases h
end
end Go.Proofs.Ytmbikamebhoelaa.Ai
