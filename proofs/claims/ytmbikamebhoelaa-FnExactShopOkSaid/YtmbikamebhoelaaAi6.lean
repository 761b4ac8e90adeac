/- Every operation that neither makes nor writes memory, on the machine and on the plain heap. No condition. -/
import Derived.Test.YtmbikamebhoelaaAi5
import Derived.Laws.BytesArg
set_option linter.unusedVariables false
set_option linter.unusedSimpArgs false
namespace Go.Proofs.Ytmbikamebhoelaa.Ai
open Go
section
variable {P : Program} {w : World} {ρ : Rho}

theorem addr_add (b o n : Nat) : (⟨b, o, none⟩ : Addr).add n = ⟨b, o + n, none⟩ := by unfold Addr.add; split <;> simp_all
theorem bytesOf_ints : ∀ (cs : List Value) (l : List UInt8), bytesOfCells cs = some l → ∃ xs : List Int, cs = xs.map (Value.int .u8) ∧ l = xs.map fun n => UInt8.ofNat n.toNat
  | [], l, h => by simp [bytesOfCells] at h; exact ⟨[], rfl, by simp [h]⟩
  | v :: vs, l, h => by
    simp only [bytesOfCells] at h
    cases hb : byteOfCell v with
    | none => simp [hb] at h
    | some b =>
      cases hr : bytesOfCells vs with
      | none => simp [hb, hr] at h
      | some r =>
        simp [hb, hr] at h
        obtain ⟨xs, h1, h2⟩ := bytesOf_ints vs r hr
        unfold byteOfCell at hb
        split at hb
        · rename_i n
          cases hb
          exact ⟨n :: xs, by simp [h1], by simp [← h, h2]⟩
        · cases hb
theorem un_ok {op : UnOp} {x x' v : Value} (hx : V ρ x x') (h : unA op x = some v) : (Op.unary op x').run P w = .ok v w ∧ V ρ v v := by
  unfold unA at h
  split at h
  · rw [V_int hx]; cases h; exact ⟨rfl, rfl⟩
  · rw [V_bool hx]; cases h; exact ⟨rfl, rfl⟩
  · cases h
theorem conv_ok {s d : TypeId} {x x' v : Value} {H : Heap} (hx : V ρ x x') (h0 : ρ 0 = none) (hread : ∀ a l c, x = .slice (some a) l c → ∀ k r, ρ a.block = some k → readRow H a.block = some r → RowOk ρ w k r) (h : convA P s d x H = some v) :
    (convert s d x').run P w = .ok v w ∧ V ρ v v := by
  unfold convA at h
  split at h
  · rename_i k n
    rw [V_int hx]
    cases h1 : tkind P s with
    | none => simp [h1] at h
    | some k1 =>
      cases h2 : tkind P d with
      | none => simp [h1, h2] at h
      | some k2 =>
        simp [h1, h2] at h
        subst h
        refine ⟨?_, rfl⟩
        simp only [convert, Sem.run_bind, run_und (tkind_und h1), run_und (tkind_und h2), Result.andThen_ok]
        rfl
  · rename_i b
    rw [V_string hx]
    split at h
    · rename_i hc
      simp only [Bool.and_eq_true] at hc
      cases h
      refine ⟨?_, rfl⟩
      simp only [convert, Sem.run_bind, run_und (tstr_und hc.1), run_und (tstr_und hc.2), Result.andThen_ok]
      rfl
    · cases h
  · rename_i id off len
    split at h
    · rename_i hc
      obtain ⟨hc1, hc2⟩ := hc
      have hd := tstr_und hc2
      cases he : telem P s with
      | none => simp [he] at hc1
      | some e =>
        rw [he] at hc1
        simp only [Option.bind_some] at hc1
        have hs := telem_und he
        have hu := tkind_und hc1
        obtain ⟨_, _, hx⟩ := hx
        split at h
        · rename_i hl
          cases h
          refine ⟨?_, rfl⟩
          subst hl
          rcases hx with ⟨_, _, _, hx⟩ | ⟨_, l, _, A, c, hx, _⟩
          · rw [hx]; exact run_convert_bytes_nil w s e hs hu 0 0 d hd
          · rw [hx]
            cases A with
            | none => exact run_convert_bytes_nil w s e hs hu 0 c d hd
            | some a =>
              have hl0 : (loadCells a 0).run P w = .ok #[] w := rfl
              simp only [convert, Sem.run_bind, run_und hs, run_und hd, run_und hu, Result.andThen_ok]
              rfl
        · rename_i hl
          cases hr : readRow H id with
          | none => simp [hr] at h
          | some r =>
            simp only [hr, Option.bind_some] at h
            split at h
            · rename_i hlen
              cases hb : bytesOfCells ((r.cells.drop off).take len) with
              | none => simp [hb] at h
              | some l =>
                simp [hb] at h
                subst h
                refine ⟨?_, rfl⟩
                rcases hx with ⟨hid, h2, _, _⟩ | ⟨_, k, hk, A, c, hx, _, hA, _⟩
                · exact absurd h2 hl
                · rw [hx, hA (by omega)]
                  obtain ⟨xs, hxs, hl2⟩ := bytesOf_ints _ _ hb
                  have hok := hread ⟨id, off, none⟩ len 0 rfl k r hk hr
                  have hxl : xs.length = len := by
                    have := congrArg List.length hxs
                    simp at this; omega
                  rw [run_convert_bytes_arg w s e hs hu k.block (k.base + off) len c xs hxl (fun i hi => ?_) d hd]
                  · simp [strOfNums, hl2]
                  · have hci : r.cells[off + i]? = some (.int .u8 (xs.getD i 0)) := by
                      have : ((r.cells.drop off).take len)[i]? = (xs.map (Value.int .u8))[i]? := by rw [hxs]
                      rw [List.getElem?_take_of_lt hi, List.getElem?_drop, List.getElem?_map] at this
                      rw [this, List.getElem?_eq_getElem (by omega), List.getD_eq_getElem?_getD, List.getElem?_eq_getElem (by omega)]; rfl
                    obtain ⟨v', h1, h2⟩ := hok.cell hci
                    rw [show k.base + off + i = k.base + (off + i) from by omega, h1]
                    exact congrArg some h2
            · cases h
    · cases h
  · cases h
/-- An optional bound, on both sides. -/
def VO (ρ : Rho) : Option Value → Option Value → Prop
  | some v, some v' => V ρ v v'
  | none, none => True
  | _, _ => False
def boundRun (x : Option Value) (d hi : Nat) (code : BoundsCode) : Sem Nat :=
  match x with
  | some v => Instr.sliceBound v hi code
  | none => pure d
theorem bound_ok {x x' : Option Value} {d hi n : Nat} {code : BoundsCode} (hx : VO ρ x x') (h : boundOf x d hi = some n) (hi' : Nat) (hh : hi ≤ hi') : (boundRun x' d hi' code).run P w = .ok n w ∧ (x ≠ none → n ≤ hi) := by
  unfold boundOf at h
  split at h
  · rename_i i
    cases x' with
    | none => exact hx.elim
    | some v' =>
      have hv : v' = .int _ _ := hx
      subst hv
      split at h
      · rename_i hc
        cases h
        refine ⟨?_, fun _ => by omega⟩
        have : 0 ≤ i ∧ i ≤ (hi' : Int) := by omega
        simp [boundRun, Instr.sliceBound, asIntOf, this]
      · cases h
  · cases x' with
    | some v' => exact hx.elim
    | none =>
      cases h
      exact ⟨rfl, fun h => absurd rfl h⟩
  · cases h
theorem slice_ok {t : TypeId} {x x' v : Value} {lo lo' hi hi' : Option Value} (hx : V ρ x x') (hlo : VO ρ lo lo') (hhi : VO ρ hi hi')
    (h : sliceA P t x lo hi none = some v) : ∃ v', (Instr.sliceAt t x' lo' hi' none).run P w = .ok v' w ∧ V ρ v v' := by
  unfold sliceA at h
  simp only at h
  split at h
  · rename_i s
    rw [V_string hx]
    split at h
    · rename_i ht
      have hu := tstr_und ht
      cases hh : boundOf hi s.size s.size with
      | none => simp [hh] at h
      | some hb =>
        simp only [hh, Option.bind_some] at h
        cases hl : boundOf lo 0 hb with
        | none => simp [hl] at h
        | some lb =>
          simp [hl] at h
          subst h
          obtain ⟨e1, _⟩ := bound_ok (P := P) (w := w) (code := .sliceAlen) hhi hh s.size (Nat.le_refl _)
          obtain ⟨e2, _⟩ := bound_ok (P := P) (w := w) (code := .sliceB) hlo hl hb (Nat.le_refl _)
          refine ⟨_, ?_, V_string'⟩
          simp only [Instr.sliceAt, Sem.run_bind, run_und hu, Result.andThen_ok, Instr.slice, Instr.sliceBounds]
          cases hi' <;> cases lo' <;> simp_all [boundRun]
    · cases h
  · rename_i id off len
    cases he : telem P t with
    | none => simp [he] at h
    | some e =>
      cases hn : tsz P e with
      | none => simp [he, hn] at h
      | some n =>
        simp only [he, hn, Option.bind_some] at h
        have hu := telem_und he
        cases hh : boundOf hi len len with
        | none => simp [hh] at h
        | some hb =>
          simp only [hh, Option.bind_some] at h
          cases hl : boundOf lo 0 hb with
          | none => simp [hl] at h
          | some lb =>
            simp [hl] at h
            subst h
            have hbl : hb ≤ len := by
              cases hi with
              | none => simp [boundOf] at hh; omega
              | some v =>
                obtain ⟨_, q⟩ := bound_ok (P := P) (w := w) (code := .sliceAlen) hhi hh len (Nat.le_refl _)
                exact q (by simp)
            have lbl : lb ≤ hb := by
              cases lo with
              | none => simp [boundOf] at hl; omega
              | some v =>
                obtain ⟨_, q⟩ := bound_ok (P := P) (w := w) (code := .sliceB) hlo hl hb (Nat.le_refl _)
                exact q (by simp)
            obtain ⟨_, _, hx⟩ := hx
            have run : ∀ A c, len ≤ c → (Instr.sliceAt t (.slice A len c) lo' hi' none).run P w = .ok (.slice (if c = lb then A else A.map (·.add (lb * n))) (hb - lb) (c - lb)) w := fun A c hc => by
              obtain ⟨e1, _⟩ := bound_ok (P := P) (w := w) (code := .sliceAcap) hhi hh c hc
              obtain ⟨e2, _⟩ := bound_ok (P := P) (w := w) (code := .sliceB) hlo hl hb (Nat.le_refl _)
              simp only [Instr.sliceAt, Sem.run_bind, run_und hu, Result.andThen_ok, Instr.slice, Instr.sliceBounds]
              cases hi' <;> cases lo' <;> simp_all [boundRun, run_sizeOf_t hn]
            rcases hx with ⟨hid, hl0, ho, hx⟩ | ⟨hid, k, hk, A, c, hx, hc, hA, hown⟩
            · simp only at hid hl0 ho
              subst hid hl0 ho
              rw [hx]
              refine ⟨_, run none 0 (Nat.le_refl _), ?_⟩
              have : hb = 0 := by omega
              have : lb = 0 := by omega
              subst_vars
              simp [sl, V, VA, VS]
            · rw [hx]
              refine ⟨_, run A c hc, rfl, rfl, .inr ⟨hid, k, hk, _, _, rfl, by omega, fun hpos => ?_, fun ho h0 => ?_⟩⟩
              · rw [if_neg (by omega), hA (by omega)]
                simp [addr_add, Nat.add_assoc]
              · have h0' : off + lb * n = 0 := h0
                obtain ⟨g1, g2⟩ := hown ho (by show off = 0; omega)
                refine ⟨?_, Nat.le_trans (Nat.mul_le_mul_right _ (by omega)) g2⟩
                rw [g1]
                have : lb * n = 0 := by omega
                rw [this]
                simp [Addr.add]
  · cases h
theorem fieldAddr_ok {s : TypeId} {x x' v : Value} {f : Nat} (hx : V ρ x x') (h : fieldAddrA P s x f = some v) : ∃ v', (Instr.fieldAt s x' f).run P w = .ok v' w ∧ V ρ v v' := by
  unfold fieldAddrA at h
  split at h
  · rename_i id off
    cases hf : tfield P s f with
    | none => simp [hf] at h
    | some q =>
      obtain ⟨o, u⟩ := q
      simp only [hf, Option.bind_some] at h
      cases hn : tsz P u with
      | none => simp [hn] at h
      | some n =>
        simp only [hn, Option.bind_some] at h
        split at h
        · cases h
        · rename_i hnz
          cases h
          obtain ⟨fs, y, hu, hy, ho, ht⟩ := tfield_und hf
          obtain ⟨_, l, hl, hx⟩ := V_ptr hx
          rw [hx]
          refine ⟨.pointer (some ⟨l.block, l.base + (off + o), none⟩), ?_, rfl, l, hl, rfl⟩
          have hn' : tsz P y.type = some n := by rw [ht]; exact hn
          simp only [Instr.fieldAt, Sem.run_bind, run_und hu, Result.andThen_ok, hy, Instr.sureAddr, fieldPlace, run_sizeOf_t hn', Sem.run_pure]
          rw [if_neg hnz]
          simp [addr_add, ho, Nat.add_assoc]
  · cases h
theorem field_ok {t : TypeId} {x x' v : Value} {f : Nat} (hx : V ρ x x') (h : fieldA P t x f = some v) : ∃ v', (Instr.field t x' f).run P w = .ok v' w ∧ V ρ v v' := by
  unfold fieldA at h
  split at h
  · rename_i cs
    cases hf : tfield P t f with
    | none => simp [hf] at h
    | some q =>
      obtain ⟨o, u⟩ := q
      simp only [hf, Option.bind_some] at h
      obtain ⟨fs, y, hu, hy, ho, ht⟩ := tfield_und hf
      obtain ⟨cs', rfl, hc⟩ := hx
      obtain ⟨v', h1, h2⟩ := part_ok (P := P) (w := w) hc h
      refine ⟨v', ?_, .of_VA h2⟩
      subst ho ht
      simp only [Instr.field, Sem.run_bind, run_und hu, Result.andThen_ok, hy, asAgg, Sem.run_pure, h1]
  · cases h
theorem indexAddr_ok {t : TypeId} {x x' i i' v : Value} (hx : V ρ x x') (hi : V ρ i i') (h : indexAddrA P t x i = some v) : ∃ v', (Instr.indexAt t x' i').run P w = .ok v' w ∧ V ρ v v' := by
  unfold indexAddrA at h
  split at h
  · rename_i id off len k j
    cases he : telem P t with
    | none => simp [he] at h
    | some e =>
      cases hn : tsz P e with
      | none => simp [he, hn] at h
      | some n =>
        simp only [he, hn, Option.bind_some] at h
        split at h
        · rename_i hc
          cases h
          have hu := telem_und he
          rw [V_int hi]
          obtain ⟨_, _, hx⟩ := hx
          rcases hx with ⟨_, hl0, _, _⟩ | ⟨hid, l, hk, A, c, hx, hc2, hA, _⟩
          · omega
          · rw [hx, hA (by omega)]
            refine ⟨.pointer (some ⟨l.block, l.base + (off + j.toNat * n), none⟩), ?_, rfl, l, hk, rfl⟩
            simp only [Instr.indexAt, asIntOf, Sem.run_bind, Sem.run_pure, run_und hu, Result.andThen_ok]
            simp [hc, run_sizeOf_t hn, addr_add, Nat.add_assoc]
        · cases h
  · rename_i id off k j
    cases he : tarr P t with
    | none => simp [he] at h
    | some q =>
      obtain ⟨len, e⟩ := q
      cases hn : tsz P e with
      | none => simp [he, hn] at h
      | some n =>
        simp only [he, hn, Option.bind_some] at h
        split at h
        · rename_i hc
          cases h
          have hu := tarr_und he
          rw [V_int hi]
          obtain ⟨_, l, hl, hx⟩ := V_ptr hx
          rw [hx]
          refine ⟨.pointer (some ⟨l.block, l.base + (off + j.toNat * n), none⟩), ?_, rfl, l, hl, rfl⟩
          simp only [Instr.indexAt, asIntOf, Sem.run_bind, Sem.run_pure, run_und hu, Result.andThen_ok, Instr.sureAddr]
          simp [hc, run_sizeOf_t hn, addr_add, Nat.add_assoc]
        · cases h
  · cases h
theorem index_ok {t : TypeId} {x x' i i' v : Value} (hx : V ρ x x') (hi : V ρ i i') (h : indexA P t x i = some v) : ∃ v', (Instr.index t x' i').run P w = .ok v' w ∧ V ρ v v' := by
  unfold indexA at h
  split at h
  · rename_i s k j
    split at h
    · rename_i ht
      split at h
      · rename_i hj
        cases hb : s[j.toNat]? with
        | none => simp [hb] at h
        | some b =>
          simp [hb] at h
          subst h
          rw [V_string hx, V_int hi]
          refine ⟨_, ?_, V_int'⟩
          simp only [Instr.index, asIntOf, Sem.run_bind, Sem.run_pure, run_und (tstr_und ht), Result.andThen_ok, hj, if_true, hb]
      · cases h
    · cases h
  · rename_i cs k j
    cases he : tarr P t with
    | none => simp [he] at h
    | some q =>
      obtain ⟨len, e⟩ := q
      cases hn : tsz P e with
      | none => simp [he, hn] at h
      | some n =>
        simp only [he, hn, Option.bind_some] at h
        split at h
        · rename_i hc
          rw [V_int hi]
          obtain ⟨cs', rfl, hcs⟩ := hx
          obtain ⟨v', h1, h2⟩ := part_ok (P := P) (w := w) hcs h
          refine ⟨v', ?_, .of_VA h2⟩
          simp only [Instr.index, asIntOf, Sem.run_bind, Sem.run_pure, run_und (tarr_und he), Result.andThen_ok]
          rw [if_pos hc]
          simp only [Sem.run_bind, run_sizeOf_t hn, Result.andThen_ok, h1]
        · cases h
  · cases h
theorem len_ok {t : TypeId} {ts : Array TypeId} {x x' v : Value} {ty : TypeId} (hx : V ρ x x') (h : lenA P t x = some v) (ht : ts[0]? = some t) : (Builtin.len_ ts ty #[x']).run P w = .ok v w ∧ V ρ v v := by
  unfold lenA at h
  split at h
  · split at h
    · rename_i s hs
      cases h
      rw [V_string hx]
      exact ⟨by simp [Builtin.len_, ht, run_und (tstr_und hs), goInt], V_int'⟩
    · cases h
  · rename_i a n
    cases he : telem P t with
    | none => simp [he] at h
    | some e =>
      simp [he] at h
      subst h
      have hu := telem_und he
      obtain ⟨_, _, hx⟩ := hx
      refine ⟨?_, V_int'⟩
      rcases hx with ⟨_, hl0, _, hx⟩ | ⟨hid, l, hk, A, c, hx, _⟩
      · rw [hx]; simp [Builtin.len_, ht, run_und hu, goInt, hl0]
      · rw [hx]; simp [Builtin.len_, ht, run_und hu, goInt]
  · cases h
end
end Go.Proofs.Ytmbikamebhoelaa.Ai
