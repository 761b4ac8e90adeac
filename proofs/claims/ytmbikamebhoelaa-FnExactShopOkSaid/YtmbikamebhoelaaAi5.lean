/- Arithmetic, comparisons, parts, slices, on the machine and on the plain heap. No condition. -/
import Derived.Test.YtmbikamebhoelaaAi4
import Derived.Laws.StructEq
set_option linter.unusedVariables false
set_option linter.unusedSimpArgs false
namespace Go.Proofs.Ytmbikamebhoelaa.Ai
open Go
section
variable {P : Program} {w : World} {ρ : Rho}

theorem V_int {k : IntKind} {n : Int} {v : Value} (h : V ρ (.int k n) v) : v = .int k n := h
theorem V_bool {b : Bool} {v : Value} (h : V ρ (.bool b) v) : v = .bool b := h
theorem V_string {s : ByteArray} {v : Value} (h : V ρ (.string s) v) : v = .string s := h
theorem V_ptr {a : Addr} {v : Value} (h : V ρ (.pointer (some a)) v) : a.spot = none ∧ ∃ l, ρ a.block = some l ∧ v = .pointer (some ⟨l.block, l.base + a.off, none⟩) := h
theorem V_int' {k : IntKind} {n : Int} : V ρ (.int k n) (.int k n) := rfl
theorem V_bool' {b : Bool} : V ρ (.bool b) (.bool b) := rfl
theorem V_string' {s : ByteArray} : V ρ (.string s) (.string s) := rfl
theorem cmp_ok {op : BinOp} {x y : Int} {v : Value} (h : cmpA op x y = some v) : (Op.intCmp op x y).run P w = .ok v w ∧ V ρ v v := by
  cases op <;> simp only [cmpA, Option.some.injEq, reduceCtorEq] at h <;> subst h <;> exact ⟨rfl, rfl⟩
theorem int_ok {t : TypeId} {op : BinOp} {k : IntKind} {x y : Int} {v : Value} (h : intA op k x y = some v) : (binOp op t (.int k x) (.int k y)).run P w = .ok v w ∧ V ρ v v := by
  cases op <;> simp only [intA, reduceCtorEq] at h
  case add => cases h; exact ⟨by simp [binOp, Op.intArith], rfl⟩
  case sub => cases h; exact ⟨by simp [binOp, Op.intArith], rfl⟩
  case mul => cases h; exact ⟨by simp [binOp, Op.intArith], rfl⟩
  case quo => split at h
              · cases h
              · rename_i hy; cases h; exact ⟨by simp [binOp, Op.intDiv, hy], rfl⟩
  case rem => split at h
              · cases h
              · rename_i hy; cases h; exact ⟨by simp [binOp, Op.intDiv, hy], rfl⟩
  case and => cases h; exact ⟨by simp [binOp, Op.intBits], rfl⟩
  case or => cases h; exact ⟨by simp [binOp, Op.intBits], rfl⟩
  case xor => cases h; exact ⟨by simp [binOp, Op.intBits], rfl⟩
  all_goals
    have := cmp_ok (P := P) (w := w) (ρ := ρ) h
    exact ⟨by simp only [binOp, ne_eq, not_true_eq_false, if_false]; exact this.1, this.2⟩
theorem toList_loop (bs : ByteArray) (i : Nat) (r : List UInt8) : ByteArray.toList.loop bs i r = r.reverse ++ bs.data.toList.drop i := by
  generalize hn : bs.size - i = n
  induction n generalizing i r with
  | zero =>
    rw [ByteArray.toList.loop, if_neg (by omega), List.drop_eq_nil_of_le (by simp; have : bs.data.size = bs.size := rfl; omega)]; simp
  | succ n ih =>
    rw [ByteArray.toList.loop, if_pos (by omega), ih (i + 1) _ (by omega)]
    have hlt : i < bs.data.toList.length := by simp; have : bs.data.size = bs.size := rfl; omega
    rw [List.drop_eq_getElem_cons hlt]
    have : bs.get! i = bs.data.toList[i] := by
      have h2 : i < bs.data.size := by simpa using hlt
      have e : bs.data.toList[i] = bs.data[i] := by simp
      rw [e]; exact getElem!_pos bs.data i h2
    rw [this]; simp
theorem toList_data (bs : ByteArray) : bs.toList = bs.data.toList := by rw [ByteArray.toList, toList_loop]; simp
theorem toList_beq (x y : ByteArray) : (x.toList == y.toList) = decide (x = y) := by
  rw [toList_data, toList_data]
  cases x; cases y
  rename_i a b
  by_cases h : a = b
  · subst h; simp
  · have : ¬ (a.toList = b.toList) := fun e => h (Array.toList_inj.1 e)
    simp [h]
theorem str_ok {t : TypeId} {op : BinOp} {x y : ByteArray} {v : Value} (h : strA op x y = some v) : (binOp op t (.string x) (.string y)).run P w = .ok v w ∧ V ρ v v := by
  cases op <;> simp only [strA, reduceCtorEq] at h
  case add =>
    split at h
    · rename_i hl
      cases h
      refine ⟨?_, rfl⟩
      have : ¬ (((x.size + y.size : Nat) : Int) > IntKind.i64.max) := by
        have : IntKind.i64.max = 9223372036854775807 := by decide
        omega
      simp only [binOp, Op.stringOp]
      rw [if_neg this]; rfl
    · cases h
  all_goals (cases h; refine ⟨?_, rfl⟩; (try rw [← toList_data, ← toList_data]); (try rw [← toList_beq]); rfl)
theorem eql_run {t : TypeId} {x y : Value} {b : Bool} (h : ∀ d, (Op.equalIn (d + 1) t x y).run P w = .ok b w) (h1 : ∀ op : BinOp, (op = .eql ∨ op = .neq) → binOp op t x y = (match op with | .eql => do pure (.bool (← Op.equal t x y)) | _ => do pure (.bool (!(← Op.equal t x y))))) :
    (binOp .eql t x y).run P w = .ok (.bool b) w ∧ (binOp .neq t x y).run P w = .ok (.bool (!b)) w := by
  have h2 : (Op.equal t x y).run P w = .ok b w := h 9999
  rw [h1 .eql (.inl rfl), h1 .neq (.inr rfl)]
  constructor <;> simp only [Sem.run_bind, h2, Result.andThen_ok, Sem.run_pure]
theorem bool_ok {t : TypeId} {a b : Bool} (ht : tbool P t = true) : (binOp .eql t (.bool a) (.bool b)).run P w = .ok (.bool (a == b)) w ∧ (binOp .neq t (.bool a) (.bool b)).run P w = .ok (.bool (!(a == b))) w :=
  eql_run (fun d => run_equalIn_bool' w d t a b (tbool_und ht)) fun op h => by rcases h with rfl | rfl <;> rfl

theorem equalIn_cell {d : Nat} {t : TypeId} {x y : Value} {b : Bool} (ht : (match P.underlying t, x with | some (.int k), .int k' _ => k == k' | some .bool, .bool _ => true | some .string, .string _ => true | _, _ => false) = true)
    (h : eqCell x y = some b) : (Op.equalIn (d + 1) t x y).run P w = .ok b w := by
  unfold eqCell at h
  split at h
  · split at h
    · rename_i hk; cases h; subst hk
      split at ht <;> first | cases ht | skip
      · rename_i hu hx; cases hx; exact run_equalIn_int w d t _ _ _ _ hu
      all_goals (rename_i hx; cases hx)
    · cases h
  · cases h
    split at ht <;> first | cases ht | skip
    · rename_i hx; cases hx
    · rename_i hu hx; cases hx; exact run_equalIn_bool' w d t _ _ hu
    · rename_i hx; cases hx
  · cases h
    split at ht <;> first | cases ht | skip
    · rename_i hx; cases hx
    · rename_i hx; cases hx
    · rename_i hu hx; cases hx; rw [beq_toListBytes]; exact run_equalIn_string w d t _ _ hu
  · cases h
theorem tagg_cell {t : TypeId} (h : (match P.underlying t with | some (.int _) => true | some .bool => true | some .string => true | _ => false) = true) : tagg P t = some false := by
  unfold tagg
  split at h <;> first | (rename_i hu; rw [hu]; rfl) | cases h
theorem eqFields_ok {d : Nat} {xs ys : Array Value} : ∀ (fs : List Field) (i : Nat) (b : Bool), plainFields P fs i = true → fitsFields P fs (xs.toList.drop i) = true → fitsFields P fs (ys.toList.drop i) = true → eqCells (xs.toList.drop i) (ys.toList.drop i) = some b →
    (Op.eqFields (d + 1) xs ys fs).run P w = .ok b w
  | [], i, b, _, h1, h2, h => by
    cases hx : xs.toList.drop i with
    | cons a l => rw [hx] at h1; simp [fitsFields] at h1
    | nil => cases hy : ys.toList.drop i with
      | cons a l => rw [hy] at h2; simp [fitsFields] at h2
      | nil => rw [hx, hy] at h; simp [eqCells] at h; subst h; rfl
  | f :: fs, i, b, hp, h1, h2, h => by
    cases hx : xs.toList.drop i with
    | nil => rw [hx] at h1; simp [fitsFields] at h1
    | cons x l =>
      cases hy : ys.toList.drop i with
      | nil => rw [hy] at h2; simp [fitsFields] at h2
      | cons y m =>
        rw [hx] at h1
        rw [hy] at h2
        rw [hx, hy] at h
        simp only [plainFields, Bool.and_eq_true, bne_iff_ne, ne_eq, beq_iff_eq] at hp
        obtain ⟨⟨⟨p1, p2⟩, p3⟩, p4⟩ := hp
        simp only [fitsFields, Bool.and_eq_true] at h1 h2
        have gx : xs.toList[i]? = some x := by have := congrArg (·[0]?) hx; simpa [List.getElem?_drop] using this
        have gy : ys.toList[i]? = some y := by have := congrArg (·[0]?) hy; simpa [List.getElem?_drop] using this
        have dx : xs.toList.drop (i + 1) = l := by rw [← List.drop_drop, hx]; rfl
        have dy : ys.toList.drop (i + 1) = m := by rw [← List.drop_drop, hy]; rfl
        have ta := tagg_cell p3
        have ex : (part f.type xs f.offset).run P w = .ok x w := by
          have : xs[i]? = some x := by simpa using gx
          simp [part, run_isAgg_t ta, p2, this]
        have ey : (part f.type ys f.offset).run P w = .ok y w := by
          have : ys[i]? = some y := by simpa using gy
          simp [part, run_isAgg_t ta, p2, this]
        simp only [eqCells] at h
        cases hc : eqCell x y with
        | none => simp [hc] at h
        | some c =>
          rw [hc] at h
          simp only [Option.bind_some] at h
          cases hr : eqCells l m with
          | none => simp [hr] at h
          | some r =>
            simp [hr] at h
            have e1 := equalIn_cell (P := P) (w := w) (d := d) h1.1 hc
            have ih := eqFields_ok (d := d) fs (i + 1) r p4 (by rw [dx]; exact h1.2) (by rw [dy]; exact h2.2) (by rw [dx, dy]; exact hr)
            simp only [Op.eqFields]
            rw [if_pos p1]
            simp only [Sem.run_bind, ex, ey, e1, Result.andThen_ok]
            cases c with
            | true => simp only [Bool.not_true, Bool.false_eq_true, if_false]; rw [ih]; simpa using h
            | false => simp at h; subst h; rfl
theorem fits_closed : ∀ (fs : List Field) (xs ys : List Value), fitsFields P fs xs = true → All2 (VS ρ) xs ys → ys = xs
  | [], [], [], _, _ => rfl
  | [], [], _ :: _, _, h => h.elim
  | [], _ :: _, _, h, _ => by simp [fitsFields] at h
  | _ :: _, [], _, h, _ => by simp [fitsFields] at h
  | _ :: _, _ :: _, [], _, h => h.elim
  | f :: fs, x :: xs, y :: ys, h, k => by
    simp only [fitsFields, Bool.and_eq_true] at h
    rw [fits_closed fs xs ys h.2 k.2]
    have h1 := h.1
    have k1 := k.1
    congr 1
    split at h1 <;> first | exact k1 | cases h1
theorem agg_ok {t : TypeId} {xs ys : Array Value} {fs : Array Field} {b : Bool} (hu : P.underlying t = some (.struct fs)) (hp : plainStruct P t = true) (h1 : fitsFields P fs.toList xs.toList = true) (h2 : fitsFields P fs.toList ys.toList = true)
    (h : eqCells xs.toList ys.toList = some b) : (binOp .eql t (.agg xs) (.agg ys)).run P w = .ok (.bool b) w ∧ (binOp .neq t (.agg xs) (.agg ys)).run P w = .ok (.bool (!b)) w := by
  unfold plainStruct at hp
  rw [hu] at hp
  simp only [Bool.and_eq_true, Bool.not_eq_true'] at hp
  obtain ⟨⟨p1, _⟩, p3⟩ := hp
  have hf : P.fieldsOf t = fs := by simp [Program.fieldsOf, hu]
  have h3 : (Op.equal t (.agg xs) (.agg ys)).run P w = .ok b w := by
    show (Op.equalIn (9999 + 1) t (.agg xs) (.agg ys)).run P w = _
    rw [run_equalIn_struct w 9999 t xs ys (by rw [hf]; exact hu) p1, hf]
    exact eqFields_ok (d := 9998) fs.toList 0 b p3 h1 h2 h
  constructor
  · show ((do pure (.bool (← Op.equal t (.agg xs) (.agg ys))) : Sem Value)).run P w = _
    simp only [Sem.run_bind, h3, Result.andThen_ok, Sem.run_pure]
  · show ((do pure (.bool (!(← Op.equal t (.agg xs) (.agg ys)))) : Sem Value)).run P w = _
    simp only [Sem.run_bind, h3, Result.andThen_ok, Sem.run_pure]

/-- The guard at a comparison lets whole numbers, strings, bools and plain structs by. -/
theorem bin_ok {op : BinOp} {t : TypeId} {ox oy : Operand} {x y x' y' : Value} {v : Value} (hx : V ρ x x') (hy : V ρ y y') (h : binA P op t x y = some v) :
    (do eqGuard op t ox oy x' y'; binOp op t x' y' : Sem Value).run P w = .ok v w ∧ V ρ v v := by
  unfold binA at h
  split at h
  · rename_i k a k' b
    split at h
    · rename_i hk; subst hk
      rw [V_int hx, V_int hy]
      obtain ⟨h1, h2⟩ := int_ok (P := P) (w := w) (ρ := ρ) (t := t) h
      refine ⟨?_, h2⟩
      have : (eqGuard op t ox oy (.int k a) (.int k b)).run P w = .ok () w := by unfold eqGuard; split <;> rfl
      simp only [Sem.run_bind, this, Result.andThen_ok, h1]
    · cases h
  · rename_i a b
    rw [V_string hx, V_string hy]
    obtain ⟨h1, h2⟩ := str_ok (P := P) (w := w) (ρ := ρ) (t := t) h
    refine ⟨?_, h2⟩
    have : (eqGuard op t ox oy (.string a) (.string b)).run P w = .ok () w := by unfold eqGuard; split <;> rfl
    simp only [Sem.run_bind, this, Result.andThen_ok, h1]
  · rename_i a b
    split at h
    · rename_i ht
      rw [V_bool hx, V_bool hy]
      have hb := bool_ok (P := P) (w := w) (a := a) (b := b) ht
      have : (eqGuard op t ox oy (.bool a) (.bool b)).run P w = .ok () w := by unfold eqGuard; split <;> rfl
      split at h
      · cases h; simp only [Sem.run_bind, this, Result.andThen_ok]; exact ⟨hb.1, rfl⟩
      · cases h; simp only [Sem.run_bind, this, Result.andThen_ok]; exact ⟨hb.2, rfl⟩
      · cases h
    · cases h
  · rename_i xs ys
    split at h
    · rename_i fs hu
      split at h
      · rename_i hc
        simp only [Bool.and_eq_true] at hc
        obtain ⟨⟨hp, h1⟩, h2⟩ := hc
        obtain ⟨xs', rfl, ax⟩ := hx
        obtain ⟨ys', rfl, ay⟩ := hy
        have ex := fits_closed _ _ _ h1 ax
        have ey := fits_closed _ _ _ h2 ay
        have ex' : xs' = xs := by cases xs'; cases xs; simp at ex; rw [ex]
        have ey' : ys' = ys := by cases ys'; cases ys; simp at ey; rw [ey]
        subst ex' ey'
        have hg : (eqGuard op t ox oy (.agg xs') (.agg ys')).run P w = .ok () w := by
          unfold plainStruct at hp
          simp only [Bool.and_eq_true, Bool.not_eq_true'] at hp
          cases op <;> simp [eqGuard, hp.1.2]
        cases he : eqCells xs'.toList ys'.toList with
        | none => simp only [he] at h; split at h <;> simp at h
        | some b =>
          have hb := agg_ok (P := P) (w := w) hu hp h1 h2 he
          simp only [he, Option.map_some] at h
          split at h
          · cases h; simp only [Sem.run_bind, hg, Result.andThen_ok]; exact ⟨hb.1, rfl⟩
          · cases h; simp only [Sem.run_bind, hg, Result.andThen_ok]; exact ⟨hb.2, rfl⟩
          · cases h
      · cases h
    · cases h
  · cases h
end
end Go.Proofs.Ytmbikamebhoelaa.Ai
