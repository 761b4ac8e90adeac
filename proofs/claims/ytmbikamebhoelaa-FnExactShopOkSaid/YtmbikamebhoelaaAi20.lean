/- A run of operations whose order is drawn comes to what the text's order comes to: each operation in turn, and the end. No condition. -/
import Derived.Test.YtmbikamebhoelaaAi19
set_option linter.unusedVariables false
set_option linter.unusedSimpArgs false
namespace Go.Proofs.Ytmbikamebhoelaa.Ai
open Go
section
variable {P : Program} {n : Nat} {ops : Array Oper} {FR : Nat → Fr} {HP : Nat → Heap} {st : Nat → Step} {ρ₀ : Rho} {w₀ : World} {a₀ : Act} {bef : Nat → Nat → Bool}
variable {S : Nat → Bool} {p : Nat} {ρ : Rho} {a : Act} {w : World} {i : Nat} {o : Oper}

theorem wpOp_of {Q : Exit → Act → World → Prop} {K : Act → World → Prop} (ho : ops[i]? = some o) {b : Bool} (hw : Region.wanted o (yielded ops a.tmps) = b) (h1 : b = true → o.wp P a w K Q) (h2 : b = false → K (a.put o.dst undef) w) : wpOp P ops Q i K a w := by
  unfold wpOp
  rw [ho]
  simp only [hw]
  cases b with
  | true => exact .inl (h1 rfl)
  | false => exact h2 rfl
theorem lenN (D : Drawn P n ops FR HP st ρ₀ w₀ a₀ bef) {j : Nat} (hj : j ≤ ops.size) : (HP j).length ≤ (HP ops.size).length := len_mono D.dc D.hr D.hf hj (Nat.le_refl _)
/-- The places of the rows that two operations make lie apart. -/
theorem apart_rows (D : Drawn P n ops FR HP st ρ₀ w₀ a₀ bef) {i j id : Nat} (hi : i < ops.size) (hj : j < ops.size) (hne : i ≠ j) (h1 : (HP i).length ≤ id) (h2 : id < (HP (i + 1)).length) : ¬ ((HP j).length ≤ id ∧ id < (HP (j + 1)).length) := by
  rintro ⟨h3, h4⟩
  rcases Nat.lt_or_ge i j with h | h
  · have := len_mono D.dc D.hr D.hf (i := i + 1) (j := j) h (by omega); omega
  · have := len_mono D.dc D.hr D.hf (i := j + 1) (j := i) (by omega) (by omega); omega
/-- Nothing of the rows has turned. -/
theorem inv_same (D : Drawn P n ops FR HP st ρ₀ w₀ a₀ bef) (I : Inv P n ops FR HP st ρ₀ w₀ a₀ S p ρ a w) (ho : ops[i]? = some o) (hS : S i = false) (hrd : ∀ e ∈ o.after.toList, Region.binds .any e = true → S e.on = true) (hH : HP (i + 1) = HP i) {v' : Value} (hv : V ρ (st i).v v') :
    ∃ p', Inv P n ops FR HP st ρ₀ w₀ a₀ (fun k => S k || decide (k = i)) p' ρ (a.put o.dst v') w := by
  have hi := lt_size ho
  have dom' : ∀ j id, j < ops.size → (S j || decide (j = i)) = false → (HP j).length ≤ id → id < (HP (j + 1)).length → ρ id = none := fun j id hj hs h1 h2 => by
    simp only [Bool.or_eq_false_iff] at hs
    exact I.dom j id hj hs.1 h1 h2
  cases hw : isW o.op with
  | false =>
    refine ⟨p, I.pN, I.pW, wS_same I ho hw, cl_next I ho hrd, dom', fun j id r hj hs h1 h2 h3 => ?_, I.stp, frs_next D I ho hS (Rho.le_refl ρ) hv, (put_df o.dst v').trans I.df⟩
    simp only [Bool.or_eq_true, decide_eq_true_eq] at hs
    rcases hs with hs | hs
    · exact I.full j id r hj hs h1 h2 h3
    · subst hs; rw [hH] at h2; omega
  | true =>
    have hp := w_is_p D I ho hS hrd hw
    subst hp
    obtain ⟨p', g1, g2, g3, g4⟩ := next_w ops p hi
    have hread : ∀ id, readRow (HV HP ops.size p') id = readRow (HV HP ops.size p) id := fun id => by
      rcases Nat.lt_or_ge id (HP ops.size).length with q | q
      · rw [HV_move D.dc D.hr D.hf g1 g2 g3 q]
        split
        · rename_i hlt
          rw [hH] at hlt ⊢
          rw [HV_read q, if_pos hlt]
        · rfl
      · rw [readRow_ge (by rw [HV_len]; exact q), readRow_ge (by rw [HV_len]; exact q)]
    refine ⟨p', g2, g4, wS_next I g1 g3, cl_next I ho hrd, dom', fun j id r hj hs h1 h2 h3 => ?_, I.stp.congr (by rw [HV_len, HV_len]) hread, frs_next D I ho hS (Rho.le_refl ρ) hv, (put_df o.dst v').trans I.df⟩
    simp only [Bool.or_eq_true, decide_eq_true_eq] at hs
    rw [hread] at h3
    rcases hs with hs | hs
    · exact I.full j id r hj hs h1 h2 h3
    · subst hs; rw [hH] at h2; omega
/-- What a reading operation finds in the row that it reads. -/
theorem read_row (D : Drawn P n ops FR HP st ρ₀ w₀ a₀ bef) (I : Inv P n ops FR HP st ρ₀ w₀ a₀ S p ρ a w) (ho : ops[i]? = some o) (hS : S i = false) (hrd : ∀ e ∈ o.after.toList, Region.binds .any e = true → S e.on = true) (hran : (st i).ran = true) (hR : isR o.op = true) {x : Nat} (hx : readOf (ev (FR i)) o.op = some x) (hlt : x < (HP i).length) :
    readRow (HV HP ops.size p) x = readRow (HP i) x := by
  have hi := lt_size ho
  have one : ∀ j, j < ops.size → wAt ops j = true → bef i j = false → bef j i = false → x < (HP j).length → readRow (HP (j + 1)) x = readRow (HP j) x ∧ (HP j).length ≤ (HP (j + 1)).length := fun j hj hwj h1 h2 _ => by
    have hoj : ops[j]? = some ops[j] := Array.getElem?_eq_getElem hj
    refine ⟨?_, (step_len D.dc D.hr D.hf hj).1⟩
    cases hr : (st j).ran with
    | false => rw [(D.dc.skip j _ hoj hr).2]
    | true => exact (D.conf i j _ _ ho hoj (by rw [hR]; rfl) (by rw [← wAt_of hoj]; exact hwj) h1 h2 hran hr x (.inl hx)).symm
  have hlt' : x < (HP ops.size).length := Nat.lt_of_lt_of_le hlt (lenN D (Nat.le_of_lt hi))
  rcases Nat.lt_or_ge i p with h | h
  · -- it comes late
    have hq := row_keep D.dc D.hr p (Nat.le_of_lt h) I.pN hlt (fun j h1 h2 hwj hl => by
      have hjs : j < ops.size := Nat.lt_of_lt_of_le h2 I.pN
      have hSj := (I.wS j hjs hwj).2 h2
      refine one j hjs hwj ?_ ?_ hl
      · cases hb : bef i j with
        | false => rfl
        | true => have := D.d.clos S I.cl i j hb hSj hjs; rw [hS] at this; cases this
      · cases hb : bef j i with
        | false => rfl
        | true =>
          have := bef_le D.d hi hb
          have : j = i := by omega
          subst this
          rw [hS] at hSj; cases hSj)
    rw [HV_read hlt', if_pos hq.2, hq.1]
  · have step : ∀ m, p ≤ m → m ≤ i → x < (HP m).length → readRow (HP i) x = readRow (HP m) x := fun m h1 h2 h3 =>
      (row_keep D.dc D.hr i h2 (Nat.le_of_lt hi) h3 (fun j h4 h5 hwj hl => by
        have hjs : j < ops.size := by omega
        refine one j hjs hwj ?_ ?_ hl
        · cases hb : bef i j with
          | false => rfl
          | true => have := bef_le D.d hjs hb; omega
        · cases hb : bef j i with
          | false => rfl
          | true =>
            have := (I.wS j hjs hwj).1 (ready_bef D I ho hS hrd hb (by omega))
            omega)).1
    rw [HV_read hlt']
    split
    · rename_i hl; exact (step p (Nat.le_refl _) h hl).symm
    · rename_i hl
      obtain ⟨b1, b2, b3⟩ := born_ok hlt'
      have hb1 : p ≤ born HP ops.size x := by
        rcases Nat.lt_or_ge (born HP ops.size x) p with q | q
        · have := len_mono D.dc D.hr D.hf (Nat.le_of_lt q) I.pN; omega
        · exact q
      have hb2 : born HP ops.size x ≤ i := by
        rcases Nat.lt_or_ge i (born HP ops.size x) with q | q
        · have := b3 i q; omega
        · exact q
      exact (step _ hb1 hb2 b2).symm
theorem step_pure (D : Drawn P n ops FR HP st ρ₀ w₀ a₀ bef) (I : Inv P n ops FR HP st ρ₀ w₀ a₀ S p ρ a w) (ho : ops[i]? = some o) (hS : S i = false) (hrd : ∀ e ∈ o.after.toList, Region.binds .any e = true → S e.on = true) (hran : (st i).ran = true) (hw : isW o.op = false) (hn : isNew o.op = false) {Q : Exit → Act → World → Prop} {K : Act → World → Prop}
    (hK : ∀ p' ρ' a' w', Inv P n ops FR HP st ρ₀ w₀ a₀ (fun k => S k || decide (k = i)) p' ρ' a' w' → K a' w') : o.wp P a w K Q := by
  have hp := D.dc.prim i o ho hran hw
  have isR_of : ∀ {x}, readOf (ev (FR i)) o.op = some x → isR o.op = true := fun {x} hx => by
    cases hop : o.op <;> rw [hop] at hx <;> first | rfl | (simp [readOf] at hx)
  obtain ⟨hH, v', h1, h2⟩ := pure_ok (ρm := a.eval) (w := w) (ops_V D I ho hS hrd) I.stp.rel.zero (fun x hx l r hl hrow => by
    refine I.stp.rel.rows x l r hl ?_
    rw [read_row D I ho hS hrd hran (isR_of hx) hx (readRow_lt hrow)]
    exact hrow) hn hw hp
  obtain ⟨p', h3⟩ := inv_same D I ho hS hrd hH h2
  unfold Oper.wp
  rw [h1]
  exact hK _ _ _ _ h3
theorem step_new (D : Drawn P n ops FR HP st ρ₀ w₀ a₀ bef) (I : Inv P n ops FR HP st ρ₀ w₀ a₀ S p ρ a w) (ho : ops[i]? = some o) (hS : S i = false) (hrd : ∀ e ∈ o.after.toList, Region.binds .any e = true → S e.on = true) (hran : (st i).ran = true) (hn : isNew o.op = true) {Q : Exit → Act → World → Prop} {K : Act → World → Prop}
    (hK : ∀ p' ρ' a' w', Inv P n ops FR HP st ρ₀ w₀ a₀ (fun k => S k || decide (k = i)) p' ρ' a' w' → K a' w') : o.wp P a w K Q := by
  have hi := lt_size ho
  have hw : isW o.op = false := by
    cases hop : o.op <;> rw [hop] at hn <;> first | rfl | cases hn
  have hp := D.dc.prim i o ho hran hw
  obtain ⟨r, f, hown, hv, hH, _, c, e, v', hrun, hc, hvv⟩ := new_ok (ρm := a.eval) (w := w) (ops_V D I ho hS hrd) hn hp
  have hlen : (HP (i + 1)).length = (HP i).length + 1 := by rw [hH]; simp
  have hidN : (HP i).length < (HP ops.size).length := by have := lenN D (j := i + 1) hi; omega
  have h0 : (HP 0).length ≤ (HP i).length := len_mono D.dc D.hr D.hf (Nat.zero_le i) (Nat.le_of_lt hi)
  have hpos := D.hr.pos
  have hrow1 : readRow (HP (i + 1)) (HP i).length = some r := by rw [hH]; exact readRow_append_eq
  have hnone : ρ (HP i).length = none := I.dom i _ hi hS (Nat.le_refl _) (by omega)
  have hrow : readRow (HV HP ops.size p) (HP i).length = some r := by
    rw [HV_read hidN]
    split
    · rename_i hl
      have hip : i + 1 ≤ p := by
        rcases Nat.lt_or_ge i p with q | q
        · exact q
        · have := len_mono D.dc D.hr D.hf q (Nat.le_of_lt hi); omega
      rw [(row_keep D.dc D.hr p hip I.pN (by omega) (fun j h1 h2 hwj hl => by
        have hjs : j < ops.size := Nat.lt_of_lt_of_le h2 I.pN
        have hoj : ops[j]? = some ops[j] := Array.getElem?_eq_getElem hjs
        refine ⟨?_, (step_len D.dc D.hr D.hf hjs).1⟩
        have hSj := (I.wS j hjs hwj).2 h2
        have hb : bef i j = false := by
          cases hb : bef i j with
          | false => rfl
          | true =>
            have := D.d.clos S I.cl i j hb hSj hjs
            rw [hS] at this; cases this
        have hb2 : bef j i = false := by
          cases hb2 : bef j i with
          | false => rfl
          | true =>
            have := bef_le D.d hi hb2
            omega
        cases hr : (st j).ran with
        | false => rw [(D.dc.skip j _ hoj hr).2]
        | true => exact (D.conf i j _ _ ho hoj (by rw [hn, Bool.or_true]) (by rw [← wAt_of hoj]; exact hwj) hb hb2 hran hr _ (.inr ⟨hn, rfl⟩)).symm)).1]
      exact hrow1
    · obtain ⟨b1, b2, b3⟩ := born_ok hidN
      have : born HP ops.size (HP i).length = i + 1 := by
        rcases Nat.lt_trichotomy (born HP ops.size (HP i).length) (i + 1) with q | q | q
        · have := len_mono D.dc D.hr D.hf (i := born HP ops.size (HP i).length) (j := i) (by omega) (Nat.le_of_lt hi); omega
        · exact q
        · have := b3 (i + 1) q; omega
      rw [this]; exact hrow1
  have hst := I.stp.adopt (c := c) (e := e) hnone h0 hpos (by rw [HV_len]; exact hidN) hrow hown hc.pre
  have hle : ρ.le (ρ.put (HP i).length ⟨w.heap.size, 0, true, c.size, r.esz⟩) := Rho.le_put hnone
  have hV : V (ρ.put (HP i).length ⟨w.heap.size, 0, true, c.size, r.esz⟩) (st i).v v' := by
    rw [hv]; exact hvv _ _ (by omega) (Rho.put_self _ _ _)
  unfold Oper.wp
  rw [hrun]
  refine hK p _ _ _ ⟨I.pN, I.pW, wS_same I ho hw, cl_next I ho hrd, fun j id hj hs h1 h2 => ?_, fun j id r' hj hs h1 h2 h3 => ?_, hst, frs_next D I ho hS hle hV, (put_df o.dst v').trans I.df⟩
  · simp only [Bool.or_eq_false_iff, decide_eq_false_iff_not] at hs
    have hne : id ≠ (HP i).length := fun q => apart_rows D hj hi hs.2 h1 h2 (by omega)
    rw [Rho.put_ne _ _ hne]
    exact I.dom j id hj hs.1 h1 h2
  · simp only [Bool.or_eq_true, decide_eq_true_eq] at hs
    rcases hs with hs | hs
    · obtain ⟨l, hl⟩ := I.full j id r' hj hs h1 h2 h3
      exact ⟨l, hle _ _ hl⟩
    · subst hs
      have : id = (HP j).length := by omega
      exact ⟨_, by rw [this]; exact Rho.put_self _ _ _⟩
theorem step_w (D : Drawn P n ops FR HP st ρ₀ w₀ a₀ bef) (I : Inv P n ops FR HP st ρ₀ w₀ a₀ S p ρ a w) (ho : ops[i]? = some o) (hS : S i = false) (hrd : ∀ e ∈ o.after.toList, Region.binds .any e = true → S e.on = true) (hran : (st i).ran = true) (hw : isW o.op = true) {Q : Exit → Act → World → Prop} {K : Act → World → Prop}
    (hK : ∀ p' ρ' a' w', Inv P n ops FR HP st ρ₀ w₀ a₀ (fun k => S k || decide (k = i)) p' ρ' a' w' → K a' w') : o.wp P a w K Q := by
  have hi := lt_size ho
  have hp := w_is_p D I ho hS hrd hw
  subst hp
  obtain ⟨p', g1, g2, g3, g4⟩ := next_w ops p hi
  obtain ⟨s1, s2, s3, s4⟩ := D.dc.so p _ ho
  obtain ⟨ρc, wc, ac, cst, cfull, cfr⟩ := canon D.dc D.hr D.hf p (Nat.le_of_lt hi)
  have hok := D.dc.ok p _ ho
  simp only [okOper, Bool.and_eq_true, Array.all_eq_true_iff_forall_mem] at hok
  have hl0 : (HP 0).length ≤ (HP p).length := len_mono D.dc D.hr D.hf (Nat.zero_le p) (Nat.le_of_lt hi)
  have hl1 : (HP p).length ≤ (HP (p + 1)).length := (step_len D.dc D.hr D.hf hi).1
  have hlN := lenN D (j := p) (Nat.le_of_lt hi)
  have hlN1 := lenN D (j := p + 1) hi
  have hpos := D.hr.pos
  have hAB : ∀ id, id < (HP p).length → readRow (HV HP ops.size p) id = readRow (HP p) id := fun id h => by
    rw [HV_read (by omega), if_pos h]
  have hrel : Rel (ρ.cut (HP p).length) (HP p) w := I.stp.rel.cut (by omega) hAB fun id l r hl hrow => by
    have hid := readRow_lt hrow
    have hc : ∃ lc, ρc id = some lc := by
      rcases Nat.lt_or_ge id (HP 0).length with q | q
      · exact ⟨l, by rw [cst.old id q, ← I.stp.old id q]; exact hl⟩
      · exact cfull id r q hrow
    obtain ⟨lc, hlc⟩ := hc
    obtain ⟨c, e, fr, h1, h2, h3⟩ := (I.stp.rel.rows id l r hl (by rw [hAB id hid]; exact hrow)).ok
    obtain ⟨cc, ec, frc, _, k2, _⟩ := (cst.rel.rows id lc r hlc hrow).ok
    refine ⟨c, e, fr, h1, fun j v hv => ?_, h3⟩
    obtain ⟨v', x1, x2⟩ := h2 j v hv
    obtain ⟨y, _, y2⟩ := k2 j v hv
    exact ⟨v', x1, VS.cut cst.rel.dom x2 y2⟩
  have hnone : ∀ id, (HP p).length ≤ id → id < (HP (p + 1)).length → ρ id = none := fun id h1 h2 => I.dom p id hi hS h1 h2
  have hsim := D.dc.sim p _ ho hran (ρ.cut (HP p).length) w a (by rw [s3]; exact hrel) (fun x hx => by
    rw [s1] at hx
    rw [s2]
    exact V.cut cst.rel.dom (ops_V D I ho hS hrd x hx) (cfr.eval (hok.1.2 x hx))) K Q (fun v' ρ' w' h1 h2 h3 => by
      rw [s3, s4] at h1 h3
      rw [s1]
      have hmove : ∀ id, id < (HV HP ops.size p).length → readRow (HV HP ops.size p') id = if id < (HP (p + 1)).length then readRow (HP (p + 1)) id else readRow (HV HP ops.size p) id := fun id hid => by
        rw [HV_len] at hid
        exact HV_move D.dc D.hr D.hf g1 g2 g3 hid
      have hst := Stp.join (A := HV HP ops.size p) (A' := HV HP ops.size p') (B := HP p) (B' := HP (p + 1)) D.hr I.stp h1 hl0 (by rw [HV_len]; exact hlN1) hAB hnone (by rw [HV_len, HV_len]) hmove
      have e1 := join_le1 (ρ := ρ) h1
      have e2 := join_le2 (ρ := ρ) h1 hnone
      refine hK p' _ _ _ ⟨g2, g4, wS_next I g1 g3, cl_next I ho hrd, fun j id hj hs k1 k2 => ?_, fun j id r hj hs k1 k2 k3 => ?_, hst, frs_next D I ho hS e2 (h2.mono e1), (put_df o.dst v').trans I.df⟩
      · simp only [Bool.or_eq_false_iff, decide_eq_false_iff_not] at hs
        have hρ := I.dom j id hj hs.1 k1 k2
        have hap := apart_rows D hj hi hs.2 k1 k2
        by_cases q : id < (HP (p + 1)).length
        · have q' : id < (HP p).length := by omega
          rw [Rho.join_lt q, h1.old id q', Rho.cut_lt q']; exact hρ
        · rw [Rho.join_ge q]; exact hρ
      · have hidN : id < (HP ops.size).length := by have := lenN D (j := j + 1) hj; omega
        rw [hmove id (by rw [HV_len]; exact hidN)] at k3
        by_cases q : id < (HP (p + 1)).length
        · rw [if_pos q] at k3
          rcases Nat.lt_or_ge id (HP p).length with z | z
          · have hjp : j ≠ p := fun e => by subst e; omega
            have hSj : S j = true := by
              simp only [Bool.or_eq_true, decide_eq_true_eq] at hs; exact hs.resolve_right hjp
            cases hx : readRow (HP p) id with
            | none => rw [h1.dead id z hx] at k3; cases k3
            | some r0 =>
              obtain ⟨l, hl⟩ := I.full j id r0 hj hSj k1 k2 (by rw [hAB id z]; exact hx)
              exact ⟨l, e2 _ _ hl⟩
          · obtain ⟨l, hl⟩ := h3 id r z k3
            exact ⟨l, e1 _ _ hl⟩
        · rw [if_neg q] at k3
          have hjp : j ≠ p := fun e => by subst e; omega
          have hSj : S j = true := by
            simp only [Bool.or_eq_true, decide_eq_true_eq] at hs; exact hs.resolve_right hjp
          obtain ⟨l, hl⟩ := I.full j id r hj hSj k1 k2 k3
          exact ⟨l, e2 _ _ hl⟩)
  rw [s1] at hsim
  exact hsim
theorem inv_step (D : Drawn P n ops FR HP st ρ₀ w₀ a₀ bef) (I : Inv P n ops FR HP st ρ₀ w₀ a₀ S p ρ a w) (ho : ops[i]? = some o) (hS : S i = false) (hrd : ∀ e ∈ o.after.toList, Region.binds .any e = true → S e.on = true) {Q : Exit → Act → World → Prop} {K : Act → World → Prop}
    (hK : ∀ p' ρ' a' w', Inv P n ops FR HP st ρ₀ w₀ a₀ (fun k => S k || decide (k = i)) p' ρ' a' w' → K a' w') : wpOp P ops Q i K a w := by
  refine wpOp_of ho (ops_guard D I ho hS hrd) (fun hran => ?_) fun hran => ?_
  · by_cases hw : isW o.op = true
    · exact step_w D I ho hS hrd hran hw hK
    · by_cases hn : isNew o.op = true
      · exact step_new D I ho hS hrd hran hn hK
      · exact step_pure D I ho hS hrd hran (by simpa using hw) (by simpa using hn) hK
  · obtain ⟨e1, e2⟩ := D.dc.skip i o ho hran
    obtain ⟨p', h⟩ := inv_same D I ho hS hrd e2 (v' := undef) (by rw [e1]; exact V_undef)
    exact hK _ _ _ _ h
end
end Go.Proofs.Ytmbikamebhoelaa.Ai
