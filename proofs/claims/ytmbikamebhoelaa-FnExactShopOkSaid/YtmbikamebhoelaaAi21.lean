/- A run of operations whose order is drawn comes to what the text's order comes to. No condition. -/
import Derived.Test.YtmbikamebhoelaaAi20
set_option linter.unusedVariables false
set_option linter.unusedSimpArgs false
namespace Go.Proofs.Ytmbikamebhoelaa.Ai
open Go
section
variable {P : Program} {n : Nat} {ops : Array Oper} {FR : Nat → Fr} {HP : Nat → Heap} {st : Nat → Step} {ρ₀ : Rho} {w₀ : World} {a₀ : Act} {bef : Nat → Nat → Bool}

theorem countP_less {f g : Nat → Bool} {i : Nat} (hfg : ∀ x, g x = true → f x = true) (hf : f i = true) (hg : g i = false) : ∀ l : List Nat, l.countP g ≤ l.countP f ∧ (i ∈ l → l.countP g < l.countP f)
  | [] => ⟨by simp, by simp⟩
  | x :: l => by
    obtain ⟨h1, h2⟩ := countP_less hfg hf hg l
    simp only [List.countP_cons, List.mem_cons]
    cases hgx : g x with
    | true => have := hfg x hgx
              simp only [this, if_true]
              refine ⟨by omega, fun h => ?_⟩
              rcases h with h | h
              · subst h; rw [hg] at hgx; cases hgx
              · have := h2 h; omega
    | false =>
      cases hfx : f x with
      | true => simp only [if_true, Bool.false_eq_true, if_false]; exact ⟨by omega, fun _ => by omega⟩
      | false =>
        simp only [Bool.false_eq_true, if_false]
        refine ⟨by omega, fun h => ?_⟩
        rcases h with h | h
        · subst h; rw [hf] at hfx; cases hfx
        · have := h2 h; omega
def unl (listed : Array Bool) (i : Nat) : Bool := !listed.getD i true
theorem ready_mem {listed : Array Bool} {i : Nat} : i ∈ Region.ready .any ops listed ↔ i < ops.size ∧ unl listed i = true ∧ ∃ o, ops[i]? = some o ∧ ∀ e ∈ o.after.toList, Region.binds .any e = true → listed.getD e.on false = true := by
  unfold Region.ready unl
  rw [List.mem_filter, List.mem_range, Bool.and_eq_true]
  constructor
  · rintro ⟨h1, h2, h3⟩
    refine ⟨h1, h2, ?_⟩
    have ho : ops[i]? = some ops[i] := Array.getElem?_eq_getElem h1
    rw [ho] at h3 ⊢
    refine ⟨_, rfl, fun e he hb => ?_⟩
    simp only [Option.map_some, Option.getD_some, Array.all_eq_true_iff_forall_mem] at h3
    have := h3 e (by simpa using he)
    simpa [hb] using this
  · rintro ⟨h1, h2, o, ho, h3⟩
    refine ⟨h1, h2, ?_⟩
    rw [ho]
    simp only [Option.map_some, Option.getD_some, Array.all_eq_true_iff_forall_mem]
    intro e he
    cases hb : Region.binds .any e with
    | false => rfl
    | true => simp [h3 e (by simpa using he) hb]
theorem inv_end {S : Nat → Bool} {p : Nat} {ρ : Rho} {a : Act} {w : World} (D : Drawn P n ops FR HP st ρ₀ w₀ a₀ bef) (I : Inv P n ops FR HP st ρ₀ w₀ a₀ S p ρ a w) (hall : ∀ j, j < ops.size → S j = true) :
    Stp ρ₀ (HP 0) w₀ ρ (HP ops.size) w ∧ FrRel ρ n (FR ops.size) a ∧ Full (HP 0) (HP ops.size) ρ := by
  have hp : p = ops.size := by
    rcases I.pW with h | h
    · exact h
    · rcases Nat.lt_or_ge p ops.size with q | q
      · have := (I.wS p q h).1 (hall p q); omega
      · have := I.pN; omega
  subst hp
  have hread : ∀ id, readRow (HP ops.size) id = readRow (HV HP ops.size ops.size) id := fun id => by
    rcases Nat.lt_or_ge id (HP ops.size).length with q | q
    · exact (HV_end q).symm
    · rw [readRow_ge q, readRow_ge (by rw [HV_len]; exact q)]
  refine ⟨I.stp.congr (by rw [HV_len]) hread, ⟨I.frs.size, fun t => ?_⟩, fun id r h1 h2 => ?_⟩
  · rw [← frS_at D.dc (S := S) (i := ops.size) (t := t) (Nat.le_refl _) (fun j hj _ => hall j hj) ops.size (Nat.le_refl _) (fun j h1 h2 _ => by omega)]
    exact I.frs.slot t
  · have hid := readRow_lt h2
    -- which operation has made it
    have key : ∀ m, m ≤ ops.size → id < (HP m).length → ∃ j, j < m ∧ (HP j).length ≤ id ∧ id < (HP (j + 1)).length := by
      intro m
      induction m with
      | zero => intro _ h; omega
      | succ m ih =>
        intro hm h
        rcases Nat.lt_or_ge id (HP m).length with q | q
        · obtain ⟨j, x1, x2, x3⟩ := ih (by omega) q
          exact ⟨j, by omega, x2, x3⟩
        · exact ⟨m, by omega, q, h⟩
    obtain ⟨j, x1, x2, x3⟩ := key ops.size (Nat.le_refl _) hid
    exact I.full j id r x1 (hall j x1) x2 x3 (by rw [← hread]; exact h2)
theorem any_ok (D : Drawn P n ops FR HP st ρ₀ w₀ a₀ bef) {Q : Exit → Act → World → Prop} (hq : ∀ ρ' w' a', Stp ρ₀ (HP 0) w₀ ρ' (HP ops.size) w' → FrRel ρ' n (FR ops.size) a' → Full (HP 0) (HP ops.size) ρ' → a'.defers = a₀.defers → Q .normal a' w') :
    ∀ (fuel : Nat) (listed : Array Bool) (S : Nat → Bool) (p : Nat) (ρ : Rho) (a : Act) (w : World), listed.size = ops.size → (∀ j, j < ops.size → listed.getD j false = S j) → (List.range ops.size).countP (unl listed) ≤ fuel → Inv P n ops FR HP st ρ₀ w₀ a₀ S p ρ a w → wpAny P .any ops Q fuel listed a w := by
  have ended : ∀ (listed : Array Bool) (S : Nat → Bool) (p : Nat) (ρ : Rho) (a : Act) (w : World), listed.size = ops.size → (∀ j, j < ops.size → listed.getD j false = S j) → Inv P n ops FR HP st ρ₀ w₀ a₀ S p ρ a w → Region.ready .any ops listed = [] → Q .normal a w := by
    intro listed S p ρ a w hsz hS I hrd
    have hall : ∀ j, j < ops.size → S j = true := by
      intro j
      induction j using Nat.strongRecOn with
      | _ j ih =>
        intro hj
        cases hSj : S j with
        | true => rfl
        | false =>
          exfalso
          have ho : ops[j]? = some ops[j] := Array.getElem?_eq_getElem hj
          have hm : j ∈ Region.ready .any ops listed := ready_mem.2 ⟨hj, by
            have h := hS j hj
            unfold unl
            rw [hSj] at h
            simp only [Array.getD_eq_getD_getElem?] at h ⊢
            rw [Array.getElem?_eq_getElem (by omega)] at h ⊢
            simp at h ⊢
            exact h, _, ho, fun e he hb => by
              have h1 := D.d.edge j _ ho e he hb
              rw [hS e.on (by omega)]
              exact ih e.on h1 (by omega)⟩
          rw [hrd] at hm; cases hm
    obtain ⟨h1, h2, h3⟩ := inv_end D I hall
    exact hq ρ w a h1 h2 h3 I.df
  intro fuel
  induction fuel with
  | zero =>
    intro listed S p ρ a w hsz hS hc I
    have hrd : Region.ready .any ops listed = [] := by
      cases hr : Region.ready .any ops listed with
      | nil => rfl
      | cons x xs =>
        exfalso
        have hm : x ∈ Region.ready .any ops listed := by rw [hr]; simp
        obtain ⟨h1, h2, _⟩ := ready_mem.1 hm
        have : (List.range ops.size).countP (unl listed) = 0 := by omega
        rw [List.countP_eq_zero] at this
        exact this x (by simpa using h1) h2
    exact ⟨hrd, ended listed S p ρ a w hsz hS I hrd⟩
  | succ fuel ih =>
    intro listed S p ρ a w hsz hS hc I
    refine ⟨ended listed S p ρ a w hsz hS I, fun i hi => ?_⟩
    obtain ⟨h1, h2, o, ho, h3⟩ := ready_mem.1 hi
    have hget : ∀ d, listed.getD i d = listed[i] := fun d => by
      rw [Array.getD_eq_getD_getElem?, Array.getElem?_eq_getElem (by omega)]; rfl
    have hSi : S i = false := by
      rw [← hS i h1, hget]
      unfold unl at h2
      rw [hget] at h2
      simpa using h2
    refine inv_step D I ho hSi (fun e he hb => ?_) fun p' ρ' a' w' I' => ?_
    · have h4 := D.d.edge i o ho e he hb
      rw [← hS e.on (by omega)]
      exact h3 e he hb
    · refine ih _ _ p' ρ' a' w' (by simp [hsz]) (fun j hj => ?_) ?_ I'
      · rw [Array.getD_eq_getD_getElem?]
        by_cases hji : j = i
        · subst hji
          simp [hsz, hj]
        · rw [Array.getElem?_setIfInBounds_ne (Ne.symm hji), ← Array.getD_eq_getD_getElem?, hS j hj]
          simp [hji]
      · have hlt := (countP_less (f := unl listed) (g := unl (listed.setIfInBounds i true)) (i := i) (fun x hx => by
          unfold unl at hx ⊢
          by_cases hxi : i = x
          · subst hxi; simp [Array.getD_eq_getD_getElem?, hsz, h1] at hx
          · simp only [Array.getD_eq_getD_getElem?, Array.getElem?_setIfInBounds_ne hxi] at hx ⊢
            exact hx) h2 (by
          unfold unl
          simp [Array.getD_eq_getD_getElem?, hsz, h1]) (List.range ops.size)).2 (by simpa using h1)
        omega
end

theorem chain_any {P : Program} {ops : Array Oper} {Q : Exit → Act → World → Prop} {n : Nat} {fr fr' : Fr} {H H' : Heap} {tr : List Step} (h : Chain P ops ops.toList fr H tr fr' H') (hok : ∀ o ∈ ops, okOper n o = true) (hd : drawOk ops.toList = true) (hcf : ∀ p ∈ confl ops.toList, okPair tr p)
    {ρ : Rho} {w : World} {a : Act} (hr : Rel ρ H w) (hf : FrRel ρ n fr a) (hq : ∀ ρ' w' a', Stp ρ H w ρ' H' w' → FrRel ρ' n fr' a' → Full H H' ρ' → a'.defers = a.defers → Q .normal a' w') :
    wpAny P .any ops Q ops.size (Array.replicate ops.size false) a { w with drawn := w.drawn + 1 } := by
  obtain ⟨FR, HP, st, e1, e2, e3, e4, e5, e6, e7⟩ := chain_get h
  have hsz : ops.toList.length = ops.size := by simp
  have gl : ∀ {i : Nat} {o : Oper}, ops[i]? = some o → ops.toList[i]? = some o := fun {i o} ho => by simpa using ho
  have dc : DC P n ops FR HP st := ⟨fun i o ho => (e7 i o (gl ho)).1, fun i o ho => (e7 i o (gl ho)).2.1, fun i o ho => (e7 i o (gl ho)).2.2.1, fun i o ho => (e7 i o (gl ho)).2.2.2.1, fun i o ho => (e7 i o (gl ho)).2.2.2.2.1, fun i o ho => (e7 i o (gl ho)).2.2.2.2.2, fun i o ho => hok o (Array.mem_of_getElem? ho)⟩
  have d := do_of_drawOk hd
  have hdr := drew_stp hr (w.drawn + 1)
  subst e1 e2
  rw [hsz] at e3 e4 e6 e5
  have D : Drawn P n ops FR HP st ρ { w with drawn := w.drawn + 1 } a (isBefore (befs ops.toList)) := ⟨dc, d, hdr.rel, hf, fun i j oi oj hi hj hR hW hb1 hb2 hri hrj x hx => by
    have hm : (i, j) ∈ confl ops.toList := by
      unfold confl
      rw [List.mem_flatMap]
      refine ⟨(oi, i), by rw [List.mem_zipIdx_iff_getElem?]; exact gl hi, ?_⟩
      simp only [hR, if_true, List.mem_filterMap]
      refine ⟨(oj, j), by rw [List.mem_zipIdx_iff_getElem?]; exact gl hj, ?_⟩
      simp [hW, hb1, hb2]
    have := hcf _ hm
    unfold okPair at this
    rw [e5 i (lt_size hi), e5 j (lt_size hj)] at this
    obtain ⟨s1, s2, s3, s4⟩ := dc.so i _ hi
    obtain ⟨t1, t2, t3, t4⟩ := dc.so j _ hj
    have := this hri hrj x (by rw [s1, s2, s3]; exact hx)
    rw [t3, t4] at this
    exact this⟩
  have hfirst : ∃ p, p ≤ ops.size ∧ (p = ops.size ∨ wAt ops p = true) ∧ ∀ j, j < p → wAt ops j = false := by
    by_cases h0 : 0 < ops.size
    · cases hw : wAt ops 0 with
      | true => exact ⟨0, Nat.zero_le _, .inr hw, fun j hj => by omega⟩
      | false =>
        obtain ⟨p', g1, g2, g3, g4⟩ := next_w ops 0 h0
        refine ⟨p', g2, g4, fun j hj => ?_⟩
        rcases Nat.eq_zero_or_pos j with q | q
        · rw [q]; exact hw
        · exact g3 j q hj
    · exact ⟨ops.size, Nat.le_refl _, .inl rfl, fun j hj => by omega⟩
  obtain ⟨p, p1, p2, p3⟩ := hfirst
  have hread : ∀ id, readRow (HV HP ops.size p) id = readRow (HV HP ops.size p) id := fun _ => rfl
  have hl0 : (HP 0).length ≤ (HP p).length := len_mono dc hdr.rel hf (Nat.zero_le p) p1
  have hkeep := fun id (hid : id < (HP 0).length) => (no_w_keep dc hdr.rel p (Nat.zero_le p) p1 (fun j _ h2 => p3 j h2) id hid).1
  have hst : Stp ρ (HP 0) { w with drawn := w.drawn + 1 } ρ (HV HP ops.size p) { w with drawn := w.drawn + 1 } := by
    have hlN : (HP 0).length ≤ (HP ops.size).length := len_mono dc hdr.rel hf (Nat.zero_le _) (Nat.le_refl _)
    have hsame : ∀ id, id < (HP 0).length → readRow (HV HP ops.size p) id = readRow (HP 0) id := fun id hid => by
      rw [HV_read (by omega), if_pos (by omega), hkeep id hid]
    refine ⟨hdr.rel.more (by rw [HV_len]; exact hlN) (fun id l hl => hsame id ?_), fun _ _ => rfl, fun id l hi hl => (by rw [hr.dom id hi] at hl; cases hl), fun _ _ _ => rfl, rfl, rfl, rfl, Nat.le_refl _, (by rw [HV_len]; exact hlN), fun id hi hdd => (by rw [hsame id hi]; exact hdd)⟩
    rcases Nat.lt_or_ge id (HP 0).length with q | q
    · exact q
    · rw [hr.dom id q] at hl; cases hl
  refine any_ok D (fun ρ' w' a' h1 h2 h3 h4 => ?_) ops.size _ (fun _ => false) p ρ a _ (by simp) (fun j hj => ?_) ?_ ⟨p1, p2, fun j hj hwj => ?_, fun j o ho hs => by simp at hs, fun j id hj hs h1 h2 => ?_, fun j id r hj hs => by simp at hs, hst, ?_, rfl⟩
  · rw [e4] at h1 h3
    rw [e3] at h2
    exact hq ρ' w' a' ⟨h1.rel, h1.old, h1.new, h1.frame, h1.os, h1.tape, h1.output, h1.size, h1.len, h1.dead⟩ h2 h3 h4
  · simp [Array.getD_eq_getD_getElem?, hj]
  · refine Nat.le_trans (List.countP_le_length) (by simp)
  · constructor
    · intro h; cases h
    · intro h; have := p3 j h; rw [hwj] at this; cases this
  · have : (HP 0).length ≤ (HP j).length := len_mono dc hdr.rel hf (Nat.zero_le j) (Nat.le_of_lt hj)
    exact hr.dom id (by omega)
  · have : ∀ k, frS FR st ops (fun _ => false) k = FR 0 := by
      intro k
      induction k with
      | zero => rfl
      | succ k ih => simp only [frS, Bool.false_eq_true, if_false]; exact ih
    rw [this]
    exact hf
end Go.Proofs.Ytmbikamebhoelaa.Ai
