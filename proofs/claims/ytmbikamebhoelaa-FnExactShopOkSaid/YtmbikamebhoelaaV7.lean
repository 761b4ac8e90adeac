/- Regions that draw their order, over data. No condition. -/
import Derived.Test.YtmbikamebhoelaaV6
set_option linter.unusedVariables false
set_option linter.unusedSimpArgs false
namespace Go.Proofs.Ytmbikamebhoelaa.Ai.Av
open Go

/-- What an operation of a region did, told over data: did it run; what it read, and whether that was there when the region began; how many rows there were ahead of it and behind it; which of them it touched; whether it made one. -/
structure VT where
  ran : Bool
  rd : Option (D × Bool)
  n : Nat
  n' : Nat
  W : List Nat
  new : Bool
def okV (r s : VT) : Bool :=
  !r.ran || !s.ran || ((match r.rd with
    | none => true
    | some (.ptr id _, _) => !s.W.contains id && (decide (id < s.n) || decide (s.n' ≤ id))
    | some (.ref id _ _, _) => !s.W.contains id && (decide (id < s.n) || decide (s.n' ≤ id))
    | some (_, old) => old) && (!r.new || !s.W.contains r.n))
def okVs (l : List Oper) (vt : List VT) : Bool := (confl l).all fun p => match vt[p.1]?, vt[p.2]? with
  | some r, some s => okV r s
  | _, _ => true
def rdOf (ρ : Operand → D) : Op → Option D
  | .load _ a => some (ρ a)
  | .convert _ _ x => some (ρ x)
  | _ => none

section
variable {P : Program} {X : FuncId → List Value → Value → Prop} {n0 : Nat}

/-- One operation's two sides. -/
structure TR (c0 : Cx) (H0 : Heap) (t : Step) (v : VT) (c : Cx) (hv : HV) (c' : Cx) (hv' : HV) : Prop where
  hr : HR c hv t.H
  hr' : HR c' hv' t.H'
  sp : Sp c hv t.H c' hv' t.H'
  z0 : ∀ id, c0.Z id → c.Z id
  l0 : H0.length ≤ t.H.length
  ran : t.ran = v.ran
  n : v.n = hv.length
  n' : v.n' = hv'.length
  w : ∀ i r, readV hv i = some r → i ∉ v.W → readRow t.H' (c.μ i) = readRow t.H (c.μ i)
  rd : t.ran = true → ∀ x, readOf (ev t.fr) t.o.op = some x → ∃ d old, v.rd = some (d, old) ∧
    match d with
    | .ptr id _ => (∃ r, readV hv id = some r) ∧ c.μ id = x
    | .ref id _ _ => (∃ r, readV hv id = some r) ∧ c.μ id = x
    | _ => old = true → c0.Z x
  new : t.ran = true → isNew t.o.op = true → v.new = true ∧ hv'.length = hv.length + 1 ∧ c'.μ hv.length = t.H.length ∧ (∃ r, readV hv' hv.length = some r) ∧ ∀ i, i < t.H.length → readRow t.H' i = readRow t.H i
/-- The two traces, side by side. -/
inductive TRs (c0 : Cx) (H0 : Heap) : List Step → List VT → Cx → HV → Heap → Cx → HV → Heap → Prop
  | nil (c : Cx) (hv : HV) (H : Heap) : TRs c0 H0 [] [] c hv H c hv H
  | cons {t : Step} {v : VT} {tr : List Step} {vt : List VT} {c c1 c2 : Cx} {hv hv1 hv2 : HV} {H2 : Heap} : TR c0 H0 t v c hv c1 hv1 → TRs c0 H0 tr vt c1 hv1 t.H' c2 hv2 H2 → TRs c0 H0 (t :: tr) (v :: vt) c hv t.H c2 hv2 H2
theorem TRs.first {c0 : Cx} {H0 : Heap} {tr : List Step} {vt : List VT} {c c2 : Cx} {hv hv2 : HV} {H H2 : Heap} (h : TRs c0 H0 tr vt c hv H c2 hv2 H2) (hh : HR c hv H) : HR c2 hv2 H2 ∧ Sp c hv H c2 hv2 H2 := by
  induction h with
  | nil c hv H => exact ⟨hh, .refl hh⟩
  | cons h1 h2 ih => have := ih h1.hr'; exact ⟨this.1, h1.sp.trans this.2⟩
/-- The state ahead of an operation, from the beginning and to the end. -/
theorem TRs.at {c0 : Cx} {H0 : Heap} {tr : List Step} {vt : List VT} {c c2 : Cx} {hv hv2 : HV} {H H2 : Heap} (h : TRs c0 H0 tr vt c hv H c2 hv2 H2) (hh : HR c hv H) : ∀ {i : Nat} {t : Step} {v : VT}, tr[i]? = some t → vt[i]? = some v →
    ∃ ca ha cb hb, TR c0 H0 t v ca ha cb hb ∧ Sp c hv H ca ha t.H ∧ Sp cb hb t.H' c2 hv2 H2 ∧ ∀ {j : Nat} {t2 : Step} {v2 : VT}, i < j → tr[j]? = some t2 → vt[j]? = some v2 → ∃ cc hc cd hd, TR c0 H0 t2 v2 cc hc cd hd ∧ Sp cb hb t.H' cc hc t2.H := by
  induction h with
  | nil c hv H => intro i t v h; simp at h
  | @cons t0 v0 tr vt c c1 c2 hv hv1 hv2 H2 h1 h2 ih =>
    intro i t v hi hv'
    cases i with
    | zero =>
      simp at hi hv'
      subst hi hv'
      refine ⟨c, hv, c1, hv1, h1, .refl h1.hr, (h2.first h1.hr').2, fun {j t2 v2} hj hj1 hj2 => ?_⟩
      obtain ⟨j, rfl⟩ : ∃ m, j = m + 1 := ⟨j - 1, by omega⟩
      obtain ⟨cc, hc, cd, hd, k1, k2, _⟩ := ih h1.hr' (i := j) (by simpa using hj1) (by simpa using hj2)
      exact ⟨cc, hc, cd, hd, k1, k2⟩
    | succ i =>
      obtain ⟨ca, ha, cb, hb, k1, k2, k3, k4⟩ := ih h1.hr' (i := i) (by simpa using hi) (by simpa using hv')
      refine ⟨ca, ha, cb, hb, k1, h1.sp.trans k2, k3, fun {j t2 v2} hj hj1 hj2 => ?_⟩
      obtain ⟨j, rfl⟩ : ∃ m, j = m + 1 := ⟨j - 1, by omega⟩
      exact k4 (j := j) (by omega) (by simpa using hj1) (by simpa using hj2)
theorem none_of_len {H : Heap} {x : Nat} (h : H.length ≤ x) : readRow H x = none := by simp [readRow, List.getElem?_eq_none h]
theorem okV_ok {c0 : Cx} {H0 : Heap} {tr : List Step} {vt : List VT} {c c2 : Cx} {hv hv2 : HV} {H H2 : Heap} (h : TRs c0 H0 tr vt c hv H c2 hv2 H2) (hh : HR c hv H) (h0 : ∀ id, c0.Z id → id < H0.length) {i j : Nat} {r s : Step} {rv sv : VT} (hi : tr[i]? = some r) (hj : tr[j]? = some s) (hiv : vt[i]? = some rv) (hjv : vt[j]? = some sv)
    (hne : i ≠ j) (ok : okV rv sv = true) : r.ran = true → s.ran = true → ∀ x, (readOf (ev r.fr) r.o.op = some x ∨ (isNew r.o.op = true ∧ x = r.H.length)) → readRow s.H x = readRow s.H' x := by
  intro hr hs x hx
  have zrow : ∀ {cs : Cx} {hs : HV} {cd : Cx} {hd : HV}, TR c0 H0 s sv cs hs cd hd → c0.Z x → readRow s.H x = readRow s.H' x := fun S hz => (S.sp.zrow x (S.z0 x hz)).symm
  -- the cases of what was read
  have split : ∀ {ca : Cx} {ha : HV} {cb : Cx} {hb : HV}, TR c0 H0 r rv ca ha cb hb → rv.ran = true → sv.ran = true → (c0.Z x) ∨ (∃ id, (∃ q, readV ha id = some q) ∧ ca.μ id = x ∧ id ∉ sv.W ∧ (id < sv.n ∨ sv.n' ≤ id)) ∨ (rv.new = true ∧ x = r.H.length ∧ rv.n ∉ sv.W ∧ ca.n = rv.n ∧ hb.length = rv.n + 1 ∧ cb.μ rv.n = x ∧ (∃ q, readV hb rv.n = some q) ∧ ∀ i, i < r.H.length → readRow r.H' i = readRow r.H i) := by
    intro ca ha cb hb R e1 e2
    simp only [okV, e1, e2, Bool.not_true, Bool.false_or, Bool.and_eq_true] at ok
    obtain ⟨ok1, ok2⟩ := ok
    rcases hx with hx | ⟨hx, rfl⟩
    · obtain ⟨d, old, k1, k2⟩ := R.rd hr x hx
      rw [k1] at ok1
      cases d with
      | ptr id off =>
        simp only [Bool.and_eq_true, Bool.or_eq_true, decide_eq_true_eq, Bool.not_eq_true', List.contains_eq_mem, decide_eq_false_iff_not] at ok1
        exact .inr (.inl ⟨id, k2.1, k2.2, ok1.1, ok1.2⟩)
      | ref id off len =>
        simp only [Bool.and_eq_true, Bool.or_eq_true, decide_eq_true_eq, Bool.not_eq_true', List.contains_eq_mem, decide_eq_false_iff_not] at ok1
        exact .inr (.inl ⟨id, k2.1, k2.2, ok1.1, ok1.2⟩)
      | _ => exact .inl (k2 ok1)
    · obtain ⟨k1, k2, k3, k4, k5⟩ := R.new hr hx
      simp only [k1, Bool.not_true, Bool.false_or, Bool.not_eq_true', List.contains_eq_mem, decide_eq_false_iff_not] at ok2
      have hn := R.n
      exact .inr (.inr ⟨k1, rfl, ok2, by rw [R.hr.n, hn], by rw [k2, hn], by rw [hn]; exact k3, by rw [hn]; exact k4, k5⟩)
  rcases Nat.lt_trichotomy i j with hij | hij | hij
  · -- written behind
    obtain ⟨ca, ha, cb, hb, R, R1, R2, R3⟩ := h.at hh hi hiv
    obtain ⟨cc, hc, cd, hd, K, K1⟩ := R3 hij hj hjv
    have F : Sp ca ha r.H cc hc s.H := R.sp.trans K1
    rcases split R (by rw [← R.ran]; exact hr) (by rw [← K.ran]; exact hs) with hz | ⟨id, ⟨q, hq⟩, hmu, hW, hn⟩ | ⟨k1, rfl, hW, k2, k3, k4, ⟨q, k5⟩, k6⟩
    · exact zrow K hz
    · have hid : id < ca.n := R.hr.lt hq
      have hx0 : x < r.H.length := hmu ▸ R.hr.mlt hq
      by_cases hl : ∃ q', readV hc id = some q'
      · obtain ⟨q', hq'⟩ := hl
        have := K.w id q' hq' hW
        rw [F.mu id hid, hmu] at this
        exact this.symm
      · refine ((K.sp.oth x (Nat.lt_of_lt_of_le hx0 F.len) fun k q' hk e => ?_).1).symm
        rcases Nat.lt_or_ge k ca.n with z | z
        · obtain ⟨p, hp⟩ := F.res k q' z hk
          rw [F.mu k z, ← hmu] at e
          have := R.hr.inj k id p q hp hq e
          subst this
          exact hl ⟨q', hk⟩
        · have := F.loc k q' z hk; omega
    · have hbn : cb.n = rv.n + 1 := by rw [R.hr'.n, k3]
      have hx0 : r.H.length < r.H'.length := by have := R.hr'.mlt k5; rw [k4] at this; exact this
      by_cases hl : ∃ q', readV hc rv.n = some q'
      · obtain ⟨q', hq'⟩ := hl
        have := K.w rv.n q' hq' hW
        rw [K1.mu rv.n (by omega), k4] at this
        exact this.symm
      · refine ((K.sp.oth r.H.length (Nat.lt_of_lt_of_le hx0 K1.len) fun k q' hk e => ?_).1).symm
        rcases Nat.lt_or_ge k cb.n with z | z
        · obtain ⟨p, hp⟩ := K1.res k q' z hk
          rw [K1.mu k z] at e
          have := R.hr'.inj k rv.n p q hp k5 (e.trans k4.symm)
          subst this
          exact hl ⟨q', hk⟩
        · have := K1.loc k q' z hk; omega
  · exact absurd hij hne
  · -- written ahead
    obtain ⟨cs, hs1, cd, hd, S, S1, S2, S3⟩ := h.at hh hj hjv
    obtain ⟨cc, hc, cd', hd', K, K1⟩ := S3 hij hi hiv
    rcases split K (by rw [← K.ran]; exact hr) (by rw [← S.ran]; exact hs) with hz | ⟨id, ⟨q, hq⟩, hmu, hW, hn⟩ | ⟨k1, rfl, hW, k2, k3, k4, k5, k6⟩
    · exact zrow S hz
    · by_cases hid : id < sv.n
      · have hid' : id < cs.n := by rw [S.hr.n, ← S.n]; exact hid
        obtain ⟨p, hp⟩ := K1.res id q (Nat.lt_of_lt_of_le hid' S.sp.n) hq
        obtain ⟨p', hp'⟩ := S.sp.res id p hid' hp
        have := S.w id p' hp' hW
        rw [← (S.sp.trans K1).mu id hid', hmu] at this
        exact this.symm
      · have : cd.n ≤ id := by rw [S.hr'.n, ← S.n']; omega
        have hx1 := K1.loc id q this hq
        rw [hmu] at hx1
        rw [none_of_len hx1, none_of_len (Nat.le_trans S.sp.len hx1)]
    · rw [none_of_len (H := s.H') K1.len, none_of_len (Nat.le_trans S.sp.len K1.len)]
end
end Go.Proofs.Ytmbikamebhoelaa.Ai.Av
