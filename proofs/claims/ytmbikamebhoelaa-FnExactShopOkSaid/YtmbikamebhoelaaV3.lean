/- Each operation over data is the plain heap's: the rest, and all. No condition. -/
import Derived.Test.YtmbikamebhoelaaV2
set_option linter.unusedVariables false
set_option linter.unusedSimpArgs false
namespace Go.Proofs.Ytmbikamebhoelaa.Ai.Av
open Go
section
variable {P : Program} {c : Cx} {H : Heap} {hv : HV}

theorem storeV_ok (hr : HR c hv H) {t : TypeId} {p x : D} {vp vx : Value} {hv' : HV} (hp : RD c H p vp) (hx : RD c H x vx) (h : storeV P t p x hv = some hv') : ∃ H', storeA P t vp vx H = some H' ∧ HR c hv' H' ∧ Sp c hv H c hv' H' := by
  unfold storeV at h
  split at h
  · rename_i id off
    simp only [RD] at hp
    obtain ⟨_, rfl⟩ := hp
    cases hrow : readV hv id with
    | none => rw [hrow] at h; cases h
    | some r =>
      rw [hrow] at h
      simp only [Option.bind_some] at h
      split at h
      · rename_i e
        cases h
        obtain ⟨rp, k1, k2, k3, k4⟩ := hr.row id r hrow
        obtain ⟨m1, m2⟩ := rd_cells hx e.2.2
        have := set_ok hr hrow k1 k2 k3 (splice_ok k4 m1 off)
        refine ⟨_, ?_, this.1, this.2⟩
        simp only [storeA, pt, k1, Option.bind_some]
        rw [if_pos ⟨k2, by rw [m1.length]; exact e.1, by rw [m1.length, k4.length]; exact e.2.1, m2⟩]
      · cases h
  · cases h
theorem bytes_ok : ∀ {ds : List D} {vs : List Value} {l : List UInt8}, RCells c H ds vs → bytesOfD ds = some l → bytesOfCells vs = some l
  | [], vs, l, h, hl => by simp only [RCells] at h; subst h; simpa [bytesOfD, bytesOfCells] using hl
  | d :: ds, vs, l, h, hl => by
    simp only [RCells] at h
    obtain ⟨v, vs', rfl, h1, h2⟩ := h
    simp only [bytesOfD] at hl
    cases hb : byteOfD d with
    | none => rw [hb] at hl; cases hl
    | some b =>
      rw [hb] at hl
      simp only [Option.bind_some] at hl
      cases hc : bytesOfD ds with
      | none => rw [hc] at hl; cases hl
      | some l' =>
        rw [hc] at hl
        cases hl
        have : byteOfCell v = some b := by
          unfold byteOfD at hb
          split at hb
          · simp only [RD] at h1; subst h1; exact hb
          · cases hb
        simp only [bytesOfCells, this, bytes_ok h2 hc, Option.bind_some, Option.map_some]
theorem convV_ok (hr : HR c hv H) {s t : TypeId} {x d : D} {vx : Value} (hx : RD c H x vx) (h : convV P s t x hv = some d) : ∃ v, convA P s t vx H = some v ∧ RD c H d v := by
  unfold convV at h
  split at h
  · rename_i k n
    simp only [RD] at hx; subst hx
    cases h1 : tkind P s with
    | none => rw [h1] at h; cases h
    | some k1 =>
      cases h2 : tkind P t with
      | none => rw [h1, h2] at h; cases h
      | some k2 => rw [h1, h2] at h; cases h; exact ⟨.int k2 (k2.wrap n), by simp only [convA, h1, h2, Option.bind_some, Option.map_some], by simp only [RD]⟩
  · rename_i s0
    simp only [RD] at hx; subst hx
    split at h
    · rename_i e; cases h; exact ⟨.string s0, by simp only [convA, if_pos e], by simp only [RD]⟩
    · cases h
  · rename_i id off len
    simp only [RD] at hx
    obtain ⟨_, rfl⟩ := hx
    split at h
    · rename_i e
      simp only [convA, sl, if_pos e]
      split at h
      · rename_i e0; cases h; exact ⟨_, if_pos e0, by simp only [RD]⟩
      · rename_i e0
        rw [if_neg e0]
        cases hrow : readV hv id with
        | none => rw [hrow] at h; cases h
        | some r =>
          rw [hrow] at h
          simp only [Option.bind_some] at h
          obtain ⟨rp, k1, k2, k3, k4⟩ := hr.row id r hrow
          simp only [k1, Option.bind_some]
          split at h
          · rename_i e1
            rw [if_pos (by rw [k4.length]; exact e1)]
            cases hb : bytesOfD ((r.cells.drop off).take len) with
            | none => rw [hb] at h; cases h
            | some l => rw [hb] at h; cases h; rw [bytes_ok ((k4.drop off).take len) hb]; exact ⟨_, rfl, by simp only [RD]⟩
          · cases h
    · cases h
  · cases h
theorem boundV_ok {x : Option D} {vx : Option Value} {d hi n : Nat} (hx : ∀ y, x = some y → ∃ v, vx = some v ∧ RD c H y v) (hn : x = none → vx = none) (h : boundV x d hi = some n) : boundOf vx d hi = some n := by
  cases x with
  | none => rw [hn rfl]; simpa [boundV, boundOf] using h
  | some y =>
    obtain ⟨v, rfl, hy⟩ := hx y rfl
    cases y <;> simp only [boundV, reduceCtorEq] at h
    simp only [RD] at hy
    subst hy
    simpa [boundOf] using h
theorem boundV_le {x : Option D} {d hi n : Nat} (hd : d ≤ hi) (h : boundV x d hi = some n) : n ≤ hi := by
  unfold boundV at h
  split at h
  · split at h
    · cases h; omega
    · cases h
  · cases h; exact hd
  · cases h
theorem sliceV_ok {t : TypeId} {x d : D} {lo hi mx : Option D} {vx : Value} {vlo vhi vmx : Option Value} (hx : RD c H x vx)
    (hlo : ∀ y, lo = some y → ∃ v, vlo = some v ∧ RD c H y v) (hlo0 : lo = none → vlo = none) (hhi : ∀ y, hi = some y → ∃ v, vhi = some v ∧ RD c H y v) (hhi0 : hi = none → vhi = none) (hmx : mx = none → vmx = none)
    (h : sliceV P t x lo hi mx = some d) : ∃ v, sliceA P t vx vlo vhi vmx = some v ∧ RD c H d v := by
  unfold sliceV at h
  split at h
  · cases h
  · rw [hmx rfl]
    split at h
    · rename_i s
      simp only [RD] at hx; subst hx
      simp only [sliceA]
      split at h
      · rename_i e
        rw [if_pos e]
        cases h1 : boundV hi s.size s.size with
        | none => rw [h1] at h; cases h
        | some a =>
          rw [h1] at h
          simp only [Option.bind_some] at h
          cases h2 : boundV lo 0 a with
          | none => rw [h2] at h; cases h
          | some b => rw [h2] at h; cases h; simp only [boundV_ok hhi hhi0 h1, boundV_ok hlo hlo0 h2, Option.bind_some, Option.map_some]; exact ⟨_, rfl, by simp only [RD]⟩
      · cases h
    · simp only [RD] at hx; subst hx
      simp only [sliceA, nilS, sl]
      cases h0 : telem P t with
      | none => rw [h0] at h; cases h
      | some e =>
        rw [h0] at h; simp only [Option.bind_some] at h ⊢
        cases h3 : tsz P e with
        | none => rw [h3] at h; cases h
        | some n =>
          rw [h3] at h; simp only [Option.bind_some] at h ⊢
          cases h1 : boundV hi 0 0 with
          | none => rw [h1] at h; cases h
          | some a =>
            rw [h1] at h
            simp only [Option.bind_some] at h
            have ha := boundV_le (Nat.le_refl 0) h1
            cases h2 : boundV lo 0 a with
            | none => rw [h2] at h; cases h
            | some b =>
              rw [h2] at h; cases h
              have hb := boundV_le (Nat.zero_le _) h2
              have : a = 0 := by omega
              subst this
              have : b = 0 := by omega
              subst this
              simp only [boundV_ok hhi hhi0 h1, boundV_ok hlo hlo0 h2, Option.bind_some, Option.map_some]
              exact ⟨_, rfl, by simp only [RD]; simp [nilS, sl]⟩
    · rename_i w rows
      simp only [RD] at hx
      obtain ⟨id, off, rfl, hx⟩ := hx
      simp only [sliceA, sl]
      cases h0 : telem P t with
      | none => rw [h0] at h; cases h
      | some e =>
        rw [h0] at h; simp only [Option.bind_some] at h ⊢
        cases h3 : tsz P e with
        | none => rw [h3] at h; cases h
        | some n =>
          rw [h3] at h; simp only [Option.bind_some] at h ⊢
          split at h
          · rename_i hw
            subst hw
            cases h1 : boundV hi rows.length rows.length with
            | none => rw [h1] at h; cases h
            | some a =>
              rw [h1] at h
              simp only [Option.bind_some] at h
              have ha := boundV_le (Nat.le_refl _) h1
              cases h2 : boundV lo 0 a with
              | none => rw [h2] at h; cases h
              | some b =>
                rw [h2] at h; cases h
                have hb := boundV_le (Nat.zero_le _) h2
                simp only [boundV_ok hhi hhi0 h1, boundV_ok hlo hlo0 h2, Option.bind_some, Option.map_some]
                refine ⟨_, rfl, ?_⟩
                simp only [RD]
                refine ⟨id, off + b * n, by simp [sl]; omega, ?_⟩
                rcases hx with rfl | ⟨k1, r, k2, k3⟩
                · left; simp
                · right
                  refine ⟨k1, r, k2, ?_⟩
                  have := (k3.take a).drop b
                  rwa [List.drop_drop] at this
          · cases h
    · rename_i id off len
      simp only [RD] at hx
      obtain ⟨hid, rfl⟩ := hx
      simp only [sliceA, sl]
      cases h0 : telem P t with
      | none => rw [h0] at h; cases h
      | some e =>
        rw [h0] at h; simp only [Option.bind_some] at h ⊢
        cases h3 : tsz P e with
        | none => rw [h3] at h; cases h
        | some n =>
          rw [h3] at h; simp only [Option.bind_some] at h ⊢
          cases h1 : boundV hi len len with
          | none => rw [h1] at h; cases h
          | some a =>
            rw [h1] at h
            simp only [Option.bind_some] at h
            cases h2 : boundV lo 0 a with
            | none => rw [h2] at h; cases h
            | some b =>
              rw [h2] at h; cases h
              simp only [boundV_ok hhi hhi0 h1, boundV_ok hlo hlo0 h2, Option.bind_some, Option.map_some]
              refine ⟨_, rfl, ?_⟩
              simp only [RD]
              exact ⟨hid, rfl⟩
    · cases h
theorem fieldAddrV_ok {s : TypeId} {f : Nat} {x d : D} {vx : Value} (hx : RD c H x vx) (h : fieldAddrV P s x f = some d) : ∃ v, fieldAddrA P s vx f = some v ∧ RD c H d v := by
  unfold fieldAddrV at h
  split at h
  · rename_i id off
    simp only [RD] at hx
    obtain ⟨hid, rfl⟩ := hx
    simp only [fieldAddrA, pt]
    cases h1 : tfield P s f with
    | none => rw [h1] at h; cases h
    | some q =>
      obtain ⟨o, t⟩ := q
      rw [h1] at h; simp only [Option.bind_some] at h ⊢
      cases h2 : tsz P t with
      | none => rw [h2] at h; cases h
      | some n =>
        rw [h2] at h; simp only [Option.bind_some] at h ⊢
        split at h
        · cases h
        · rename_i hn; cases h; rw [if_neg hn]; exact ⟨_, rfl, by unfold RD; exact ⟨hid, rfl⟩⟩
  · rename_i cs
    simp only [RD] at hx
    obtain ⟨id, off, r, a, b, rfl, k1, k2, k0, k3, k4⟩ := hx
    simp only [fieldAddrA, pt]
    cases h1 : tfield P s f with
    | none => rw [h1] at h; cases h
    | some q =>
      obtain ⟨o, t⟩ := q
      rw [h1] at h; simp only [Option.bind_some] at h ⊢
      cases h2 : tsz P t with
      | none => rw [h2] at h; cases h
      | some n =>
        rw [h2] at h; simp only [Option.bind_some] at h ⊢
        split at h
        · cases h
        · rename_i hn
          cases h
          rw [if_neg (fun e => hn (.inl e))]
          refine ⟨_, rfl, ?_⟩
          simp only [RD]
          have hl := k4.length
          have hl2 : a.length + b.length = r.cells.length - off := by rw [← List.length_append, ← k3, List.length_drop]
          refine ⟨id, off + o, r, a.drop o, b, rfl, k1, k2, by omega, ?_, k4.drop o⟩
          rw [← List.drop_drop, k3, List.drop_append_of_le_length (by omega)]
  · cases h
theorem fieldV_ok {t : TypeId} {f : Nat} {x d : D} {vx : Value} (hx : RD c H x vx) (h : fieldV P t x f = some d) : ∃ v, fieldA P t vx f = some v ∧ RD c H d v := by
  unfold fieldV at h
  split at h
  · rename_i cs
    simp only [RD] at hx
    obtain ⟨vs, rfl, hx⟩ := hx
    simp only [fieldA]
    cases h1 : tfield P t f with
    | none => rw [h1] at h; cases h
    | some q =>
      obtain ⟨o, u⟩ := q
      rw [h1] at h; simp only [Option.bind_some] at h ⊢
      obtain ⟨v, e1, e2⟩ := part_ok (L := vs) (o := 0) (a := vs) (b := []) (Nat.zero_le _) (by simp) hx h
      exact ⟨v, by rw [← e1, Nat.zero_add], e2⟩
  · cases h
theorem indexAddrV_ok {t : TypeId} {x i d : D} {vx vi : Value} (hx : RD c H x vx) (hi : RD c H i vi) (h : indexAddrV P t x i = some d) : ∃ v, indexAddrA P t vx vi = some v ∧ RD c H d v := by
  unfold indexAddrV at h
  split at h
  · rename_i w rows k i
    simp only [RD] at hx hi
    subst hi
    obtain ⟨id, off, rfl, hx⟩ := hx
    simp only [indexAddrA, sl]
    cases h0 : telem P t with
    | none => rw [h0] at h; cases h
    | some e =>
      rw [h0] at h; simp only [Option.bind_some] at h ⊢
      cases h3 : tsz P e with
      | none => rw [h3] at h; cases h
      | some n =>
        rw [h3] at h; simp only [Option.bind_some] at h ⊢
        split at h
        · rename_i hw
          obtain ⟨rfl, hn, hi0⟩ := hw
          cases hrow : rows[i.toNat]? with
          | none => rw [hrow] at h; cases h
          | some row =>
            rw [hrow] at h; cases h
            have hlt := (List.getElem?_eq_some_iff.1 hrow).1
            rw [if_pos ⟨hi0, by omega⟩]
            refine ⟨_, rfl, ?_⟩
            rcases hx with rfl | ⟨k1, r, k2, k3⟩
            · simp at hrow
            · obtain ⟨a, b, m1, m2, m3⟩ := k3.get hrow
              simp only [RD]
              rw [List.drop_drop] at m1
              have : a.length + b.length = r.cells.length - (off + i.toNat * n) := by rw [← List.length_append, ← m1, List.length_drop]
              exact ⟨id, off + i.toNat * n, r, a, b, rfl, k1, k2, by omega, m1, m3⟩
        · cases h
  · rename_i id off len k i
    simp only [RD] at hx hi
    subst hi
    obtain ⟨hid, rfl⟩ := hx
    simp only [indexAddrA, sl]
    cases h0 : telem P t with
    | none => rw [h0] at h; cases h
    | some e =>
      rw [h0] at h; simp only [Option.bind_some] at h ⊢
      cases h3 : tsz P e with
      | none => rw [h3] at h; cases h
      | some n =>
        rw [h3] at h; simp only [Option.bind_some] at h ⊢
        split at h
        · rename_i hw; cases h; rw [if_pos hw]; exact ⟨_, rfl, by unfold RD; exact ⟨hid, rfl⟩⟩
        · cases h
  · rename_i id off k i
    simp only [RD] at hx hi
    subst hi
    obtain ⟨hid, rfl⟩ := hx
    simp only [indexAddrA, pt]
    cases h0 : tarr P t with
    | none => rw [h0] at h; cases h
    | some q =>
      obtain ⟨len, e⟩ := q
      rw [h0] at h; simp only [Option.bind_some] at h ⊢
      cases h3 : tsz P e with
      | none => rw [h3] at h; cases h
      | some n =>
        rw [h3] at h; simp only [Option.bind_some] at h ⊢
        split at h
        · rename_i hw; cases h; rw [if_pos hw]; exact ⟨_, rfl, by unfold RD; exact ⟨hid, rfl⟩⟩
        · cases h
  · cases h
theorem indexV_ok {t : TypeId} {x i d : D} {vx vi : Value} (hx : RD c H x vx) (hi : RD c H i vi) (h : indexV P t x i = some d) : ∃ v, indexA P t vx vi = some v ∧ RD c H d v := by
  unfold indexV at h
  split at h
  · rename_i s k i
    simp only [RD] at hx hi
    subst hx hi
    simp only [indexA]
    split at h
    · rename_i e
      rw [if_pos e]
      split at h
      · rename_i e0
        rw [if_pos e0]
        cases hb : s[i.toNat]? with
        | none => rw [hb] at h; cases h
        | some b => rw [hb] at h; cases h; exact ⟨_, rfl, by simp only [RD]⟩
      · cases h
    · cases h
  · rename_i cs k i
    simp only [RD] at hx hi
    subst hi
    obtain ⟨vs, rfl, hx⟩ := hx
    simp only [indexA]
    cases h0 : tarr P t with
    | none => rw [h0] at h; cases h
    | some q =>
      obtain ⟨len, e⟩ := q
      rw [h0] at h; simp only [Option.bind_some] at h ⊢
      cases h3 : tsz P e with
      | none => rw [h3] at h; cases h
      | some n =>
        rw [h3] at h; simp only [Option.bind_some] at h ⊢
        split at h
        · rename_i hw
          rw [if_pos hw]
          obtain ⟨v, e1, e2⟩ := part_ok (L := vs) (o := 0) (a := vs) (b := []) (Nat.zero_le _) (by simp) hx h
          exact ⟨v, by rw [← e1, Nat.zero_add], e2⟩
        · cases h
  · cases h
/-- Parts, each told by its number. -/
def PRel (c : Cx) (H : Heap) : List (Nat × D) → List (Nat × Value) → Prop
  | [], vs => vs = []
  | (i, d) :: ds, vs => ∃ v vs', vs = (i, v) :: vs' ∧ RD c H d v ∧ PRel c H ds vs'
theorem fill_ok {place : Nat → Option (Nat × Nat)} : ∀ {ps : List (Nat × D)} {qs : List (Nat × Value)} {cs : List D} {vs : List Value} {r : List D}, PRel c H ps qs → RCells c H cs vs → fillV place cs ps = some r → ∃ r', fillA place vs qs = some r' ∧ RCells c H r r'
  | [], qs, cs, vs, r, hp, hc, h => by
    simp only [PRel] at hp; subst hp
    simp only [fillV] at h; cases h
    exact ⟨vs, rfl, hc⟩
  | (i, d) :: ps, qs, cs, vs, r, hp, hc, h => by
    simp only [PRel] at hp
    obtain ⟨v, qs', rfl, h1, h2⟩ := hp
    simp only [fillV] at h
    simp only [fillA]
    cases hq : place i with
    | none => rw [hq] at h; cases h
    | some q =>
      obtain ⟨off, size⟩ := q
      rw [hq] at h; simp only [Option.bind_some] at h ⊢
      split at h
      · rename_i e
        obtain ⟨m1, m2⟩ := rd_cells h1 e.2.2
        rw [if_pos ⟨by rw [m1.length]; exact e.1, by rw [m1.length, hc.length]; exact e.2.1, m2⟩]
        exact fill_ok h2 (splice_ok hc m1 off) h
      · cases h
theorem prel_map {ρv : Operand → D} {ρ : Operand → Value} (h : ∀ x, RD c H (ρv x) (ρ x)) : ∀ l : List (Nat × Operand), PRel c H (l.map fun p => (p.1, ρv p.2)) (l.map fun p => (p.1, ρ p.2))
  | [] => by simp only [List.map_nil, PRel]
  | p :: l => by simp only [List.map_cons, PRel]; exact ⟨_, _, rfl, h p.2, prel_map h l⟩
theorem zero_cells (v : Value) : RCells c H (dcells (dof v)) (cellsOf (nv v)) := by
  have h := rd_dof1 (c := c) (H := H) v
  cases v with
  | agg cs =>
    have := rd_dof (c := c) (H := H) (.agg cs)
    simp only [dof, nv, RD] at this
    obtain ⟨vs, e, k⟩ := this
    simp only [dof, nv, dcells]
    have : cellsOf (Value.agg (cs.map nv1)) = vs := by rw [e]; rfl
    rw [this]; exact k
  | slice a l k => cases a <;> exact .one h
  | _ => exact .one h
theorem buildV_ok {t : TypeId} {ps : List (Nat × D)} {qs : List (Nat × Value)} {d : D} (hp : PRel c H ps qs) (h : buildV P t ps = some d) : ∃ v, buildA P t qs = some v ∧ RD c H d v := by
  unfold buildV at h
  unfold buildA
  cases h1 : tzero P t with
  | none => rw [h1] at h; cases h
  | some z =>
    rw [h1] at h; simp only [Option.bind_some] at h ⊢
    cases h2 : tplaces P t with
    | none => rw [h2] at h; cases h
    | some pl =>
      rw [h2] at h; simp only [Option.bind_some] at h ⊢
      cases h3 : fillV (pl[·]?) (dcells (dof z)) ps with
      | none => rw [h3] at h; cases h
      | some r =>
        rw [h3] at h; cases h
        obtain ⟨r', e1, e2⟩ := fill_ok hp (zero_cells z) h3
        rw [e1]
        exact ⟨_, rfl, by simp only [RD]; exact ⟨r', rfl, e2⟩⟩
theorem zeroCells_ok {e : TypeId} {z : List D} (h : zeroCellsV P e = some z) : ∃ z', zeroCellsT P e = some z' ∧ RCells c H z z' := by
  unfold zeroCellsV at h
  unfold zeroCellsT
  cases h1 : tzero P e with
  | none => rw [h1] at h; cases h
  | some v =>
    rw [h1] at h; simp only [Option.bind_some] at h ⊢
    cases h2 : tsz P e with
    | none => rw [h2] at h; cases h
    | some n =>
      rw [h2] at h; simp only [Option.bind_some] at h ⊢
      split at h
      · rename_i q
        cases h
        have k := zero_cells (c := c) (H := H) v
        have : (cellsOf (nv v)).all scalar = true := by
          have all : ∀ {ds : List D} {vs : List Value}, RCells c H ds vs → ds.all dscalar = true → vs.all scalar = true := by
            intro ds
            induction ds with
            | nil => intro vs h _; simp only [RCells] at h; subst h; rfl
            | cons d ds ih =>
              intro vs h hs
              simp only [RCells] at h
              obtain ⟨v, vs', rfl, h1, h2⟩ := h
              simp only [List.all_cons, Bool.and_eq_true] at hs ⊢
              exact ⟨(rd_scalar h1 hs.1).1, ih h2 hs.2⟩
          exact all k q.2.2
        rw [if_pos ⟨by rw [k.length]; exact q.1, q.2.1, this⟩]
        exact ⟨_, rfl, k⟩
      · cases h
theorem rd_newref (hr : HR c hv H) (len : Nat) : RD (c.more H.length) H (.ref hv.length 0 len) (sl H.length 0 len) := by
  simp only [RD, Cx.more, hr.n, if_true]; exact ⟨by omega, trivial⟩
theorem rd_newref' (hr : HR c hv H) (len : Nat) {H' : Heap} : RD (c.more H.length) H' (.ref hv.length 0 len) (sl H.length 0 len) := by
  simp only [RD, Cx.more, hr.n, if_true]; exact ⟨by omega, trivial⟩
theorem rd_newptr (hr : HR c hv H) {H' : Heap} : RD (c.more H.length) H' (.ptr hv.length 0) (pt H.length 0) := by
  simp only [RD, Cx.more, hr.n, if_true]; exact ⟨by omega, trivial⟩
theorem buildSliceV_ok (hr : HR c hv H) {t : TypeId} {len : Nat} {ps : List (Nat × D)} {qs : List (Nat × Value)} {d : D} {hv' : HV} (hp : PRel c H ps qs) (h : buildSliceV P t len ps hv = some (d, hv')) :
    ∃ v H' c', buildSliceA P t len qs H = some (v, H') ∧ RD c' H' d v ∧ HR c' hv' H' ∧ Sp c hv H c' hv' H' := by
  unfold buildSliceV at h
  unfold buildSliceA
  cases h1 : telem P t with
  | none => rw [h1] at h; cases h
  | some e =>
    rw [h1] at h; simp only [Option.bind_some] at h ⊢
    cases h2 : tsz P e with
    | none => rw [h2] at h; cases h
    | some n =>
      rw [h2] at h; simp only [Option.bind_some] at h ⊢
      cases h3 : zeroCellsV P e with
      | none => rw [h3] at h; cases h
      | some z =>
        rw [h3] at h; simp only [Option.bind_some] at h
        obtain ⟨z', k1, k2⟩ := zeroCells_ok (c := c) (H := H) h3
        rw [k1]; simp only [Option.bind_some]
        split at h
        · rename_i hl
          rw [if_pos hl]
          cases h4 : fillV (fun i => some (i * n, n)) (zerosV len z) ps with
          | none => rw [h4] at h; cases h
          | some r =>
            rw [h4] at h; cases h
            obtain ⟨r', e1, e2⟩ := fill_ok hp (k2.replicate len) h4
            simp only [zerosOf, e1, Option.map_some]
            have := new_ok hr e2 n
            exact ⟨_, _, _, rfl, rd_newref' hr len, this.1, this.2⟩
        · cases h
theorem makeSliceV_ok (hr : HR c hv H) {t : TypeId} {l k d : D} {vl vk : Value} {hv' : HV} (hl : RD c H l vl) (hk : RD c H k vk) (h : makeSliceV P t l k hv = some (d, hv')) :
    ∃ v H' c', makeSliceA P t vl vk H = some (v, H') ∧ RD c' H' d v ∧ HR c' hv' H' ∧ Sp c hv H c' hv' H' := by
  unfold makeSliceV at h
  split at h
  · rename_i kl l kc cc
    simp only [RD] at hl hk
    subst hl hk
    simp only [makeSliceA]
    cases h1 : telem P t with
    | none => rw [h1] at h; cases h
    | some e =>
      rw [h1] at h; simp only [Option.bind_some] at h ⊢
      cases h2 : tsz P e with
      | none => rw [h2] at h; cases h
      | some n =>
        rw [h2] at h; simp only [Option.bind_some] at h ⊢
        cases h5 : tby P e with
        | none => rw [h5] at h; cases h
        | some b =>
          rw [h5] at h; simp only [Option.bind_some] at h ⊢
          cases h3 : zeroCellsV P e with
          | none => rw [h3] at h; cases h
          | some z =>
            rw [h3] at h; simp only [Option.bind_some] at h
            obtain ⟨z', k1, k2⟩ := zeroCells_ok (c := c) (H := H) h3
            rw [k1]; simp only [Option.bind_some]
            split at h
            · rename_i q
              cases h
              rw [if_pos q]
              have := new_ok hr (k2.replicate l.toNat) n
              exact ⟨_, _, _, rfl, rd_newref' hr _, this.1, this.2⟩
            · cases h
  · cases h
theorem dlen_ok {x : D} {vx : Value} {k : Nat} (hx : RD c H x vx) (h : dlen x = some k) : ∃ id off, vx = sl id off k := by
  unfold dlen at h
  split at h
  · cases h; simp only [RD] at hx; exact ⟨0, 0, hx⟩
  · cases h; simp only [RD] at hx; obtain ⟨id, off, rfl, _⟩ := hx; exact ⟨id, off, rfl⟩
  · cases h; simp only [RD] at hx; obtain ⟨_, rfl⟩ := hx; exact ⟨_, _, rfl⟩
  · cases h
theorem cellsAtV_ok (hr : HR c hv H) {x : D} {vx : Value} {n size : Nat} {cs : List D} (hx : RD c H x vx) (h : cellsAtV hv x n size = some cs) : ∃ vs, cellsAt H vx n size = some vs ∧ RCells c H cs vs := by
  unfold cellsAtV at h
  split at h
  · simp only [RD] at hx; subst hx
    split at h
    · rename_i e; cases h; subst e; exact ⟨[], by simp [cellsAt, nilS, sl], .nil⟩
    · cases h
  · rename_i w rows
    simp only [RD] at hx
    obtain ⟨id, off, rfl, hx⟩ := hx
    simp only [cellsAt, sl]
    split at h
    · rename_i hn
      rw [if_pos hn]
      split at h
      · rename_i e; cases h; rw [if_pos e]; exact ⟨[], rfl, .nil⟩
      · rename_i e
        rw [if_neg e]
        split at h
        · rename_i q
          obtain ⟨rfl, hs⟩ := q
          cases h
          rcases hx with rfl | ⟨k1, r, k2, k3⟩
          · simp at hn; omega
          · obtain ⟨a, b, m1, m2, m3⟩ := (k3.take n).cells
            simp only [k2, Option.bind_some]
            have hlen : a.length + b.length = r.cells.length - off := by rw [← List.length_append, ← m1, List.length_drop]
            rw [List.length_take, Nat.min_eq_left hn] at m2
            have : 0 < n * w := Nat.mul_pos (by omega) hs
            rw [if_pos (by omega), m1, ← m2, List.take_left]
            exact ⟨a, rfl, m3.im⟩
        · cases h
    · cases h
  · rename_i id off len
    simp only [RD] at hx
    obtain ⟨_, rfl⟩ := hx
    simp only [cellsAt, sl]
    split at h
    · rename_i hn
      rw [if_pos hn]
      split at h
      · rename_i e; cases h; rw [if_pos e]; exact ⟨[], rfl, .nil⟩
      · rename_i e
        rw [if_neg e]
        cases hrow : readV hv id with
        | none => rw [hrow] at h; cases h
        | some r =>
          rw [hrow] at h; simp only [Option.bind_some] at h
          obtain ⟨rp, k1, k2, k3, k4⟩ := hr.row id r hrow
          simp only [k1, Option.bind_some]
          split at h
          · rename_i q; cases h; rw [if_pos (by rw [k4.length]; exact q)]; exact ⟨_, rfl, (k4.drop off).take _⟩
          · cases h
    · cases h
  · cases h
theorem all_scalar : ∀ {ds : List D} {vs : List Value}, RCells c H ds vs → ds.all dscalar = true → vs.all scalar = true
  | [], vs, h, _ => by simp only [RCells] at h; subst h; rfl
  | d :: ds, vs, h, hs => by
    simp only [RCells] at h
    obtain ⟨v, vs', rfl, h1, h2⟩ := h
    simp only [List.all_cons, Bool.and_eq_true] at hs ⊢
    exact ⟨(rd_scalar h1 hs.1).1, all_scalar h2 hs.2⟩
theorem appendV_ok (hr : HR c hv H) {t : TypeId} {s x d : D} {vs vx : Value} {hv' : HV} (hs : RD c H s vs) (hx : RD c H x vx) (h : appendV P t s x hv = some (d, hv')) :
    ∃ v H' c', appendA P t vs vx H = some (v, H') ∧ RD c' H' d v ∧ HR c' hv' H' ∧ Sp c hv H c' hv' H' := by
  unfold appendV at h
  cases hls : dlen s with
  | none => rw [hls] at h; cases h
  | some len =>
  rw [hls] at h; simp only [Option.bind_some] at h
  cases hlx : dlen x with
  | none => rw [hlx] at h; cases h
  | some k =>
  rw [hlx] at h; simp only [Option.bind_some] at h
  obtain ⟨ids, offs, rfl⟩ := dlen_ok hs hls
  obtain ⟨idx, offx, rfl⟩ := dlen_ok hx hlx
  simp only [appendA, sl]
  cases h1 : telem P t with
  | none => rw [h1] at h; cases h
  | some e =>
  rw [h1] at h; simp only [Option.bind_some] at h ⊢
  cases h2 : tsz P e with
  | none => rw [h2] at h; cases h
  | some n =>
  rw [h2] at h; simp only [Option.bind_some] at h ⊢
  cases h5 : tby P e with
  | none => rw [h5] at h; cases h
  | some b =>
  rw [h5] at h; simp only [Option.bind_some] at h ⊢
  cases h3 : zeroCellsV P e with
  | none => rw [h3] at h; cases h
  | some z =>
  rw [h3] at h; simp only [Option.bind_some] at h
  obtain ⟨z', k1, k2⟩ := zeroCells_ok (c := c) (H := H) h3
  rw [k1]; simp only [Option.bind_some]
  split at h
  · rename_i e0; cases h; rw [if_pos e0]; exact ⟨_, _, c, rfl, hs, hr, .refl hr⟩
  · rename_i e0
    rw [if_neg e0]
    split at h
    · rename_i e1
      rw [if_pos e1]
      cases h6 : cellsAtV hv s len n with
      | none => rw [h6] at h; cases h
      | some old =>
      rw [h6] at h; simp only [Option.bind_some] at h
      cases h7 : cellsAtV hv x k n with
      | none => rw [h7] at h; cases h
      | some new =>
      rw [h7] at h; simp only [Option.bind_some] at h
      obtain ⟨vold, m1, m2⟩ := cellsAtV_ok hr hs h6
      obtain ⟨vnew, m3, m4⟩ := cellsAtV_ok hr hx h7
      have m1' : cellsAt H (Value.slice (some ⟨ids, offs, none⟩) len 0) len n = some vold := m1
      have m3' : cellsAt H (Value.slice (some ⟨idx, offx, none⟩) k 0) k n = some vnew := m3
      simp only [m1', m3', Option.bind_some]
      split at h
      · cases h
      · rename_i e2
        rw [if_neg (by rw [all_scalar m4 (by simpa using e2)]; simp)]
        split at h
        · cases h
          simp only [RD, nilS, sl, Value.slice.injEq, Option.some.injEq, Addr.mk.injEq] at hs
          obtain ⟨⟨rfl, rfl, _⟩, hl, _⟩ := hs
          rw [if_pos rfl]
          have := new_ok hr (m2.append m4) n
          exact ⟨_, _, _, rfl, rd_newref' hr _, this.1, this.2⟩
        · rename_i id len'
          cases hrow : readV hv id with
          | none => rw [hrow] at h; cases h
          | some r =>
            rw [hrow] at h; simp only [Option.bind_some] at h
            split at h
            · rename_i hes
              cases h
              simp only [RD, sl, Value.slice.injEq, Option.some.injEq, Addr.mk.injEq] at hs
              obtain ⟨hid, ⟨rfl, rfl, _⟩, _, _⟩ := hs
              obtain ⟨rp, q1, q2, q3, q4⟩ := hr.row id r hrow
              have h0 : c.μ id ≠ 0 := fun e => by rw [e, hr.row0] at q1; cases q1
              rw [if_neg h0, if_pos rfl, q1]
              simp only [Option.bind_some]
              rw [if_pos ⟨by rw [q3]; exact hes, q2⟩]
              obtain ⟨r1, s1⟩ := kill_ok hr hrow q1
              have l1 : (killV hv id).length = hv.length := by simp [killV]
              have l2 : (H.set (c.μ id) none).length = H.length := by simp
              obtain ⟨r2, s2⟩ := new_ok r1 (s1.cells (m2.append m4)) n
              rw [l2] at r2 s2
              refine ⟨_, _, _, rfl, ?_, r2, s1.trans s2⟩
              have := rd_newref' r1 (len + k) (H' := newA (H.set (c.μ id) none) (vold ++ vnew) n)
              rw [l1, l2] at this
              exact this
            · cases h
        · cases h
    · cases h
theorem copyV_ok (hr : HR c hv H) {t : TypeId} {s x d : D} {vs vx : Value} {hv' : HV} (hs : RD c H s vs) (hx : RD c H x vx) (h : copyV P t s x hv = some (d, hv')) :
    ∃ v H' c', copyA P t vs vx H = some (v, H') ∧ RD c' H' d v ∧ HR c' hv' H' ∧ Sp c hv H c' hv' H' := by
  unfold copyV at h
  split at h
  · rename_i id off dl
    cases hlx : dlen x with
    | none => rw [hlx] at h; cases h
    | some l =>
    rw [hlx] at h; simp only [Option.bind_some] at h
    obtain ⟨idx, offx, rfl⟩ := dlen_ok hx hlx
    simp only [RD] at hs
    obtain ⟨_, rfl⟩ := hs
    simp only [copyA, sl]
    cases h1 : telem P t with
    | none => rw [h1] at h; cases h
    | some e =>
    rw [h1] at h; simp only [Option.bind_some] at h ⊢
    cases h2 : tsz P e with
    | none => rw [h2] at h; cases h
    | some n =>
    rw [h2] at h; simp only [Option.bind_some] at h ⊢
    cases h6 : cellsAtV hv x (Nat.min l dl) n with
    | none => rw [h6] at h; cases h
    | some cs =>
    rw [h6] at h; simp only [Option.bind_some] at h
    obtain ⟨vcs, m1, m2⟩ := cellsAtV_ok hr hx h6
    have m1' : cellsAt H (Value.slice (some ⟨idx, offx, none⟩) l 0) (Nat.min l dl) n = some vcs := m1
    simp only [m1', Option.bind_some]
    split at h
    · rename_i e0; cases h; rw [if_pos e0]; exact ⟨_, _, c, rfl, by simp only [RD], hr, .refl hr⟩
    · rename_i e0
      rw [if_neg e0]
      cases hrow : readV hv id with
      | none => rw [hrow] at h; cases h
      | some r =>
        rw [hrow] at h; simp only [Option.bind_some] at h
        obtain ⟨rp, q1, q2, q3, q4⟩ := hr.row id r hrow
        simp only [q1, Option.bind_some]
        split at h
        · rename_i e1
          cases h
          rw [if_pos ⟨q2, by rw [m2.length, q4.length]; exact e1.1, all_scalar m2 e1.2⟩]
          obtain ⟨r1, s1⟩ := set_ok hr hrow q1 q2 q3 (splice_ok q4 m2 off)
          exact ⟨_, _, c, rfl, by simp only [RD], r1, s1⟩
        · cases h
  · cases h
theorem lenV_ok {t : TypeId} {x d : D} {vx : Value} (hx : RD c H x vx) (h : lenV P t x = some d) : ∃ v, lenA P t vx = some v ∧ RD c H d v := by
  unfold lenV at h
  split at h
  · simp only [RD] at hx; subst hx
    rename_i s0
    split at h
    · rename_i e; cases h; exact ⟨.int .i64 s0.size, by simp only [lenA, if_pos e], by simp only [RD]⟩
    · cases h
  · simp only [RD] at hx; subst hx
    cases h1 : telem P t with
    | none => rw [h1] at h; cases h
    | some e => rw [h1] at h; cases h; exact ⟨.int .i64 0, by simp [lenA, nilS, sl, h1, Option.map_some], by simp only [RD]⟩
  · rename_i w rows
    simp only [RD] at hx; obtain ⟨id, off, rfl, _⟩ := hx
    cases h1 : telem P t with
    | none => rw [h1] at h; cases h
    | some e => rw [h1] at h; cases h; exact ⟨.int .i64 rows.length, by simp only [lenA, sl, h1, Option.map_some], by simp only [RD]⟩
  · rename_i n
    simp only [RD] at hx; obtain ⟨_, rfl⟩ := hx
    cases h1 : telem P t with
    | none => rw [h1] at h; cases h
    | some e => rw [h1] at h; cases h; exact ⟨.int .i64 n, by simp only [lenA, sl, h1, Option.map_some], by simp only [RD]⟩
  · cases h
theorem min2V_ok {x y d : D} {vx vy : Value} (hx : RD c H x vx) (hy : RD c H y vy) (h : min2V x y = some d) : ∃ v, min2A vx vy = some v ∧ RD c H d v := by
  unfold min2V at h
  split at h
  · simp only [RD] at hx hy; subst hx hy; cases h; exact ⟨_, rfl, by simp only [RD]⟩
  · cases h
theorem max2V_ok {x y d : D} {vx vy : Value} (hx : RD c H x vx) (hy : RD c H y vy) (h : max2V x y = some d) : ∃ v, max2A vx vy = some v ∧ RD c H d v := by
  unfold max2V at h
  split at h
  · simp only [RD] at hx hy; subst hx hy; cases h; exact ⟨_, rfl, by simp only [RD]⟩
  · cases h
theorem cells_map {ρv : Operand → D} {ρ : Operand → Value} (h : ∀ x, RD c H (ρv x) (ρ x)) : ∀ l : List Operand, RCells c H (l.map ρv) (l.map ρ)
  | [] => .nil
  | x :: l => .cons (h x) (cells_map h l)
theorem still {v : Value} {d : D} {r : Option Value} (hr : HR c hv H) (h : r = some v) (k : RD c H d v) : ∃ v' H' c', r.map (·, H) = some (v', H') ∧ RD c' H' d v' ∧ HR c' hv H' ∧ Sp c hv H c' hv H' :=
  ⟨v, H, c, by rw [h]; rfl, k, hr, .refl hr⟩
theorem builtinV_ok (hr : HR c hv H) {b : Builtin} {ts : List TypeId} {args : List D} {vs : List Value} {d : D} {hv' : HV} (ha : RCells c H args vs) (h : builtinV P b ts args hv = some (d, hv')) :
    ∃ v H' c', builtinA P b ts vs H = some (v, H') ∧ RD c' H' d v ∧ HR c' hv' H' ∧ Sp c hv H c' hv' H' := by
  unfold builtinV at h
  split at h
  · rename_i t x
    simp only [RCells] at ha
    obtain ⟨vx, _, rfl, hx, rfl⟩ := ha
    cases h1 : lenV P t x with
    | none => rw [h1] at h; cases h
    | some d' => rw [h1] at h; cases h; obtain ⟨v, e1, e2⟩ := lenV_ok hx h1; exact still hr e1 e2
  · rename_i t u s x
    simp only [RCells] at ha
    obtain ⟨vs, _, rfl, hs, vx, _, rfl, hx, rfl⟩ := ha
    simp only [builtinA]
    cases h1 : telem P u with
    | none => rw [h1] at h; cases h
    | some e => rw [h1] at h; simp only [Option.bind_some] at h ⊢; exact appendV_ok hr hs hx h
  · simp only [RCells] at ha
    obtain ⟨vs, _, rfl, hs, vx, _, rfl, hx, rfl⟩ := ha
    exact copyV_ok hr hs hx h
  · rename_i x y
    simp only [RCells] at ha
    obtain ⟨vs, _, rfl, hs, vx, _, rfl, hx, rfl⟩ := ha
    cases h1 : min2V x y with
    | none => rw [h1] at h; cases h
    | some d' => rw [h1] at h; cases h; obtain ⟨v, e1, e2⟩ := min2V_ok hs hx h1; exact still hr e1 e2
  · rename_i x y
    simp only [RCells] at ha
    obtain ⟨vs, _, rfl, hs, vx, _, rfl, hx, rfl⟩ := ha
    cases h1 : max2V x y with
    | none => rw [h1] at h; cases h
    | some d' => rw [h1] at h; cases h; obtain ⟨v, e1, e2⟩ := max2V_ok hs hx h1; exact still hr e1 e2
  · cases h
theorem primV_ok (hr : HR c hv H) {ρv : Operand → D} {ρ : Operand → Value} (hρ : ∀ x, RD c H (ρv x) (ρ x)) {o : Op} {d : D} {hv' : HV} (h : primV P ρv o hv = some (d, hv')) :
    ∃ v H' c', primA P ρ o H = some (v, H') ∧ RD c' H' d v ∧ HR c' hv' H' ∧ Sp c hv H c' hv' H' := by
  unfold primV at h
  split at h
  · cases h; exact ⟨_, H, c, rfl, hρ _, hr, .refl hr⟩
  · cases h; exact ⟨_, H, c, rfl, hρ _, hr, .refl hr⟩
  · rename_i k a b
    split at h
    · rename_i t hk
      cases h
      have := hρ k
      rw [hk] at this
      simp only [RD] at this
      refine ⟨_, H, c, by simp only [primA, this]; rfl, ?_, hr, .refl hr⟩
      split <;> exact hρ _
    · cases h
  · rename_i t
    simp only [primA]
    cases h1 : tzero P t with
    | none => rw [h1] at h; cases h
    | some z =>
      rw [h1] at h; simp only [Option.bind_some] at h ⊢
      split at h
      · rename_i e
        cases h
        have k := zero_cells (c := c) (H := H) z
        rw [if_pos (all_scalar k e)]
        obtain ⟨r1, s1⟩ := new_ok hr k 0
        exact ⟨_, _, _, rfl, rd_newptr hr, r1, s1⟩
      · cases h
  · rename_i t x
    simp only [primA]
    split at h
    · rename_i e
      cases h
      obtain ⟨m1, m2⟩ := rd_cells (hρ x) e
      rw [if_pos m2]
      obtain ⟨r1, s1⟩ := new_ok hr m1 0
      exact ⟨_, _, _, rfl, rd_newptr hr, r1, s1⟩
    · cases h
  · rename_i t ps
    cases h1 : buildV P t (ps.toList.map fun p => (p.1, ρv p.2)) with
    | none => rw [h1] at h; cases h
    | some d' => rw [h1] at h; cases h; obtain ⟨v, e1, e2⟩ := buildV_ok (prel_map hρ ps.toList) h1; exact still hr e1 e2
  · rename_i t n ps
    exact buildSliceV_ok hr (prel_map hρ ps.toList) h
  · rename_i t a
    cases h1 : loadV P t (ρv a) hv with
    | none => rw [h1] at h; cases h
    | some d' => rw [h1] at h; cases h; obtain ⟨v, e1, e2⟩ := loadV_ok hr (hρ a) h1; exact still hr e1 e2
  · rename_i t a x
    cases h1 : storeV P t (ρv a) (ρv x) hv with
    | none => rw [h1] at h; cases h
    | some hv1 => rw [h1] at h; cases h; obtain ⟨H', e1, e2, e3⟩ := storeV_ok hr (hρ a) (hρ x) h1; exact ⟨_, _, c, by simp only [primA, e1, Option.map_some], rd_undef, e2, e3⟩
  · rename_i x
    simp only [primA]
    split at h
    · rename_i id off hx
      cases h
      have := hρ x
      rw [hx] at this
      have k := this
      simp only [RD] at this
      rw [this.2]
      exact ⟨_, H, c, rfl, by unfold RD; exact ⟨this.1, rfl⟩, hr, .refl hr⟩
    · rename_i cs hx
      cases h
      have := hρ x
      rw [hx] at this
      have k := this
      simp only [RD] at this
      obtain ⟨id, off, r, a, b, e, _⟩ := this
      rw [e] at k ⊢
      exact ⟨_, H, c, rfl, k, hr, .refl hr⟩
    · cases h
  · rename_i op t x y _
    cases h1 : binV P op t (ρv x) (ρv y) with
    | none => rw [h1] at h; cases h
    | some d' => rw [h1] at h; cases h; obtain ⟨v, e1, e2⟩ := binV_ok (hρ x) (hρ y) h1; exact still hr e1 e2
  · rename_i op _ x
    cases h1 : unV op (ρv x) with
    | none => rw [h1] at h; cases h
    | some d' => rw [h1] at h; cases h; obtain ⟨v, e1, e2⟩ := unV_ok (hρ x) h1; exact still hr e1 e2
  · rename_i s t x
    cases h1 : convV P s t (ρv x) hv with
    | none => rw [h1] at h; cases h
    | some d' => rw [h1] at h; cases h; obtain ⟨v, e1, e2⟩ := convV_ok hr (hρ x) h1; exact still hr e1 e2
  · rename_i fn first captured
    cases h1 : makeFuncV fn first.toList (captured.toList.map ρv) with
    | none => rw [h1] at h; cases h
    | some d' =>
      rw [h1] at h; cases h
      unfold makeFuncV at h1
      split at h1
      · rename_i hfirst
        split at h1
        · rename_i e
          cases h1
          have k := cells_map hρ captured.toList
          refine still (v := .func (.func _) #[] (captured.toList.map ρ).toArray) hr ?_ (by simp only [RD]; exact ⟨_, rfl, k⟩)
          simp only [makeFuncA, hfirst]
          rw [if_pos (all_scalar k e)]
        · cases h1
      · cases h1
  · exact makeSliceV_ok hr (hρ _) (hρ _) h
  · rename_i t x lo hi mx
    cases h1 : sliceV P t (ρv x) (lo.map ρv) (hi.map ρv) (mx.map ρv) with
    | none => rw [h1] at h; cases h
    | some d' =>
      rw [h1] at h; cases h
      have q : ∀ (o : Option Operand) (y : D), o.map ρv = some y → ∃ v, o.map ρ = some v ∧ RD c H y v := by
        intro o y h; cases o with
        | none => cases h
        | some z => cases h; exact ⟨_, rfl, hρ z⟩
      have q0 : ∀ (o : Option Operand), o.map ρv = none → o.map ρ = none := by
        intro o h; cases o with
        | none => rfl
        | some z => cases h
      obtain ⟨v, e1, e2⟩ := sliceV_ok (hρ x) (q lo) (q0 lo) (q hi) (q0 hi) (q0 mx) h1
      exact still hr e1 e2
  · rename_i s x f
    cases h1 : fieldAddrV P s (ρv x) f with
    | none => rw [h1] at h; cases h
    | some d' => rw [h1] at h; cases h; obtain ⟨v, e1, e2⟩ := fieldAddrV_ok (hρ x) h1; exact still hr e1 e2
  · rename_i t x f
    cases h1 : fieldV P t (ρv x) f with
    | none => rw [h1] at h; cases h
    | some d' => rw [h1] at h; cases h; obtain ⟨v, e1, e2⟩ := fieldV_ok (hρ x) h1; exact still hr e1 e2
  · rename_i t x i
    cases h1 : indexAddrV P t (ρv x) (ρv i) with
    | none => rw [h1] at h; cases h
    | some d' => rw [h1] at h; cases h; obtain ⟨v, e1, e2⟩ := indexAddrV_ok (hρ x) (hρ i) h1; exact still hr e1 e2
  · rename_i t x i
    cases h1 : indexV P t (ρv x) (ρv i) with
    | none => rw [h1] at h; cases h
    | some d' => rw [h1] at h; cases h; obtain ⟨v, e1, e2⟩ := indexV_ok (hρ x) (hρ i) h1; exact still hr e1 e2
  · rename_i t i
    split at h
    · rename_i ds ht
      have := hρ t
      rw [ht] at this
      simp only [RD] at this
      obtain ⟨vs, e, k⟩ := this
      cases h1 : ds[i]? with
      | none => rw [h1] at h; cases h
      | some d' =>
        rw [h1] at h; cases h
        obtain ⟨v, e1, e2⟩ := k.get h1
        refine ⟨v, H, c, ?_, e2, hr, .refl hr⟩
        simp only [primA, e]
        simp [e1]
    · cases h
  · rename_i b args ts
    exact builtinV_ok hr (cells_map hρ args.toList) h
  · cases h
theorem calleeV_ok {ρv : Operand → D} {ρ : Operand → Value} (hρ : ∀ x, RD c H (ρv x) (ρ x)) {o : Op} {f : FuncId} {ds : List D} (h : calleeV ρv o = some (f, ds)) : ∃ vs, calleeA ρ o = some (f, vs) ∧ RCells c H ds vs := by
  unfold calleeV at h
  split at h
  · rename_i g args ts
    split at h
    · rename_i k caps hk
      cases h
      have := hρ g
      rw [hk] at this
      simp only [RD] at this
      obtain ⟨vs, e, q⟩ := this
      refine ⟨args.toList.map ρ ++ vs, ?_, (cells_map hρ args.toList).append q⟩
      simp only [calleeA, e]
      simp
    · cases h
  · cases h
theorem flats_ok : ∀ {ds : List D} {vs : List Value}, RCells c H ds vs → dflats ds = true → flats vs = true := by
  have one : ∀ {d : D} {v : Value}, RD c H d v → dflat d = true → flat v = true := by
    intro d v h k
    cases d <;> simp only [dflat, Bool.false_eq_true] at k <;> simp only [RD] at h
    case sl => obtain ⟨_, _, rfl, _⟩ := h; rfl
    case ref => obtain ⟨_, rfl⟩ := h; rfl
    case ptr => obtain ⟨_, rfl⟩ := h; rfl
    case vp => obtain ⟨_, _, _, _, _, rfl, _⟩ := h; rfl
    case agg => obtain ⟨_, rfl, _⟩ := h; rfl
    all_goals subst h; rfl
  have all : ∀ {ds : List D} {vs : List Value}, RCells c H ds vs → ds.all dflat = true → vs.all flat = true := by
    intro ds
    induction ds with
    | nil => intro vs h _; simp only [RCells] at h; subst h; rfl
    | cons d ds ih =>
      intro vs h hs
      simp only [RCells] at h
      obtain ⟨v, vs', rfl, h1, h2⟩ := h
      simp only [List.all_cons, Bool.and_eq_true] at hs ⊢
      exact ⟨one h1 hs.1, ih h2 hs.2⟩
  intro ds vs h k
  unfold dflats at k
  unfold flats
  split
  · rfl
  · rename_i hne
    split at k
    · simp only [RCells] at h
      obtain ⟨v, vs', rfl, _, rfl⟩ := h
      exact absurd rfl (hne v)
    · exact all h k
theorem tupled_ok {ds : List D} {vs : List Value} (h : RCells c H ds vs) : RD c H (tupledV ds) (tupled vs) := by
  match ds, h with
  | [], h => simp only [RCells] at h; subst h; simp only [tupledV, tupled, RD]; exact ⟨[], rfl, .nil⟩
  | [d], h =>
    simp only [RCells] at h
    obtain ⟨v, vs', rfl, h1, rfl⟩ := h
    exact h1
  | d :: d' :: ds, h =>
    have h' := h
    simp only [RCells] at h
    obtain ⟨v, vs', rfl, h1, v', vs'', rfl, h2, h3⟩ := h
    simp only [tupledV, tupled, RD]
    exact ⟨_, rfl, h'⟩
theorem results_ok (hr : HR c hv H) {fv : FrV} {fr : Fr} (hf : ∀ t, RD c H (fv t) (fr t)) : ∀ {rs : List ResultVar} {ds : List D}, resultsV P rs fv hv = some ds → ∃ vs, resultsA P rs fr H = some vs ∧ RCells c H ds vs
  | [], ds, h => by simp only [resultsV] at h; cases h; exact ⟨[], rfl, .nil⟩
  | .tmp t :: rs, ds, h => by
    simp only [resultsV] at h
    cases h1 : resultsV P rs fv hv with
    | none => rw [h1] at h; cases h
    | some ds' => rw [h1] at h; cases h; obtain ⟨vs, e1, e2⟩ := results_ok hr hf h1; exact ⟨_, by simp only [resultsA, e1, Option.map_some], .cons (hf t) e2⟩
  | .cell a t :: rs, ds, h => by
    simp only [resultsV] at h
    cases h0 : loadV P t (fv a) hv with
    | none => rw [h0] at h; cases h
    | some d0 =>
      rw [h0] at h; simp only [Option.bind_some] at h
      obtain ⟨v0, k1, k2⟩ := loadV_ok hr (hf a) h0
      cases h1 : resultsV P rs fv hv with
      | none => rw [h1] at h; cases h
      | some ds' => rw [h1] at h; cases h; obtain ⟨vs, e1, e2⟩ := results_ok hr hf h1; exact ⟨_, by simp only [resultsA, k1, e1, Option.bind_some, Option.map_some], .cons k2 e2⟩
theorem guard_ok {all : Array Oper} {o : Oper} {fv : FrV} {fr : Fr} {b : Bool} (hf : ∀ t, RD c H (fv t) (fr t)) (h : guardV all fv o = some b) : guardA all fr o = some b := by
  unfold guardV at h
  unfold guardA
  cases hg : o.guard with
  | none => rw [hg] at h; exact h
  | some p =>
    obtain ⟨j, want⟩ := p
    rw [hg] at h
    simp only at h ⊢
    cases hd : (all[j]?).bind (·.dst) with
    | none => rw [hd] at h; cases h
    | some t =>
      rw [hd] at h
      simp only at h ⊢
      have := hf t
      split at h
      · rename_i b' hb; rw [hb] at this; simp only [RD] at this; rw [this]; exact h
      · rename_i vs hb
        split at h
        · rename_i he
          rw [hb] at this
          simp only [RD] at this
          obtain ⟨us, e, k⟩ := this
          have : vs = [] := by simpa using he
          subst this
          simp only [RCells] at k
          subst k
          rw [e]; exact h
        · cases h
      · cases h
end
end Go.Proofs.Ytmbikamebhoelaa.Ai.Av
