/- Each operation over data is the plain heap's. No condition. -/
import Derived.Test.YtmbikamebhoelaaV1
set_option linter.unusedVariables false
set_option linter.unusedSimpArgs false
namespace Go.Proofs.Ytmbikamebhoelaa.Ai.Av
open Go
section
variable {P : Program} {c : Cx} {H : Heap} {hv : HV}

theorem rd_dof1 (v : Value) : RD c H (dof1 v) (nv1 v) := by
  cases v with
  | slice a l k => cases a with
    | none => simp only [dof1, nv1, RD]
    | some a => simp only [dof1, RD]
  | _ => simp only [dof1, nv1, RD]
theorem rd_dof (v : Value) : RD c H (dof v) (nv v) := by
  have h := rd_dof1 (c := c) (H := H) v
  cases v with
  | agg cs =>
    simp only [dof, nv, RD]
    refine ⟨cs.toList.map nv1, by congr 1; apply Array.ext'; simp, ?_⟩
    refine .of_get (by simp) fun i d v h1 h2 => ?_
    rw [List.getElem?_map] at h1 h2
    cases hx : cs.toList[i]? with
    | none => rw [hx] at h1; cases h1
    | some x => rw [hx] at h1 h2; cases h1; cases h2; exact rd_dof1 x
  | _ => exact h
theorem rd_undef : RD c H undefV undef := by simp only [undefV, RD]; exact ⟨[], rfl, .nil⟩
theorem rd_ev {fv : FrV} {fr : Fr} (h : ∀ t, RD c H (fv t) (fr t)) : ∀ x, RD c H (evV fv x) (ev fr x)
  | .tmp t => h t
  | .const v => rd_dof v
  | .global _ => by simp only [evV, RD]
  | .func f => by simp only [evV, ev, RD]; exact ⟨[], rfl, .nil⟩
theorem rd_put {fv : FrV} {fr : Fr} (h : ∀ t, RD c H (fv t) (fr t)) {d : D} {v : Value} (k : RD c H d v) (dst : Option Tmp) : ∀ t, RD c H (fv.put dst d t) (fr.put dst v t) := by
  intro t
  cases dst with
  | none => exact h t
  | some x =>
    simp only [FrV.put, Fr.put]
    by_cases e : t = x
    · rw [if_pos e, if_pos e]; exact k
    · rw [if_neg e, if_neg e]; exact h t
theorem rd_scalar {d : D} {v : Value} (h : RD c H d v) (hs : dscalar d = true) : scalar v = true ∧ cellsOf v = [v] := by
  cases d <;> simp only [dscalar, Bool.false_eq_true] at hs <;> simp only [RD] at h
  case int => subst h; exact ⟨rfl, rfl⟩
  case bool => subst h; exact ⟨rfl, rfl⟩
  case str => subst h; exact ⟨rfl, rfl⟩
  case nil => subst h; exact ⟨rfl, rfl⟩
  case sl => obtain ⟨id, off, rfl, _⟩ := h; exact ⟨rfl, rfl⟩
  case ref => obtain ⟨_, rfl⟩ := h; exact ⟨rfl, rfl⟩
  case ptr => obtain ⟨_, rfl⟩ := h; exact ⟨rfl, rfl⟩
  case vp => obtain ⟨id, off, r, a, b, rfl, _⟩ := h; exact ⟨rfl, rfl⟩
  case nilf => subst h; exact ⟨rfl, rfl⟩
theorem rd_cells {d : D} {v : Value} (h : RD c H d v) (hs : (dcells d).all dscalar = true) : RCells c H (dcells d) (cellsOf v) ∧ (cellsOf v).all scalar = true := by
  have all : ∀ {ds : List D} {vs : List Value}, RCells c H ds vs → ds.all dscalar = true → vs.all scalar = true := by
    intro ds
    induction ds with
    | nil => intro vs h _; simp only [RCells] at h; subst h; rfl
    | cons d ds ih =>
      intro vs h hs
      simp only [RCells] at h
      obtain ⟨v, vs', rfl, h1, h2⟩ := h
      simp only [List.all_cons, Bool.and_eq_true] at hs ⊢
      exact ⟨(rd_scalar h1 hs.1).1, ih h2 hs.2⟩
  by_cases ha : ∃ cs, d = .agg cs
  · obtain ⟨cs, rfl⟩ := ha
    simp only [RD] at h
    obtain ⟨vs, rfl, h⟩ := h
    have e : cellsOf (.agg vs.toArray) = vs := rfl
    rw [e]
    exact ⟨h, all h hs⟩
  · have hd : dcells d = [d] := by
      unfold dcells
      split
      · rename_i cs; exact absurd ⟨cs, rfl⟩ ha
      · rfl
    rw [hd] at hs ⊢
    simp only [List.all_cons, List.all_nil, Bool.and_true] at hs
    have k := rd_scalar h hs
    rw [k.2]
    exact ⟨.one h, by simp [k.1]⟩
theorem cells_map_dval : ∀ {ds : List D} {vs : List Value}, RCells c H ds vs → ds.all dflat1 = true → vs = ds.map dval
  | [], vs, h, _ => by simp only [RCells] at h; simpa using h
  | d :: ds, vs, h, hs => by
    simp only [RCells] at h
    obtain ⟨v, vs', rfl, h1, h2⟩ := h
    simp only [List.all_cons, Bool.and_eq_true] at hs
    rw [cells_map_dval h2 hs.2, List.map_cons]
    congr 1
    cases d <;> simp only [dflat1, Bool.false_eq_true, false_and] at hs <;> simp only [RD] at h1 <;> exact h1
/-- A plain result: a whole number, a bool or a string. -/
def plainV : Value → Bool
  | .int _ _ | .bool _ | .string _ => true
  | _ => false
theorem rd_plain {v : Value} (h : plainV v = true) : RD c H (dof v) v := by
  cases v <;> simp only [plainV, Bool.false_eq_true] at h <;> simp only [dof, dof1, RD]
theorem cmpA_plain {op : BinOp} {a b : Int} {v : Value} (h : cmpA op a b = some v) : plainV v = true := by
  unfold cmpA at h
  split at h <;> first | (cases h; rfl) | cases h
theorem intA_plain {op : BinOp} {k : IntKind} {a b : Int} {v : Value} (h : intA op k a b = some v) : plainV v = true := by
  unfold intA at h
  split at h <;> first | (cases h; rfl) | (split at h <;> first | (cases h; rfl) | cases h) | cases h | exact cmpA_plain h
theorem strA_plain {op : BinOp} {a b : ByteArray} {v : Value} (h : strA op a b = some v) : plainV v = true := by
  unfold strA at h
  split at h <;> first | (cases h; rfl) | (split at h <;> first | (cases h; rfl) | cases h) | cases h
theorem binA_agg_plain {op : BinOp} {t : TypeId} {xs ys : Array Value} {v : Value} (h : binA P op t (.agg xs) (.agg ys) = some v) : plainV v = true := by
  simp only [binA] at h
  split at h
  · split at h
    · split at h
      · cases hx : eqCells xs.toList ys.toList with
        | none => rw [hx] at h; cases h
        | some b => rw [hx] at h; cases h; rfl
      · cases hx : eqCells xs.toList ys.toList with
        | none => rw [hx] at h; cases h
        | some b => rw [hx] at h; cases h; rfl
      · cases h
    · cases h
  · cases h
theorem binV_ok {op : BinOp} {t : TypeId} {x y d : D} {vx vy : Value} (hx : RD c H x vx) (hy : RD c H y vy) (h : binV P op t x y = some d) : ∃ v, binA P op t vx vy = some v ∧ RD c H d v := by
  unfold binV at h
  split at h
  · rename_i k a k' b
    simp only [RD] at hx hy
    subst hx hy
    split at h
    · rename_i e
      cases hr : intA op k a b with
      | none => rw [hr] at h; cases h
      | some v => rw [hr] at h; cases h; exact ⟨v, by simp only [binA, if_pos e, hr], rd_plain (intA_plain hr)⟩
    · cases h
  · rename_i a b
    simp only [RD] at hx hy
    subst hx hy
    cases hr : strA op a b with
    | none => rw [hr] at h; cases h
    | some v => rw [hr] at h; cases h; exact ⟨v, by simp only [binA, hr], rd_plain (strA_plain hr)⟩
  · rename_i a b
    simp only [RD] at hx hy
    subst hx hy
    split at h
    · rename_i e
      split at h
      · cases h; exact ⟨.bool (a == b), by simp only [binA, if_pos e], by simp only [RD]⟩
      · cases h; exact ⟨.bool (!(a == b)), by simp only [binA, if_pos e], by simp only [RD]⟩
      · cases h
    · cases h
  · rename_i xs ys
    simp only [RD] at hx hy
    obtain ⟨vx, rfl, hx⟩ := hx
    obtain ⟨vy, rfl, hy⟩ := hy
    unfold aggB at h
    split at h
    · rename_i e
      simp only [Bool.and_eq_true] at e
      rw [cells_map_dval hx e.1, cells_map_dval hy e.2]
      cases hr : binA P op t (.agg (xs.map dval).toArray) (.agg (ys.map dval).toArray) with
      | none => rw [hr] at h; cases h
      | some v => rw [hr] at h; cases h; exact ⟨v, rfl, rd_plain (binA_agg_plain hr)⟩
    · cases h
  · cases h
theorem unV_ok {op : UnOp} {x d : D} {vx : Value} (hx : RD c H x vx) (h : unV op x = some d) : ∃ v, unA op vx = some v ∧ RD c H d v := by
  unfold unV at h
  split at h
  · simp only [RD] at hx; subst hx; cases h; exact ⟨_, rfl, by simp only [RD]⟩
  · simp only [RD] at hx; subst hx; cases h; exact ⟨_, rfl, by simp only [RD]⟩
  · cases h
theorem part_ok {t : TypeId} {cs : List D} {L a b : List Value} {o off : Nat} {d : D} (ho : o ≤ L.length) (hL : L.drop o = a ++ b) (hc : RCells c H cs a) (h : partV P t cs off = some d) : ∃ v, partOf P t L (o + off) = some v ∧ RD c H d v := by
  have hlen : a.length + b.length = L.length - o := by rw [← List.length_append, ← hL, List.length_drop]
  unfold partV at h
  unfold partOf
  split at h
  · rename_i ht
    simp only [ht]
    cases hn : tsz P t with
    | none => rw [hn] at h; cases h
    | some n =>
      rw [hn] at h
      simp only [Option.bind_some] at h ⊢
      split at h
      · rename_i hle
        cases h
        rw [← hc.length] at hle
        rw [if_pos (by omega)]
        refine ⟨_, rfl, ?_⟩
        simp only [RD]
        refine ⟨_, rfl, ?_⟩
        rw [← List.drop_drop, hL, List.drop_append_of_le_length (by omega), List.take_append_of_le_length (by simp; omega)]
        exact (hc.drop off).take n
      · cases h
  · rename_i ht
    simp only [ht]
    obtain ⟨v, h1, h2⟩ := hc.get h
    refine ⟨v, ?_, h2⟩
    rw [← List.getElem?_drop, hL, List.getElem?_append_left (List.getElem?_eq_some_iff.1 h1).1]
    exact h1
  · cases h
theorem loadV_ok (hr : HR c hv H) {t : TypeId} {p d : D} {vp : Value} (hp : RD c H p vp) (h : loadV P t p hv = some d) : ∃ v, loadA P t vp H = some v ∧ RD c H d v := by
  unfold loadV at h
  split at h
  · rename_i id off
    simp only [RD] at hp
    obtain ⟨_, rfl⟩ := hp
    cases hrow : readV hv id with
    | none => rw [hrow] at h; cases h
    | some r =>
      rw [hrow] at h
      obtain ⟨rp, k1, _, _, k4⟩ := hr.row id r hrow
      obtain ⟨v, e1, e2⟩ := part_ok (L := rp.cells) (o := 0) (a := rp.cells) (b := []) (Nat.zero_le _) (by simp) k4 h
      exact ⟨v, by simp only [loadA, pt, k1, Option.bind_some]; rw [← e1, Nat.zero_add], e2⟩
  · rename_i cs
    simp only [RD] at hp
    obtain ⟨id, off, r, a, b, rfl, k1, k2, k0, k3, k4⟩ := hp
    obtain ⟨v, e1, e2⟩ := part_ok k0 k3 k4 h
    exact ⟨v, by simp only [loadA, pt, k2, Option.bind_some]; exact e1, e2.im⟩
  · cases h
theorem splice_ok {cs xs : List D} {vs ys : List Value} (hc : RCells c H cs vs) (hx : RCells c H xs ys) (off : Nat) : RCells c H (spliceV cs off xs) (splice vs off ys) := by
  unfold spliceV splice
  rw [hx.length]
  exact ((hc.take off).append hx).append (hc.drop _)

/-! ### Heaps: a row new, set, gone -/
def Cx.more (c : Cx) (x : Nat) : Cx := ⟨c.Z, fun i => if i = c.n then x else c.μ i, c.n + 1⟩
theorem readV_new {cells : List D} {e i : Nat} : readV (newV hv cells e) i = if i = hv.length then some ⟨cells, e⟩ else readV hv i := by
  unfold readV newV
  split
  · rename_i h; subst h; simp
  · rename_i h
    rcases Nat.lt_or_ge i hv.length with q | q
    · rw [List.getElem?_append_left q]
    · rw [List.getElem?_eq_none (by simp; omega), List.getElem?_eq_none q]
theorem readV_set {cells : List D} {e i j : Nat} {r : VRow} (hi : readV hv i = some r) : readV (setV hv i cells e) j = if j = i then some ⟨cells, e⟩ else readV hv j := by
  have := readV_lt hi
  unfold readV setV
  split
  · rename_i h; subst h; simp [this]
  · rename_i h; rw [List.getElem?_set_ne (Ne.symm h)]
theorem readV_kill {i j : Nat} {r : VRow} (hi : readV hv i = some r) : readV (killV hv i) j = if j = i then none else readV hv j := by
  have := readV_lt hi
  unfold readV killV
  split
  · rename_i h; subst h; simp [this]
  · rename_i h; rw [List.getElem?_set_ne (Ne.symm h)]
theorem readRow_new {vs : List Value} {e i : Nat} : readRow (newA H vs e) i = if i = H.length then some ⟨vs, e, true⟩ else readRow H i := by
  unfold readRow newA
  split
  · rename_i h; subst h; simp
  · rename_i h
    rcases Nat.lt_or_ge i H.length with q | q
    · rw [List.getElem?_append_left q]
    · rw [List.getElem?_eq_none (by simp; omega), List.getElem?_eq_none q]
theorem readRow_set' {i j : Nat} {r : Row} {o : Option Row} (hi : readRow H i = some r) : readRow (H.set i o) j = if j = i then o else readRow H j := by
  have := readRow_lt hi
  unfold readRow
  split
  · rename_i h; subst h; simp [this]
  · rename_i h; rw [List.getElem?_set_ne (Ne.symm h)]
theorem HR.zlt (hr : HR c hv H) {id : Nat} (h : c.Z id) : id < H.length := let ⟨_, k⟩ := hr.zin id h; readRow_lt k
theorem HR.lt (hr : HR c hv H) {i : Nat} {r : VRow} (h : readV hv i = some r) : i < c.n := by rw [hr.n]; exact readV_lt h
theorem HR.mlt (hr : HR c hv H) {i : Nat} {r : VRow} (h : readV hv i = some r) : c.μ i < H.length := let ⟨_, k, _⟩ := hr.row i r h; readRow_lt k
theorem new_ok (hr : HR c hv H) {ds : List D} {vs : List Value} (h : RCells c H ds vs) (e : Nat) :
    HR (c.more H.length) (newV hv ds e) (newA H vs e) ∧ Sp c hv H (c.more H.length) (newV hv ds e) (newA H vs e) := by
  have hz : ∀ id, c.Z id → readRow (newA H vs e) id = readRow H id := fun id k => by rw [readRow_new, if_neg (by have := hr.zlt k; omega)]
  have hmu : ∀ i, i < c.n → (c.more H.length).μ i = c.μ i := fun i hi => by simp only [Cx.more]; rw [if_neg (by omega)]
  have hn : c.n ≤ (c.more H.length).n := by simp [Cx.more]
  have live : ∀ {i : Nat} {r : VRow}, readV (newV hv ds e) i = some r → (i = c.n ∧ r = ⟨ds, e⟩) ∨ (i < c.n ∧ readV hv i = some r) := by
    intro i r hi
    rw [readV_new] at hi
    split at hi
    · rename_i q; rw [hr.n]; cases hi; exact .inl ⟨q, rfl⟩
    · exact .inr ⟨hr.lt hi, hi⟩
  refine ⟨⟨fun i r hi => ?_, fun i j ri rj hi hj hm => ?_, fun i r hi => ?_, fun id k => ?_, ?_, ?_, ?_⟩, ⟨fun _ k => k, hz, hmu, hn, by simp [newA], fun id hid _ => ⟨?_, fun k => k⟩, fun i r hi hr' => ?_, fun i r hi hr' => ?_⟩⟩
  · rcases live hi with ⟨rfl, rfl⟩ | ⟨q, k⟩
    · refine ⟨⟨vs, e, true⟩, ?_, rfl, rfl, h.mono (c := c) (c' := c.more H.length) (fun _ k => k) hz hmu hn⟩
      simp only [Cx.more, if_true]; rw [readRow_new, if_pos rfl]
    · obtain ⟨rp, k1, k2, k3, k4⟩ := hr.row i r k
      exact ⟨rp, by rw [hmu i q, readRow_new, if_neg (by have := hr.mlt k; omega)]; exact k1, k2, k3, k4.mono (c := c) (c' := c.more H.length) (fun _ k => k) hz hmu hn⟩
  · rcases live hi with ⟨rfl, rfl⟩ | ⟨q, k⟩
    · rcases live hj with ⟨rfl, rfl⟩ | ⟨q', k'⟩
      · rfl
      · rw [hmu j q'] at hm; simp only [Cx.more, if_true] at hm; have := hr.mlt k'; omega
    · rcases live hj with ⟨rfl, rfl⟩ | ⟨q', k'⟩
      · rw [hmu i q] at hm; simp only [Cx.more, if_true] at hm; have := hr.mlt k; omega
      · rw [hmu i q, hmu j q'] at hm; exact hr.inj i j ri rj k k' hm
  · rcases live hi with ⟨rfl, rfl⟩ | ⟨q, k⟩
    · intro z; have := hr.zlt (id := H.length) (by simpa [Cx.more] using z); omega
    · rw [hmu i q]; exact hr.dis i r k
  · obtain ⟨r, q⟩ := hr.zin id k; exact ⟨r, by rw [hz id k]; exact q⟩
  · simp [Cx.more, newV, hr.n]
  · rw [readRow_new, if_neg (by have := hr.pos; omega)]; exact hr.row0
  · simp [newA]
  · rw [readRow_new, if_neg (by omega)]
  · rcases live hr' with ⟨rfl, rfl⟩ | ⟨q, k⟩
    · simp [Cx.more]
    · omega
  · rcases live hr' with ⟨rfl, rfl⟩ | ⟨q, k⟩
    · omega
    · exact ⟨r, k⟩
theorem set_ok (hr : HR c hv H) {i : Nat} {r : VRow} {rp : Row} (hi : readV hv i = some r) (hp : readRow H (c.μ i) = some rp) (ho : rp.own = true) (he : rp.esz = r.esz) {ds : List D} {vs : List Value} (h : RCells c H ds vs) :
    HR c (setV hv i ds r.esz) (H.set (c.μ i) (some { rp with cells := vs })) ∧ Sp c hv H c (setV hv i ds r.esz) (H.set (c.μ i) (some { rp with cells := vs })) := by
  have hz : ∀ id, c.Z id → readRow (H.set (c.μ i) (some { rp with cells := vs })) id = readRow H id := fun id k => by
    rw [readRow_set' hp, if_neg]; rintro rfl; exact hr.dis i r hi k
  refine ⟨⟨fun j s hj => ?_, fun j k s t hj hk hm => ?_, fun j s hj => ?_, fun id k => ?_, by simp [setV, hr.n], ?_, by simpa using hr.pos⟩, ⟨fun _ k => k, hz, fun _ _ => rfl, Nat.le_refl _, by simp, fun id hid ho' => ⟨?_, fun k => k⟩, fun j s hj hs => ?_, fun j s hj hs => ?_⟩⟩
  · rw [readV_set hi] at hj
    split at hj
    · rename_i q; subst q; cases hj
      exact ⟨{ rp with cells := vs }, by rw [readRow_set' hp, if_pos rfl], ho, he, h.mono (fun _ k => k) hz (fun _ _ => rfl) (Nat.le_refl _)⟩
    · rename_i q
      obtain ⟨rp', k1, k2, k3, k4⟩ := hr.row j s hj
      exact ⟨rp', by rw [readRow_set' hp, if_neg (fun e => q (hr.inj j i s r hj hi e))]; exact k1, k2, k3, k4.mono (fun _ k => k) hz (fun _ _ => rfl) (Nat.le_refl _)⟩
  · rw [readV_set hi] at hj hk
    have a : ∃ s', readV hv j = some s' := by
      split at hj
      · rename_i q; subst q; exact ⟨r, hi⟩
      · exact ⟨s, hj⟩
    have b : ∃ s', readV hv k = some s' := by
      split at hk
      · rename_i q; subst q; exact ⟨r, hi⟩
      · exact ⟨t, hk⟩
    obtain ⟨a', ha⟩ := a
    obtain ⟨b', hb⟩ := b
    exact hr.inj j k a' b' ha hb hm
  · rw [readV_set hi] at hj
    split at hj
    · rename_i q; subst q; exact hr.dis j r hi
    · exact hr.dis j s hj
  · obtain ⟨r', q⟩ := hr.zin id k; exact ⟨r', by rw [hz id k]; exact q⟩
  · rw [readRow_set' hp, if_neg]
    · exact hr.row0
    · intro e; rw [← e, hr.row0] at hp; cases hp
  · rw [readRow_set' hp, if_neg (fun e => ho' i r hi e.symm)]
  · have := hr.n
    rw [readV_set hi] at hs
    split at hs
    · rename_i q; subst q; have := hr.lt hi; omega
    · have := hr.lt hs; omega
  · rw [readV_set hi] at hs
    split at hs
    · rename_i q; subst q; exact ⟨r, hi⟩
    · exact ⟨s, hs⟩
theorem kill_ok (hr : HR c hv H) {i : Nat} {r : VRow} {rp : Row} (hi : readV hv i = some r) (hp : readRow H (c.μ i) = some rp) :
    HR c (killV hv i) (H.set (c.μ i) none) ∧ Sp c hv H c (killV hv i) (H.set (c.μ i) none) := by
  have hz : ∀ id, c.Z id → readRow (H.set (c.μ i) none) id = readRow H id := fun id k => by
    rw [readRow_set' hp, if_neg]; rintro rfl; exact hr.dis i r hi k
  have live : ∀ {j : Nat} {s : VRow}, readV (killV hv i) j = some s → j ≠ i ∧ readV hv j = some s := by
    intro j s hj
    rw [readV_kill hi] at hj
    split at hj
    · cases hj
    · rename_i q; exact ⟨q, hj⟩
  refine ⟨⟨fun j s hj => ?_, fun j k s t hj hk hm => ?_, fun j s hj => ?_, fun id k => ?_, by simp [killV, hr.n], ?_, by simpa using hr.pos⟩, ⟨fun _ k => k, hz, fun _ _ => rfl, Nat.le_refl _, by simp, fun id hid ho' => ⟨?_, fun k => k⟩, fun j s hj hs => ?_, fun j s hj hs => ?_⟩⟩
  · obtain ⟨q, hj⟩ := live hj
    obtain ⟨rp', k1, k2, k3, k4⟩ := hr.row j s hj
    exact ⟨rp', by rw [readRow_set' hp, if_neg (fun e => q (hr.inj j i s r hj hi e))]; exact k1, k2, k3, k4.mono (fun _ k => k) hz (fun _ _ => rfl) (Nat.le_refl _)⟩
  · exact hr.inj j k s t (live hj).2 (live hk).2 hm
  · exact hr.dis j s (live hj).2
  · obtain ⟨r', q⟩ := hr.zin id k; exact ⟨r', by rw [hz id k]; exact q⟩
  · rw [readRow_set' hp, if_neg]
    · exact hr.row0
    · intro e; rw [← e, hr.row0] at hp; cases hp
  · rw [readRow_set' hp, if_neg (fun e => ho' i r hi e.symm)]
  · have := hr.lt (live hs).2; omega
  · exact ⟨s, (live hs).2⟩
end
end Go.Proofs.Ytmbikamebhoelaa.Ai.Av
