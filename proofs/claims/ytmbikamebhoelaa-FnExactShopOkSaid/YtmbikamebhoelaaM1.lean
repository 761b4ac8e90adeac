/- Two ways to tell a tree that is right: from each object to the top, and from the top to all objects. No condition. -/
import Derived.Test.YtmbikamebhoelaaM0
set_option linter.unusedVariables false
namespace Go.Proofs.Ytmbikamebhoelaa.Ai.Av
open Go

/-- All that is visited from an object, so deep at most. -/
def walkF (t : Tree) : Nat → Int → List Int
  | 0, id => [id]
  | m + 1, id => id :: (objAt t id).kids.flatMap fun k => walkF t m k.id
def live (o : TObj) : Bool := decide (o.kind ≠ 0)
def treeOkI (t : Tree) : Bool :=
  decide (t.objs.length = 32) && decide ((objAt t 0).kind = 2) && t.objs.all objOk &&
  (List.range 32).all (fun i => decide (homes t i = if i = 0 ∨ (objAt t i).kind = 0 then 0 else 1)) &&
  decide ((walkF t 33 0).length = t.objs.countP live)

def sumR (n : Nat) (f : Nat → Nat) : Nat := ((List.range n).map f).sum
theorem sumR_succ (n : Nat) (f : Nat → Nat) : sumR (n + 1) f = sumR n f + f n := by
  simp [sumR, List.range_succ]
theorem sumR_zero (f : Nat → Nat) : sumR 0 f = 0 := rfl
theorem sumR_add (n : Nat) (f g : Nat → Nat) : sumR n (fun i => f i + g i) = sumR n f + sumR n g := by
  induction n with
  | zero => rfl
  | succ n ih => simp only [sumR_succ, ih]; omega
theorem sumR_congr {n : Nat} {f g : Nat → Nat} (h : ∀ i, i < n → f i = g i) : sumR n f = sumR n g := by
  induction n with
  | zero => rfl
  | succ n ih => simp only [sumR_succ]; rw [ih (fun i hi => h i (by omega)), h n (by omega)]
theorem sumR_le {n : Nat} {f g : Nat → Nat} (h : ∀ i, i < n → f i ≤ g i) : sumR n f ≤ sumR n g := by
  induction n with
  | zero => exact Nat.le_refl _
  | succ n ih => simp only [sumR_succ]; have := ih (fun i hi => h i (by omega)); have := h n (by omega); omega
theorem sumR_one (n k : Nat) (hk : k < n) (c : Nat) : sumR n (fun i => if i = k then c else 0) = c := by
  induction n with
  | zero => omega
  | succ n ih =>
    simp only [sumR_succ]
    by_cases h : n = k
    · subst h
      rw [if_pos rfl, sumR_congr (g := fun _ => 0) (fun i hi => if_neg (by omega))]
      have : ∀ m, sumR m (fun _ => 0) = 0 := fun m => by induction m with | zero => rfl | succ m ih => rw [sumR_succ, ih]
      rw [this]; omega
    · rw [if_neg h, ih (by omega)]; omega
/-- Sums of parts that are less nowhere are one just if the parts are. -/
theorem sumR_eq {n : Nat} {f g : Nat → Nat} (h : ∀ i, i < n → f i ≤ g i) : sumR n f = sumR n g ↔ ∀ i, i < n → f i = g i := by
  induction n with
  | zero => simp [sumR_zero]
  | succ n ih =>
    simp only [sumR_succ]
    have h1 := sumR_le (n := n) (f := f) (g := g) (fun i hi => h i (by omega))
    have h2 := h n (by omega)
    have ih := ih (fun i hi => h i (by omega))
    constructor
    · intro e i hi
      rcases Nat.lt_or_ge i n with q | q
      · exact (ih.1 (by omega)) i q
      · have : i = n := by omega
        subst this; omega
    · intro e
      rw [ih.2 (fun i hi => e i (by omega)), e n (by omega)]
theorem count_sum {l : List Int} {n : Nat} (h : ∀ x ∈ l, 0 ≤ x ∧ x < n) : l.length = sumR n (fun i => l.count (i : Int)) := by
  induction l with
  | nil =>
    have : ∀ m, sumR m (fun i => List.count (i : Int) []) = 0 := fun m => by induction m with | zero => rfl | succ m ih => rw [sumR_succ, ih]; simp
    rw [this]; rfl
  | cons x l ih =>
    have hx := h x (by simp)
    have e : ∀ i : Nat, i < n → (x :: l).count (i : Int) = l.count (i : Int) + (if i = x.toNat then 1 else 0) := fun i _ => by
      rw [List.count_cons]
      congr 1
      by_cases q : i = x.toNat
      · rw [if_pos q, if_pos]; simp; omega
      · rw [if_neg q, if_neg]; simp; omega
    rw [sumR_congr e, sumR_add, sumR_one n x.toNat (by omega), List.length_cons, ih (fun y hy => h y (by simp [hy]))]

/-! ### Homes -/
def kc (w : Int) (o : TObj) : Nat := o.kids.countP (fun k => k.id == w)
theorem any_kc (w : Int) (o : TObj) : o.kids.any (fun k => k.id == w) = decide (0 < kc w o) := by
  unfold kc
  induction o.kids with
  | nil => simp
  | cons k ks ih =>
    rw [List.any_cons, List.countP_cons, ih]
    cases h : (k.id == w) <;> simp
theorem homeFrom_kc (w : Int) : ∀ (os : List TObj) (i : Nat), (os.flatMap (·.kids)).countP (fun k => k.id == w) ≤ 1 →
    (∀ j, j < os.length → kc w (os.getD j noObj) = if homeFrom i w os = ((i + j : Nat) : Int) then 1 else 0) ∧ (homeFrom i w os = -1 ∨ ((i : Int) ≤ homeFrom i w os ∧ homeFrom i w os < i + os.length)) ∧
    ((os.flatMap (·.kids)).countP (fun k => k.id == w) = if homeFrom i w os = -1 then 0 else 1)
  | [], i, h => by simp [homeFrom]
  | o :: os, i, h => by
    rw [List.flatMap_cons, List.countP_append] at h ⊢
    have hk : o.kids.countP (fun k => k.id == w) = kc w o := rfl
    rw [hk] at h ⊢
    have hk0 : ∀ (q : TObj), kc w q ≤ ((q :: os).flatMap (·.kids)).countP (fun k => k.id == w) := fun q => by rw [List.flatMap_cons, List.countP_append]; exact Nat.le_add_right _ _
    simp only [homeFrom, any_kc]
    by_cases hp : 0 < kc w o
    · rw [decide_eq_true hp, if_pos rfl]
      have h0 : (os.flatMap (·.kids)).countP (fun k => k.id == w) = 0 := by omega
      refine ⟨fun j hj => ?_, .inr ⟨Int.le_refl _, by simp; omega⟩, by rw [if_neg (by omega)]; omega⟩
      cases j with
      | zero => rw [if_pos (by simp)]; simp; omega
      | succ j =>
        rw [if_neg (by omega)]
        rw [List.countP_eq_zero] at h0
        simp only [List.getD_cons_succ, kc]
        rw [List.countP_eq_zero]
        intro k hk2
        simp at hj
        refine h0 k (List.mem_flatMap.2 ⟨os.getD j noObj, ?_, hk2⟩)
        rw [List.getD_eq_getElem?_getD, List.getElem?_eq_getElem hj]; simp
    · rw [decide_eq_false hp]
      have hz : kc w o = 0 := by omega
      obtain ⟨k1, k2, k3⟩ := homeFrom_kc w os (i + 1) (by omega)
      refine ⟨fun j hj => ?_, ?_, by simp only [Bool.false_eq_true, if_false]; rw [k3]; omega⟩
      · simp only [Bool.false_eq_true, if_false]
        cases j with
        | zero =>
          rw [if_neg]
          · simpa using hz
          · rcases k2 with k2 | k2
            · rw [k2]; omega
            · omega
        | succ j =>
          have := k1 j (by simpa using hj)
          simp only [List.getD_cons_succ]
          rw [this]
          congr 1
          rw [show i + 1 + j = i + (j + 1) by omega]
      · simp only [Bool.false_eq_true, if_false]
        rcases k2 with k2 | k2
        · exact .inl k2
        · refine .inr ?_; simp; omega
theorem kc_home {t : Tree} {w : Int} (h : homes t w ≤ 1) {d : Nat} (hd : d < t.objs.length) : kc w (objAt t d) = if home t w = d then 1 else 0 := by
  have := (homeFrom_kc w t.objs 0 h).1 d hd
  rw [Nat.zero_add] at this
  exact this
theorem home_range {t : Tree} {w : Int} (h : homes t w ≤ 1) : home t w = -1 ∨ (0 ≤ home t w ∧ home t w < t.objs.length) := by
  have := (homeFrom_kc w t.objs 0 h).2.1
  simpa [home] using this
theorem homes_home {t : Tree} {w : Int} (h : homes t w ≤ 1) : homes t w = if home t w = -1 then 0 else 1 :=
  (homeFrom_kc w t.objs 0 h).2.2

/-! ### Upwards -/
def anc (t : Tree) : Nat → Int → Int
  | 0, v => v
  | j + 1, v => home t (anc t j v)
theorem anc_add (t : Tree) (v : Int) (i : Nat) : ∀ j, anc t (i + j) v = anc t j (anc t i v)
  | 0 => rfl
  | j + 1 => by rw [show i + (j + 1) = (i + j) + 1 by omega]; simp only [anc]; rw [anc_add t v i j]

/-- What is asked of each object by itself, and of how many entries it has. -/
structure Half (t : Tree) : Prop where
  len : t.objs.length = 32
  one : ∀ w, homes t w ≤ 1
  top : homes t 0 = 0
  neg : home t (-1) = -1
  ids : ∀ d : Nat, d < 32 → ∀ k ∈ (objAt t d).kids, 1 ≤ k.id ∧ k.id ≤ 31
theorem Half.home0 {t : Tree} (h : Half t) : home t 0 = -1 := by
  have := homes_home (h.one 0)
  rw [h.top] at this
  split at this
  · assumption
  · omega
theorem Half.anc_neg {t : Tree} (h : Half t) : ∀ j, anc t j (-1) = -1
  | 0 => rfl
  | j + 1 => by simp only [anc]; rw [h.anc_neg j]; exact h.neg
theorem Half.once {t : Tree} (h : Half t) {v : Int} {i : Nat} (hi : anc t i v = 0) (j : Nat) : anc t (i + 1 + j) v = -1 := by
  rw [anc_add]
  have : anc t (i + 1) v = -1 := by simp only [anc]; rw [hi]; exact h.home0
  rw [this]; exact h.anc_neg j
/-- How often the object v is visited from id. -/
theorem count_walk {t : Tree} (h : Half t) (v : Int) : ∀ (m : Nat) (id : Nat), id < 32 → (walkF t m id).count v = sumR (m + 1) (fun j => if anc t j v = id then 1 else 0)
  | 0, id, _ => by
    have ha : anc t 0 v = v := rfl
    simp only [walkF, sumR_succ, sumR_zero]
    by_cases e : anc t 0 v = id
    · rw [if_pos e]; rw [ha] at e; subst e; simp
    · rw [if_neg e]; rw [ha] at e
      rw [List.count_cons, List.count_nil, if_neg]; simpa using fun q : (id : Int) = v => e q.symm
  | m + 1, id, hid => by
    have key : ∀ ks : List Ent, (∀ k ∈ ks, 1 ≤ k.id ∧ k.id ≤ 31) → (ks.flatMap fun k => walkF t m k.id).count v = sumR (m + 1) (fun j => ks.countP (fun k => k.id == anc t j v)) := by
      intro ks
      induction ks with
      | nil =>
        intro _
        have : ∀ n, sumR n (fun j => List.countP (fun k : Ent => k.id == anc t j v) []) = 0 := fun n => by induction n with | zero => rfl | succ n ih => rw [sumR_succ, ih]; simp
        rw [this]; simp
      | cons k ks ih =>
        intro hk
        have hk1 := hk k (by simp)
        rw [List.flatMap_cons, List.count_append, ih (fun k' hk' => hk k' (by simp [hk']))]
        have : k.id = ((k.id.toNat : Nat) : Int) := by omega
        rw [this, count_walk h v m k.id.toNat (by omega), ← sumR_add]
        refine sumR_congr fun j _ => ?_
        rw [List.countP_cons, Nat.add_comm]
        congr 1
        by_cases e : anc t j v = ((k.id.toNat : Nat) : Int)
        · rw [if_pos e, if_pos]; rw [beq_iff_eq]; omega
        · rw [if_neg e, if_neg]; rw [beq_iff_eq]; omega
    simp only [walkF]
    rw [List.count_cons, key _ (h.ids id hid)]
    have hs : ∀ n (f : Nat → Nat), sumR (n + 1) f = f 0 + sumR n (fun j => f (j + 1)) := by
      intro n f
      induction n with
      | zero => simp [sumR_succ, sumR_zero]
      | succ n ih => rw [sumR_succ, ih, sumR_succ]; omega
    rw [hs (m + 1), Nat.add_comm]
    congr 1
    · have ha : anc t 0 v = v := rfl
      by_cases e : anc t 0 v = id
      · rw [if_pos e]; rw [ha] at e; subst e; simp
      · rw [if_neg e]; rw [ha] at e; rw [if_neg]; rw [beq_iff_eq]; exact fun q => e q.symm
    · refine sumR_congr fun j _ => ?_
      have := kc_home (h.one (anc t j v)) (d := id) (by rw [h.len]; exact hid)
      simp only [anc]
      exact this
theorem walk_range {t : Tree} (h : Half t) : ∀ (m : Nat) (id : Nat), id < 32 → ∀ x ∈ walkF t m id, 0 ≤ x ∧ x < (32 : Nat)
  | 0, id, hid, x, hx => by simp [walkF] at hx; subst hx; omega
  | m + 1, id, hid, x, hx => by
    simp only [walkF, List.mem_cons, List.mem_flatMap] at hx
    rcases hx with rfl | ⟨k, hk, hx⟩
    · omega
    · have hk1 := h.ids id hid k hk
      have : k.id = ((k.id.toNat : Nat) : Int) := by omega
      rw [this] at hx
      exact walk_range h m k.id.toNat (by omega) x hx
/-- Does it come to the top? -/
def reach (t : Tree) (m : Nat) (v : Int) : Bool := (List.range (m + 1)).any fun j => decide (anc t j v = 0)
theorem once_sum {t : Tree} (h : Half t) (v : Int) : ∀ m, sumR m (fun j => if anc t j v = 0 then 1 else 0) = if (∃ j, j < m ∧ anc t j v = 0) then 1 else 0
  | 0 => by simp [sumR_zero]
  | m + 1 => by
    rw [sumR_succ, once_sum h v m]
    by_cases e : ∃ j, j < m ∧ anc t j v = 0
    · obtain ⟨j, hj, e⟩ := e
      have hm : anc t m v = -1 := by
        have := h.once e (m - (j + 1))
        rwa [show j + 1 + (m - (j + 1)) = m by omega] at this
      rw [if_pos ⟨j, hj, e⟩, if_neg (by rw [hm]; decide), if_pos ⟨j, by omega, e⟩]
    · rw [if_neg e]
      by_cases e2 : anc t m v = 0
      · rw [if_pos e2, if_pos ⟨m, by omega, e2⟩]
      · rw [if_neg e2, if_neg]
        rintro ⟨j, hj, q⟩
        rcases Nat.lt_or_ge j m with r | r
        · exact e ⟨j, r, q⟩
        · have : j = m := by omega
          subst this; exact e2 q
theorem walk_length {t : Tree} (h : Half t) (m : Nat) : (walkF t m 0).length = sumR 32 (fun v => if (∃ j, j < m + 1 ∧ anc t j (v : Int) = 0) then 1 else 0) := by
  have h0 := walk_range h m 0 (by omega)
  have e : ((0 : Nat) : Int) = 0 := rfl
  rw [e] at h0
  rw [count_sum h0]
  refine sumR_congr fun v _ => ?_
  have := count_walk h (v : Int) m 0 (by omega)
  rw [e] at this
  rw [this]
  exact once_sum h (v : Int) (m + 1)
/-- The way up is short: no object is met twice. -/
theorem short {t : Tree} (h : Half t) {v : Nat} (hv : v < 32) {J : Nat} (hJ : anc t J v = 0) : J ≤ 31 := by
  have hin : ∀ j, j ≤ J → 0 ≤ anc t j v ∧ anc t j v < (32 : Nat) := by
    intro j hj
    have hne : anc t j v ≠ -1 := by
      intro e
      have : anc t (j + (J - j)) v = -1 := by rw [anc_add, e]; exact h.anc_neg _
      rw [show j + (J - j) = J by omega, hJ] at this
      omega
    cases j with
    | zero => simp only [anc]; omega
    | succ j =>
      simp only [anc] at hne ⊢
      rcases home_range (h.one (anc t j v)) with q | q
      · exact absurd q hne
      · rw [h.len] at q; exact q
  have hinj : ∀ i j, i < j → j ≤ J → anc t i v ≠ anc t j v := by
    intro i j hij hj e
    have h1 : anc t (j + (J - j)) v = anc t (i + (J - j)) v := by rw [anc_add, anc_add, e]
    rw [show j + (J - j) = J by omega, hJ] at h1
    have h2 := h.once h1.symm (J - (i + (J - j)) - 1)
    rw [show i + (J - j) + 1 + (J - (i + (J - j)) - 1) = J by omega, hJ] at h2
    omega
  have hlen := count_sum (l := (List.range (J + 1)).map (fun j => anc t j v)) (n := 32) (by
    intro x hx
    simp only [List.mem_map, List.mem_range] at hx
    obtain ⟨j, hj, rfl⟩ := hx
    exact hin j (by omega))
  have hle : sumR 32 (fun i => ((List.range (J + 1)).map (fun j => anc t j v)).count (i : Int)) ≤ sumR 32 (fun _ => 1) := by
    refine sumR_le fun i _ => ?_
    have : ∀ n, n ≤ J + 1 → ((List.range n).map (fun j => anc t j v)).count (i : Int) ≤ 1 := by
      intro n
      induction n with
      | zero => intro _; simp
      | succ n ih =>
        intro hn
        rw [List.range_succ, List.map_append, List.count_append]
        by_cases e : anc t n v = i
        · have : ((List.range n).map (fun j => anc t j v)).count (i : Int) = 0 := by
            rw [List.count_eq_zero]
            simp only [List.mem_map, List.mem_range, not_exists, not_and]
            intro j hj q
            exact hinj j n hj (by omega) (q.trans e.symm)
          rw [this]
          simp only [List.map_cons, List.map_nil, List.count_cons, List.count_nil]
          split <;> omega
        · have := ih (by omega)
          simp only [List.map_cons, List.map_nil, List.count_cons, List.count_nil]
          rw [if_neg (by rw [beq_iff_eq]; exact e)]
          omega
    exact this (J + 1) (Nat.le_refl _)
  have h1 : sumR 32 (fun _ => 1) = 32 := by decide
  simp only [List.length_map, List.length_range] at hlen
  omega
theorem topIn_anc {t : Tree} (h : Half t) : ∀ (n : Nat) (v : Int), (v = -1 ∨ (0 ≤ v ∧ v < 32)) → (topIn t n v = true ↔ ∃ j, j ≤ n ∧ anc t j v = 0)
  | 0, v, hv => by
    simp only [topIn, decide_eq_true_eq]
    constructor
    · intro e; exact ⟨0, by omega, e⟩
    · rintro ⟨j, hj, e⟩; have : j = 0 := by omega
      subst this; exact e
  | n + 1, v, hv => by
    simp only [topIn]
    by_cases hp : 0 < v
    · rw [if_pos hp]
      have hh : home t v = -1 ∨ (0 ≤ home t v ∧ home t v < 32) := by have := home_range (h.one v); rw [h.len] at this; exact this
      rw [topIn_anc h n (home t v) hh]
      constructor
      · rintro ⟨j, hj, e⟩
        refine ⟨j + 1, by omega, ?_⟩
        rw [Nat.add_comm j 1, anc_add]; exact e
      · rintro ⟨j, hj, e⟩
        cases j with
        | zero => simp only [anc] at e; omega
        | succ j => refine ⟨j, by omega, ?_⟩; rw [Nat.add_comm j 1, anc_add] at e; exact e
    · rw [if_neg hp, decide_eq_true_eq]
      constructor
      · intro e; exact ⟨0, by omega, e⟩
      · rintro ⟨j, hj, e⟩
        rcases hv with rfl | hv
        · rw [h.anc_neg j] at e; omega
        · omega

/-! ### Both ways are one -/
theorem List.reverseRecOn' {α : Type} {m : List α → Prop} (l : List α) (nil : m []) (append : ∀ l x, m l → m (l ++ [x])) : m l := by
  have : ∀ n (l : List α), l.length = n → m l := by
    intro n
    induction n with
    | zero => intro l h; rw [List.length_eq_zero_iff.1 h]; exact nil
    | succ n ih =>
      intro l h
      have hne : l ≠ [] := by intro e; subst e; cases h
      rw [← List.dropLast_concat_getLast hne]
      exact append _ _ (ih _ (by simp; omega))
  exact this _ l rfl
theorem countP_sum {α : Type} (d : α) (p : α → Bool) : ∀ l : List α, l.countP p = sumR l.length (fun i => if p (l.getD i d) then 1 else 0) := by
  intro l
  induction l using List.reverseRecOn' with
  | nil => rfl
  | append l x ih =>
    rw [List.countP_append, List.length_append, List.length_singleton, sumR_succ, ih]
    congr 1
    · exact sumR_congr fun i hi => by simp [List.getElem?_append_left hi]
    · simp
theorem kids_ids {o : TObj} (h : objOk o = true) : ∀ k ∈ o.kids, 1 ≤ k.id ∧ k.id ≤ 31 := by
  have key : ∀ (ks : List Ent) (p : Option ByteArray), kidsFrom p ks = true → ∀ k ∈ ks, 1 ≤ k.id ∧ k.id ≤ 31 := by
    intro ks
    induction ks with
    | nil => intro p _ k hk; cases hk
    | cons a ks ih =>
      intro p h k hk
      simp only [kidsFrom, Bool.and_eq_true, inB, decide_eq_true_eq] at h
      simp only [List.mem_cons] at hk
      rcases hk with rfl | hk
      · exact h.1.1.2
      · exact ih _ h.2 k hk
  simp only [objOk, Bool.and_eq_true] at h
  obtain ⟨_, h⟩ := h
  split at h
  · simp only [Bool.and_eq_true, List.isEmpty_iff] at h; rw [h.2]; intro k hk; cases hk
  · split at h
    · simp only [Bool.and_eq_true, List.isEmpty_iff] at h; rw [h.1.2]; intro k hk; cases hk
    · split at h
      · simp only [Bool.and_eq_true] at h; exact key _ _ h.1.2
      · cases h
theorem objAt_mem {t : Tree} {d : Nat} (hd : d < t.objs.length) : objAt t d ∈ t.objs := by
  unfold objAt
  rw [List.getD_eq_getElem?_getD, Int.toNat_natCast, List.getElem?_eq_getElem hd]
  simp
theorem ids_of {t : Tree} (h : t.objs.all objOk = true) : ∀ o ∈ t.objs, ∀ k ∈ o.kids, 1 ≤ k.id ∧ k.id ≤ 31 := fun o ho => kids_ids (List.all_eq_true.1 h o ho)
theorem homes_out {t : Tree} (h : t.objs.all objOk = true) {w : Int} (hw : w < 1 ∨ 31 < w) : homes t w = 0 := by
  unfold homes
  rw [List.countP_eq_zero]
  intro k hk e
  obtain ⟨o, ho, hk⟩ := List.mem_flatMap.1 hk
  have := ids_of h o ho k hk
  rw [beq_iff_eq] at e
  omega
theorem half_of {t : Tree} (hl : t.objs.length = 32) (ho : t.objs.all objOk = true) (hh : ∀ i, i < 32 → homes t (i : Nat) ≤ 1) : Half t where
  len := hl
  one w := by
    by_cases hw : w < 1 ∨ 31 < w
    · rw [homes_out ho hw]; omega
    · have := hh w.toNat (by omega)
      rwa [Int.toNat_of_nonneg (by omega)] at this
  top := homes_out ho (.inl (by decide))
  neg := by
    have h0 : homes t (-1) = 0 := homes_out ho (.inl (by decide))
    have := homes_home (t := t) (w := -1) (by omega)
    rw [h0] at this
    split at this
    · assumption
    · omega
  ids d hd := ids_of ho _ (objAt_mem (by omega))
theorem anc_live {t : Tree} (h : Half t) {v : Nat} {j : Nat} (hv : v ≠ 0) (hj : anc t j v = 0) : homes t v = 1 := by
  cases j with
  | zero => simp only [anc] at hj; omega
  | succ j =>
    rw [Nat.add_comm, anc_add] at hj
    have e : home t v ≠ -1 := fun e => by
      have : anc t 1 (v : Int) = -1 := e
      rw [this, h.anc_neg] at hj
      omega
    rw [homes_home (h.one v), if_neg e]
theorem treeOkI_eq (t : Tree) : treeOkI t = treeOk t := by
  rw [Bool.eq_iff_iff]
  simp only [treeOkI, treeOk, Bool.and_eq_true, decide_eq_true_eq, List.all_eq_true (l := List.range 32), List.mem_range, Bool.or_eq_true]
  constructor
  · rintro ⟨⟨⟨⟨hl, hk⟩, ho⟩, hh⟩, hw⟩
    refine ⟨⟨⟨hl, hk⟩, ho⟩, fun i hi => ?_⟩
    have H : Half t := half_of hl ho (fun i hi => by have := hh i hi; split at this <;> omega)
    by_cases h0 : i = 0
    · exact .inl h0
    right
    simp only [liveOk]
    have hi' := hh i hi
    by_cases hz : (objAt t i).kind = 0
    · rw [if_neg (by simpa using hz)]
      rw [if_pos (.inr hz)] at hi'
      simpa using hi'
    · rw [if_pos hz]
      rw [if_neg (by rintro (e | e); exact h0 e; exact hz e)] at hi'
      simp only [Bool.and_eq_true, decide_eq_true_eq]
      refine ⟨hi', ?_⟩
      have hc := countP_sum noObj live t.objs
      rw [hl] at hc
      have hle : ∀ v : Nat, v < 32 → (if (∃ j, j < 33 + 1 ∧ anc t j (v : Int) = 0) then 1 else 0) ≤ (if live (t.objs.getD v noObj) then 1 else 0) := by
        intro v hv
        by_cases e : ∃ j, j < 33 + 1 ∧ anc t j (v : Int) = 0
        · rw [if_pos e, if_pos]; exact Nat.le_refl _
          obtain ⟨j, _, e⟩ := e
          have hv' := hh v hv
          have : (objAt t v).kind ≠ 0 := by
            by_cases h0 : v = 0
            · subst h0; have hk' : (objAt t ((0 : Nat) : Int)).kind = 2 := hk; rw [hk']; decide
            · have h1 := anc_live H h0 e
              intro q
              rw [if_pos (.inr q)] at hv'
              omega
          simpa [live, objAt] using this
        · rw [if_neg e]; exact Nat.zero_le _
      have := (sumR_eq hle).1 (by rw [← walk_length H 33, ← hc]; exact hw) i hi
      have hlive : live (t.objs.getD i noObj) = true := by simpa [live, objAt] using hz
      rw [if_pos hlive] at this
      split at this
      · rename_i e
        obtain ⟨j, _, e⟩ := e
        exact (topIn_anc H 32 i (.inr (by omega))).2 ⟨j, by have := short H hi e; omega, e⟩
      · omega
  · rintro ⟨⟨⟨hl, hk⟩, ho⟩, hh⟩
    have hlv : ∀ i, i < 32 → i ≠ 0 → liveOk t i = true := fun i hi h0 => (hh i hi).resolve_left h0
    have hho : ∀ i, i < 32 → homes t (i : Nat) = if i = 0 ∨ (objAt t i).kind = 0 then 0 else 1 := by
      intro i hi
      by_cases h0 : i = 0
      · subst h0; rw [if_pos (.inl rfl)]; exact homes_out ho (.inl (by decide))
      · have := hlv i hi h0
        simp only [liveOk] at this
        by_cases hz : (objAt t i).kind = 0
        · rw [if_neg (by simpa using hz)] at this
          rw [if_pos (.inr hz)]; simpa using this
        · rw [if_pos hz] at this
          rw [if_neg (by rintro (e | e); exact h0 e; exact hz e)]
          simp only [Bool.and_eq_true, decide_eq_true_eq] at this
          exact this.1
    have H : Half t := half_of hl ho (fun i hi => by have := hho i hi; split at this <;> omega)
    refine ⟨⟨⟨⟨hl, hk⟩, ho⟩, hho⟩, ?_⟩
    have hc := countP_sum noObj live t.objs
    rw [hl] at hc
    rw [walk_length H 33, hc]
    refine sumR_congr fun v hv => ?_
    by_cases hz : (objAt t v).kind = 0
    · have hlive : ¬ live (t.objs.getD v noObj) = true := by simpa [live, objAt] using hz
      rw [if_neg hlive, if_neg]
      rintro ⟨j, _, e⟩
      by_cases h0 : v = 0
      · subst h0; have hk' : (objAt t ((0 : Nat) : Int)).kind = 2 := hk; omega
      · have h1 := anc_live H h0 e
        have := hho v hv
        rw [if_pos (.inr hz)] at this
        omega
    · have hlive : live (t.objs.getD v noObj) = true := by simpa [live, objAt] using hz
      rw [if_pos hlive, if_pos]
      by_cases h0 : v = 0
      · subst h0; exact ⟨0, by omega, rfl⟩
      · have := hlv v hv h0
        simp only [liveOk, if_pos hz, Bool.and_eq_true] at this
        obtain ⟨j, hj, e⟩ := (topIn_anc H 32 v (.inr (by omega))).1 this.2
        exact ⟨j, by omega, e⟩
end Go.Proofs.Ytmbikamebhoelaa.Ai.Av
