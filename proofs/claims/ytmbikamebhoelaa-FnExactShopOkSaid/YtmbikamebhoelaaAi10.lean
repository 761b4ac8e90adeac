/- A new row taken up; a row written; what that does to the memory. No condition. -/
import Derived.Test.YtmbikamebhoelaaAi9
set_option linter.unusedVariables false
set_option linter.unusedSimpArgs false
namespace Go.Proofs.Ytmbikamebhoelaa.Ai
open Go
section
variable {P : Program} {w : World} {ρ : Rho}

def Rho.put (ρ : Rho) (id : Nat) (l : Loc) : Rho := fun i => if i = id then some l else ρ i
theorem Rho.le_put {id : Nat} {l : Loc} (h : ρ id = none) : ρ.le (ρ.put id l) := fun i k hk => by
  unfold Rho.put
  split
  · rename_i e; rw [e, h] at hk; cases hk
  · exact hk
theorem Rho.put_self (ρ : Rho) (id : Nat) (l : Loc) : ρ.put id l id = some l := by simp [Rho.put]
theorem Rho.put_ne (ρ : Rho) {id i : Nat} (l : Loc) (h : i ≠ id) : ρ.put id l i = ρ i := by simp [Rho.put, h]
abbrev World.grow (w : World) (o : Obj) : World := w.alloc o
theorem grow_old (w : World) (o : Obj) {b : Nat} (h : b < w.heap.size) : (World.grow w o).heap[b]? = w.heap[b]? := by
  show (w.heap.push o)[b]? = _
  rw [Array.getElem?_push, if_neg (by omega)]
theorem grow_new (w : World) (o : Obj) : (World.grow w o).heap[w.heap.size]? = some o := by
  show (w.heap.push o)[w.heap.size]? = _
  simp
theorem grow_size (w : World) (o : Obj) : (World.grow w o).heap.size = w.heap.size + 1 := by
  show (w.heap.push o).size = _
  simp

/-- A fresh block stands for a row that the plain heap holds (made just now, or told ahead). -/
theorem Rel.adopt {H : Heap} (hr : Rel ρ H w) {id : Nat} {r : Row} {c : Array Value} {e : TypeId} (hid : ρ id = none) (h0 : id ≠ 0) (hl : id < H.length) (hrow : readRow H id = some r) (ho : r.own = true) (hc : ∀ (j : Nat) (v : Value), r.cells[j]? = some v → ∃ v', c[j]? = some v' ∧ VS ρ v v') :
    Rel (ρ.put id ⟨w.heap.size, 0, true, c.size, r.esz⟩) H (World.grow w (.cells c e)) := by
  have hle : ρ.le (ρ.put id ⟨w.heap.size, 0, true, c.size, r.esz⟩) := Rho.le_put hid
  refine ⟨fun i l q hi hq => ?_, fun i j li lj ri rj hi hj hri hrj hne hown => ?_, fun i l hi => ?_, fun i hi => ?_, ?_, hr.pos⟩
  · by_cases hii : i = id
    · subst hii
      rw [Rho.put_self] at hi
      cases hi
      rw [hrow] at hq
      cases hq
      refine ⟨c, e, (0, 0), grow_new w _, fun j v hv => ?_, ho.symm, fun _ => ⟨rfl, rfl, rfl, rfl⟩⟩
      obtain ⟨v', h1, h2⟩ := hc j v hv
      exact ⟨v', by simpa using h1, h2.mono hle⟩
    · rw [Rho.put_ne _ _ hii] at hi
      exact ((hr.rows i l q hi hq).mono hle).block (grow_old w _ (hr.lt i l hi))
  · by_cases hii : i = id <;> by_cases hjj : j = id
    · omega
    · subst hii
      rw [Rho.put_self] at hi
      rw [Rho.put_ne _ _ hjj] at hj
      cases hi
      have := hr.lt j lj hj
      show w.heap.size ≠ lj.block
      omega
    · subst hjj
      rw [Rho.put_self] at hj
      rw [Rho.put_ne _ _ hii] at hi
      cases hj
      have := hr.lt i li hi
      show li.block ≠ w.heap.size
      omega
    · rw [Rho.put_ne _ _ hii] at hi
      rw [Rho.put_ne _ _ hjj] at hj
      exact hr.inj i j li lj ri rj hi hj hri hrj hne hown
  · by_cases hii : i = id
    · subst hii
      rw [Rho.put_self] at hi
      cases hi
      rw [grow_size]
      exact Nat.lt_succ_self _
    · rw [Rho.put_ne _ _ hii] at hi
      rw [grow_size]
      have := hr.lt i l hi
      omega
  · rw [Rho.put_ne _ _ (by omega)]
    exact hr.dom i hi
  · rw [Rho.put_ne _ _ (Ne.symm h0)]
    exact hr.zero
/-- Nothing is asked of rows that nothing stands for. -/
theorem Rel.more {H H' : Heap} (hr : Rel ρ H w) (hlen : H.length ≤ H'.length) (h : ∀ id l, ρ id = some l → readRow H' id = readRow H id) : Rel ρ H' w :=
  ⟨fun i l q hi hq => hr.rows i l q hi (by rw [← h i l hi]; exact hq),
   fun i j li lj ri rj hi hj hri hrj hne ho => hr.inj i j li lj ri rj hi hj (by rw [← h i li hi]; exact hri) (by rw [← h j lj hj]; exact hrj) hne ho,
   hr.lt, fun i hi => hr.dom i (Nat.le_trans hlen hi), hr.zero, Nat.lt_of_lt_of_le hr.pos hlen⟩
theorem readRow_append_lt {H : Heap} {x : List (Option Row)} {id : Nat} (h : id < H.length) : readRow (H ++ x) id = readRow H id := by simp [readRow, List.getElem?_append_left h]
theorem readRow_append_eq {H : Heap} {r : Row} : readRow (H ++ [some r]) H.length = some r := by simp [readRow]
theorem readRow_set {H : Heap} {x : Option Row} {id i : Nat} (hl : i < H.length) : readRow (H.set i x) id = if id = i then x else readRow H id := by
  unfold readRow
  by_cases h : id = i
  · subst h; simp [hl]
  · simp [h, List.getElem?_set_ne (Ne.symm h)]
theorem All2.pre {l : List Value} {c : Array Value} (h : All2 (VS ρ) l c.toList) : ∀ (j : Nat) (v : Value), l[j]? = some v → ∃ v', c[j]? = some v' ∧ VS ρ v v' := fun j v hv => by
  obtain ⟨v', h1, h2⟩ := h.get hv
  exact ⟨v', by simpa using h1, h2⟩
theorem new_stp {H : Heap} (hr : Rel ρ H w) {r : Row} {c : Array Value} {e : TypeId} (ho : r.own = true) (hc : ∀ (j : Nat) (v : Value), r.cells[j]? = some v → ∃ v', c[j]? = some v' ∧ VS ρ v v') :
    Stp ρ H w (ρ.put H.length ⟨w.heap.size, 0, true, c.size, r.esz⟩) (H ++ [some r]) (World.grow w (.cells c e)) := by
  have hid : ρ H.length = none := hr.dom _ (Nat.le_refl _)
  have hm : Rel ρ (H ++ [some r]) w := hr.more (by simp) fun id l hl => readRow_append_lt (by
    rcases Nat.lt_or_ge id H.length with h | h
    · exact h
    · rw [hr.dom id h] at hl; cases hl)
  refine ⟨hm.adopt hid (by have := hr.pos; omega) (by simp) readRow_append_eq ho hc, fun id hi => Rho.put_ne _ _ (by omega), fun id l hi hl => ?_, fun b hb _ => grow_old w _ hb, rfl, rfl, rfl, by rw [grow_size]; omega, by simp, fun id hi hd => by rw [readRow_append_lt hi]; exact hd⟩
  by_cases h : id = H.length
  · subst h
    rw [Rho.put_self] at hl
    cases hl
    exact ⟨rfl, .inl (Nat.le_refl _)⟩
  · rw [Rho.put_ne _ _ h, hr.dom id hi] at hl
    cases hl

/-- The machine writes cells into a block of the run's own. -/
theorem write_run {H : Heap} (hr : Rel ρ H w) {id : Nat} {l : Loc} {r : Row} (hl : ρ id = some l) (hrow : readRow H id = some r) (ho : r.own = true) {off : Nat} {xs : List Value} {xs' : List Value} (hx : All2 (VS ρ) xs xs') (hs : xs.all scalar = true) (hfit : off + xs.length ≤ l.cells) :
    ∃ c e, w.heap[l.block]? = some (.cells c e (0, 0)) ∧ c.size = l.cells ∧ (∀ (j : Nat) (v : Value), r.cells[j]? = some v → ∃ v', c[j]? = some v' ∧ VS ρ v v') ∧ l.base = 0 ∧
      (storeCells ⟨l.block, off, none⟩ xs').run P w = .ok () (w.setRow l.block (splice c.toList off xs').toArray) := by
  obtain ⟨c, e, fr, h1, h2, h3, h4⟩ := (hr.rows id l r hl hrow).ok
  obtain ⟨rfl, hb, hcs, _⟩ := h4 (h3.trans ho)
  refine ⟨c, e, h1, hcs, fun j v hv => ?_, hb, ?_⟩
  · obtain ⟨v', k1, k2⟩ := h2 j v hv
    rw [hb, Nat.zero_add] at k1
    exact ⟨v', k1, k2⟩
  · have := run_storeCells_at (P := P) l.block off e xs' 0 c w h1 (by rw [← hx.length]; omega) (fun v hv => by
      obtain ⟨i, hi⟩ := List.getElem?_of_mem hv
      have hi2 : i < xs.length := by
        rw [hx.length]
        rcases Nat.lt_or_ge i xs'.length with k | k
        · exact k
        · rw [List.getElem?_eq_none k] at hi; cases hi
      obtain ⟨b, hb1, hb2⟩ := hx.get (List.getElem?_eq_getElem hi2)
      rw [hi] at hb1
      cases hb1
      have hsc : scalar xs[i] = true := by rw [List.all_eq_true] at hs; exact hs _ (List.getElem_mem hi2)
      obtain ⟨_, g1, g2⟩ := VS.oneCell hsc hb2
      cases v <;> first | rfl | exact absurd rfl (g1 _) | exact absurd rfl (g2 _))
    rw [this]
    simp only [splice, Nat.add_zero]
theorem setRow_frame (w : World) (g : Nat) (cs : Array Value) : (w.setRow g cs).os = w.os ∧ (w.setRow g cs).tape = w.tape ∧ (w.setRow g cs).output = w.output ∧ (w.setRow g cs).heap.size = w.heap.size := ⟨rfl, rfl, rfl, by simp [World.setRow]⟩
/-- A row written in place. -/
theorem write_stp {H : Heap} (hr : Rel ρ H w) {id : Nat} {l : Loc} {r : Row} (hl : ρ id = some l) (hrow : readRow H id = some r) (ho : r.own = true) {c : Array Value} {e : TypeId} (hb : w.heap[l.block]? = some (.cells c e (0, 0))) {cells : List Value} {c' : Array Value} (hsz : c'.size = c.size)
    (hc : ∀ (j : Nat) (v : Value), cells[j]? = some v → ∃ v', c'[j]? = some v' ∧ VS ρ v v') : Stp ρ H w ρ (H.set id (some { r with cells := cells })) (w.setRow l.block c') := by
  have hid := readRow_lt hrow
  obtain ⟨c0, e0, fr0, h1, h2, h3, h4⟩ := (hr.rows id l r hl hrow).ok
  have hown : l.own = true := h3.trans ho
  obtain ⟨rfl, hbase, hcs, hesz⟩ := h4 hown
  rw [hb] at h1
  cases h1
  obtain ⟨f1, f2, f3, f4⟩ := setRow_frame w l.block c'
  refine ⟨⟨fun i k q hi hq => ?_, fun i j li lj ri rj hi hj hri hrj hne ho' => ?_, fun i k hi => by rw [f4]; exact hr.lt i k hi, fun i hi => hr.dom i (by simpa using hi), hr.zero, by simpa using hr.pos⟩, fun _ _ => rfl, fun i k hi hk => (by rw [hr.dom i hi] at hk; cases hk),
    fun b hb' hn => setRow_other w l.block b c' (Ne.symm (hn id l r hl hrow hown)), f1, f2, f3, by rw [f4]; exact Nat.le_refl _, by simp, fun i hi hd => ?_⟩
  · rw [readRow_set hid] at hq
    split at hq
    · rename_i e'
      subst e'
      cases hq
      rw [hl] at hi
      cases hi
      exact ⟨c', e, (0, 0), setRow_heap w l.block c c' e (0, 0) hb, fun j v hv => by rw [hbase, Nat.zero_add]; exact hc j v hv, h3, fun _ => ⟨rfl, hbase, hsz.trans hcs, hesz⟩⟩
    · rename_i hne
      exact (hr.rows i k q hi hq).block (setRow_other w l.block k.block c' (Ne.symm (hr.inj id i l k r q hl hi hrow hq (Ne.symm hne) hown)))
  · have live : ∀ i q, readRow (H.set id (some { r with cells := cells })) i = some q → ∃ q', readRow H i = some q' := fun i q hq => by
      rw [readRow_set hid] at hq
      split at hq
      · rename_i e'; subst e'; exact ⟨r, hrow⟩
      · exact ⟨q, hq⟩
    obtain ⟨qi, hqi⟩ := live i ri hri
    obtain ⟨qj, hqj⟩ := live j rj hrj
    exact hr.inj i j li lj qi qj hi hj hqi hqj hne ho'
  · rw [readRow_set hid]
    split
    · rename_i e'; subst e'; rw [hrow] at hd; cases hd
    · exact hd
/-- A row that nobody reads any more. -/
theorem kill_rel {H : Heap} (hr : Rel ρ H w) {id : Nat} (hid : id < H.length) : Rel ρ (H.set id none) w := by
  have live : ∀ i q, readRow (H.set id none) i = some q → readRow H i = some q := fun i q hq => by
    rw [readRow_set hid] at hq
    split at hq
    · cases hq
    · exact hq
  exact ⟨fun i k q hi hq => hr.rows i k q hi (live i q hq), fun i j li lj ri rj hi hj hri hrj hne ho => hr.inj i j li lj ri rj hi hj (live i ri hri) (live j rj hrj) hne ho, hr.lt, fun i hi => hr.dom i (by simpa using hi), hr.zero, by simpa using hr.pos⟩
theorem kill_stp {H : Heap} (hr : Rel ρ H w) {id : Nat} (hid : id < H.length) : Stp ρ H w ρ (H.set id none) w :=
  ⟨kill_rel hr hid, fun _ _ => rfl, fun i k hi hk => (by rw [hr.dom i hi] at hk; cases hk), fun _ _ _ => rfl, rfl, rfl, rfl, Nat.le_refl _, by simp, fun i hi hd => by
    rw [readRow_set hid]
    split
    · rfl
    · exact hd⟩
/-- A draw turns nothing. -/
theorem drew_stp {H : Heap} (hr : Rel ρ H w) (n : Nat) : Stp ρ H w ρ H { w with drawn := n } :=
  ⟨⟨fun i l r hi hq => (hr.rows i l r hi hq).block rfl, hr.inj, hr.lt, hr.dom, hr.zero, hr.pos⟩, fun _ _ => rfl, fun i k hi hk => (by rw [hr.dom i hi] at hk; cases hk), fun _ _ _ => rfl, rfl, rfl, rfl, Nat.le_refl _, Nat.le_refl _, fun _ _ h => h⟩
end
end Go.Proofs.Ytmbikamebhoelaa.Ai
