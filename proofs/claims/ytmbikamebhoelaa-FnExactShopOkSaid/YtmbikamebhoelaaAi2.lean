/- The walk's own laws: reading and writing rows, one operation at a time. No condition. -/
import Derived.Test.YtmbikamebhoelaaAi1
import Derived.Tactics
import Derived.KernelRfl
set_option linter.unusedVariables false
set_option linter.unusedSimpArgs false
namespace Go.Proofs.Ytmbikamebhoelaa.Ai
open Go

/-! ### Rows, read behind new ones and written ones -/
def setA (H : Heap) (id : Nat) (r : Row) : Heap := H.set id (some r)
theorem set_eq_setA (H : Heap) (id : Nat) (r : Row) : H.set id (some r) = setA H id r := rfl
theorem readRow_new_lt {H : Heap} {c : List Value} {e id : Nat} (h : id < H.length) : readRow (newA H c e) id = readRow H id := by
  simp [readRow, newA, List.getElem?_append_left h]
theorem readRow_new_eq {H : Heap} {c : List Value} {e id : Nat} (h : id = H.length) : readRow (newA H c e) id = some ⟨c, e, true⟩ := by
  subst h; simp [readRow, newA]
theorem length_newA (H : Heap) (c : List Value) (e : Nat) : (newA H c e).length = H.length + 1 := by simp [newA]
theorem length_setA (H : Heap) (id : Nat) (r : Row) : (setA H id r).length = H.length := by simp [setA]
theorem readRow_set_ne {H : Heap} {r : Row} {id i : Nat} (h : id ≠ i) : readRow (setA H i r) id = readRow H id := by
  simp [readRow, setA, List.getElem?_set_ne (Ne.symm h)]
theorem readRow_set_eq {H : Heap} {r : Row} {id i : Nat} (h : id = i) (hl : i < H.length) : readRow (setA H i r) id = some r := by
  subst h; simp [readRow, setA, hl]

/-! ### One operation at a time -/
def primGo (r : Option (Value × Heap)) (K : Value → Heap → Prop) : Prop :=
  match r with
  | some (v, H) => K v H
  | none => False
theorem primGo_some (v : Value) (H : Heap) (K : Value → Heap → Prop) : primGo (some (v, H)) K = K v H := rfl
theorem put_some (fr : Fr) (d : Nat) (v : Value) (t : Nat) : Fr.put fr (some d) v t = if t = d then v else fr t := rfl
theorem put_none (fr : Fr) (v : Value) : Fr.put fr none v = fr := rfl
section
variable {P : Program} {X : FuncId → List Value → Value → Prop} {all : Array Oper} {o : Oper} {rest : List Oper} {fr : Fr} {H : Heap}
theorem wpO_step {K : Fr → Heap → Prop} (hg : o.guard = none)
    (h : ∀ K' : Fr → Heap → Prop, (∀ fr H, wpO P X all rest fr H K → K' fr H) → primGo (primA P (ev fr) o.op H) (fun v H₁ => K' (fr.put o.dst v) H₁)) : wpO P X all (o :: rest) fr H K := by
  have h1 := h _ (fun _ _ h => h)
  have hw : guardA all fr o = some true := by simp [guardA, hg]
  cases hp : primA P (ev fr) o.op H with
  | none => rw [hp] at h1; exact h1.elim
  | some r => obtain ⟨v, H₁⟩ := r; rw [hp] at h1; exact wpO_prim hw hp h1
/-- A guarded operation. -/
theorem wpO_guard {K : Fr → Heap → Prop} {j : Nat} {want : Bool} {t : Tmp} {b : Bool} (hg : o.guard = some (j, want)) (ht : (all[j]?).bind (·.dst) = some t) (hb : fr t = .bool b)
    (h : ∀ K' : Fr → Heap → Prop, (∀ fr H, wpO P X all rest fr H K → K' fr H) → if b = want then primGo (primA P (ev fr) o.op H) (fun v H₁ => K' (fr.put o.dst v) H₁) else K' (fr.put o.dst undef) H) : wpO P X all (o :: rest) fr H K := by
  have h1 := h _ (fun _ _ h => h)
  have hw : guardA all fr o = some (b == want) := by simp only [guardA, hg, ht, hb]
  split at h1
  · rename_i e
    subst e
    cases hp : primA P (ev fr) o.op H with
    | none => rw [hp] at h1; exact h1.elim
    | some r => obtain ⟨v, H₁⟩ := r; rw [hp] at h1; exact wpO_prim (by rw [hw]; simp) hp h1
  · rename_i e
    exact wpO_pass (by rw [hw]; simpa using e) h1
/-- A guarded operation whose guard itself was passed over. -/
theorem wpO_guardU {K : Fr → Heap → Prop} {j : Nat} {want : Bool} {t : Tmp} (hg : o.guard = some (j, want)) (ht : (all[j]?).bind (·.dst) = some t) (hb : fr t = undef)
    (h : ∀ K' : Fr → Heap → Prop, (∀ fr H, wpO P X all rest fr H K → K' fr H) → K' (fr.put o.dst undef) H) : wpO P X all (o :: rest) fr H K :=
  wpO_pass (by simp only [guardA, hg, ht, hb]; rfl) (h _ (fun _ _ h => h))
theorem wpO_invoke {K : Fr → Heap → Prop} {f : FuncId} {args : List Value} (hg : o.guard = none) (hc : calleeA (ev fr) o.op = some (f, args))
    (h : ∀ K' : Fr → Heap → Prop, (∀ fr H, wpO P X all rest fr H K → K' fr H) → wpF P X f args H (fun v H₁ => K' (fr.put o.dst v) H₁)) : wpO P X all (o :: rest) fr H K :=
  wpO_call (by simp [guardA, hg]) hc (h _ (fun _ _ h => h))
theorem wpO_invokeG {K : Fr → Heap → Prop} {j : Nat} {want : Bool} {t : Tmp} {b : Bool} {f : FuncId} {args : List Value} (hg : o.guard = some (j, want)) (ht : (all[j]?).bind (·.dst) = some t) (hb : fr t = .bool b) (hc : b = want → calleeA (ev fr) o.op = some (f, args))
    (h : ∀ K' : Fr → Heap → Prop, (∀ fr H, wpO P X all rest fr H K → K' fr H) → if b = want then wpF P X f args H (fun v H₁ => K' (fr.put o.dst v) H₁) else K' (fr.put o.dst undef) H) : wpO P X all (o :: rest) fr H K := by
  have h1 := h _ (fun _ _ h => h)
  have hw : guardA all fr o = some (b == want) := by simp only [guardA, hg, ht, hb]
  split at h1
  · rename_i e
    exact wpO_call (by rw [hw, e]; simp) (hc e) h1
  · rename_i e
    exact wpO_pass (by rw [hw]; simpa using e) h1
end
theorem atEnd_ret (P : Program) (rs : List ResultVar) (Q : Value → Heap → Prop) (fr : Fr) (H : Heap) : atEnd P rs Q .ret fr H = ∃ vs, resultsA P rs fr H = some vs ∧ flats vs = true ∧ Q (tupled vs) H := rfl
theorem atEnd_normal (P : Program) (rs : List ResultVar) (Q : Value → Heap → Prop) (fr : Fr) (H : Heap) : atEnd P rs Q .normal fr H = ∃ vs, resultsA P rs fr H = some vs ∧ flats vs = true ∧ Q (tupled vs) H := rfl
theorem andThen_def (K : Fr → Heap → Prop) (Q : Ex → Fr → Heap → Prop) (fr : Fr) (H : Heap) : andThen K Q .normal fr H = K fr H := rfl

/-! ### What the heap behind a call is to the one ahead of it -/
/-- All rows that were there are as they were. -/
structure Ext (H H' : Heap) : Prop where
  len : H.length ≤ H'.length
  row : ∀ id, id < H.length → H'[id]? = H[id]?
theorem Ext.refl (H : Heap) : Ext H H := ⟨Nat.le_refl _, fun _ _ => rfl⟩
theorem Ext.trans {A B C : Heap} (h : Ext A B) (k : Ext B C) : Ext A C := ⟨Nat.le_trans h.len k.len, fun id hi => (k.row id (Nat.lt_of_lt_of_le hi h.len)).trans (h.row id hi)⟩
theorem Ext.new {A B : Heap} (h : Ext A B) (c : List Value) (e : Nat) : Ext A (newA B c e) := h.trans ⟨by simp [newA], fun id hi => by simp [newA, List.getElem?_append_left hi]⟩
theorem Ext.set {A B : Heap} (h : Ext A B) {i : Nat} (hi : A.length ≤ i) (r : Row) : Ext A (setA B i r) :=
  ⟨by rw [length_setA]; exact h.len, fun id hid => by rw [← h.row id hid]; simp [setA, List.getElem?_set_ne (show i ≠ id by omega)]⟩
theorem Ext.kill {A B : Heap} (h : Ext A B) {i : Nat} (hi : A.length ≤ i) : Ext A (B.set i none) :=
  ⟨by simpa using h.len, fun id hid => by rw [← h.row id hid]; simp [List.getElem?_set_ne (show i ≠ id by omega)]⟩
theorem Ext.read {A B : Heap} (h : Ext A B) {id : Nat} (hi : id < A.length) : readRow B id = readRow A id := by simp [readRow, h.row id hi]

attribute [go_sem] makeFuncA primA ev put_some put_none initFr primGo_some List.getD_cons_zero List.getD_cons_succ List.getD_nil cellsOf Value.cells nv nv1 loadA storeA partOf binA intA cmpA unA fieldAddrA indexAddrA builtinA lenA
  List.all_cons List.all_nil scalar Bool.and_true Bool.true_and Bool.and_self Option.map_some Option.bind_some Option.bind_eq_bind length_newA length_setA readRow_new_lt readRow_new_eq readRow_set_ne readRow_set_eq set_eq_setA
  List.length_cons List.length_nil List.getElem?_cons_zero List.getElem?_cons_succ splice List.take_zero List.take_succ_cons List.drop_zero List.drop_succ_cons List.nil_append List.cons_append List.append_nil Nat.zero_add Nat.add_zero pt
  List.map_cons List.map_nil List.drop_nil List.take_nil resultsA tupled flats flat List.map_toArray
end Go.Proofs.Ytmbikamebhoelaa.Ai
