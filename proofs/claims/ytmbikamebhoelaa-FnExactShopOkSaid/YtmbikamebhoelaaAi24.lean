/- From a world and arguments to the plain heap, and back behind the call. No condition. -/
import Derived.Test.YtmbikamebhoelaaAi23
import Derived.Deep.OwnRows
import Derived.WideKeyArgs
import Derived.RowKit
import Derived.ProofKit
import Derived.OpenShut
import Derived.ChangeSame
set_option linter.unusedVariables false
set_option linter.unusedSimpArgs false
namespace Go.Proofs.Ytmbikamebhoelaa.Ai
open Go

def absS (W : World) : Value → Value
  | .bool b => .bool b
  | .int k n => .int k n
  | .string s => .string s
  | .nilFunc => .nilFunc
  | .pointer none => .pointer none
  | .pointer (some ⟨b, off, none⟩) => if b < W.heap.size then pt (b + 1) off else opq
  | .slice none 0 0 => nilS
  | .slice (some _) 0 _ => if 0 < W.heap.size then sl 1 0 0 else opq
  | .slice (some ⟨b, off, none⟩) len cap => if b < W.heap.size ∧ len ≤ cap then sl (b + 1) off len else opq
  | _ => opq
def absV (W : World) : Value → Value
  | .agg cs => .agg (cs.map (absS W))
  | .tuple _ => opq
  | .func _ _ _ => opq
  | v => absS W v
def absRow (W : World) : Obj → Option Row
  | .cells c _ _ => some ⟨c.toList.map (absS W), 0, false⟩
  | _ => none
def absH (W : World) : Heap := none :: W.heap.toList.map (absRow W)
def rho0 (W : World) : Rho
  | 0 => none
  | b + 1 => if b < W.heap.size then some ⟨b, 0, false, 0, 0⟩ else none

theorem VS_opq {ρ : Rho} (v : Value) : VS ρ opq v := trivial
theorem rho0_at {W : World} {b : Nat} (h : b < W.heap.size) : rho0 W (b + 1) = some ⟨b, 0, false, 0, 0⟩ := by simp [rho0, h]
theorem absS_VS (W : World) (v : Value) : VS (rho0 W) (absS W v) v := by
  unfold absS
  split
  · rfl
  · rfl
  · rfl
  · rfl
  · rfl
  · rename_i b off
    split
    · rename_i h; exact ⟨rfl, _, rho0_at h, by simp⟩
    · exact VS_opq _
  · exact ⟨rfl, rfl, .inl ⟨rfl, rfl, rfl, rfl⟩⟩
  · rename_i a cap
    split
    · rename_i h
      exact ⟨rfl, rfl, .inr ⟨Nat.one_ne_zero, _, rho0_at (b := 0) h, _, _, rfl, Nat.zero_le _, fun h => absurd h (Nat.lt_irrefl 0), fun h => by cases h⟩⟩
    · exact VS_opq _
  · rename_i b off len cap _
    split
    · rename_i h
      exact ⟨rfl, rfl, .inr ⟨Nat.succ_ne_zero b, _, rho0_at h.1, _, _, rfl, h.2, fun _ => by simp, fun h => by cases h⟩⟩
    · exact VS_opq _
  · exact VS_opq _
theorem absV_V (W : World) (v : Value) : V (rho0 W) (absV W v) v := by
  unfold absV
  split
  · rename_i cs
    refine ⟨cs, rfl, All2.of_get (by simp) fun i a hi => ?_⟩
    simp at hi
    obtain ⟨v, h1, h2⟩ := hi
    exact ⟨v, by simpa using h1, by rw [← h2]; exact absS_VS W v⟩
  · exact .of_VS (VS_opq _)
  · exact .of_VS (VS_opq _)
  · exact .of_VS (absS_VS W _)
theorem readRow_absH {W : World} {b : Nat} : readRow (absH W) (b + 1) = (W.heap[b]?).bind (absRow W) := by
  unfold readRow absH
  simp only [List.getElem?_cons_succ, List.getElem?_map, Array.getElem?_toList]
  cases W.heap[b]? <;> rfl
theorem rel0 (W : World) : Rel (rho0 W) (absH W) W := by
  refine ⟨fun id l r hl hr => ?_, fun i j li lj ri rj hi hj hri hrj hne ho => ?_, fun id l hl => ?_, fun id hid => ?_, rfl, by simp [absH]⟩
  · cases id with
    | zero => cases hl
    | succ b =>
      simp only [rho0] at hl
      split at hl
      · cases hl
        rw [readRow_absH] at hr
        cases hb : W.heap[b]? with
        | none => rw [hb] at hr; cases hr
        | some o =>
          rw [hb] at hr
          simp only [Option.bind_some, absRow] at hr
          split at hr
          · rename_i c e fr
            cases hr
            refine ⟨c, e, fr, hb, fun j v hv => ?_, rfl, fun h => by cases h⟩
            simp at hv
            obtain ⟨v', h1, h2⟩ := hv
            exact ⟨v', by simpa using h1, by rw [← h2]; exact absS_VS W v'⟩
          · cases hr
      · cases hl
  · cases i with
    | zero => cases hi
    | succ b =>
      simp only [rho0] at hi
      split at hi
      · cases hi; cases ho
      · cases hi
  · cases id with
    | zero => cases hl
    | succ b =>
      simp only [rho0] at hl
      split at hl
      · cases hl; assumption
      · cases hl
  · cases id with
    | zero => rfl
    | succ b =>
      have : W.heap.size ≤ b := by simp [absH] at hid; omega
      simp only [rho0]; rw [if_neg (by omega)]
/-- A law's run: where the walk over the plain heap says true, the machine's call returns true and has written to nothing that was there. -/
theorem enter {P : Program} (hm : P.follows .mixedOrders = true) {X : FuncId → List Value → Value → Prop} (hX : ∀ f args v, X f args v → ∀ H, SimCall P f args H v H) {f : FuncId} (W : World) (args : Array Value)
    (h : wpF P X f (args.toList.map (absV W)) (absH W) (fun v _ => v = .bool true)) : Calls P f args W fun e W' => e = .returned (.bool true) ∧ World.Since W.heap.size W W' := by
  refine (calls_of_wpF hm hX h (rel0 W) (args' := args) ?_).mono ?_
  · refine All2.of_get (by simp) fun i a hi => ?_
    simp at hi
    obtain ⟨v, h1, h2⟩ := hi
    exact ⟨v, by simpa using h1, by rw [← h2]; exact absV_V W v⟩
  · rintro e W' ⟨v, v', H', ρ', rfl, rfl, hs, hv⟩
    have hv : v' = .bool true := hv
    subst hv
    refine ⟨rfl, hs.os, hs.tape, hs.output, hs.size, fun k hk => hs.frame k hk fun i li ri h1 h2 h3 => ?_⟩
    exfalso
    cases i with
    | zero => cases h1
    | succ b =>
      simp only [rho0] at h1
      split at h1
      · cases h1; cases h3
      · cases h1
theorem relNone (W : World) : Rel (fun _ => none) [none] W := ⟨fun _ _ _ h => (by cases h), fun _ _ _ _ _ _ h => (by cases h), fun _ _ h => (by cases h), fun _ _ => rfl, rfl, by simp⟩
/-- A law's run from no memory at all: its arguments are numbers, texts and the like. -/
theorem enter0 {P : Program} (hm : P.follows .mixedOrders = true) {X : FuncId → List Value → Value → Prop} (hX : ∀ f args v, X f args v → ∀ H, SimCall P f args H v H) {f : FuncId} (W : World) (args : Array Value) (ha : All2 (V fun _ => none) args.toList args.toList)
    (h : wpF P X f args.toList [none] (fun v _ => v = .bool true)) : Calls P f args W fun e W' => e = .returned (.bool true) ∧ World.Since W.heap.size W W' := by
  refine (calls_of_wpF hm hX h (relNone W) (args' := args) ha).mono ?_
  rintro e W' ⟨v, v', H', ρ', rfl, rfl, hs, hv⟩
  have hv : v' = .bool true := hv
  subst hv
  exact ⟨rfl, hs.os, hs.tape, hs.output, hs.size, fun k hk => hs.frame k hk fun i li ri h1 h2 h3 => by cases h1⟩
end Go.Proofs.Ytmbikamebhoelaa.Ai
