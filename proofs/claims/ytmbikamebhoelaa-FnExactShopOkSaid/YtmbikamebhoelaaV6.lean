/- Words for the walks over data. No condition. -/
import Derived.Test.YtmbikamebhoelaaV5
import Derived.Test.YtmbikamebhoelaaE0
import Derived.IntWalk
set_option linter.unusedVariables false
set_option linter.unusedSimpArgs false
namespace Go.Proofs.Ytmbikamebhoelaa.Ai.Av
open Go

theorem ba_beq (a b : ByteArray) : (a == b) = (a.data == b.data) := rfl
instance : LawfulBEq ByteArray where
  eq_of_beq {a b} h := by
    rw [ba_beq] at h
    cases a; cases b
    simp_all
  rfl {a} := by
    rw [ba_beq]; simp

mutual
def noRef : D → Bool
  | .int _ _ => true
  | .bool _ => true
  | .str _ => true
  | .nil => true
  | .sl _ _ => true
  | .ref _ _ _ => false
  | .ptr _ _ => false
  | .vp _ => true
  | .agg cs => noRefs cs
  | .tup cs => noRefs cs
  | .fn _ cs => noRefs cs
  | .nilf => true
  | .any => true
def noRefs : List D → Bool
  | [] => true
  | d :: ds => noRef d && noRefs ds
end
mutual
theorem noRef_ok : ∀ {d : D}, noRef d = true → NoRef d ∧ Imm d
  | .int k n, _ => ⟨.int k n, fun f => by simp only [D.ren]⟩
  | .bool b, _ => ⟨.bool b, fun f => by simp only [D.ren]⟩
  | .str s, _ => ⟨.str s, fun f => by simp only [D.ren]⟩
  | .nil, _ => ⟨.nil, fun f => by simp only [D.ren]⟩
  | .sl w rows, _ => ⟨.sl w rows, fun f => by simp only [D.ren]⟩
  | .ref _ _ _, h => by simp [noRef] at h
  | .ptr _ _, h => by simp [noRef] at h
  | .vp cs, _ => ⟨.vp cs, fun f => by simp only [D.ren]⟩
  | .agg cs, h => by
    simp only [noRef] at h
    obtain ⟨h1, h2⟩ := noRefs_ok h
    exact ⟨.agg h1, fun f => by simp only [D.ren, h2 f]⟩
  | .tup cs, h => by
    simp only [noRef] at h
    obtain ⟨h1, h2⟩ := noRefs_ok h
    exact ⟨.tup h1, fun f => by simp only [D.ren, h2 f]⟩
  | .fn g cs, h => by
    simp only [noRef] at h
    obtain ⟨h1, h2⟩ := noRefs_ok h
    refine ⟨fun c c' H v hz k => ?_, fun f => by simp only [D.ren, h2 f]⟩
    simp only [RD] at k ⊢
    obtain ⟨vs, rfl, k⟩ := k
    exact ⟨vs, rfl, NoRef.cells hz h1 k⟩
  | .nilf, _ => ⟨.nilf, fun f => by simp only [D.ren]⟩
  | .any, _ => ⟨.any, fun f => by simp only [D.ren]⟩
theorem noRefs_ok : ∀ {ds : List D}, noRefs ds = true → (∀ d ∈ ds, NoRef d) ∧ ∀ f, renL f ds = ds
  | [], _ => ⟨by simp, fun f => by simp only [renL]⟩
  | d :: ds, h => by
    simp only [noRefs, Bool.and_eq_true] at h
    obtain ⟨h1, h2⟩ := noRef_ok h.1
    obtain ⟨h3, h4⟩ := noRefs_ok h.2
    refine ⟨fun x hx => ?_, fun f => by simp only [renL, h2 f, h4 f]⟩
    simp only [List.mem_cons] at hx
    rcases hx with rfl | hx
    · exact h1
    · exact h3 x hx
end
section
variable {P : Program} {X : FuncId → List Value → Value → Prop}
theorem Pu.go {f : FuncId} {ds : List D} {d : D} {hv : HV} {Q : D → HV → Prop} (h : Pu P X f ds d) (hd : noRefs ds = true) (hi : noRef d = true) (q : Q d hv) : VF P X f ds hv Q :=
  h.call (RNL.same (noRefs_ok hd).1) (noRef_ok hi).2 q
theorem Pu.goLe {f : FuncId} {ds es : List D} {d : D} {hv : HV} {Q : D → HV → Prop} (h : Pu P X f es d) (hd : RNL [] ds es) (hi : noRef d = true) (q : Q d hv) : VF P X f ds hv Q :=
  h.callLe hd (noRef_ok hi).2 q
theorem RN.im {keep : List Nat} {d : D} (h : noRef d = true) : RN keep d d := .same (noRef_ok h).1
theorem RN.eq {keep : List Nat} {d d' : D} (h : d = d') (hn : noRef d' = true) : RN keep d d' := by subst h; exact .im hn
theorem RN.int {keep : List Nat} {k : IntKind} {a b : Int} (h : a = b) : RN keep (.int k a) (.int k b) := by subst h; exact .im rfl
theorem RN.nil {keep : List Nat} (w : Nat) : RN keep .nil (.sl w []) := .le .nil (.nil w)
theorem RNL.im {keep : List Nat} {ds : List D} (h : noRefs ds = true) : RNL keep ds ds := .same (noRefs_ok h).1
/-- The function's body, from no rows. -/
theorem Pu.body {f : FuncId} {fn : Func} {code : Code} {rs : List ResultVar} {ds : List D} {d : D} (hf : P.funcs[f]? = some fn) (hb : fn.body = some code) (hr : fn.results.toList = rs) (hk : okFunc fn = true) (hn : ds.length ≤ fn.ntmps)
    (h : VC P X 0 code (initV ds) [] (atEndV P rs (fun s hv' => Deep 0 hv' d s))) : Pu P X f ds d := .of (VF_body hf hb hr hk hn h)
theorem VF.body0 {f : FuncId} {fn : Func} {code : Code} {rs : List ResultVar} {ds : List D} {Q : D → HV → Prop} (hf : P.funcs[f]? = some fn) (hb : fn.body = some code) (hr : fn.results.toList = rs) (hk : okFunc fn = true) (hn : ds.length ≤ fn.ntmps)
    (h : VC P X 0 code (initV ds) [] (atEndV P rs Q)) : VF P X f ds [] Q := VF_body hf hb hr hk hn h
theorem deep_bool_eq (n0 : Nat) (hv : HV) (b : Bool) (s : D) : Deep n0 hv (.bool b) s = (s = .bool b) := by simp only [Deep]
theorem deep_int_eq (n0 : Nat) (hv : HV) (k : IntKind) (n : Int) (s : D) : Deep n0 hv (.int k n) s = (s = .int k n) := by simp only [Deep]
theorem deep_str_eq (n0 : Nat) (hv : HV) (b : ByteArray) (s : D) : Deep n0 hv (.str b) s = (s = .str b) := by simp only [Deep]
theorem deep_int (n0 : Nat) (hv : HV) (k : IntKind) (n : Int) : Deep n0 hv (.int k n) (.int k n) := by simp only [Deep]
theorem deep_bool (n0 : Nat) (hv : HV) (b : Bool) : Deep n0 hv (.bool b) (.bool b) := by simp only [Deep]
theorem deep_str (n0 : Nat) (hv : HV) (b : ByteArray) : Deep n0 hv (.str b) (.str b) := by simp only [Deep]
theorem deep_sl (n0 : Nat) (hv : HV) (w : Nat) (r : List (List D)) : Deep n0 hv (.sl w r) (.sl w r) := by simp only [Deep]; exact .inl trivial
theorem deep_agg {n0 : Nat} {hv : HV} {a b : List D} (h : DeepCells n0 hv a b) : Deep n0 hv (.agg a) (.agg b) := by simp only [Deep]; exact ⟨b, rfl, h⟩
theorem deep_tup {n0 : Nat} {hv : HV} {a b : List D} (h : DeepCells n0 hv a b) : Deep n0 hv (.tup a) (.tup b) := by simp only [Deep]; exact ⟨b, rfl, h⟩
theorem deepc_nil (n0 : Nat) (hv : HV) : DeepCells n0 hv [] [] := by simp only [DeepCells]
theorem deepc_cons {n0 : Nat} {hv : HV} {d s : D} {ds ss : List D} (h : Deep n0 hv d s) (k : DeepCells n0 hv ds ss) : DeepCells n0 hv (d :: ds) (s :: ss) := by simp only [DeepCells]; exact ⟨s, ss, rfl, h, k⟩
end
theorem flat_len {w : Nat} : ∀ {rows : List (List D)}, (∀ r ∈ rows, r.length = w) → rows.flatten.length = rows.length * w
  | [], _ => by simp
  | r :: rs, h => by
    rw [List.flatten_cons, List.length_append, flat_len (fun x hx => h x (by simp [hx])), h r (by simp), List.length_cons, Nat.succ_mul]; omega
mutual
/-- Data alone, without rows, is its own. -/
theorem deep_im {n0 : Nat} {hv : HV} : ∀ {d : D}, noRef d = true → Deep n0 hv d d
  | .int k n, _ => by simp only [Deep]
  | .bool b, _ => by simp only [Deep]
  | .str s, _ => by simp only [Deep]
  | .nil, _ => by simp only [Deep]
  | .sl w rows, _ => deep_sl _ _ _ _
  | .ref _ _ _, h => by simp [noRef] at h
  | .ptr _ _, h => by simp [noRef] at h
  | .vp cs, _ => by simp only [Deep]
  | .agg cs, h => by
    simp only [noRef] at h
    exact deep_agg (deepc_im h)
  | .tup cs, h => by
    simp only [noRef] at h
    exact deep_tup (deepc_im h)
  | .fn g cs, h => by
    simp only [noRef] at h
    simp only [Deep]
    exact ⟨cs, rfl, deepc_im h⟩
  | .nilf, _ => by simp only [Deep]
  | .any, _ => by simp only [Deep]
theorem deepc_im {n0 : Nat} {hv : HV} : ∀ {ds : List D}, noRefs ds = true → DeepCells n0 hv ds ds
  | [], _ => deepc_nil _ _
  | d :: ds, h => by
    simp only [noRefs, Bool.and_eq_true] at h
    exact deepc_cons (deep_im h.1) (deepc_im h.2)
end
theorem deep_rows {n0 w : Nat} {hv : HV} : ∀ {rows : List (List D)} (b : List D), (∀ r ∈ rows, r.length = w ∧ noRefs r = true) → DeepRows n0 hv w rows (rows.flatten ++ b)
  | [], b, _ => by simp only [DeepRows]
  | r :: rs, b, h => by
    simp only [DeepRows, List.flatten_cons, List.append_assoc]
    exact ⟨r, rs.flatten ++ b, rfl, (h r (by simp)).1, deepc_im (h r (by simp)).2, deep_rows b fun x hx => h x (by simp [hx])⟩
theorem nr_app {a b : List D} (h : noRefs a = true) (k : noRefs b = true) : noRefs (a ++ b) = true := by
  induction a with
  | nil => exact k
  | cons x a ih => simp only [noRefs, List.cons_append, Bool.and_eq_true] at h ⊢; exact ⟨h.1, ih h.2⟩
theorem nr_map {α : Type} {f : α → List D} (h : ∀ x, noRefs (f x) = true) : ∀ xs : List α, noRefs (xs.map f).flatten = true
  | [] => rfl
  | x :: xs => by rw [List.map_cons, List.flatten_cons]; exact nr_app (h x) (nr_map h xs)
theorem nr_rep {z : List D} (h : noRefs z = true) : ∀ n, noRefs (List.replicate n z).flatten = true
  | 0 => rfl
  | n + 1 => by rw [List.replicate_succ, List.flatten_cons]; exact nr_app h (nr_rep h n)
theorem RNL.eq {keep : List Nat} {ds es : List D} (h : ds = es) (hn : noRefs es = true) : RNL keep ds es := by subst h; exact .im hn
/-- One row of many written. -/
theorem splice_mid {a m b xs : List D} {i : Nat} (ha : a.length = i) (hm : m.length = xs.length) : spliceV (a ++ (m ++ b)) i xs = a ++ (xs ++ b) := by
  unfold spliceV
  rw [List.take_left' ha, List.drop_append, List.drop_eq_nil_of_le (by omega), List.nil_append, List.append_assoc]
  congr 2
  rw [show i + xs.length - a.length = m.length by omega, List.drop_left]
theorem store_row {α : Type} (enc : α → List D) (z : List D) {da : List α} {x : α} {i n w : Nat} (hd : (da.map enc).flatten.length = i * w) (hz : z.length = (enc x).length) :
    spliceV ((da.map enc).flatten ++ (z ++ (List.replicate n z).flatten)) (i * w) (enc x) = ((da ++ [x]).map enc).flatten ++ (List.replicate n z).flatten := by
  rw [splice_mid hd hz]; simp
/-- A row of a list's data. -/
theorem deep_list {n0 w id len : Nat} {hv : HV} {rows : List (List D)} {e : Nat} (hl : len = rows.length) (hr : readV hv id = some ⟨rows.flatten, e⟩) (hw : ∀ r ∈ rows, r.length = w ∧ noRefs r = true) (hn : n0 ≤ id) : Deep n0 hv (.sl w rows) (.ref id 0 len) := by
  subst hl
  simp only [Deep]
  refine .inr (.inr ⟨id, 0, _, hn, rfl, hr, ?_⟩)
  have := deep_rows (n0 := n0) (hv := hv) [] hw
  simpa using this
/-- A call, where the operation is one. -/
def callGoV (P : Program) (X : FuncId → List Value → Value → Prop) (r : Option (FuncId × List D)) (hv : HV) (K : D → HV → Prop) : Prop :=
  match r with
  | some (f, ds) => VF P X f ds hv K
  | none => False
theorem callGoV_some (P : Program) (X : FuncId → List Value → Value → Prop) (f : FuncId) (ds : List D) (hv : HV) (K : D → HV → Prop) : callGoV P X (some (f, ds)) hv K = VF P X f ds hv K := rfl
section
variable {P : Program} {X : FuncId → List Value → Value → Prop} {n0 : Nat} {all : Array Oper} {o : Oper} {rest : List Oper} {fv : FrV} {hv : HV}
theorem VO_go {K : FrV → HV → Prop} (hg : o.guard = none)
    (h : ∀ K' : FrV → HV → Prop, (∀ fv hv, VO P X n0 all rest fv hv K → K' fv hv) → callGoV P X (calleeV (evV fv) o.op) hv (fun d hv1 => K' (fv.put o.dst d) hv1)) : VO P X n0 all (o :: rest) fv hv K := by
  have h1 := h _ (fun _ _ h => h)
  cases hc : calleeV (evV fv) o.op with
  | none => rw [hc] at h1; exact h1.elim
  | some r => obtain ⟨f, ds⟩ := r; rw [hc] at h1; exact VO_call (by simp [guardV, hg]) hc h1
end
def isCallV : Op → Bool
  | .call { callee := .value _, .. } => true
  | _ => false
section
variable {P : Program} {X : FuncId → List Value → Value → Prop} {n0 : Nat} {all : Array Oper} {o : Oper} {rest : List Oper} {fv : FrV} {hv : HV}
theorem VO_stepP {K : FrV → HV → Prop} (hg : o.guard = none) (_ : isCallV o.op = false)
    (h : ∀ K' : FrV → HV → Prop, (∀ fv hv, VO P X n0 all rest fv hv K → K' fv hv) → primGoV (primV P (evV fv) o.op hv) (fun d hv1 => K' (fv.put o.dst d) hv1)) : VO P X n0 all (o :: rest) fv hv K := VO_step hg h
/-- A guard's two ways. -/
def guardGo (d : D) (want : Bool) (A B : Prop) : Prop :=
  match d with
  | .bool b => (b = want → A) ∧ (b = !want → B)
  | .tup [] => B
  | _ => False
theorem guardGo_bool (b want : Bool) (A B : Prop) : guardGo (.bool b) want A B = ((b = want → A) ∧ (b = !want → B)) := rfl
theorem guardGo_undef (want : Bool) (A B : Prop) : guardGo (.tup []) want A B = B := rfl
theorem VO_guardP {K : FrV → HV → Prop} {j : Nat} {want : Bool} {t : Tmp} (hg : o.guard = some (j, want)) (ht : (all[j]?).bind (·.dst) = some t) (_ : isCallV o.op = false)
    (h : ∀ K' : FrV → HV → Prop, (∀ fv hv, VO P X n0 all rest fv hv K → K' fv hv) → guardGo (fv t) want (primGoV (primV P (evV fv) o.op hv) (fun d hv1 => K' (fv.put o.dst d) hv1)) (K' (fv.put o.dst undefV) hv)) : VO P X n0 all (o :: rest) fv hv K := by
  have h1 := h _ (fun _ _ h => h)
  unfold guardGo at h1
  split at h1
  · rename_i b hb
    exact VO_guard hg ht hb fun K' hK' => ⟨fun e => by have := (h K' hK'); rw [hb] at this; exact this.1 e, fun e => by have := (h K' hK'); rw [hb] at this; exact this.2 (by cases b <;> cases want <;> simp_all)⟩
  · rename_i hb
    exact VO_guardU hg ht hb fun K' hK' => by have := (h K' hK'); rw [hb] at this; exact this
  · exact h1.elim
end
section
variable {P : Program} {X : FuncId → List Value → Value → Prop} {n0 : Nat} {fv : FrV} {hv : HV}
def condGo (d : D) (A B : Prop) : Prop :=
  match d with
  | .bool b => (b = true → A) ∧ (b = false → B)
  | _ => False
theorem condGo_bool (b : Bool) (A B : Prop) : condGo (.bool b) A B = ((b = true → A) ∧ (b = false → B)) := rfl
theorem VC_if {x : Operand} {a d : Code} {Q : Ex → FrV → HV → Prop}
    (h : ∀ K' : Bool → Prop, (∀ b, VC P X n0 (cond b a d) fv hv Q → K' b) → condGo (evV fv x) (K' true) (K' false)) : VC P X n0 (.cond x a d) fv hv Q := by
  have h1 := h (fun b => VC P X n0 (cond b a d) fv hv Q) (fun _ h => h)
  unfold condGo at h1
  split at h1
  · rename_i b hb; exact VC_cond hb h1.1 h1.2
  · exact h1.elim
def resGo (r : Option (List D)) (hv : HV) (Q : D → HV → Prop) : Prop :=
  match r with
  | some ds => dflats ds = true ∧ Q (tupledV ds) hv
  | none => False
theorem resGo_some (ds : List D) (hv : HV) (Q : D → HV → Prop) : resGo (some ds) hv Q = (dflats ds = true ∧ Q (tupledV ds) hv) := rfl
theorem atEndV_r {rs : List ResultVar} {Q : D → HV → Prop} (h : resGo (resultsV P rs fv hv) hv Q) : atEndV P rs Q .ret fv hv := by
  rw [atEndV_ret]
  unfold resGo at h
  split at h
  · rename_i ds e; exact ⟨ds, e, h⟩
  · exact h.elim
theorem atEndV_n {rs : List ResultVar} {Q : D → HV → Prop} (h : resGo (resultsV P rs fv hv) hv Q) : atEndV P rs Q .normal fv hv := by
  have := atEndV_r h
  rw [atEndV_ret] at this
  exact this
end
theorem drop_cons {α : Type} {l : List α} {i : Nat} {x : α} {r : List α} (h : l.drop i = x :: r) : l[i]? = some x ∧ l.drop (i + 1) = r ∧ i < l.length := by
  have h1 : i < l.length := by
    rcases Nat.lt_or_ge i l.length with q | q
    · exact q
    · rw [List.drop_eq_nil_of_le q] at h; cases h
  rw [List.drop_eq_getElem_cons h1] at h
  cases h
  exact ⟨List.getElem?_eq_getElem h1, rfl, h1⟩
theorem drop_nil {α : Type} {l : List α} {i : Nat} (h : l.drop i = []) : l.length ≤ i := List.drop_eq_nil_iff.1 h
theorem splice_nil (off : Nat) (xs : List D) : spliceV [] off xs = xs := by simp [spliceV]
theorem splice_0 (c : D) (cs : List D) (x : D) : spliceV (c :: cs) 0 [x] = x :: cs := by simp [spliceV]
theorem splice_00 (cs : List D) : spliceV cs 0 [] = cs := by simp [spliceV]
theorem splice_0s (c : D) (cs : List D) (x : D) (xs : List D) : spliceV (c :: cs) 0 (x :: xs) = x :: spliceV cs 0 xs := by simp [spliceV, Nat.add_comm]
theorem splice_s (c : D) (cs : List D) (n : Nat) (xs : List D) : spliceV (c :: cs) (n + 1) xs = c :: spliceV cs n xs := by simp [spliceV, Nat.add_right_comm]
theorem idx_map {α : Type} (f : α → List D) (xs : List α) (i : Nat) : (xs.map f)[i]? = (xs[i]?).map f := List.getElem?_map

attribute [go_sem] and_true true_and and_self List.cons_append List.nil_append List.length_cons List.length_nil List.set_cons_zero List.set_cons_succ idx_map Int.toNat_natCast Int.toNat_zero Int.toNat_one Int.natCast_nonneg Int.le_refl Option.map_some Option.bind_some decide_true decide_false Bool.false_eq_true eq_self true_implies false_implies implies_true Bool.not_true Bool.not_false List.length_map IntWalk.i64_in IntWalk.u8_in if_pos beq_self_eq_true splice_0s splice_00 splice_s guardGo_bool guardGo_undef condGo_bool resGo_some primV evV putV_some putV_none initV primGoV_some callGoV_some calleeV dcells dscalar loadV storeV partV binV unV fieldAddrV fieldV indexAddrV indexV builtinV lenV makeFuncV dof dof1 undefV
  readV newV setV killV sliceV boundV appendV copyV makeSliceV buildSliceV buildV fillV zeroCellsV zerosV dlen cellsAtV min2V max2V dflat1 dval
  resultsV dflats tupledV dflat List.getElem?_cons_zero List.getElem?_cons_succ Option.join_some
end Go.Proofs.Ytmbikamebhoelaa.Ai.Av
