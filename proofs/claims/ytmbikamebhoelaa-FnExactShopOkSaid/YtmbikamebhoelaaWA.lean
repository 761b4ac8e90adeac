/- Walks, joined from W4, W5, W6, W7, W8. No condition. -/
import Derived.Test.YtmbikamebhoelaaW3
import Derived.Test.YtmbikamebhoelaaM1
set_option linter.unusedVariables false
set_option linter.unusedSimpArgs false
set_option maxRecDepth 8000
namespace Go.Proofs.Ytmbikamebhoelaa.Ai.Av
open Go
variable {X : FuncId → List Value → Value → Prop}
theorem str_at (s : ByteArray) (i : Nat) : s[i]? = (bl s)[i]? := by
  unfold bl
  rw [Array.getElem?_toList]
  by_cases h : i < s.size
  · rw [getElem?_pos s i h, getElem?_pos s.data i h]; rfl
  · rw [getElem?_neg s i h, getElem?_neg s.data i h]
theorem bl_len (s : ByteArray) : (bl s).length = s.size := rfl
theorem bytesLess_tri : ∀ x y : List UInt8, Op.bytesLess x y = !(Op.bytesLess y x || decide (y = x))
  | [], [] => rfl
  | [], _ :: _ => by simp [Op.bytesLess]
  | _ :: _, [] => by simp [Op.bytesLess]
  | a :: x, b :: y => by
    have ih := bytesLess_tri x y
    simp only [Op.bytesLess]
    by_cases e : a = b
    · subst e
      have : ¬ a < a := by rw [UInt8.lt_iff_toNat_lt]; omega
      simp [this, ih]
    · have e2 : ¬ b = a := fun q => e q.symm
      have e3 : a.toNat ≠ b.toNat := fun q => e (UInt8.toNat_inj.1 q)
      by_cases l : a < b
      · have : ¬ b < a := by rw [UInt8.lt_iff_toNat_lt] at l ⊢; omega
        simp [l, this, e, e2]
      · have : b < a := by rw [UInt8.lt_iff_toNat_lt] at l ⊢; omega
        simp [l, this]
        exact fun q => absurd q e
theorem bl_inj {a b : ByteArray} : bl a = bl b ↔ a = b := by
  constructor
  · intro h; cases a; cases b; simp only [bl] at h; congr; exact Array.toList_inj.1 h
  · rintro rfl; rfl
theorem sless_tri (a b : ByteArray) : sless a b = !(sless b a || decide (b = a)) := by
  unfold sless
  rw [bytesLess_tri]
  congr 2
  rw [decide_eq_decide, bl_inj]
theorem wrap_u8 (b : UInt8) : IntKind.i64.wrap ((b.toNat : Nat) : Int) = (b.toNat : Int) := IntWalk.i64_in _ (by have := b.toNat_lt; omega)
theorem word_false {s : ByteArray} {r : List UInt8} {b : UInt8} (h : treeWord s = ((b :: r).all letter && decide (1 ≤ s.size) && decide (s.size ≤ 4))) (hb : letter b = false) : treeWord s = false := by
  rw [h]; simp [hb]
theorem pu_spec_TreeWord (s : ByteArray) (hn : s.size ≤ 1073741824) : Pu Try.prog X 150 [.str s] (.bool (treeWord s)) := by
  refine Pu.body Try.func150 rfl (rs := [.tmp 2]) rfl okf_150 (by rw [Try.ntmps150]; simp) ?_
  repeat' (first
    | refine VC_seq ?_ | refine VC_region ?_ | refine VC_block ?_ | refine VC_exit ?_ | refine VC_ret ?_ | refine VC_skip ?_ | refine VO_nil ?_ | refine VC_draw (by kernel_rfl) ?_ | (refine VD_nil ?_; refine ⟨by kernel_rfl, ?_⟩)
    | ((first | refine VO_stepP rfl rfl ?_ | refine VO_goC rfl rfl ?_ | refine VO_guardP rfl rfl rfl ?_ | refine VO_goG rfl rfl rfl ?_ | refine VC_if ?_ | refine VD_stepP rfl rfl ?_ | refine VD_goC rfl rfl ?_ | refine VD_guardP rfl rfl rfl ?_ | refine VD_goG rfl rfl rfl ?_); intro K' hK'; simp (disch := omega) only [go_sem, ↓reduceIte, Nat.reduceEqDiff, Nat.reduceAdd, Nat.reduceMul, Nat.reduceLeDiff, Nat.reduceLT, Nat.reduceSub, Int.reduceToNat, Int.reduceLE, Int.reduceLT, reduceCtorEq]; first
     | ((first | refine hK' _ _ ?_ | refine hK' _ ?_ | refine hK' _ _ _ _ _ _ _ ?_); clear hK' K')
     | (refine ⟨fun hg => ?_, fun hg => ?_⟩ <;> (first | refine hK' _ _ ?_ | refine hK' _ ?_ | refine hK' _ _ _ _ _ _ _ ?_) <;> clear hK' K' <;> (try rw [hg]) <;> (try simp only [decide_eq_true_eq, decide_eq_false_iff_not, ne_eq, Bool.not_eq_true, Bool.not_eq_false, Bool.not_eq_eq_eq_not, Bool.not_true, Bool.not_false, Decidable.not_not, beq_iff_eq, bne_iff_ne, beq_eq_false_iff_ne, Int.not_le, Int.not_lt, reduceCtorEq, not_true_eq_false, not_false_eq_true, Bool.true_eq_false, Bool.false_eq_true, Bool.and_eq_true, Bool.or_eq_false_iff, bne_eq_false_iff_eq, Int.natCast_inj, Int.ofNat_lt] at hg) <;> (try (exfalso; omega))))
    | (simp only [andThenV_normal, andThenV_ret, andThenV_exit, outOfV_normal, outOfV_ret, outOfV_exit, ↓reduceIte, Nat.reduceEqDiff])
    | ((first | refine atEndV_r ?_ | refine atEndV_n ?_); simp (disch := omega) only [go_sem, ↓reduceIte, Nat.reduceEqDiff, Nat.reduceAdd, Nat.reduceMul, Nat.reduceLeDiff, Nat.reduceLT, Nat.reduceSub, Int.reduceToNat, Int.reduceLE, Int.reduceLT, reduceCtorEq]; try (first | rw [deep_bool_eq] | rw [deep_int_eq] | rw [deep_str_eq])))
  refine VC_loop (α := Nat × List UInt8) (fun y => y.2.length) (fun y => [(0, .str s), (3, .int .i64 y.1)]) (fun _ => [])
    (fun y => (bl s).drop y.1 = y.2 ∧ y.1 + y.2.length = s.size ∧ treeWord s = (y.2.all letter && decide (1 ≤ s.size) && decide (s.size ≤ 4))) ?_ (0, bl s) ?_ ?_
  · rintro ⟨i, r⟩ ⟨h1, h2, h3⟩
    simp only at h1 h2 h3 ⊢
    cases r with
    | nil =>
      simp only [List.length_nil] at h2
      repeat' (first
    | refine VC_seq ?_ | refine VC_region ?_ | refine VC_block ?_ | refine VC_exit ?_ | refine VC_ret ?_ | refine VC_skip ?_ | refine VO_nil ?_ | refine VC_draw (by kernel_rfl) ?_ | (refine VD_nil ?_; refine ⟨by kernel_rfl, ?_⟩)
    | ((first | refine VO_stepP rfl rfl ?_ | refine VO_goC rfl rfl ?_ | refine VO_guardP rfl rfl rfl ?_ | refine VO_goG rfl rfl rfl ?_ | refine VC_if ?_ | refine VD_stepP rfl rfl ?_ | refine VD_goC rfl rfl ?_ | refine VD_guardP rfl rfl rfl ?_ | refine VD_goG rfl rfl rfl ?_); intro K' hK'; simp (disch := omega) only [go_sem, ↓reduceIte, Nat.reduceEqDiff, Nat.reduceAdd, Nat.reduceMul, Nat.reduceLeDiff, Nat.reduceLT, Nat.reduceSub, Int.reduceToNat, Int.reduceLE, Int.reduceLT, reduceCtorEq, FL_cons]; first
     | ((first | refine hK' _ _ ?_ | refine hK' _ ?_ | refine hK' _ _ _ _ _ _ _ ?_); clear hK' K')
     | (refine ⟨fun hg => ?_, fun hg => ?_⟩ <;> (first | refine hK' _ _ ?_ | refine hK' _ ?_ | refine hK' _ _ _ _ _ _ _ ?_) <;> clear hK' K' <;> (try rw [hg]) <;> (try simp only [decide_eq_true_eq, decide_eq_false_iff_not, ne_eq, Bool.not_eq_true, Bool.not_eq_false, Bool.not_eq_eq_eq_not, Bool.not_true, Bool.not_false, Decidable.not_not, beq_iff_eq, bne_iff_ne, beq_eq_false_iff_ne, Int.not_le, Int.not_lt, reduceCtorEq, not_true_eq_false, not_false_eq_true, Bool.true_eq_false, Bool.false_eq_true, Bool.and_eq_true, Bool.or_eq_false_iff, bne_eq_false_iff_eq, Int.natCast_inj, Int.ofNat_lt] at hg) <;> (try (exfalso; omega))))
    | (simp only [andThenV_normal, andThenV_ret, andThenV_exit, outOfV_normal, outOfV_ret, outOfV_exit, ↓reduceIte, Nat.reduceEqDiff])
    | ((first | refine atEndV_r ?_ | refine atEndV_n ?_); simp (disch := omega) only [go_sem, ↓reduceIte, Nat.reduceEqDiff, Nat.reduceAdd, Nat.reduceMul, Nat.reduceLeDiff, Nat.reduceLT, Nat.reduceSub, Int.reduceToNat, Int.reduceLE, Int.reduceLT, reduceCtorEq, FL_cons]; try (first | rw [deep_bool_eq] | rw [deep_int_eq] | rw [deep_str_eq])))
      all_goals (rw [h3]; congr 1; rw [Bool.eq_iff_iff]; simp [inB]; try omega)
    | cons b r =>
      simp only [List.length_cons] at h2
      obtain ⟨k1, k2, k3⟩ := drop_cons h1
      have hb := b.toNat_lt
      repeat' (first
    | refine VC_seq ?_ | refine VC_region ?_ | refine VC_block ?_ | refine VC_exit ?_ | refine VC_ret ?_ | refine VC_skip ?_ | refine VO_nil ?_ | refine VC_draw (by kernel_rfl) ?_ | (refine VD_nil ?_; refine ⟨by kernel_rfl, ?_⟩)
    | ((first | refine VO_stepP rfl rfl ?_ | refine VO_goC rfl rfl ?_ | refine VO_guardP rfl rfl rfl ?_ | refine VO_goG rfl rfl rfl ?_ | refine VC_if ?_ | refine VD_stepP rfl rfl ?_ | refine VD_goC rfl rfl ?_ | refine VD_guardP rfl rfl rfl ?_ | refine VD_goG rfl rfl rfl ?_); intro K' hK'; simp (disch := omega) only [go_sem, ↓reduceIte, Nat.reduceEqDiff, Nat.reduceAdd, Nat.reduceMul, Nat.reduceLeDiff, Nat.reduceLT, Nat.reduceSub, Int.reduceToNat, Int.reduceLE, Int.reduceLT, reduceCtorEq, FL_cons, str_at, wrap_u8, k1]; first
     | ((first | refine hK' _ _ ?_ | refine hK' _ ?_ | refine hK' _ _ _ _ _ _ _ ?_); clear hK' K')
     | (refine ⟨fun hg => ?_, fun hg => ?_⟩ <;> (first | refine hK' _ _ ?_ | refine hK' _ ?_ | refine hK' _ _ _ _ _ _ _ ?_) <;> clear hK' K' <;> (try rw [hg]) <;> (try simp only [decide_eq_true_eq, decide_eq_false_iff_not, ne_eq, Bool.not_eq_true, Bool.not_eq_false, Bool.not_eq_eq_eq_not, Bool.not_true, Bool.not_false, Decidable.not_not, beq_iff_eq, bne_iff_ne, beq_eq_false_iff_ne, Int.not_le, Int.not_lt, reduceCtorEq, not_true_eq_false, not_false_eq_true, Bool.true_eq_false, Bool.false_eq_true, Bool.and_eq_true, Bool.or_eq_false_iff, bne_eq_false_iff_eq, Int.natCast_inj, Int.ofNat_lt] at hg) <;> (try (exfalso; omega))))
    | (simp only [andThenV_normal, andThenV_ret, andThenV_exit, outOfV_normal, outOfV_ret, outOfV_exit, ↓reduceIte, Nat.reduceEqDiff])
    | ((first | refine atEndV_r ?_ | refine atEndV_n ?_); simp (disch := omega) only [go_sem, ↓reduceIte, Nat.reduceEqDiff, Nat.reduceAdd, Nat.reduceMul, Nat.reduceLeDiff, Nat.reduceLT, Nat.reduceSub, Int.reduceToNat, Int.reduceLE, Int.reduceLT, reduceCtorEq, FL_cons, str_at, wrap_u8, k1]; try (first | rw [deep_bool_eq] | rw [deep_int_eq] | rw [deep_str_eq])))
      all_goals first
        | (refine ⟨(i + 1, r), by simp, ⟨k2, by simp; omega, ?_⟩, ?_⟩
           · rw [h3, List.all_cons, show letter b = true by simp_all [letter, digit, inB] <;> omega]; rfl
           · (refine ⟨[], ?_, ?_, by decide, by simp⟩; (· simp (disch := omega) only [AllRN, go_sem, ↓reduceIte, Nat.reduceEqDiff, Nat.reduceAdd, Nat.reduceMul, Nat.reduceLeDiff, Nat.reduceLT, Nat.reduceSub, Int.reduceToNat, Int.reduceLE, Int.reduceLT, reduceCtorEq, Int.natCast_add, Int.cast_ofNat_Int]; (repeat' (first | exact trivial | (refine ⟨?_, ?_⟩) | exact RN.im rfl | exact RN.any _ _ | exact RN.ptr _ rfl | exact RN.ref _ _ rfl | exact RN.nil _ | (refine RN.int ?_; omega)))); (· (try simp (disch := omega) only [RNH, RNL, Int.natCast_add, Int.cast_ofNat_Int, go_sem, ↓reduceIte, Nat.reduceEqDiff, Nat.reduceAdd, Nat.reduceMul, Nat.reduceLeDiff, Nat.reduceLT, Nat.reduceSub, Int.reduceToNat, Int.reduceLE, Int.reduceLT, reduceCtorEq]); (repeat' (first | exact trivial | (refine ⟨_, rfl, rfl, ?_⟩) | (refine ⟨?_, ?_⟩) | exact RNL.im rfl | exact RN.im rfl | exact RN.any _ _ | exact RN.ptr _ rfl | exact RN.ref _ _ rfl | exact RN.nil _ | (refine RN.int ?_; omega))))))
        | (rw [h3, List.all_cons, show letter b = false by simp_all [letter, digit, inB] <;> omega]; rfl)
  · simp [treeWord, bl_len]
  · (refine ⟨[], ?_, ?_, by decide, by simp⟩; (· simp (disch := omega) only [AllRN, go_sem, ↓reduceIte, Nat.reduceEqDiff, Nat.reduceAdd, Nat.reduceMul, Nat.reduceLeDiff, Nat.reduceLT, Nat.reduceSub, Int.reduceToNat, Int.reduceLE, Int.reduceLT, reduceCtorEq, Int.natCast_add, Int.cast_ofNat_Int]; (repeat' (first | exact trivial | (refine ⟨?_, ?_⟩) | exact RN.im rfl | exact RN.any _ _ | exact RN.ptr _ rfl | exact RN.ref _ _ rfl | exact RN.nil _ | (refine RN.int ?_; omega)))); (· (try simp (disch := omega) only [RNH, RNL, Int.natCast_add, Int.cast_ofNat_Int, go_sem, ↓reduceIte, Nat.reduceEqDiff, Nat.reduceAdd, Nat.reduceMul, Nat.reduceLeDiff, Nat.reduceLT, Nat.reduceSub, Int.reduceToNat, Int.reduceLE, Int.reduceLT, reduceCtorEq]); (repeat' (first | exact trivial | (refine ⟨_, rfl, rfl, ?_⟩) | (refine ⟨?_, ?_⟩) | exact RNL.im rfl | exact RN.im rfl | exact RN.any _ _ | exact RN.ptr _ rfl | exact RN.ref _ _ rfl | exact RN.nil _ | (refine RN.int ?_; omega)))))

theorem pu_impl_TreeWord (s : ByteArray) (hn : s.size ≤ 1073741824) : Pu Try.prog X 147 [.str s] (.bool (treeWord s)) := by
  refine Pu.body Try.func147 rfl (rs := [.tmp 2]) rfl okf_147 (by rw [Try.ntmps147]; simp) ?_
  repeat' (first
    | refine VC_seq ?_ | refine VC_region ?_ | refine VC_block ?_ | refine VC_exit ?_ | refine VC_ret ?_ | refine VC_skip ?_ | refine VO_nil ?_ | refine VC_draw (by kernel_rfl) ?_ | (refine VD_nil ?_; refine ⟨by kernel_rfl, ?_⟩)
    | ((first | refine VO_stepP rfl rfl ?_ | refine VO_goC rfl rfl ?_ | refine VO_guardP rfl rfl rfl ?_ | refine VO_goG rfl rfl rfl ?_ | refine VC_if ?_ | refine VD_stepP rfl rfl ?_ | refine VD_goC rfl rfl ?_ | refine VD_guardP rfl rfl rfl ?_ | refine VD_goG rfl rfl rfl ?_); intro K' hK'; simp (disch := omega) only [go_sem, ↓reduceIte, Nat.reduceEqDiff, Nat.reduceAdd, Nat.reduceMul, Nat.reduceLeDiff, Nat.reduceLT, Nat.reduceSub, Int.reduceToNat, Int.reduceLE, Int.reduceLT, reduceCtorEq]; first
     | ((first | refine hK' _ _ ?_ | refine hK' _ ?_ | refine hK' _ _ _ _ _ _ _ ?_); clear hK' K')
     | (refine ⟨fun hg => ?_, fun hg => ?_⟩ <;> (first | refine hK' _ _ ?_ | refine hK' _ ?_ | refine hK' _ _ _ _ _ _ _ ?_) <;> clear hK' K' <;> (try rw [hg]) <;> (try simp only [decide_eq_true_eq, decide_eq_false_iff_not, ne_eq, Bool.not_eq_true, Bool.not_eq_false, Bool.not_eq_eq_eq_not, Bool.not_true, Bool.not_false, Decidable.not_not, beq_iff_eq, bne_iff_ne, beq_eq_false_iff_ne, Int.not_le, Int.not_lt, reduceCtorEq, not_true_eq_false, not_false_eq_true, Bool.true_eq_false, Bool.false_eq_true, Bool.and_eq_true, Bool.or_eq_false_iff, bne_eq_false_iff_eq, Int.natCast_inj, Int.ofNat_lt] at hg) <;> (try (exfalso; omega))))
    | (simp only [andThenV_normal, andThenV_ret, andThenV_exit, outOfV_normal, outOfV_ret, outOfV_exit, ↓reduceIte, Nat.reduceEqDiff])
    | ((first | refine atEndV_r ?_ | refine atEndV_n ?_); simp (disch := omega) only [go_sem, ↓reduceIte, Nat.reduceEqDiff, Nat.reduceAdd, Nat.reduceMul, Nat.reduceLeDiff, Nat.reduceLT, Nat.reduceSub, Int.reduceToNat, Int.reduceLE, Int.reduceLT, reduceCtorEq]; try (first | rw [deep_bool_eq] | rw [deep_int_eq] | rw [deep_str_eq])))
  refine VC_loop (α := Nat × List UInt8) (fun y => y.2.length) (fun y => [(0, .str s), (3, .int .i64 y.1)]) (fun _ => [])
    (fun y => (bl s).drop y.1 = y.2 ∧ y.1 + y.2.length = s.size ∧ treeWord s = (y.2.all letter && decide (1 ≤ s.size) && decide (s.size ≤ 4))) ?_ (0, bl s) ?_ ?_
  · rintro ⟨i, r⟩ ⟨h1, h2, h3⟩
    simp only at h1 h2 h3 ⊢
    cases r with
    | nil =>
      simp only [List.length_nil] at h2
      repeat' (first
    | refine VC_seq ?_ | refine VC_region ?_ | refine VC_block ?_ | refine VC_exit ?_ | refine VC_ret ?_ | refine VC_skip ?_ | refine VO_nil ?_ | refine VC_draw (by kernel_rfl) ?_ | (refine VD_nil ?_; refine ⟨by kernel_rfl, ?_⟩)
    | ((first | refine VO_stepP rfl rfl ?_ | refine VO_goC rfl rfl ?_ | refine VO_guardP rfl rfl rfl ?_ | refine VO_goG rfl rfl rfl ?_ | refine VC_if ?_ | refine VD_stepP rfl rfl ?_ | refine VD_goC rfl rfl ?_ | refine VD_guardP rfl rfl rfl ?_ | refine VD_goG rfl rfl rfl ?_); intro K' hK'; simp (disch := omega) only [go_sem, ↓reduceIte, Nat.reduceEqDiff, Nat.reduceAdd, Nat.reduceMul, Nat.reduceLeDiff, Nat.reduceLT, Nat.reduceSub, Int.reduceToNat, Int.reduceLE, Int.reduceLT, reduceCtorEq, FL_cons]; first
     | ((first | refine hK' _ _ ?_ | refine hK' _ ?_ | refine hK' _ _ _ _ _ _ _ ?_); clear hK' K')
     | ((first | refine Pu.g (pu_in _ _ _) rfl rfl ?_); (first | refine hK' _ _ ?_ | refine hK' _ ?_ | refine hK' _ _ _ _ _ _ _ ?_); clear hK' K')
     | (refine ⟨fun hg => ?_, fun hg => ?_⟩ <;> (first | (first | refine hK' _ _ ?_ | refine hK' _ ?_ | refine hK' _ _ _ _ _ _ _ ?_) | ((first | refine Pu.g (pu_in _ _ _) rfl rfl ?_); (first | refine hK' _ _ ?_ | refine hK' _ ?_ | refine hK' _ _ _ _ _ _ _ ?_))) <;> clear hK' K' <;> (try rw [hg]) <;> (try simp only [decide_eq_true_eq, decide_eq_false_iff_not, ne_eq, Bool.not_eq_true, Bool.not_eq_false, Bool.not_eq_eq_eq_not, Bool.not_true, Bool.not_false, Decidable.not_not, beq_iff_eq, bne_iff_ne, beq_eq_false_iff_ne, Int.not_le, Int.not_lt, reduceCtorEq, not_true_eq_false, not_false_eq_true, Bool.true_eq_false, Bool.false_eq_true, Bool.and_eq_true, Bool.or_eq_false_iff, bne_eq_false_iff_eq, Int.natCast_inj, Int.ofNat_lt] at hg) <;> (try (exfalso; omega))))
    | (simp only [andThenV_normal, andThenV_ret, andThenV_exit, outOfV_normal, outOfV_ret, outOfV_exit, ↓reduceIte, Nat.reduceEqDiff])
    | ((first | refine atEndV_r ?_ | refine atEndV_n ?_); simp (disch := omega) only [go_sem, ↓reduceIte, Nat.reduceEqDiff, Nat.reduceAdd, Nat.reduceMul, Nat.reduceLeDiff, Nat.reduceLT, Nat.reduceSub, Int.reduceToNat, Int.reduceLE, Int.reduceLT, reduceCtorEq, FL_cons]; try (first | rw [deep_bool_eq] | rw [deep_int_eq] | rw [deep_str_eq])))
      all_goals (rw [h3]; congr 1; rw [Bool.eq_iff_iff]; simp [inB]; try omega)
    | cons b r =>
      simp only [List.length_cons] at h2
      obtain ⟨k1, k2, k3⟩ := drop_cons h1
      have hb := b.toNat_lt
      repeat' (first
    | refine VC_seq ?_ | refine VC_region ?_ | refine VC_block ?_ | refine VC_exit ?_ | refine VC_ret ?_ | refine VC_skip ?_ | refine VO_nil ?_ | refine VC_draw (by kernel_rfl) ?_ | (refine VD_nil ?_; refine ⟨by kernel_rfl, ?_⟩)
    | ((first | refine VO_stepP rfl rfl ?_ | refine VO_goC rfl rfl ?_ | refine VO_guardP rfl rfl rfl ?_ | refine VO_goG rfl rfl rfl ?_ | refine VC_if ?_ | refine VD_stepP rfl rfl ?_ | refine VD_goC rfl rfl ?_ | refine VD_guardP rfl rfl rfl ?_ | refine VD_goG rfl rfl rfl ?_); intro K' hK'; simp (disch := omega) only [go_sem, ↓reduceIte, Nat.reduceEqDiff, Nat.reduceAdd, Nat.reduceMul, Nat.reduceLeDiff, Nat.reduceLT, Nat.reduceSub, Int.reduceToNat, Int.reduceLE, Int.reduceLT, reduceCtorEq, FL_cons, str_at, wrap_u8, k1]; first
     | ((first | refine hK' _ _ ?_ | refine hK' _ ?_ | refine hK' _ _ _ _ _ _ _ ?_); clear hK' K')
     | ((first | refine Pu.g (pu_in _ _ _) rfl rfl ?_); (first | refine hK' _ _ ?_ | refine hK' _ ?_ | refine hK' _ _ _ _ _ _ _ ?_); clear hK' K')
     | (refine ⟨fun hg => ?_, fun hg => ?_⟩ <;> (first | (first | refine hK' _ _ ?_ | refine hK' _ ?_ | refine hK' _ _ _ _ _ _ _ ?_) | ((first | refine Pu.g (pu_in _ _ _) rfl rfl ?_); (first | refine hK' _ _ ?_ | refine hK' _ ?_ | refine hK' _ _ _ _ _ _ _ ?_))) <;> clear hK' K' <;> (try rw [hg]) <;> (try simp only [decide_eq_true_eq, decide_eq_false_iff_not, ne_eq, Bool.not_eq_true, Bool.not_eq_false, Bool.not_eq_eq_eq_not, Bool.not_true, Bool.not_false, Decidable.not_not, beq_iff_eq, bne_iff_ne, beq_eq_false_iff_ne, Int.not_le, Int.not_lt, reduceCtorEq, not_true_eq_false, not_false_eq_true, Bool.true_eq_false, Bool.false_eq_true, Bool.and_eq_true, Bool.or_eq_false_iff, bne_eq_false_iff_eq, Int.natCast_inj, Int.ofNat_lt] at hg) <;> (try (exfalso; omega))))
    | (simp only [andThenV_normal, andThenV_ret, andThenV_exit, outOfV_normal, outOfV_ret, outOfV_exit, ↓reduceIte, Nat.reduceEqDiff])
    | ((first | refine atEndV_r ?_ | refine atEndV_n ?_); simp (disch := omega) only [go_sem, ↓reduceIte, Nat.reduceEqDiff, Nat.reduceAdd, Nat.reduceMul, Nat.reduceLeDiff, Nat.reduceLT, Nat.reduceSub, Int.reduceToNat, Int.reduceLE, Int.reduceLT, reduceCtorEq, FL_cons, str_at, wrap_u8, k1]; try (first | rw [deep_bool_eq] | rw [deep_int_eq] | rw [deep_str_eq])))
      all_goals first
        | (refine ⟨(i + 1, r), by simp, ⟨k2, by simp; omega, ?_⟩, ?_⟩
           · rw [h3, List.all_cons, show letter b = true by simp_all [letter, digit, inB] <;> omega]; rfl
           · (refine ⟨[], ?_, ?_, by decide, by simp⟩; (· simp (disch := omega) only [AllRN, go_sem, ↓reduceIte, Nat.reduceEqDiff, Nat.reduceAdd, Nat.reduceMul, Nat.reduceLeDiff, Nat.reduceLT, Nat.reduceSub, Int.reduceToNat, Int.reduceLE, Int.reduceLT, reduceCtorEq, Int.natCast_add, Int.cast_ofNat_Int]; (repeat' (first | exact trivial | (refine ⟨?_, ?_⟩) | exact RN.im rfl | exact RN.any _ _ | exact RN.ptr _ rfl | exact RN.ref _ _ rfl | exact RN.nil _ | (refine RN.int ?_; omega)))); (· (try simp (disch := omega) only [RNH, RNL, Int.natCast_add, Int.cast_ofNat_Int, go_sem, ↓reduceIte, Nat.reduceEqDiff, Nat.reduceAdd, Nat.reduceMul, Nat.reduceLeDiff, Nat.reduceLT, Nat.reduceSub, Int.reduceToNat, Int.reduceLE, Int.reduceLT, reduceCtorEq]); (repeat' (first | exact trivial | (refine ⟨_, rfl, rfl, ?_⟩) | (refine ⟨?_, ?_⟩) | exact RNL.im rfl | exact RN.im rfl | exact RN.any _ _ | exact RN.ptr _ rfl | exact RN.ref _ _ rfl | exact RN.nil _ | (refine RN.int ?_; omega))))))
        | (rw [h3, List.all_cons, show letter b = false by simp_all [letter, digit, inB] <;> omega]; rfl)
  · simp [treeWord, bl_len]
  · (refine ⟨[], ?_, ?_, by decide, by simp⟩; (· simp (disch := omega) only [AllRN, go_sem, ↓reduceIte, Nat.reduceEqDiff, Nat.reduceAdd, Nat.reduceMul, Nat.reduceLeDiff, Nat.reduceLT, Nat.reduceSub, Int.reduceToNat, Int.reduceLE, Int.reduceLT, reduceCtorEq, Int.natCast_add, Int.cast_ofNat_Int]; (repeat' (first | exact trivial | (refine ⟨?_, ?_⟩) | exact RN.im rfl | exact RN.any _ _ | exact RN.ptr _ rfl | exact RN.ref _ _ rfl | exact RN.nil _ | (refine RN.int ?_; omega)))); (· (try simp (disch := omega) only [RNH, RNL, Int.natCast_add, Int.cast_ofNat_Int, go_sem, ↓reduceIte, Nat.reduceEqDiff, Nat.reduceAdd, Nat.reduceMul, Nat.reduceLeDiff, Nat.reduceLT, Nat.reduceSub, Int.reduceToNat, Int.reduceLE, Int.reduceLT, reduceCtorEq]); (repeat' (first | exact trivial | (refine ⟨_, rfl, rfl, ?_⟩) | (refine ⟨?_, ?_⟩) | exact RNL.im rfl | exact RN.im rfl | exact RN.any _ _ | exact RN.ptr _ rfl | exact RN.ref _ _ rfl | exact RN.nil _ | (refine RN.int ?_; omega)))))

theorem pu_spec_TreeBody (s : ByteArray) (hn : s.size ≤ 1073741824) : Pu Try.prog X 133 [.str s] (.bool (treeBody s)) := by
  refine Pu.body Try.func133 rfl (rs := [.tmp 2]) rfl okf_133 (by rw [Try.ntmps133]; simp) ?_
  repeat' (first
    | refine VC_seq ?_ | refine VC_region ?_ | refine VC_block ?_ | refine VC_exit ?_ | refine VC_ret ?_ | refine VC_skip ?_ | refine VO_nil ?_ | refine VC_draw (by kernel_rfl) ?_ | (refine VD_nil ?_; refine ⟨by kernel_rfl, ?_⟩)
    | ((first | refine VO_stepP rfl rfl ?_ | refine VO_goC rfl rfl ?_ | refine VO_guardP rfl rfl rfl ?_ | refine VO_goG rfl rfl rfl ?_ | refine VC_if ?_ | refine VD_stepP rfl rfl ?_ | refine VD_goC rfl rfl ?_ | refine VD_guardP rfl rfl rfl ?_ | refine VD_goG rfl rfl rfl ?_); intro K' hK'; simp (disch := omega) only [go_sem, ↓reduceIte, Nat.reduceEqDiff, Nat.reduceAdd, Nat.reduceMul, Nat.reduceLeDiff, Nat.reduceLT, Nat.reduceSub, Int.reduceToNat, Int.reduceLE, Int.reduceLT, reduceCtorEq]; first
     | ((first | refine hK' _ _ ?_ | refine hK' _ ?_ | refine hK' _ _ _ _ _ _ _ ?_); clear hK' K')
     | (refine ⟨fun hg => ?_, fun hg => ?_⟩ <;> (first | refine hK' _ _ ?_ | refine hK' _ ?_ | refine hK' _ _ _ _ _ _ _ ?_) <;> clear hK' K' <;> (try rw [hg]) <;> (try simp only [decide_eq_true_eq, decide_eq_false_iff_not, ne_eq, Bool.not_eq_true, Bool.not_eq_false, Bool.not_eq_eq_eq_not, Bool.not_true, Bool.not_false, Decidable.not_not, beq_iff_eq, bne_iff_ne, beq_eq_false_iff_ne, Int.not_le, Int.not_lt, reduceCtorEq, not_true_eq_false, not_false_eq_true, Bool.true_eq_false, Bool.false_eq_true, Bool.and_eq_true, Bool.or_eq_false_iff, bne_eq_false_iff_eq, Int.natCast_inj, Int.ofNat_lt] at hg) <;> (try (exfalso; omega))))
    | (simp only [andThenV_normal, andThenV_ret, andThenV_exit, outOfV_normal, outOfV_ret, outOfV_exit, ↓reduceIte, Nat.reduceEqDiff])
    | ((first | refine atEndV_r ?_ | refine atEndV_n ?_); simp (disch := omega) only [go_sem, ↓reduceIte, Nat.reduceEqDiff, Nat.reduceAdd, Nat.reduceMul, Nat.reduceLeDiff, Nat.reduceLT, Nat.reduceSub, Int.reduceToNat, Int.reduceLE, Int.reduceLT, reduceCtorEq]; try (first | rw [deep_bool_eq] | rw [deep_int_eq] | rw [deep_str_eq])))
  refine VC_loop (α := Nat × List UInt8) (fun y => y.2.length) (fun y => [(0, .str s), (3, .int .i64 y.1)]) (fun _ => [])
    (fun y => (bl s).drop y.1 = y.2 ∧ y.1 + y.2.length = s.size ∧ treeBody s = (y.2.all (fun b => letter b || digit b) && decide (s.size ≤ 12))) ?_ (0, bl s) ?_ ?_
  · rintro ⟨i, r⟩ ⟨h1, h2, h3⟩
    simp only at h1 h2 h3 ⊢
    cases r with
    | nil =>
      simp only [List.length_nil] at h2
      repeat' (first
    | refine VC_seq ?_ | refine VC_region ?_ | refine VC_block ?_ | refine VC_exit ?_ | refine VC_ret ?_ | refine VC_skip ?_ | refine VO_nil ?_ | refine VC_draw (by kernel_rfl) ?_ | (refine VD_nil ?_; refine ⟨by kernel_rfl, ?_⟩)
    | ((first | refine VO_stepP rfl rfl ?_ | refine VO_goC rfl rfl ?_ | refine VO_guardP rfl rfl rfl ?_ | refine VO_goG rfl rfl rfl ?_ | refine VC_if ?_ | refine VD_stepP rfl rfl ?_ | refine VD_goC rfl rfl ?_ | refine VD_guardP rfl rfl rfl ?_ | refine VD_goG rfl rfl rfl ?_); intro K' hK'; simp (disch := omega) only [go_sem, ↓reduceIte, Nat.reduceEqDiff, Nat.reduceAdd, Nat.reduceMul, Nat.reduceLeDiff, Nat.reduceLT, Nat.reduceSub, Int.reduceToNat, Int.reduceLE, Int.reduceLT, reduceCtorEq, FL_cons]; first
     | ((first | refine hK' _ _ ?_ | refine hK' _ ?_ | refine hK' _ _ _ _ _ _ _ ?_); clear hK' K')
     | (refine ⟨fun hg => ?_, fun hg => ?_⟩ <;> (first | refine hK' _ _ ?_ | refine hK' _ ?_ | refine hK' _ _ _ _ _ _ _ ?_) <;> clear hK' K' <;> (try rw [hg]) <;> (try simp only [decide_eq_true_eq, decide_eq_false_iff_not, ne_eq, Bool.not_eq_true, Bool.not_eq_false, Bool.not_eq_eq_eq_not, Bool.not_true, Bool.not_false, Decidable.not_not, beq_iff_eq, bne_iff_ne, beq_eq_false_iff_ne, Int.not_le, Int.not_lt, reduceCtorEq, not_true_eq_false, not_false_eq_true, Bool.true_eq_false, Bool.false_eq_true, Bool.and_eq_true, Bool.or_eq_false_iff, bne_eq_false_iff_eq, Int.natCast_inj, Int.ofNat_lt] at hg) <;> (try (exfalso; omega))))
    | (simp only [andThenV_normal, andThenV_ret, andThenV_exit, outOfV_normal, outOfV_ret, outOfV_exit, ↓reduceIte, Nat.reduceEqDiff])
    | ((first | refine atEndV_r ?_ | refine atEndV_n ?_); simp (disch := omega) only [go_sem, ↓reduceIte, Nat.reduceEqDiff, Nat.reduceAdd, Nat.reduceMul, Nat.reduceLeDiff, Nat.reduceLT, Nat.reduceSub, Int.reduceToNat, Int.reduceLE, Int.reduceLT, reduceCtorEq, FL_cons]; try (first | rw [deep_bool_eq] | rw [deep_int_eq] | rw [deep_str_eq])))
      all_goals (rw [h3]; congr 1; rw [Bool.eq_iff_iff]; simp [inB]; try omega)
    | cons b r =>
      simp only [List.length_cons] at h2
      obtain ⟨k1, k2, k3⟩ := drop_cons h1
      have hb := b.toNat_lt
      repeat' (first
    | refine VC_seq ?_ | refine VC_region ?_ | refine VC_block ?_ | refine VC_exit ?_ | refine VC_ret ?_ | refine VC_skip ?_ | refine VO_nil ?_ | refine VC_draw (by kernel_rfl) ?_ | (refine VD_nil ?_; refine ⟨by kernel_rfl, ?_⟩)
    | ((first | refine VO_stepP rfl rfl ?_ | refine VO_goC rfl rfl ?_ | refine VO_guardP rfl rfl rfl ?_ | refine VO_goG rfl rfl rfl ?_ | refine VC_if ?_ | refine VD_stepP rfl rfl ?_ | refine VD_goC rfl rfl ?_ | refine VD_guardP rfl rfl rfl ?_ | refine VD_goG rfl rfl rfl ?_); intro K' hK'; simp (disch := omega) only [go_sem, ↓reduceIte, Nat.reduceEqDiff, Nat.reduceAdd, Nat.reduceMul, Nat.reduceLeDiff, Nat.reduceLT, Nat.reduceSub, Int.reduceToNat, Int.reduceLE, Int.reduceLT, reduceCtorEq, FL_cons, str_at, wrap_u8, k1]; first
     | ((first | refine hK' _ _ ?_ | refine hK' _ ?_ | refine hK' _ _ _ _ _ _ _ ?_); clear hK' K')
     | (refine ⟨fun hg => ?_, fun hg => ?_⟩ <;> (first | refine hK' _ _ ?_ | refine hK' _ ?_ | refine hK' _ _ _ _ _ _ _ ?_) <;> clear hK' K' <;> (try rw [hg]) <;> (try simp only [decide_eq_true_eq, decide_eq_false_iff_not, ne_eq, Bool.not_eq_true, Bool.not_eq_false, Bool.not_eq_eq_eq_not, Bool.not_true, Bool.not_false, Decidable.not_not, beq_iff_eq, bne_iff_ne, beq_eq_false_iff_ne, Int.not_le, Int.not_lt, reduceCtorEq, not_true_eq_false, not_false_eq_true, Bool.true_eq_false, Bool.false_eq_true, Bool.and_eq_true, Bool.or_eq_false_iff, bne_eq_false_iff_eq, Int.natCast_inj, Int.ofNat_lt] at hg) <;> (try (exfalso; omega))))
    | (simp only [andThenV_normal, andThenV_ret, andThenV_exit, outOfV_normal, outOfV_ret, outOfV_exit, ↓reduceIte, Nat.reduceEqDiff])
    | ((first | refine atEndV_r ?_ | refine atEndV_n ?_); simp (disch := omega) only [go_sem, ↓reduceIte, Nat.reduceEqDiff, Nat.reduceAdd, Nat.reduceMul, Nat.reduceLeDiff, Nat.reduceLT, Nat.reduceSub, Int.reduceToNat, Int.reduceLE, Int.reduceLT, reduceCtorEq, FL_cons, str_at, wrap_u8, k1]; try (first | rw [deep_bool_eq] | rw [deep_int_eq] | rw [deep_str_eq])))
      all_goals first
        | (refine ⟨(i + 1, r), by simp, ⟨k2, by simp; omega, ?_⟩, ?_⟩
           · rw [h3, List.all_cons, show (letter b || digit b) = true by simp_all [letter, digit, inB] <;> omega]; rfl
           · (refine ⟨[], ?_, ?_, by decide, by simp⟩; (· simp (disch := omega) only [AllRN, go_sem, ↓reduceIte, Nat.reduceEqDiff, Nat.reduceAdd, Nat.reduceMul, Nat.reduceLeDiff, Nat.reduceLT, Nat.reduceSub, Int.reduceToNat, Int.reduceLE, Int.reduceLT, reduceCtorEq, Int.natCast_add, Int.cast_ofNat_Int]; (repeat' (first | exact trivial | (refine ⟨?_, ?_⟩) | exact RN.im rfl | exact RN.any _ _ | exact RN.ptr _ rfl | exact RN.ref _ _ rfl | exact RN.nil _ | (refine RN.int ?_; omega)))); (· (try simp (disch := omega) only [RNH, RNL, Int.natCast_add, Int.cast_ofNat_Int, go_sem, ↓reduceIte, Nat.reduceEqDiff, Nat.reduceAdd, Nat.reduceMul, Nat.reduceLeDiff, Nat.reduceLT, Nat.reduceSub, Int.reduceToNat, Int.reduceLE, Int.reduceLT, reduceCtorEq]); (repeat' (first | exact trivial | (refine ⟨_, rfl, rfl, ?_⟩) | (refine ⟨?_, ?_⟩) | exact RNL.im rfl | exact RN.im rfl | exact RN.any _ _ | exact RN.ptr _ rfl | exact RN.ref _ _ rfl | exact RN.nil _ | (refine RN.int ?_; omega))))))
        | (rw [h3, List.all_cons, show (letter b || digit b) = false by simp_all [letter, digit, inB] <;> omega]; rfl)
  · simp [treeBody, bl_len]
  · (refine ⟨[], ?_, ?_, by decide, by simp⟩; (· simp (disch := omega) only [AllRN, go_sem, ↓reduceIte, Nat.reduceEqDiff, Nat.reduceAdd, Nat.reduceMul, Nat.reduceLeDiff, Nat.reduceLT, Nat.reduceSub, Int.reduceToNat, Int.reduceLE, Int.reduceLT, reduceCtorEq, Int.natCast_add, Int.cast_ofNat_Int]; (repeat' (first | exact trivial | (refine ⟨?_, ?_⟩) | exact RN.im rfl | exact RN.any _ _ | exact RN.ptr _ rfl | exact RN.ref _ _ rfl | exact RN.nil _ | (refine RN.int ?_; omega)))); (· (try simp (disch := omega) only [RNH, RNL, Int.natCast_add, Int.cast_ofNat_Int, go_sem, ↓reduceIte, Nat.reduceEqDiff, Nat.reduceAdd, Nat.reduceMul, Nat.reduceLeDiff, Nat.reduceLT, Nat.reduceSub, Int.reduceToNat, Int.reduceLE, Int.reduceLT, reduceCtorEq]); (repeat' (first | exact trivial | (refine ⟨_, rfl, rfl, ?_⟩) | (refine ⟨?_, ?_⟩) | exact RNL.im rfl | exact RN.im rfl | exact RN.any _ _ | exact RN.ptr _ rfl | exact RN.ref _ _ rfl | exact RN.nil _ | (refine RN.int ?_; omega)))))

theorem pu_impl_TreeBody (s : ByteArray) (hn : s.size ≤ 1073741824) : Pu Try.prog X 146 [.str s] (.bool (treeBody s)) := by
  refine Pu.body Try.func146 rfl (rs := [.tmp 2]) rfl okf_146 (by rw [Try.ntmps146]; simp) ?_
  repeat' (first
    | refine VC_seq ?_ | refine VC_region ?_ | refine VC_block ?_ | refine VC_exit ?_ | refine VC_ret ?_ | refine VC_skip ?_ | refine VO_nil ?_ | refine VC_draw (by kernel_rfl) ?_ | (refine VD_nil ?_; refine ⟨by kernel_rfl, ?_⟩)
    | ((first | refine VO_stepP rfl rfl ?_ | refine VO_goC rfl rfl ?_ | refine VO_guardP rfl rfl rfl ?_ | refine VO_goG rfl rfl rfl ?_ | refine VC_if ?_ | refine VD_stepP rfl rfl ?_ | refine VD_goC rfl rfl ?_ | refine VD_guardP rfl rfl rfl ?_ | refine VD_goG rfl rfl rfl ?_); intro K' hK'; simp (disch := omega) only [go_sem, ↓reduceIte, Nat.reduceEqDiff, Nat.reduceAdd, Nat.reduceMul, Nat.reduceLeDiff, Nat.reduceLT, Nat.reduceSub, Int.reduceToNat, Int.reduceLE, Int.reduceLT, reduceCtorEq]; first
     | ((first | refine hK' _ _ ?_ | refine hK' _ ?_ | refine hK' _ _ _ _ _ _ _ ?_); clear hK' K')
     | (refine ⟨fun hg => ?_, fun hg => ?_⟩ <;> (first | refine hK' _ _ ?_ | refine hK' _ ?_ | refine hK' _ _ _ _ _ _ _ ?_) <;> clear hK' K' <;> (try rw [hg]) <;> (try simp only [decide_eq_true_eq, decide_eq_false_iff_not, ne_eq, Bool.not_eq_true, Bool.not_eq_false, Bool.not_eq_eq_eq_not, Bool.not_true, Bool.not_false, Decidable.not_not, beq_iff_eq, bne_iff_ne, beq_eq_false_iff_ne, Int.not_le, Int.not_lt, reduceCtorEq, not_true_eq_false, not_false_eq_true, Bool.true_eq_false, Bool.false_eq_true, Bool.and_eq_true, Bool.or_eq_false_iff, bne_eq_false_iff_eq, Int.natCast_inj, Int.ofNat_lt] at hg) <;> (try (exfalso; omega))))
    | (simp only [andThenV_normal, andThenV_ret, andThenV_exit, outOfV_normal, outOfV_ret, outOfV_exit, ↓reduceIte, Nat.reduceEqDiff])
    | ((first | refine atEndV_r ?_ | refine atEndV_n ?_); simp (disch := omega) only [go_sem, ↓reduceIte, Nat.reduceEqDiff, Nat.reduceAdd, Nat.reduceMul, Nat.reduceLeDiff, Nat.reduceLT, Nat.reduceSub, Int.reduceToNat, Int.reduceLE, Int.reduceLT, reduceCtorEq]; try (first | rw [deep_bool_eq] | rw [deep_int_eq] | rw [deep_str_eq])))
  refine VC_loop (α := Nat × List UInt8) (fun y => y.2.length) (fun y => [(0, .str s), (3, .int .i64 y.1)]) (fun _ => [])
    (fun y => (bl s).drop y.1 = y.2 ∧ y.1 + y.2.length = s.size ∧ treeBody s = (y.2.all (fun b => letter b || digit b) && decide (s.size ≤ 12))) ?_ (0, bl s) ?_ ?_
  · rintro ⟨i, r⟩ ⟨h1, h2, h3⟩
    simp only at h1 h2 h3 ⊢
    cases r with
    | nil =>
      simp only [List.length_nil] at h2
      repeat' (first
    | refine VC_seq ?_ | refine VC_region ?_ | refine VC_block ?_ | refine VC_exit ?_ | refine VC_ret ?_ | refine VC_skip ?_ | refine VO_nil ?_ | refine VC_draw (by kernel_rfl) ?_ | (refine VD_nil ?_; refine ⟨by kernel_rfl, ?_⟩)
    | ((first | refine VO_stepP rfl rfl ?_ | refine VO_goC rfl rfl ?_ | refine VO_guardP rfl rfl rfl ?_ | refine VO_goG rfl rfl rfl ?_ | refine VC_if ?_ | refine VD_stepP rfl rfl ?_ | refine VD_goC rfl rfl ?_ | refine VD_guardP rfl rfl rfl ?_ | refine VD_goG rfl rfl rfl ?_); intro K' hK'; simp (disch := omega) only [go_sem, ↓reduceIte, Nat.reduceEqDiff, Nat.reduceAdd, Nat.reduceMul, Nat.reduceLeDiff, Nat.reduceLT, Nat.reduceSub, Int.reduceToNat, Int.reduceLE, Int.reduceLT, reduceCtorEq, FL_cons]; first
     | ((first | refine hK' _ _ ?_ | refine hK' _ ?_ | refine hK' _ _ _ _ _ _ _ ?_); clear hK' K')
     | ((first | refine Pu.g (pu_in _ _ _) rfl rfl ?_); (first | refine hK' _ _ ?_ | refine hK' _ ?_ | refine hK' _ _ _ _ _ _ _ ?_); clear hK' K')
     | (refine ⟨fun hg => ?_, fun hg => ?_⟩ <;> (first | (first | refine hK' _ _ ?_ | refine hK' _ ?_ | refine hK' _ _ _ _ _ _ _ ?_) | ((first | refine Pu.g (pu_in _ _ _) rfl rfl ?_); (first | refine hK' _ _ ?_ | refine hK' _ ?_ | refine hK' _ _ _ _ _ _ _ ?_))) <;> clear hK' K' <;> (try rw [hg]) <;> (try simp only [decide_eq_true_eq, decide_eq_false_iff_not, ne_eq, Bool.not_eq_true, Bool.not_eq_false, Bool.not_eq_eq_eq_not, Bool.not_true, Bool.not_false, Decidable.not_not, beq_iff_eq, bne_iff_ne, beq_eq_false_iff_ne, Int.not_le, Int.not_lt, reduceCtorEq, not_true_eq_false, not_false_eq_true, Bool.true_eq_false, Bool.false_eq_true, Bool.and_eq_true, Bool.or_eq_false_iff, bne_eq_false_iff_eq, Int.natCast_inj, Int.ofNat_lt] at hg) <;> (try (exfalso; omega))))
    | (simp only [andThenV_normal, andThenV_ret, andThenV_exit, outOfV_normal, outOfV_ret, outOfV_exit, ↓reduceIte, Nat.reduceEqDiff])
    | ((first | refine atEndV_r ?_ | refine atEndV_n ?_); simp (disch := omega) only [go_sem, ↓reduceIte, Nat.reduceEqDiff, Nat.reduceAdd, Nat.reduceMul, Nat.reduceLeDiff, Nat.reduceLT, Nat.reduceSub, Int.reduceToNat, Int.reduceLE, Int.reduceLT, reduceCtorEq, FL_cons]; try (first | rw [deep_bool_eq] | rw [deep_int_eq] | rw [deep_str_eq])))
      all_goals (rw [h3]; congr 1; rw [Bool.eq_iff_iff]; simp [inB]; try omega)
    | cons b r =>
      simp only [List.length_cons] at h2
      obtain ⟨k1, k2, k3⟩ := drop_cons h1
      have hb := b.toNat_lt
      repeat' (first
    | refine VC_seq ?_ | refine VC_region ?_ | refine VC_block ?_ | refine VC_exit ?_ | refine VC_ret ?_ | refine VC_skip ?_ | refine VO_nil ?_ | refine VC_draw (by kernel_rfl) ?_ | (refine VD_nil ?_; refine ⟨by kernel_rfl, ?_⟩)
    | ((first | refine VO_stepP rfl rfl ?_ | refine VO_goC rfl rfl ?_ | refine VO_guardP rfl rfl rfl ?_ | refine VO_goG rfl rfl rfl ?_ | refine VC_if ?_ | refine VD_stepP rfl rfl ?_ | refine VD_goC rfl rfl ?_ | refine VD_guardP rfl rfl rfl ?_ | refine VD_goG rfl rfl rfl ?_); intro K' hK'; simp (disch := omega) only [go_sem, ↓reduceIte, Nat.reduceEqDiff, Nat.reduceAdd, Nat.reduceMul, Nat.reduceLeDiff, Nat.reduceLT, Nat.reduceSub, Int.reduceToNat, Int.reduceLE, Int.reduceLT, reduceCtorEq, FL_cons, str_at, wrap_u8, k1]; first
     | ((first | refine hK' _ _ ?_ | refine hK' _ ?_ | refine hK' _ _ _ _ _ _ _ ?_); clear hK' K')
     | ((first | refine Pu.g (pu_in _ _ _) rfl rfl ?_); (first | refine hK' _ _ ?_ | refine hK' _ ?_ | refine hK' _ _ _ _ _ _ _ ?_); clear hK' K')
     | (refine ⟨fun hg => ?_, fun hg => ?_⟩ <;> (first | (first | refine hK' _ _ ?_ | refine hK' _ ?_ | refine hK' _ _ _ _ _ _ _ ?_) | ((first | refine Pu.g (pu_in _ _ _) rfl rfl ?_); (first | refine hK' _ _ ?_ | refine hK' _ ?_ | refine hK' _ _ _ _ _ _ _ ?_))) <;> clear hK' K' <;> (try rw [hg]) <;> (try simp only [decide_eq_true_eq, decide_eq_false_iff_not, ne_eq, Bool.not_eq_true, Bool.not_eq_false, Bool.not_eq_eq_eq_not, Bool.not_true, Bool.not_false, Decidable.not_not, beq_iff_eq, bne_iff_ne, beq_eq_false_iff_ne, Int.not_le, Int.not_lt, reduceCtorEq, not_true_eq_false, not_false_eq_true, Bool.true_eq_false, Bool.false_eq_true, Bool.and_eq_true, Bool.or_eq_false_iff, bne_eq_false_iff_eq, Int.natCast_inj, Int.ofNat_lt] at hg) <;> (try (exfalso; omega))))
    | (simp only [andThenV_normal, andThenV_ret, andThenV_exit, outOfV_normal, outOfV_ret, outOfV_exit, ↓reduceIte, Nat.reduceEqDiff])
    | ((first | refine atEndV_r ?_ | refine atEndV_n ?_); simp (disch := omega) only [go_sem, ↓reduceIte, Nat.reduceEqDiff, Nat.reduceAdd, Nat.reduceMul, Nat.reduceLeDiff, Nat.reduceLT, Nat.reduceSub, Int.reduceToNat, Int.reduceLE, Int.reduceLT, reduceCtorEq, FL_cons, str_at, wrap_u8, k1]; try (first | rw [deep_bool_eq] | rw [deep_int_eq] | rw [deep_str_eq])))
      all_goals first
        | (refine ⟨(i + 1, r), by simp, ⟨k2, by simp; omega, ?_⟩, ?_⟩
           · rw [h3, List.all_cons, show (letter b || digit b) = true by simp_all [letter, digit, inB] <;> omega]; rfl
           · (refine ⟨[], ?_, ?_, by decide, by simp⟩; (· simp (disch := omega) only [AllRN, go_sem, ↓reduceIte, Nat.reduceEqDiff, Nat.reduceAdd, Nat.reduceMul, Nat.reduceLeDiff, Nat.reduceLT, Nat.reduceSub, Int.reduceToNat, Int.reduceLE, Int.reduceLT, reduceCtorEq, Int.natCast_add, Int.cast_ofNat_Int]; (repeat' (first | exact trivial | (refine ⟨?_, ?_⟩) | exact RN.im rfl | exact RN.any _ _ | exact RN.ptr _ rfl | exact RN.ref _ _ rfl | exact RN.nil _ | (refine RN.int ?_; omega)))); (· (try simp (disch := omega) only [RNH, RNL, Int.natCast_add, Int.cast_ofNat_Int, go_sem, ↓reduceIte, Nat.reduceEqDiff, Nat.reduceAdd, Nat.reduceMul, Nat.reduceLeDiff, Nat.reduceLT, Nat.reduceSub, Int.reduceToNat, Int.reduceLE, Int.reduceLT, reduceCtorEq]); (repeat' (first | exact trivial | (refine ⟨_, rfl, rfl, ?_⟩) | (refine ⟨?_, ?_⟩) | exact RNL.im rfl | exact RN.im rfl | exact RN.any _ _ | exact RN.ptr _ rfl | exact RN.ref _ _ rfl | exact RN.nil _ | (refine RN.int ?_; omega))))))
        | (rw [h3, List.all_cons, show (letter b || digit b) = false by simp_all [letter, digit, inB] <;> omega]; rfl)
  · simp [treeBody, bl_len]
  · (refine ⟨[], ?_, ?_, by decide, by simp⟩; (· simp (disch := omega) only [AllRN, go_sem, ↓reduceIte, Nat.reduceEqDiff, Nat.reduceAdd, Nat.reduceMul, Nat.reduceLeDiff, Nat.reduceLT, Nat.reduceSub, Int.reduceToNat, Int.reduceLE, Int.reduceLT, reduceCtorEq, Int.natCast_add, Int.cast_ofNat_Int]; (repeat' (first | exact trivial | (refine ⟨?_, ?_⟩) | exact RN.im rfl | exact RN.any _ _ | exact RN.ptr _ rfl | exact RN.ref _ _ rfl | exact RN.nil _ | (refine RN.int ?_; omega)))); (· (try simp (disch := omega) only [RNH, RNL, Int.natCast_add, Int.cast_ofNat_Int, go_sem, ↓reduceIte, Nat.reduceEqDiff, Nat.reduceAdd, Nat.reduceMul, Nat.reduceLeDiff, Nat.reduceLT, Nat.reduceSub, Int.reduceToNat, Int.reduceLE, Int.reduceLT, reduceCtorEq]); (repeat' (first | exact trivial | (refine ⟨_, rfl, rfl, ?_⟩) | (refine ⟨?_, ?_⟩) | exact RNL.im rfl | exact RN.im rfl | exact RN.any _ _ | exact RN.ptr _ rfl | exact RN.ref _ _ rfl | exact RN.nil _ | (refine RN.int ?_; omega)))))

theorem succ_sub (j : Nat) : (((j + 1 : Nat) : Int) - 1) = (j : Int) := by omega
theorem kids_step (p : Option ByteArray) (k : Ent) (ks : List Ent) : kidsFrom p (k :: ks) = (treeWord k.name && inB k.id 1 31 && (match p with | none => true | some q => sless q k.name) && kidsFrom (some k.name) ks) := rfl
theorem bsless_eq (a b : ByteArray) : Op.bytesLess a.data.toList b.data.toList = sless a b := rfl
theorem not_tri (a b : ByteArray) : (sless a b || decide (a = b)) = !sless b a := by rw [sless_tri b a, Bool.not_not]
theorem len_zero {α : Type} (l : List α) : (((l.length : Nat) : Int) == 0) = l.isEmpty := by cases l <;> simp <;> omega
theorem empty_eq : (ByteArray.empty : ByteArray) = noText := rfl
theorem pu_l1Id (n : Int) : Pu Try.prog X 149 [.int .i64 n] (.bool (inB n 0 31)) := by
  refine Pu.body Try.func149 rfl (rs := [.tmp 2]) rfl okf_149 (by rw [Try.ntmps149]; simp) ?_
  repeat' (first
    | refine VC_seq ?_ | refine VC_region ?_ | refine VC_block ?_ | refine VC_exit ?_ | refine VC_ret ?_ | refine VC_skip ?_ | refine VO_nil ?_ | refine VC_draw (by kernel_rfl) ?_ | (refine VD_nil ?_; refine ⟨by kernel_rfl, ?_⟩)
    | ((first | refine VO_stepP rfl rfl ?_ | refine VO_goC rfl rfl ?_ | refine VO_guardP rfl rfl rfl ?_ | refine VO_goG rfl rfl rfl ?_ | refine VC_if ?_ | refine VD_stepP rfl rfl ?_ | refine VD_goC rfl rfl ?_ | refine VD_guardP rfl rfl rfl ?_ | refine VD_goG rfl rfl rfl ?_); intro K' hK'; simp (disch := omega) only [go_sem, ↓reduceIte, Nat.reduceEqDiff, Nat.reduceAdd, Nat.reduceMul, Nat.reduceLeDiff, Nat.reduceLT, Nat.reduceSub, Int.reduceToNat, Int.reduceLE, Int.reduceLT, reduceCtorEq]; first
     | ((first | refine hK' _ _ ?_ | refine hK' _ ?_ | refine hK' _ _ _ _ _ _ _ ?_); clear hK' K')
     | (refine ⟨fun hg => ?_, fun hg => ?_⟩ <;> (first | refine hK' _ _ ?_ | refine hK' _ ?_ | refine hK' _ _ _ _ _ _ _ ?_) <;> clear hK' K' <;> (try rw [hg]) <;> (try simp only [decide_eq_true_eq, decide_eq_false_iff_not, ne_eq, Bool.not_eq_true, Bool.not_eq_false, Bool.not_eq_eq_eq_not, Bool.not_true, Bool.not_false, Decidable.not_not, beq_iff_eq, bne_iff_ne, beq_eq_false_iff_ne, Int.not_le, Int.not_lt, reduceCtorEq, not_true_eq_false, not_false_eq_true, Bool.true_eq_false, Bool.false_eq_true, Bool.and_eq_true, Bool.or_eq_false_iff, bne_eq_false_iff_eq, Int.natCast_inj, Int.ofNat_lt] at hg) <;> (try (exfalso; omega))))
    | (simp only [andThenV_normal, andThenV_ret, andThenV_exit, outOfV_normal, outOfV_ret, outOfV_exit, ↓reduceIte, Nat.reduceEqDiff])
    | ((first | refine atEndV_r ?_ | refine atEndV_n ?_); simp (disch := omega) only [go_sem, ↓reduceIte, Nat.reduceEqDiff, Nat.reduceAdd, Nat.reduceMul, Nat.reduceLeDiff, Nat.reduceLT, Nat.reduceSub, Int.reduceToNat, Int.reduceLE, Int.reduceLT, reduceCtorEq]; try (first | rw [deep_bool_eq] | rw [deep_int_eq] | rw [deep_str_eq])))
  all_goals (congr 1; rw [Bool.eq_iff_iff]; simp [inB]; omega)

theorem pu_l1Kids (ks : List Ent) (hn : lsum Ent.tot ks ≤ 1073741824) : Pu Try.prog X 134 [.sl 2 (ks.map Ent.enc)] (.bool (kidsOk ks)) := by
  refine Pu.body Try.func134 rfl (rs := [.tmp 2]) rfl okf_134 (by rw [Try.ntmps134]; simp) ?_
  have hl := le_lsum Ent.tot ks
  repeat' (first
    | refine VC_seq ?_ | refine VC_region ?_ | refine VC_block ?_ | refine VC_exit ?_ | refine VC_ret ?_ | refine VC_skip ?_ | refine VO_nil ?_ | refine VC_draw (by kernel_rfl) ?_ | (refine VD_nil ?_; refine ⟨by kernel_rfl, ?_⟩)
    | ((first | refine VO_stepP rfl rfl ?_ | refine VO_goC rfl rfl ?_ | refine VO_guardP rfl rfl rfl ?_ | refine VO_goG rfl rfl rfl ?_ | refine VC_if ?_ | refine VD_stepP rfl rfl ?_ | refine VD_goC rfl rfl ?_ | refine VD_guardP rfl rfl rfl ?_ | refine VD_goG rfl rfl rfl ?_); intro K' hK'; simp (disch := omega) only [go_sem, ↓reduceIte, Nat.reduceEqDiff, Nat.reduceAdd, Nat.reduceMul, Nat.reduceLeDiff, Nat.reduceLT, Nat.reduceSub, Int.reduceToNat, Int.reduceLE, Int.reduceLT, reduceCtorEq]; first
     | ((first | refine hK' _ _ ?_ | refine hK' _ ?_ | refine hK' _ _ _ _ _ _ _ ?_); clear hK' K')
     | (refine ⟨fun hg => ?_, fun hg => ?_⟩ <;> (first | refine hK' _ _ ?_ | refine hK' _ ?_ | refine hK' _ _ _ _ _ _ _ ?_) <;> clear hK' K' <;> (try rw [hg]) <;> (try simp only [decide_eq_true_eq, decide_eq_false_iff_not, ne_eq, Bool.not_eq_true, Bool.not_eq_false, Bool.not_eq_eq_eq_not, Bool.not_true, Bool.not_false, Decidable.not_not, beq_iff_eq, bne_iff_ne, beq_eq_false_iff_ne, Int.not_le, Int.not_lt, reduceCtorEq, not_true_eq_false, not_false_eq_true, Bool.true_eq_false, Bool.false_eq_true, Bool.and_eq_true, Bool.or_eq_false_iff, bne_eq_false_iff_eq, Int.natCast_inj, Int.ofNat_lt] at hg) <;> (try (exfalso; omega))))
    | (simp only [andThenV_normal, andThenV_ret, andThenV_exit, outOfV_normal, outOfV_ret, outOfV_exit, ↓reduceIte, Nat.reduceEqDiff])
    | ((first | refine atEndV_r ?_ | refine atEndV_n ?_); simp (disch := omega) only [go_sem, ↓reduceIte, Nat.reduceEqDiff, Nat.reduceAdd, Nat.reduceMul, Nat.reduceLeDiff, Nat.reduceLT, Nat.reduceSub, Int.reduceToNat, Int.reduceLE, Int.reduceLT, reduceCtorEq]; try (first | rw [deep_bool_eq] | rw [deep_int_eq] | rw [deep_str_eq])))
  refine VC_loop (α := Nat × Option ByteArray × List Ent) (fun y => y.2.2.length) (fun y => [(0, .sl 2 (ks.map Ent.enc)), (3, .int .i64 y.1)]) (fun _ => [])
    (fun y => ks.drop y.1 = y.2.2 ∧ y.1 + y.2.2.length = ks.length ∧ kidsOk ks = kidsFrom y.2.1 y.2.2 ∧
      (match y.2.1 with | none => y.1 = 0 | some q => ∃ j e, y.1 = j + 1 ∧ ks[j]? = some e ∧ e.name = q)) ?_ (0, none, ks) ?_ ?_
  · rintro ⟨i, p, r⟩ ⟨h1, h2, h3, h4⟩
    simp only at h1 h2 h3 h4 ⊢
    cases r with
    | nil =>
      simp only [List.length_nil] at h2
      repeat' (first
    | refine VC_seq ?_ | refine VC_region ?_ | refine VC_block ?_ | refine VC_exit ?_ | refine VC_ret ?_ | refine VC_skip ?_ | refine VO_nil ?_ | refine VC_draw (by kernel_rfl) ?_ | (refine VD_nil ?_; refine ⟨by kernel_rfl, ?_⟩)
    | ((first | refine VO_stepP rfl rfl ?_ | refine VO_goC rfl rfl ?_ | refine VO_guardP rfl rfl rfl ?_ | refine VO_goG rfl rfl rfl ?_ | refine VC_if ?_ | refine VD_stepP rfl rfl ?_ | refine VD_goC rfl rfl ?_ | refine VD_guardP rfl rfl rfl ?_ | refine VD_goG rfl rfl rfl ?_); intro K' hK'; simp (disch := omega) only [go_sem, ↓reduceIte, Nat.reduceEqDiff, Nat.reduceAdd, Nat.reduceMul, Nat.reduceLeDiff, Nat.reduceLT, Nat.reduceSub, Int.reduceToNat, Int.reduceLE, Int.reduceLT, reduceCtorEq, FL_cons]; first
     | ((first | refine hK' _ _ ?_ | refine hK' _ ?_ | refine hK' _ _ _ _ _ _ _ ?_); clear hK' K')
     | (refine ⟨fun hg => ?_, fun hg => ?_⟩ <;> (first | refine hK' _ _ ?_ | refine hK' _ ?_ | refine hK' _ _ _ _ _ _ _ ?_) <;> clear hK' K' <;> (try rw [hg]) <;> (try simp only [decide_eq_true_eq, decide_eq_false_iff_not, ne_eq, Bool.not_eq_true, Bool.not_eq_false, Bool.not_eq_eq_eq_not, Bool.not_true, Bool.not_false, Decidable.not_not, beq_iff_eq, bne_iff_ne, beq_eq_false_iff_ne, Int.not_le, Int.not_lt, reduceCtorEq, not_true_eq_false, not_false_eq_true, Bool.true_eq_false, Bool.false_eq_true, Bool.and_eq_true, Bool.or_eq_false_iff, bne_eq_false_iff_eq, Int.natCast_inj, Int.ofNat_lt] at hg) <;> (try (exfalso; omega))))
    | (simp only [andThenV_normal, andThenV_ret, andThenV_exit, outOfV_normal, outOfV_ret, outOfV_exit, ↓reduceIte, Nat.reduceEqDiff])
    | ((first | refine atEndV_r ?_ | refine atEndV_n ?_); simp (disch := omega) only [go_sem, ↓reduceIte, Nat.reduceEqDiff, Nat.reduceAdd, Nat.reduceMul, Nat.reduceLeDiff, Nat.reduceLT, Nat.reduceSub, Int.reduceToNat, Int.reduceLE, Int.reduceLT, reduceCtorEq, FL_cons]; try (first | rw [deep_bool_eq] | rw [deep_int_eq] | rw [deep_str_eq])))
      rw [h3]; rfl
    | cons k r =>
      simp only [List.length_cons] at h2
      obtain ⟨k1, k2, k3⟩ := drop_cons h1
      have hk : k.name.size ≤ 1073741824 := by have := mem_lsum Ent.tot (List.mem_of_getElem? k1); have e : k.tot = k.name.size := rfl; omega
      rw [kids_step] at h3
      cases p with
      | none =>
        simp only at h4 h3
        subst h4
        repeat' (first
    | refine VC_seq ?_ | refine VC_region ?_ | refine VC_block ?_ | refine VC_exit ?_ | refine VC_ret ?_ | refine VC_skip ?_ | refine VO_nil ?_ | refine VC_draw (by kernel_rfl) ?_ | (refine VD_nil ?_; refine ⟨by kernel_rfl, ?_⟩)
    | ((first | refine VO_stepP rfl rfl ?_ | refine VO_goC rfl rfl ?_ | refine VO_guardP rfl rfl rfl ?_ | refine VO_goG rfl rfl rfl ?_ | refine VC_if ?_ | refine VD_stepP rfl rfl ?_ | refine VD_goC rfl rfl ?_ | refine VD_guardP rfl rfl rfl ?_ | refine VD_goG rfl rfl rfl ?_); intro K' hK'; simp (disch := omega) only [go_sem, ↓reduceIte, Nat.reduceEqDiff, Nat.reduceAdd, Nat.reduceMul, Nat.reduceLeDiff, Nat.reduceLT, Nat.reduceSub, Int.reduceToNat, Int.reduceLE, Int.reduceLT, reduceCtorEq, FL_cons, k1, Ent.enc]; first
     | ((first | refine hK' _ _ ?_ | refine hK' _ ?_ | refine hK' _ _ _ _ _ _ _ ?_); clear hK' K')
     | ((first | refine Pu.g (pu_spec_TreeWord _ hk) rfl rfl ?_ | refine Pu.g (pu_l1Id _) rfl rfl ?_); (first | refine hK' _ _ ?_ | refine hK' _ ?_ | refine hK' _ _ _ _ _ _ _ ?_); clear hK' K')
     | (refine ⟨fun hg => ?_, fun hg => ?_⟩ <;> (first | (first | refine hK' _ _ ?_ | refine hK' _ ?_ | refine hK' _ _ _ _ _ _ _ ?_) | ((first | refine Pu.g (pu_spec_TreeWord _ hk) rfl rfl ?_ | refine Pu.g (pu_l1Id _) rfl rfl ?_); (first | refine hK' _ _ ?_ | refine hK' _ ?_ | refine hK' _ _ _ _ _ _ _ ?_))) <;> clear hK' K' <;> (try rw [hg]) <;> (try simp only [decide_eq_true_eq, decide_eq_false_iff_not, ne_eq, Bool.not_eq_true, Bool.not_eq_false, Bool.not_eq_eq_eq_not, Bool.not_true, Bool.not_false, Decidable.not_not, beq_iff_eq, bne_iff_ne, beq_eq_false_iff_ne, Int.not_le, Int.not_lt, reduceCtorEq, not_true_eq_false, not_false_eq_true, Bool.true_eq_false, Bool.false_eq_true, Bool.and_eq_true, Bool.or_eq_false_iff, bne_eq_false_iff_eq, Int.natCast_inj, Int.ofNat_lt] at hg) <;> (try (exfalso; omega))))
    | (simp only [andThenV_normal, andThenV_ret, andThenV_exit, outOfV_normal, outOfV_ret, outOfV_exit, ↓reduceIte, Nat.reduceEqDiff])
    | ((first | refine atEndV_r ?_ | refine atEndV_n ?_); simp (disch := omega) only [go_sem, ↓reduceIte, Nat.reduceEqDiff, Nat.reduceAdd, Nat.reduceMul, Nat.reduceLeDiff, Nat.reduceLT, Nat.reduceSub, Int.reduceToNat, Int.reduceLE, Int.reduceLT, reduceCtorEq, FL_cons, k1, Ent.enc]; try (first | rw [deep_bool_eq] | rw [deep_int_eq] | rw [deep_str_eq])))
        all_goals first
          | (refine ⟨(1, some k.name, r), by simp, ⟨k2, by simp; omega, ?_, ⟨0, k, rfl, k1, rfl⟩⟩, ?_⟩
             · rw [h3]; simp_all [inB] <;> omega
             · (refine ⟨[], ?_, ?_, by decide, by simp⟩; (· simp (disch := omega) only [AllRN, go_sem, ↓reduceIte, Nat.reduceEqDiff, Nat.reduceAdd, Nat.reduceMul, Nat.reduceLeDiff, Nat.reduceLT, Nat.reduceSub, Int.reduceToNat, Int.reduceLE, Int.reduceLT, reduceCtorEq, Int.natCast_add, Int.cast_ofNat_Int]; (repeat' (first | exact trivial | (refine ⟨?_, ?_⟩) | exact RN.im rfl | exact RN.any _ _ | exact RN.ptr _ rfl | exact RN.ref _ _ rfl | exact RN.nil _ | (refine RN.int ?_; omega)))); (· (try simp (disch := omega) only [RNH, RNL, Int.natCast_add, Int.cast_ofNat_Int, go_sem, ↓reduceIte, Nat.reduceEqDiff, Nat.reduceAdd, Nat.reduceMul, Nat.reduceLeDiff, Nat.reduceLT, Nat.reduceSub, Int.reduceToNat, Int.reduceLE, Int.reduceLT, reduceCtorEq]); (repeat' (first | exact trivial | (refine ⟨_, rfl, rfl, ?_⟩) | (refine ⟨?_, ?_⟩) | exact RNL.im rfl | exact RN.im rfl | exact RN.any _ _ | exact RN.ptr _ rfl | exact RN.ref _ _ rfl | exact RN.nil _ | (refine RN.int ?_; omega))))))
          | (rw [h3]; simp_all [inB] <;> omega)
      | some q =>
        obtain ⟨j, e, rfl, he, hq⟩ := h4
        simp only at h3
        subst hq
        repeat' (first
    | refine VC_seq ?_ | refine VC_region ?_ | refine VC_block ?_ | refine VC_exit ?_ | refine VC_ret ?_ | refine VC_skip ?_ | refine VO_nil ?_ | refine VC_draw (by kernel_rfl) ?_ | (refine VD_nil ?_; refine ⟨by kernel_rfl, ?_⟩)
    | ((first | refine VO_stepP rfl rfl ?_ | refine VO_goC rfl rfl ?_ | refine VO_guardP rfl rfl rfl ?_ | refine VO_goG rfl rfl rfl ?_ | refine VC_if ?_ | refine VD_stepP rfl rfl ?_ | refine VD_goC rfl rfl ?_ | refine VD_guardP rfl rfl rfl ?_ | refine VD_goG rfl rfl rfl ?_); intro K' hK'; simp (disch := omega) only [go_sem, ↓reduceIte, Nat.reduceEqDiff, Nat.reduceAdd, Nat.reduceMul, Nat.reduceLeDiff, Nat.reduceLT, Nat.reduceSub, Int.reduceToNat, Int.reduceLE, Int.reduceLT, reduceCtorEq, FL_cons, k1, he, Ent.enc, succ_sub, bsless_eq, not_tri]; first
     | ((first | refine hK' _ _ ?_ | refine hK' _ ?_ | refine hK' _ _ _ _ _ _ _ ?_); clear hK' K')
     | ((first | refine Pu.g (pu_spec_TreeWord _ hk) rfl rfl ?_ | refine Pu.g (pu_l1Id _) rfl rfl ?_); (first | refine hK' _ _ ?_ | refine hK' _ ?_ | refine hK' _ _ _ _ _ _ _ ?_); clear hK' K')
     | (refine ⟨fun hg => ?_, fun hg => ?_⟩ <;> (first | (first | refine hK' _ _ ?_ | refine hK' _ ?_ | refine hK' _ _ _ _ _ _ _ ?_) | ((first | refine Pu.g (pu_spec_TreeWord _ hk) rfl rfl ?_ | refine Pu.g (pu_l1Id _) rfl rfl ?_); (first | refine hK' _ _ ?_ | refine hK' _ ?_ | refine hK' _ _ _ _ _ _ _ ?_))) <;> clear hK' K' <;> (try rw [hg]) <;> (try simp only [decide_eq_true_eq, decide_eq_false_iff_not, ne_eq, Bool.not_eq_true, Bool.not_eq_false, Bool.not_eq_eq_eq_not, Bool.not_true, Bool.not_false, Decidable.not_not, beq_iff_eq, bne_iff_ne, beq_eq_false_iff_ne, Int.not_le, Int.not_lt, reduceCtorEq, not_true_eq_false, not_false_eq_true, Bool.true_eq_false, Bool.false_eq_true, Bool.and_eq_true, Bool.or_eq_false_iff, bne_eq_false_iff_eq, Int.natCast_inj, Int.ofNat_lt] at hg) <;> (try (exfalso; omega))))
    | (simp only [andThenV_normal, andThenV_ret, andThenV_exit, outOfV_normal, outOfV_ret, outOfV_exit, ↓reduceIte, Nat.reduceEqDiff])
    | ((first | refine atEndV_r ?_ | refine atEndV_n ?_); simp (disch := omega) only [go_sem, ↓reduceIte, Nat.reduceEqDiff, Nat.reduceAdd, Nat.reduceMul, Nat.reduceLeDiff, Nat.reduceLT, Nat.reduceSub, Int.reduceToNat, Int.reduceLE, Int.reduceLT, reduceCtorEq, FL_cons, k1, he, Ent.enc, succ_sub, bsless_eq, not_tri]; try (first | rw [deep_bool_eq] | rw [deep_int_eq] | rw [deep_str_eq])))
        all_goals first
          | (refine ⟨(j + 2, some k.name, r), by simp, ⟨k2, by simp; omega, ?_, ⟨j + 1, k, rfl, k1, rfl⟩⟩, ?_⟩
             · rw [h3]; simp_all [inB] <;> omega
             · (refine ⟨[], ?_, ?_, by decide, by simp⟩; (· simp (disch := omega) only [AllRN, go_sem, ↓reduceIte, Nat.reduceEqDiff, Nat.reduceAdd, Nat.reduceMul, Nat.reduceLeDiff, Nat.reduceLT, Nat.reduceSub, Int.reduceToNat, Int.reduceLE, Int.reduceLT, reduceCtorEq, Int.natCast_add, Int.cast_ofNat_Int]; (repeat' (first | exact trivial | (refine ⟨?_, ?_⟩) | exact RN.im rfl | exact RN.any _ _ | exact RN.ptr _ rfl | exact RN.ref _ _ rfl | exact RN.nil _ | (refine RN.int ?_; omega)))); (· (try simp (disch := omega) only [RNH, RNL, Int.natCast_add, Int.cast_ofNat_Int, go_sem, ↓reduceIte, Nat.reduceEqDiff, Nat.reduceAdd, Nat.reduceMul, Nat.reduceLeDiff, Nat.reduceLT, Nat.reduceSub, Int.reduceToNat, Int.reduceLE, Int.reduceLT, reduceCtorEq]); (repeat' (first | exact trivial | (refine ⟨_, rfl, rfl, ?_⟩) | (refine ⟨?_, ?_⟩) | exact RNL.im rfl | exact RN.im rfl | exact RN.any _ _ | exact RN.ptr _ rfl | exact RN.ref _ _ rfl | exact RN.nil _ | (refine RN.int ?_; omega))))))
          | (rw [h3]; simp_all [inB] <;> omega)
  · exact ⟨rfl, by simp, rfl, rfl⟩
  · (refine ⟨[], ?_, ?_, by decide, by simp⟩; (· simp (disch := omega) only [AllRN, go_sem, ↓reduceIte, Nat.reduceEqDiff, Nat.reduceAdd, Nat.reduceMul, Nat.reduceLeDiff, Nat.reduceLT, Nat.reduceSub, Int.reduceToNat, Int.reduceLE, Int.reduceLT, reduceCtorEq, Int.natCast_add, Int.cast_ofNat_Int]; (repeat' (first | exact trivial | (refine ⟨?_, ?_⟩) | exact RN.im rfl | exact RN.any _ _ | exact RN.ptr _ rfl | exact RN.ref _ _ rfl | exact RN.nil _ | (refine RN.int ?_; omega)))); (· (try simp (disch := omega) only [RNH, RNL, Int.natCast_add, Int.cast_ofNat_Int, go_sem, ↓reduceIte, Nat.reduceEqDiff, Nat.reduceAdd, Nat.reduceMul, Nat.reduceLeDiff, Nat.reduceLT, Nat.reduceSub, Int.reduceToNat, Int.reduceLE, Int.reduceLT, reduceCtorEq]); (repeat' (first | exact trivial | (refine ⟨_, rfl, rfl, ?_⟩) | (refine ⟨?_, ?_⟩) | exact RNL.im rfl | exact RN.im rfl | exact RN.any _ _ | exact RN.ptr _ rfl | exact RN.ref _ _ rfl | exact RN.nil _ | (refine RN.int ?_; omega)))))

theorem pu_l1Obj (o : TObj) (hn : o.tot ≤ 1073741824) : Pu Try.prog X 98 [.agg o.enc] (.bool (objOk o)) := by
  refine Pu.body Try.func98 rfl (rs := [.tmp 2]) rfl okf_98 (by rw [Try.ntmps98]; simp) ?_
  unfold TObj.tot at hn
  have h1 : o.text.size ≤ 1073741824 := by omega
  have h2 : lsum Ent.tot o.kids ≤ 1073741824 := by omega
  have h3 : o.kids.length ≤ 1073741824 := by have := le_lsum Ent.tot o.kids; omega
  repeat' (first
    | refine VC_seq ?_ | refine VC_region ?_ | refine VC_block ?_ | refine VC_exit ?_ | refine VC_ret ?_ | refine VC_skip ?_ | refine VO_nil ?_ | refine VC_draw (by kernel_rfl) ?_ | (refine VD_nil ?_; refine ⟨by kernel_rfl, ?_⟩)
    | ((first | refine VO_stepP rfl rfl ?_ | refine VO_goC rfl rfl ?_ | refine VO_guardP rfl rfl rfl ?_ | refine VO_goG rfl rfl rfl ?_ | refine VC_if ?_ | refine VD_stepP rfl rfl ?_ | refine VD_goC rfl rfl ?_ | refine VD_guardP rfl rfl rfl ?_ | refine VD_goG rfl rfl rfl ?_); intro K' hK'; simp (disch := omega) only [go_sem, ↓reduceIte, Nat.reduceEqDiff, Nat.reduceAdd, Nat.reduceMul, Nat.reduceLeDiff, Nat.reduceLT, Nat.reduceSub, Int.reduceToNat, Int.reduceLE, Int.reduceLT, reduceCtorEq, TObj.enc, empty_eq, len_zero]; first
     | ((first | refine hK' _ _ ?_ | refine hK' _ ?_ | refine hK' _ _ _ _ _ _ _ ?_); clear hK' K')
     | ((first | refine Pu.g (pu_spec_TreeBody _ h1) rfl rfl ?_ | refine Pu.g (pu_l1Kids _ h2) rfl rfl ?_); (first | refine hK' _ _ ?_ | refine hK' _ ?_ | refine hK' _ _ _ _ _ _ _ ?_); clear hK' K')
     | (refine ⟨fun hg => ?_, fun hg => ?_⟩ <;> (first | (first | refine hK' _ _ ?_ | refine hK' _ ?_ | refine hK' _ _ _ _ _ _ _ ?_) | ((first | refine Pu.g (pu_spec_TreeBody _ h1) rfl rfl ?_ | refine Pu.g (pu_l1Kids _ h2) rfl rfl ?_); (first | refine hK' _ _ ?_ | refine hK' _ ?_ | refine hK' _ _ _ _ _ _ _ ?_))) <;> clear hK' K' <;> (try rw [hg]) <;> (try simp only [decide_eq_true_eq, decide_eq_false_iff_not, ne_eq, Bool.not_eq_true, Bool.not_eq_false, Bool.not_eq_eq_eq_not, Bool.not_true, Bool.not_false, Decidable.not_not, beq_iff_eq, bne_iff_ne, beq_eq_false_iff_ne, Int.not_le, Int.not_lt, reduceCtorEq, not_true_eq_false, not_false_eq_true, Bool.true_eq_false, Bool.false_eq_true, Bool.and_eq_true, Bool.or_eq_false_iff, bne_eq_false_iff_eq, Int.natCast_inj, Int.ofNat_lt] at hg) <;> (try (exfalso; omega))))
    | (simp only [andThenV_normal, andThenV_ret, andThenV_exit, outOfV_normal, outOfV_ret, outOfV_exit, ↓reduceIte, Nat.reduceEqDiff])
    | ((first | refine atEndV_r ?_ | refine atEndV_n ?_); simp (disch := omega) only [go_sem, ↓reduceIte, Nat.reduceEqDiff, Nat.reduceAdd, Nat.reduceMul, Nat.reduceLeDiff, Nat.reduceLT, Nat.reduceSub, Int.reduceToNat, Int.reduceLE, Int.reduceLT, reduceCtorEq, TObj.enc, empty_eq, len_zero]; try (first | rw [deep_bool_eq] | rw [deep_int_eq] | rw [deep_str_eq])))
  all_goals (first | (simp_all [objOk, inB, noText]; done) | (simp_all [objOk, inB, noText]; omega))

theorem objOk2 {o : TObj} (h : o.kind = 2) (h2 : inB o.ver 0 1000000 = true) : objOk o = (decide (o.text = noText) && kidsOk o.kids && decide (0 < o.ver)) := by
  simp [objOk, h, h2]
theorem pu_objOk (o : TObj) (hn : o.tot ≤ 1073741824) : Pu Try.prog X 122 [.agg o.enc] (.bool (objOk o)) := by
  refine Pu.body Try.func122 rfl (rs := [.tmp 2]) rfl okf_122 (by rw [Try.ntmps122]; simp) ?_
  unfold TObj.tot at hn
  have q1 : o.text.size ≤ 1073741824 := by omega
  have q2 : lsum Ent.tot o.kids ≤ 1073741824 := by omega
  have q3 := le_lsum Ent.tot o.kids
  repeat' (first
    | refine VC_seq ?_ | refine VC_region ?_ | refine VC_block ?_ | refine VC_exit ?_ | refine VC_ret ?_ | refine VC_skip ?_ | refine VO_nil ?_ | refine VC_draw (by kernel_rfl) ?_ | (refine VD_nil ?_; refine ⟨by kernel_rfl, ?_⟩)
    | ((first | refine VO_stepP rfl rfl ?_ | refine VO_goC rfl rfl ?_ | refine VO_guardP rfl rfl rfl ?_ | refine VO_goG rfl rfl rfl ?_ | refine VC_if ?_ | refine VD_stepP rfl rfl ?_ | refine VD_goC rfl rfl ?_ | refine VD_guardP rfl rfl rfl ?_ | refine VD_goG rfl rfl rfl ?_); intro K' hK'; simp (disch := omega) only [go_sem, ↓reduceIte, Nat.reduceEqDiff, Nat.reduceAdd, Nat.reduceMul, Nat.reduceLeDiff, Nat.reduceLT, Nat.reduceSub, Int.reduceToNat, Int.reduceLE, Int.reduceLT, reduceCtorEq, TObj.enc, empty_eq, len_zero]; first
     | ((first | refine hK' _ _ ?_ | refine hK' _ ?_ | refine hK' _ _ _ _ _ _ _ ?_); clear hK' K')
     | ((first | refine Pu.g (pu_in _ _ _) rfl rfl ?_ | refine Pu.g (pu_impl_TreeBody _ q1) rfl rfl ?_); (first | refine hK' _ _ ?_ | refine hK' _ ?_ | refine hK' _ _ _ _ _ _ _ ?_); clear hK' K')
     | (refine ⟨fun hg => ?_, fun hg => ?_⟩ <;> (first | (first | refine hK' _ _ ?_ | refine hK' _ ?_ | refine hK' _ _ _ _ _ _ _ ?_) | ((first | refine Pu.g (pu_in _ _ _) rfl rfl ?_ | refine Pu.g (pu_impl_TreeBody _ q1) rfl rfl ?_); (first | refine hK' _ _ ?_ | refine hK' _ ?_ | refine hK' _ _ _ _ _ _ _ ?_))) <;> clear hK' K' <;> (try rw [hg]) <;> (try simp only [decide_eq_true_eq, decide_eq_false_iff_not, ne_eq, Bool.not_eq_true, Bool.not_eq_false, Bool.not_eq_eq_eq_not, Bool.not_true, Bool.not_false, Decidable.not_not, beq_iff_eq, bne_iff_ne, beq_eq_false_iff_ne, Int.not_le, Int.not_lt, reduceCtorEq, not_true_eq_false, not_false_eq_true, Bool.true_eq_false, Bool.false_eq_true, Bool.and_eq_true, Bool.or_eq_false_iff, bne_eq_false_iff_eq, Int.natCast_inj, Int.ofNat_lt] at hg) <;> (try (exfalso; omega))))
    | (simp only [andThenV_normal, andThenV_ret, andThenV_exit, outOfV_normal, outOfV_ret, outOfV_exit, ↓reduceIte, Nat.reduceEqDiff])
    | ((first | refine atEndV_r ?_ | refine atEndV_n ?_); simp (disch := omega) only [go_sem, ↓reduceIte, Nat.reduceEqDiff, Nat.reduceAdd, Nat.reduceMul, Nat.reduceLeDiff, Nat.reduceLT, Nat.reduceSub, Int.reduceToNat, Int.reduceLE, Int.reduceLT, reduceCtorEq, TObj.enc, empty_eq, len_zero]; try (first | rw [deep_bool_eq] | rw [deep_int_eq] | rw [deep_str_eq])))
  all_goals try (first | (simp_all [objOk, inB, noText]; done) | (simp_all [objOk, inB, noText]; omega))
  refine VC_loop (α := Nat × Option ByteArray × List Ent) (fun y => y.2.2.length) (fun y => [(1, .ptr 0 0), (41, .sl 2 (o.kids.map Ent.enc)), (42, .int .i64 o.kids.length), (43, .int .i64 y.1)]) (fun _ => [some ⟨o.enc, 0⟩])
    (fun y => o.kids.drop y.1 = y.2.2 ∧ y.1 + y.2.2.length = o.kids.length ∧ kidsOk o.kids = kidsFrom y.2.1 y.2.2 ∧
      (match y.2.1 with | none => y.1 = 0 | some q => ∃ j e, y.1 = j + 1 ∧ o.kids[j]? = some e ∧ e.name = q)) ?_ (0, none, o.kids) ?_ ?_
  · rintro ⟨i, p, r⟩ ⟨h1, h2, h3, h4⟩
    simp only at h1 h2 h3 h4 ⊢
    cases r with
    | nil =>
      simp only [List.length_nil] at h2
      repeat' (first
    | refine VC_seq ?_ | refine VC_region ?_ | refine VC_block ?_ | refine VC_exit ?_ | refine VC_ret ?_ | refine VC_skip ?_ | refine VO_nil ?_ | refine VC_draw (by kernel_rfl) ?_ | (refine VD_nil ?_; refine ⟨by kernel_rfl, ?_⟩)
    | ((first | refine VO_stepP rfl rfl ?_ | refine VO_goC rfl rfl ?_ | refine VO_guardP rfl rfl rfl ?_ | refine VO_goG rfl rfl rfl ?_ | refine VC_if ?_ | refine VD_stepP rfl rfl ?_ | refine VD_goC rfl rfl ?_ | refine VD_guardP rfl rfl rfl ?_ | refine VD_goG rfl rfl rfl ?_); intro K' hK'; simp (disch := omega) only [go_sem, ↓reduceIte, Nat.reduceEqDiff, Nat.reduceAdd, Nat.reduceMul, Nat.reduceLeDiff, Nat.reduceLT, Nat.reduceSub, Int.reduceToNat, Int.reduceLE, Int.reduceLT, reduceCtorEq, FL_cons, TObj.enc, empty_eq]; first
     | ((first | refine hK' _ _ ?_ | refine hK' _ ?_ | refine hK' _ _ _ _ _ _ _ ?_); clear hK' K')
     | (refine ⟨fun hg => ?_, fun hg => ?_⟩ <;> (first | refine hK' _ _ ?_ | refine hK' _ ?_ | refine hK' _ _ _ _ _ _ _ ?_) <;> clear hK' K' <;> (try rw [hg]) <;> (try simp only [decide_eq_true_eq, decide_eq_false_iff_not, ne_eq, Bool.not_eq_true, Bool.not_eq_false, Bool.not_eq_eq_eq_not, Bool.not_true, Bool.not_false, Decidable.not_not, beq_iff_eq, bne_iff_ne, beq_eq_false_iff_ne, Int.not_le, Int.not_lt, reduceCtorEq, not_true_eq_false, not_false_eq_true, Bool.true_eq_false, Bool.false_eq_true, Bool.and_eq_true, Bool.or_eq_false_iff, bne_eq_false_iff_eq, Int.natCast_inj, Int.ofNat_lt] at hg) <;> (try (exfalso; omega))))
    | (simp only [andThenV_normal, andThenV_ret, andThenV_exit, outOfV_normal, outOfV_ret, outOfV_exit, ↓reduceIte, Nat.reduceEqDiff])
    | ((first | refine atEndV_r ?_ | refine atEndV_n ?_); simp (disch := omega) only [go_sem, ↓reduceIte, Nat.reduceEqDiff, Nat.reduceAdd, Nat.reduceMul, Nat.reduceLeDiff, Nat.reduceLT, Nat.reduceSub, Int.reduceToNat, Int.reduceLE, Int.reduceLT, reduceCtorEq, FL_cons, TObj.enc, empty_eq]; try (first | rw [deep_bool_eq] | rw [deep_int_eq] | rw [deep_str_eq])))
      all_goals (rw [objOk2 ‹_› ‹_›, h3]; congr 1; simp_all [kidsFrom])
      all_goals exact Iff.rfl
    | cons k r =>
      simp only [List.length_cons] at h2
      obtain ⟨k1, k2, k3⟩ := drop_cons h1
      have hk : k.name.size ≤ 1073741824 := by have := mem_lsum Ent.tot (List.mem_of_getElem? k1); have e : k.tot = k.name.size := rfl; omega
      rw [kids_step] at h3
      cases p with
      | none =>
        simp only at h4 h3
        subst h4
        repeat' (first
    | refine VC_seq ?_ | refine VC_region ?_ | refine VC_block ?_ | refine VC_exit ?_ | refine VC_ret ?_ | refine VC_skip ?_ | refine VO_nil ?_ | refine VC_draw (by kernel_rfl) ?_ | (refine VD_nil ?_; refine ⟨by kernel_rfl, ?_⟩)
    | ((first | refine VO_stepP rfl rfl ?_ | refine VO_goC rfl rfl ?_ | refine VO_guardP rfl rfl rfl ?_ | refine VO_goG rfl rfl rfl ?_ | refine VC_if ?_ | refine VD_stepP rfl rfl ?_ | refine VD_goC rfl rfl ?_ | refine VD_guardP rfl rfl rfl ?_ | refine VD_goG rfl rfl rfl ?_); intro K' hK'; simp (disch := omega) only [go_sem, ↓reduceIte, Nat.reduceEqDiff, Nat.reduceAdd, Nat.reduceMul, Nat.reduceLeDiff, Nat.reduceLT, Nat.reduceSub, Int.reduceToNat, Int.reduceLE, Int.reduceLT, reduceCtorEq, FL_cons, k1, Ent.enc, TObj.enc]; first
     | ((first | refine hK' _ _ ?_ | refine hK' _ ?_ | refine hK' _ _ _ _ _ _ _ ?_); clear hK' K')
     | ((first | refine Pu.g (pu_impl_TreeWord _ hk) rfl rfl ?_ | refine Pu.g (pu_in _ _ _) rfl rfl ?_); (first | refine hK' _ _ ?_ | refine hK' _ ?_ | refine hK' _ _ _ _ _ _ _ ?_); clear hK' K')
     | (refine ⟨fun hg => ?_, fun hg => ?_⟩ <;> (first | (first | refine hK' _ _ ?_ | refine hK' _ ?_ | refine hK' _ _ _ _ _ _ _ ?_) | ((first | refine Pu.g (pu_impl_TreeWord _ hk) rfl rfl ?_ | refine Pu.g (pu_in _ _ _) rfl rfl ?_); (first | refine hK' _ _ ?_ | refine hK' _ ?_ | refine hK' _ _ _ _ _ _ _ ?_))) <;> clear hK' K' <;> (try rw [hg]) <;> (try simp only [decide_eq_true_eq, decide_eq_false_iff_not, ne_eq, Bool.not_eq_true, Bool.not_eq_false, Bool.not_eq_eq_eq_not, Bool.not_true, Bool.not_false, Decidable.not_not, beq_iff_eq, bne_iff_ne, beq_eq_false_iff_ne, Int.not_le, Int.not_lt, reduceCtorEq, not_true_eq_false, not_false_eq_true, Bool.true_eq_false, Bool.false_eq_true, Bool.and_eq_true, Bool.or_eq_false_iff, bne_eq_false_iff_eq, Int.natCast_inj, Int.ofNat_lt] at hg) <;> (try (exfalso; omega))))
    | (simp only [andThenV_normal, andThenV_ret, andThenV_exit, outOfV_normal, outOfV_ret, outOfV_exit, ↓reduceIte, Nat.reduceEqDiff])
    | ((first | refine atEndV_r ?_ | refine atEndV_n ?_); simp (disch := omega) only [go_sem, ↓reduceIte, Nat.reduceEqDiff, Nat.reduceAdd, Nat.reduceMul, Nat.reduceLeDiff, Nat.reduceLT, Nat.reduceSub, Int.reduceToNat, Int.reduceLE, Int.reduceLT, reduceCtorEq, FL_cons, k1, Ent.enc, TObj.enc]; try (first | rw [deep_bool_eq] | rw [deep_int_eq] | rw [deep_str_eq])))
        all_goals first
          | (refine ⟨(1, some k.name, r), by simp, ⟨k2, by simp; omega, ?_, ⟨0, k, rfl, k1, rfl⟩⟩, ?_⟩
             · rw [h3]; simp_all [inB] <;> omega
             · (refine ⟨[0], ?_, ?_, by decide, by simp⟩; (· simp (disch := omega) only [AllRN, go_sem, ↓reduceIte, Nat.reduceEqDiff, Nat.reduceAdd, Nat.reduceMul, Nat.reduceLeDiff, Nat.reduceLT, Nat.reduceSub, Int.reduceToNat, Int.reduceLE, Int.reduceLT, reduceCtorEq, Int.natCast_add, Int.cast_ofNat_Int]; (repeat' (first | exact trivial | (refine ⟨?_, ?_⟩) | exact RN.im rfl | exact RN.any _ _ | exact RN.ptr _ rfl | exact RN.ref _ _ rfl | exact RN.nil _ | (refine RN.int ?_; omega)))); (· (try simp (disch := omega) only [RNH, RNL, Int.natCast_add, Int.cast_ofNat_Int, go_sem, ↓reduceIte, Nat.reduceEqDiff, Nat.reduceAdd, Nat.reduceMul, Nat.reduceLeDiff, Nat.reduceLT, Nat.reduceSub, Int.reduceToNat, Int.reduceLE, Int.reduceLT, reduceCtorEq]); (repeat' (first | exact trivial | (refine ⟨_, rfl, rfl, ?_⟩) | (refine ⟨?_, ?_⟩) | exact RNL.im rfl | exact RN.im rfl | exact RN.any _ _ | exact RN.ptr _ rfl | exact RN.ref _ _ rfl | exact RN.nil _ | (refine RN.int ?_; omega))))))
          | (rw [objOk2 ‹_› ‹_›, h3]; congr 1; simp_all; done)
      | some q =>
        obtain ⟨j, e, rfl, he, hq⟩ := h4
        simp only at h3
        subst hq
        repeat' (first
    | refine VC_seq ?_ | refine VC_region ?_ | refine VC_block ?_ | refine VC_exit ?_ | refine VC_ret ?_ | refine VC_skip ?_ | refine VO_nil ?_ | refine VC_draw (by kernel_rfl) ?_ | (refine VD_nil ?_; refine ⟨by kernel_rfl, ?_⟩)
    | ((first | refine VO_stepP rfl rfl ?_ | refine VO_goC rfl rfl ?_ | refine VO_guardP rfl rfl rfl ?_ | refine VO_goG rfl rfl rfl ?_ | refine VC_if ?_ | refine VD_stepP rfl rfl ?_ | refine VD_goC rfl rfl ?_ | refine VD_guardP rfl rfl rfl ?_ | refine VD_goG rfl rfl rfl ?_); intro K' hK'; simp (disch := omega) only [go_sem, ↓reduceIte, Nat.reduceEqDiff, Nat.reduceAdd, Nat.reduceMul, Nat.reduceLeDiff, Nat.reduceLT, Nat.reduceSub, Int.reduceToNat, Int.reduceLE, Int.reduceLT, reduceCtorEq, FL_cons, k1, he, Ent.enc, TObj.enc, succ_sub, bsless_eq]; first
     | ((first | refine hK' _ _ ?_ | refine hK' _ ?_ | refine hK' _ _ _ _ _ _ _ ?_); clear hK' K')
     | ((first | refine Pu.g (pu_impl_TreeWord _ hk) rfl rfl ?_ | refine Pu.g (pu_in _ _ _) rfl rfl ?_); (first | refine hK' _ _ ?_ | refine hK' _ ?_ | refine hK' _ _ _ _ _ _ _ ?_); clear hK' K')
     | (refine ⟨fun hg => ?_, fun hg => ?_⟩ <;> (first | (first | refine hK' _ _ ?_ | refine hK' _ ?_ | refine hK' _ _ _ _ _ _ _ ?_) | ((first | refine Pu.g (pu_impl_TreeWord _ hk) rfl rfl ?_ | refine Pu.g (pu_in _ _ _) rfl rfl ?_); (first | refine hK' _ _ ?_ | refine hK' _ ?_ | refine hK' _ _ _ _ _ _ _ ?_))) <;> clear hK' K' <;> (try rw [hg]) <;> (try simp only [decide_eq_true_eq, decide_eq_false_iff_not, ne_eq, Bool.not_eq_true, Bool.not_eq_false, Bool.not_eq_eq_eq_not, Bool.not_true, Bool.not_false, Decidable.not_not, beq_iff_eq, bne_iff_ne, beq_eq_false_iff_ne, Int.not_le, Int.not_lt, reduceCtorEq, not_true_eq_false, not_false_eq_true, Bool.true_eq_false, Bool.false_eq_true, Bool.and_eq_true, Bool.or_eq_false_iff, bne_eq_false_iff_eq, Int.natCast_inj, Int.ofNat_lt] at hg) <;> (try (exfalso; omega))))
    | (simp only [andThenV_normal, andThenV_ret, andThenV_exit, outOfV_normal, outOfV_ret, outOfV_exit, ↓reduceIte, Nat.reduceEqDiff])
    | ((first | refine atEndV_r ?_ | refine atEndV_n ?_); simp (disch := omega) only [go_sem, ↓reduceIte, Nat.reduceEqDiff, Nat.reduceAdd, Nat.reduceMul, Nat.reduceLeDiff, Nat.reduceLT, Nat.reduceSub, Int.reduceToNat, Int.reduceLE, Int.reduceLT, reduceCtorEq, FL_cons, k1, he, Ent.enc, TObj.enc, succ_sub, bsless_eq]; try (first | rw [deep_bool_eq] | rw [deep_int_eq] | rw [deep_str_eq])))
        all_goals first
          | (refine ⟨(j + 2, some k.name, r), by simp, ⟨k2, by simp; omega, ?_, ⟨j + 1, k, rfl, k1, rfl⟩⟩, ?_⟩
             · rw [h3]; simp_all [inB] <;> omega
             · (refine ⟨[0], ?_, ?_, by decide, by simp⟩; (· simp (disch := omega) only [AllRN, go_sem, ↓reduceIte, Nat.reduceEqDiff, Nat.reduceAdd, Nat.reduceMul, Nat.reduceLeDiff, Nat.reduceLT, Nat.reduceSub, Int.reduceToNat, Int.reduceLE, Int.reduceLT, reduceCtorEq, Int.natCast_add, Int.cast_ofNat_Int]; (repeat' (first | exact trivial | (refine ⟨?_, ?_⟩) | exact RN.im rfl | exact RN.any _ _ | exact RN.ptr _ rfl | exact RN.ref _ _ rfl | exact RN.nil _ | (refine RN.int ?_; omega)))); (· (try simp (disch := omega) only [RNH, RNL, Int.natCast_add, Int.cast_ofNat_Int, go_sem, ↓reduceIte, Nat.reduceEqDiff, Nat.reduceAdd, Nat.reduceMul, Nat.reduceLeDiff, Nat.reduceLT, Nat.reduceSub, Int.reduceToNat, Int.reduceLE, Int.reduceLT, reduceCtorEq]); (repeat' (first | exact trivial | (refine ⟨_, rfl, rfl, ?_⟩) | (refine ⟨?_, ?_⟩) | exact RNL.im rfl | exact RN.im rfl | exact RN.any _ _ | exact RN.ptr _ rfl | exact RN.ref _ _ rfl | exact RN.nil _ | (refine RN.int ?_; omega))))))
          | (rw [objOk2 ‹_› ‹_›, h3]; congr 1; simp_all; done)
  · exact ⟨rfl, by simp, rfl, rfl⟩
  · (refine ⟨[0], ?_, ?_, by decide, by simp⟩; (· simp (disch := omega) only [AllRN, go_sem, ↓reduceIte, Nat.reduceEqDiff, Nat.reduceAdd, Nat.reduceMul, Nat.reduceLeDiff, Nat.reduceLT, Nat.reduceSub, Int.reduceToNat, Int.reduceLE, Int.reduceLT, reduceCtorEq, Int.natCast_add, Int.cast_ofNat_Int]; (repeat' (first | exact trivial | (refine ⟨?_, ?_⟩) | exact RN.im rfl | exact RN.any _ _ | exact RN.ptr _ rfl | exact RN.ref _ _ rfl | exact RN.nil _ | (refine RN.int ?_; omega)))); (· (try simp (disch := omega) only [RNH, RNL, Int.natCast_add, Int.cast_ofNat_Int, go_sem, ↓reduceIte, Nat.reduceEqDiff, Nat.reduceAdd, Nat.reduceMul, Nat.reduceLeDiff, Nat.reduceLT, Nat.reduceSub, Int.reduceToNat, Int.reduceLE, Int.reduceLT, reduceCtorEq]); (repeat' (first | exact trivial | (refine ⟨_, rfl, rfl, ?_⟩) | (refine ⟨?_, ?_⟩) | exact RNL.im rfl | exact RN.im rfl | exact RN.any _ _ | exact RN.ptr _ rfl | exact RN.ref _ _ rfl | exact RN.nil _ | (refine RN.int ?_; omega)))))

theorem home_none {ks : List Ent} {i : Nat} {id : Int} {o : TObj} {os : List TObj} (h : o.kids.any (fun k => k.id == id) = false) : homeFrom i id (o :: os) = homeFrom (i + 1) id os := by simp [homeFrom, h]
theorem pu_l1Home (t : Tree) (id : Int) (hn : t.tot ≤ 1073741824) : Pu Try.prog X 135 [.agg t.enc, .int .i64 id] (.int .i64 (home t id)) := by
  refine Pu.body Try.func135 rfl (rs := [.tmp 4]) rfl okf_135 (by rw [Try.ntmps135]; simp) ?_
  unfold Tree.tot at hn
  have hl := le_lsum TObj.tot t.objs
  repeat' (first
    | refine VC_seq ?_ | refine VC_region ?_ | refine VC_block ?_ | refine VC_exit ?_ | refine VC_ret ?_ | refine VC_skip ?_ | refine VO_nil ?_ | refine VC_draw (by kernel_rfl) ?_ | (refine VD_nil ?_; refine ⟨by kernel_rfl, ?_⟩)
    | ((first | refine VO_stepP rfl rfl ?_ | refine VO_goC rfl rfl ?_ | refine VO_guardP rfl rfl rfl ?_ | refine VO_goG rfl rfl rfl ?_ | refine VC_if ?_ | refine VD_stepP rfl rfl ?_ | refine VD_goC rfl rfl ?_ | refine VD_guardP rfl rfl rfl ?_ | refine VD_goG rfl rfl rfl ?_); intro K' hK'; simp (disch := omega) only [go_sem, ↓reduceIte, Nat.reduceEqDiff, Nat.reduceAdd, Nat.reduceMul, Nat.reduceLeDiff, Nat.reduceLT, Nat.reduceSub, Int.reduceToNat, Int.reduceLE, Int.reduceLT, reduceCtorEq, Tree.enc]; first
     | ((first | refine hK' _ _ ?_ | refine hK' _ ?_ | refine hK' _ _ _ _ _ _ _ ?_); clear hK' K')
     | (refine ⟨fun hg => ?_, fun hg => ?_⟩ <;> (first | refine hK' _ _ ?_ | refine hK' _ ?_ | refine hK' _ _ _ _ _ _ _ ?_) <;> clear hK' K' <;> (try rw [hg]) <;> (try simp only [decide_eq_true_eq, decide_eq_false_iff_not, ne_eq, Bool.not_eq_true, Bool.not_eq_false, Bool.not_eq_eq_eq_not, Bool.not_true, Bool.not_false, Decidable.not_not, beq_iff_eq, bne_iff_ne, beq_eq_false_iff_ne, Int.not_le, Int.not_lt, reduceCtorEq, not_true_eq_false, not_false_eq_true, Bool.true_eq_false, Bool.false_eq_true, Bool.and_eq_true, Bool.or_eq_false_iff, bne_eq_false_iff_eq, Int.natCast_inj, Int.ofNat_lt] at hg) <;> (try (exfalso; omega))))
    | (simp only [andThenV_normal, andThenV_ret, andThenV_exit, outOfV_normal, outOfV_ret, outOfV_exit, ↓reduceIte, Nat.reduceEqDiff])
    | ((first | refine atEndV_r ?_ | refine atEndV_n ?_); simp (disch := omega) only [go_sem, ↓reduceIte, Nat.reduceEqDiff, Nat.reduceAdd, Nat.reduceMul, Nat.reduceLeDiff, Nat.reduceLT, Nat.reduceSub, Int.reduceToNat, Int.reduceLE, Int.reduceLT, reduceCtorEq, Tree.enc]; try (first | rw [deep_bool_eq] | rw [deep_int_eq] | rw [deep_str_eq])))
  refine VC_loop (α := Nat × List TObj) (fun y => y.2.length) (fun y => [(1, .int .i64 id), (2, .ptr 0 0), (5, .int .i64 y.1)]) (fun _ => [some ⟨t.enc, 0⟩])
    (fun y => t.objs.drop y.1 = y.2 ∧ y.1 + y.2.length = t.objs.length ∧ home t id = homeFrom y.1 id y.2) ?_ (0, t.objs) ?_ ?_
  · rintro ⟨i, r⟩ ⟨h1, h2, h3⟩
    simp only at h1 h2 h3 ⊢
    cases r with
    | nil =>
      simp only [List.length_nil] at h2
      repeat' (first
    | refine VC_seq ?_ | refine VC_region ?_ | refine VC_block ?_ | refine VC_exit ?_ | refine VC_ret ?_ | refine VC_skip ?_ | refine VO_nil ?_ | refine VC_draw (by kernel_rfl) ?_ | (refine VD_nil ?_; refine ⟨by kernel_rfl, ?_⟩)
    | ((first | refine VO_stepP rfl rfl ?_ | refine VO_goC rfl rfl ?_ | refine VO_guardP rfl rfl rfl ?_ | refine VO_goG rfl rfl rfl ?_ | refine VC_if ?_ | refine VD_stepP rfl rfl ?_ | refine VD_goC rfl rfl ?_ | refine VD_guardP rfl rfl rfl ?_ | refine VD_goG rfl rfl rfl ?_); intro K' hK'; simp (disch := omega) only [go_sem, ↓reduceIte, Nat.reduceEqDiff, Nat.reduceAdd, Nat.reduceMul, Nat.reduceLeDiff, Nat.reduceLT, Nat.reduceSub, Int.reduceToNat, Int.reduceLE, Int.reduceLT, reduceCtorEq, FL_cons, Tree.enc]; first
     | ((first | refine hK' _ _ ?_ | refine hK' _ ?_ | refine hK' _ _ _ _ _ _ _ ?_); clear hK' K')
     | (refine ⟨fun hg => ?_, fun hg => ?_⟩ <;> (first | refine hK' _ _ ?_ | refine hK' _ ?_ | refine hK' _ _ _ _ _ _ _ ?_) <;> clear hK' K' <;> (try rw [hg]) <;> (try simp only [decide_eq_true_eq, decide_eq_false_iff_not, ne_eq, Bool.not_eq_true, Bool.not_eq_false, Bool.not_eq_eq_eq_not, Bool.not_true, Bool.not_false, Decidable.not_not, beq_iff_eq, bne_iff_ne, beq_eq_false_iff_ne, Int.not_le, Int.not_lt, reduceCtorEq, not_true_eq_false, not_false_eq_true, Bool.true_eq_false, Bool.false_eq_true, Bool.and_eq_true, Bool.or_eq_false_iff, bne_eq_false_iff_eq, Int.natCast_inj, Int.ofNat_lt] at hg) <;> (try (exfalso; omega))))
    | (simp only [andThenV_normal, andThenV_ret, andThenV_exit, outOfV_normal, outOfV_ret, outOfV_exit, ↓reduceIte, Nat.reduceEqDiff])
    | ((first | refine atEndV_r ?_ | refine atEndV_n ?_); simp (disch := omega) only [go_sem, ↓reduceIte, Nat.reduceEqDiff, Nat.reduceAdd, Nat.reduceMul, Nat.reduceLeDiff, Nat.reduceLT, Nat.reduceSub, Int.reduceToNat, Int.reduceLE, Int.reduceLT, reduceCtorEq, FL_cons, Tree.enc]; try (first | rw [deep_bool_eq] | rw [deep_int_eq] | rw [deep_str_eq])))
      rw [h3]; rfl
    | cons o r =>
      simp only [List.length_cons] at h2
      obtain ⟨k1, k2, k3⟩ := drop_cons h1
      have ho := mem_lsum TObj.tot (List.mem_of_getElem? k1)
      have hk := kids_le o
      repeat' (first
    | refine VC_seq ?_ | refine VC_region ?_ | refine VC_block ?_ | refine VC_exit ?_ | refine VC_ret ?_ | refine VC_skip ?_ | refine VO_nil ?_ | refine VC_draw (by kernel_rfl) ?_ | (refine VD_nil ?_; refine ⟨by kernel_rfl, ?_⟩)
    | ((first | refine VO_stepP rfl rfl ?_ | refine VO_goC rfl rfl ?_ | refine VO_guardP rfl rfl rfl ?_ | refine VO_goG rfl rfl rfl ?_ | refine VC_if ?_ | refine VD_stepP rfl rfl ?_ | refine VD_goC rfl rfl ?_ | refine VD_guardP rfl rfl rfl ?_ | refine VD_goG rfl rfl rfl ?_); intro K' hK'; simp (disch := omega) only [go_sem, ↓reduceIte, Nat.reduceEqDiff, Nat.reduceAdd, Nat.reduceMul, Nat.reduceLeDiff, Nat.reduceLT, Nat.reduceSub, Int.reduceToNat, Int.reduceLE, Int.reduceLT, reduceCtorEq, FL_cons, k1, Tree.enc, TObj.enc]; first
     | ((first | refine hK' _ _ ?_ | refine hK' _ ?_ | refine hK' _ _ _ _ _ _ _ ?_); clear hK' K')
     | (refine ⟨fun hg => ?_, fun hg => ?_⟩ <;> (first | refine hK' _ _ ?_ | refine hK' _ ?_ | refine hK' _ _ _ _ _ _ _ ?_) <;> clear hK' K' <;> (try rw [hg]) <;> (try simp only [decide_eq_true_eq, decide_eq_false_iff_not, ne_eq, Bool.not_eq_true, Bool.not_eq_false, Bool.not_eq_eq_eq_not, Bool.not_true, Bool.not_false, Decidable.not_not, beq_iff_eq, bne_iff_ne, beq_eq_false_iff_ne, Int.not_le, Int.not_lt, reduceCtorEq, not_true_eq_false, not_false_eq_true, Bool.true_eq_false, Bool.false_eq_true, Bool.and_eq_true, Bool.or_eq_false_iff, bne_eq_false_iff_eq, Int.natCast_inj, Int.ofNat_lt] at hg) <;> (try (exfalso; omega))))
    | (simp only [andThenV_normal, andThenV_ret, andThenV_exit, outOfV_normal, outOfV_ret, outOfV_exit, ↓reduceIte, Nat.reduceEqDiff])
    | ((first | refine atEndV_r ?_ | refine atEndV_n ?_); simp (disch := omega) only [go_sem, ↓reduceIte, Nat.reduceEqDiff, Nat.reduceAdd, Nat.reduceMul, Nat.reduceLeDiff, Nat.reduceLT, Nat.reduceSub, Int.reduceToNat, Int.reduceLE, Int.reduceLT, reduceCtorEq, FL_cons, k1, Tree.enc, TObj.enc]; try (first | rw [deep_bool_eq] | rw [deep_int_eq] | rw [deep_str_eq])))
      refine VC_loop (α := Nat × List Ent) (fun y => y.2.length) (fun y => [(1, .int .i64 id), (2, .ptr 0 0), (5, .int .i64 i), (6, .int .i64 y.1)]) (fun _ => [some ⟨t.enc, 0⟩])
        (fun y => o.kids.drop y.1 = y.2 ∧ y.1 + y.2.length = o.kids.length ∧ o.kids.any (fun k => k.id == id) = y.2.any (fun k => k.id == id)) ?_ (0, o.kids) ?_ ?_
      · rintro ⟨m, q⟩ ⟨g1, g2, g3⟩
        simp only at g1 g2 g3 ⊢
        cases q with
        | nil =>
          simp only [List.length_nil] at g2
          repeat' (first
    | refine VC_seq ?_ | refine VC_region ?_ | refine VC_block ?_ | refine VC_exit ?_ | refine VC_ret ?_ | refine VC_skip ?_ | refine VO_nil ?_ | refine VC_draw (by kernel_rfl) ?_ | (refine VD_nil ?_; refine ⟨by kernel_rfl, ?_⟩)
    | ((first | refine VO_stepP rfl rfl ?_ | refine VO_goC rfl rfl ?_ | refine VO_guardP rfl rfl rfl ?_ | refine VO_goG rfl rfl rfl ?_ | refine VC_if ?_ | refine VD_stepP rfl rfl ?_ | refine VD_goC rfl rfl ?_ | refine VD_guardP rfl rfl rfl ?_ | refine VD_goG rfl rfl rfl ?_); intro K' hK'; simp (disch := omega) only [go_sem, ↓reduceIte, Nat.reduceEqDiff, Nat.reduceAdd, Nat.reduceMul, Nat.reduceLeDiff, Nat.reduceLT, Nat.reduceSub, Int.reduceToNat, Int.reduceLE, Int.reduceLT, reduceCtorEq, FL_cons, k1, Tree.enc, TObj.enc]; first
     | ((first | refine hK' _ _ ?_ | refine hK' _ ?_ | refine hK' _ _ _ _ _ _ _ ?_); clear hK' K')
     | (refine ⟨fun hg => ?_, fun hg => ?_⟩ <;> (first | refine hK' _ _ ?_ | refine hK' _ ?_ | refine hK' _ _ _ _ _ _ _ ?_) <;> clear hK' K' <;> (try rw [hg]) <;> (try simp only [decide_eq_true_eq, decide_eq_false_iff_not, ne_eq, Bool.not_eq_true, Bool.not_eq_false, Bool.not_eq_eq_eq_not, Bool.not_true, Bool.not_false, Decidable.not_not, beq_iff_eq, bne_iff_ne, beq_eq_false_iff_ne, Int.not_le, Int.not_lt, reduceCtorEq, not_true_eq_false, not_false_eq_true, Bool.true_eq_false, Bool.false_eq_true, Bool.and_eq_true, Bool.or_eq_false_iff, bne_eq_false_iff_eq, Int.natCast_inj, Int.ofNat_lt] at hg) <;> (try (exfalso; omega))))
    | (simp only [andThenV_normal, andThenV_ret, andThenV_exit, outOfV_normal, outOfV_ret, outOfV_exit, ↓reduceIte, Nat.reduceEqDiff])
    | ((first | refine atEndV_r ?_ | refine atEndV_n ?_); simp (disch := omega) only [go_sem, ↓reduceIte, Nat.reduceEqDiff, Nat.reduceAdd, Nat.reduceMul, Nat.reduceLeDiff, Nat.reduceLT, Nat.reduceSub, Int.reduceToNat, Int.reduceLE, Int.reduceLT, reduceCtorEq, FL_cons, k1, Tree.enc, TObj.enc]; try (first | rw [deep_bool_eq] | rw [deep_int_eq] | rw [deep_str_eq])))
          refine ⟨(i + 1, r), by simp, ⟨k2, by simp; omega, ?_⟩, ?_⟩
          · rw [h3]; simp [homeFrom, g3]
          · (refine ⟨[0], ?_, ?_, by decide, by simp⟩; (· simp (disch := omega) only [AllRN, go_sem, ↓reduceIte, Nat.reduceEqDiff, Nat.reduceAdd, Nat.reduceMul, Nat.reduceLeDiff, Nat.reduceLT, Nat.reduceSub, Int.reduceToNat, Int.reduceLE, Int.reduceLT, reduceCtorEq, Int.natCast_add, Int.cast_ofNat_Int]; (repeat' (first | exact trivial | (refine ⟨?_, ?_⟩) | exact RN.im rfl | exact RN.any _ _ | exact RN.ptr _ rfl | exact RN.ref _ _ rfl | exact RN.nil _ | (refine RN.int ?_; omega)))); (· (try simp (disch := omega) only [RNH, RNL, Int.natCast_add, Int.cast_ofNat_Int, go_sem, ↓reduceIte, Nat.reduceEqDiff, Nat.reduceAdd, Nat.reduceMul, Nat.reduceLeDiff, Nat.reduceLT, Nat.reduceSub, Int.reduceToNat, Int.reduceLE, Int.reduceLT, reduceCtorEq]); (repeat' (first | exact trivial | (refine ⟨_, rfl, rfl, ?_⟩) | (refine ⟨?_, ?_⟩) | exact RNL.im rfl | exact RN.im rfl | exact RN.any _ _ | exact RN.ptr _ rfl | exact RN.ref _ _ rfl | exact RN.nil _ | (refine RN.int ?_; omega)))))
        | cons k q =>
          simp only [List.length_cons] at g2
          obtain ⟨m1, m2, m3⟩ := drop_cons g1
          repeat' (first
    | refine VC_seq ?_ | refine VC_region ?_ | refine VC_block ?_ | refine VC_exit ?_ | refine VC_ret ?_ | refine VC_skip ?_ | refine VO_nil ?_ | refine VC_draw (by kernel_rfl) ?_ | (refine VD_nil ?_; refine ⟨by kernel_rfl, ?_⟩)
    | ((first | refine VO_stepP rfl rfl ?_ | refine VO_goC rfl rfl ?_ | refine VO_guardP rfl rfl rfl ?_ | refine VO_goG rfl rfl rfl ?_ | refine VC_if ?_ | refine VD_stepP rfl rfl ?_ | refine VD_goC rfl rfl ?_ | refine VD_guardP rfl rfl rfl ?_ | refine VD_goG rfl rfl rfl ?_); intro K' hK'; simp (disch := omega) only [go_sem, ↓reduceIte, Nat.reduceEqDiff, Nat.reduceAdd, Nat.reduceMul, Nat.reduceLeDiff, Nat.reduceLT, Nat.reduceSub, Int.reduceToNat, Int.reduceLE, Int.reduceLT, reduceCtorEq, FL_cons, k1, m1, Tree.enc, TObj.enc, Ent.enc]; first
     | ((first | refine hK' _ _ ?_ | refine hK' _ ?_ | refine hK' _ _ _ _ _ _ _ ?_); clear hK' K')
     | (refine ⟨fun hg => ?_, fun hg => ?_⟩ <;> (first | refine hK' _ _ ?_ | refine hK' _ ?_ | refine hK' _ _ _ _ _ _ _ ?_) <;> clear hK' K' <;> (try rw [hg]) <;> (try simp only [decide_eq_true_eq, decide_eq_false_iff_not, ne_eq, Bool.not_eq_true, Bool.not_eq_false, Bool.not_eq_eq_eq_not, Bool.not_true, Bool.not_false, Decidable.not_not, beq_iff_eq, bne_iff_ne, beq_eq_false_iff_ne, Int.not_le, Int.not_lt, reduceCtorEq, not_true_eq_false, not_false_eq_true, Bool.true_eq_false, Bool.false_eq_true, Bool.and_eq_true, Bool.or_eq_false_iff, bne_eq_false_iff_eq, Int.natCast_inj, Int.ofNat_lt] at hg) <;> (try (exfalso; omega))))
    | (simp only [andThenV_normal, andThenV_ret, andThenV_exit, outOfV_normal, outOfV_ret, outOfV_exit, ↓reduceIte, Nat.reduceEqDiff])
    | ((first | refine atEndV_r ?_ | refine atEndV_n ?_); simp (disch := omega) only [go_sem, ↓reduceIte, Nat.reduceEqDiff, Nat.reduceAdd, Nat.reduceMul, Nat.reduceLeDiff, Nat.reduceLT, Nat.reduceSub, Int.reduceToNat, Int.reduceLE, Int.reduceLT, reduceCtorEq, FL_cons, k1, m1, Tree.enc, TObj.enc, Ent.enc]; try (first | rw [deep_bool_eq] | rw [deep_int_eq] | rw [deep_str_eq])))
          · rw [h3]; simp [homeFrom, g3, hg]
          · refine ⟨(m + 1, q), by simp, ⟨m2, by simp; omega, ?_⟩, ?_⟩
            · rw [g3]; simp [hg]
            · (refine ⟨[0], ?_, ?_, by decide, by simp⟩; (· simp (disch := omega) only [AllRN, go_sem, ↓reduceIte, Nat.reduceEqDiff, Nat.reduceAdd, Nat.reduceMul, Nat.reduceLeDiff, Nat.reduceLT, Nat.reduceSub, Int.reduceToNat, Int.reduceLE, Int.reduceLT, reduceCtorEq, Int.natCast_add, Int.cast_ofNat_Int]; (repeat' (first | exact trivial | (refine ⟨?_, ?_⟩) | exact RN.im rfl | exact RN.any _ _ | exact RN.ptr _ rfl | exact RN.ref _ _ rfl | exact RN.nil _ | (refine RN.int ?_; omega)))); (· (try simp (disch := omega) only [RNH, RNL, Int.natCast_add, Int.cast_ofNat_Int, go_sem, ↓reduceIte, Nat.reduceEqDiff, Nat.reduceAdd, Nat.reduceMul, Nat.reduceLeDiff, Nat.reduceLT, Nat.reduceSub, Int.reduceToNat, Int.reduceLE, Int.reduceLT, reduceCtorEq]); (repeat' (first | exact trivial | (refine ⟨_, rfl, rfl, ?_⟩) | (refine ⟨?_, ?_⟩) | exact RNL.im rfl | exact RN.im rfl | exact RN.any _ _ | exact RN.ptr _ rfl | exact RN.ref _ _ rfl | exact RN.nil _ | (refine RN.int ?_; omega)))))
      · exact ⟨rfl, by simp, rfl⟩
      · (refine ⟨[0], ?_, ?_, by decide, by simp⟩; (· simp (disch := omega) only [AllRN, go_sem, ↓reduceIte, Nat.reduceEqDiff, Nat.reduceAdd, Nat.reduceMul, Nat.reduceLeDiff, Nat.reduceLT, Nat.reduceSub, Int.reduceToNat, Int.reduceLE, Int.reduceLT, reduceCtorEq, Int.natCast_add, Int.cast_ofNat_Int]; (repeat' (first | exact trivial | (refine ⟨?_, ?_⟩) | exact RN.im rfl | exact RN.any _ _ | exact RN.ptr _ rfl | exact RN.ref _ _ rfl | exact RN.nil _ | (refine RN.int ?_; omega)))); (· (try simp (disch := omega) only [RNH, RNL, Int.natCast_add, Int.cast_ofNat_Int, go_sem, ↓reduceIte, Nat.reduceEqDiff, Nat.reduceAdd, Nat.reduceMul, Nat.reduceLeDiff, Nat.reduceLT, Nat.reduceSub, Int.reduceToNat, Int.reduceLE, Int.reduceLT, reduceCtorEq]); (repeat' (first | exact trivial | (refine ⟨_, rfl, rfl, ?_⟩) | (refine ⟨?_, ?_⟩) | exact RNL.im rfl | exact RN.im rfl | exact RN.any _ _ | exact RN.ptr _ rfl | exact RN.ref _ _ rfl | exact RN.nil _ | (refine RN.int ?_; omega)))))
  · exact ⟨rfl, by simp, rfl⟩
  · (refine ⟨[0], ?_, ?_, by decide, by simp⟩; (· simp (disch := omega) only [AllRN, go_sem, ↓reduceIte, Nat.reduceEqDiff, Nat.reduceAdd, Nat.reduceMul, Nat.reduceLeDiff, Nat.reduceLT, Nat.reduceSub, Int.reduceToNat, Int.reduceLE, Int.reduceLT, reduceCtorEq, Int.natCast_add, Int.cast_ofNat_Int]; (repeat' (first | exact trivial | (refine ⟨?_, ?_⟩) | exact RN.im rfl | exact RN.any _ _ | exact RN.ptr _ rfl | exact RN.ref _ _ rfl | exact RN.nil _ | (refine RN.int ?_; omega)))); (· (try simp (disch := omega) only [RNH, RNL, Int.natCast_add, Int.cast_ofNat_Int, go_sem, ↓reduceIte, Nat.reduceEqDiff, Nat.reduceAdd, Nat.reduceMul, Nat.reduceLeDiff, Nat.reduceLT, Nat.reduceSub, Int.reduceToNat, Int.reduceLE, Int.reduceLT, reduceCtorEq]); (repeat' (first | exact trivial | (refine ⟨_, rfl, rfl, ?_⟩) | (refine ⟨?_, ?_⟩) | exact RNL.im rfl | exact RN.im rfl | exact RN.any _ _ | exact RN.ptr _ rfl | exact RN.ref _ _ rfl | exact RN.nil _ | (refine RN.int ?_; omega)))))

def ci (n : Nat) : D := .int .i64 (n : Int)
theorem splice_set {f : List Nat} {k n : Nat} (h : k < f.length) : spliceV (f.map ci) k [.int .i64 ((n : Int) + 1)] = (f.set k (n + 1)).map ci := by
  unfold spliceV
  rw [List.map_set, List.set_eq_take_append_cons_drop, if_pos (by simpa using h)]
  simp [ci]
theorem nr_ci (f : List Nat) : noRefs (f.map ci) = true := by
  induction f with
  | nil => rfl
  | cons x f ih => simp only [List.map_cons, noRefs, ih, Bool.and_true]; rfl
def cntE (es : List Ent) (j : Nat) : Nat := es.countP (fun k => k.id == (j : Int))
def cntO (os : List TObj) (j : Nat) : Nat := cntE (os.flatMap (·.kids)) j
theorem cntO_cons (o : TObj) (os : List TObj) (j : Nat) : cntO (o :: os) j = cntE o.kids j + cntO os j := by simp [cntO, cntE, List.countP_append]
theorem cntE_cons (k : Ent) (es : List Ent) (j : Nat) : cntE (k :: es) j = (if k.id = j then 1 else 0) + cntE es j := by
  unfold cntE; rw [List.countP_cons, Nat.add_comm]; congr 1
  by_cases h : k.id = j <;> simp [h]
theorem kids_lsum (os : List TObj) : (os.flatMap (·.kids)).length ≤ lsum TObj.tot os := by
  induction os with
  | nil => simp
  | cons o os ih => have := kids_le o; simp only [List.flatMap_cons, List.length_append, lsum]; omega
theorem homes_le (t : Tree) (w : Int) : homes t w ≤ t.tot := Nat.le_trans List.countP_le_length (kids_lsum _)
theorem set_get {f : List Nat} {k n m j : Nat} (h : f[k]? = some n) (hj : j < f.length) : (f.set k m).getD j 0 = if k = j then m else f.getD j 0 := by
  rw [List.getD_eq_getElem?_getD, List.getElem?_set]
  split
  · rename_i e; subst e; rw [if_pos hj]; rfl
  · rw [List.getD_eq_getElem?_getD]
theorem sing_flat {α β : Type} (g : α → β) : ∀ l : List α, (l.map fun x => [g x]).flatten = l.map g
  | [] => rfl
  | x :: l => by simp only [List.map_cons, List.flatten_cons, sing_flat g l]; rfl
def homesD (t : Tree) : List (List D) := (List.range 32).map fun j : Nat => [ci (homes t (j : Int))]
theorem homesD_len (t : Tree) : (homesD t).length = 32 := by simp only [homesD, List.length_map, List.length_range]
theorem homesD_at (t : Tree) {j : Nat} (h : j < 32) : (homesD t)[j]? = some [ci (homes t (j : Int))] := by
  unfold homesD; rw [List.getElem?_map, List.getElem?_range h]; rfl
theorem pu_l1Homes (t : Tree) (hn : t.tot ≤ 1073741824) (hi : ∀ o ∈ t.objs, ∀ k ∈ o.kids, 0 ≤ k.id ∧ k.id ≤ 31) : Pu Try.prog X 99 [.agg t.enc] (.sl 1 (homesD t)) := by
  refine Pu.body Try.func99 rfl (rs := [.tmp 2]) rfl okf_99 (by rw [Try.ntmps99]; simp) ?_
  have hb := homes_le t
  unfold Tree.tot at hn hb
  have hl := le_lsum TObj.tot t.objs
  repeat' (first
    | refine VC_seq ?_ | refine VC_region ?_ | refine VC_block ?_ | refine VC_exit ?_ | refine VC_ret ?_ | refine VC_skip ?_ | refine VO_nil ?_ | refine VC_draw (by kernel_rfl) ?_ | (refine VD_nil ?_; refine ⟨by kernel_rfl, ?_⟩)
    | ((first | refine VO_stepP rfl rfl ?_ | refine VO_goC rfl rfl ?_ | refine VO_guardP rfl rfl rfl ?_ | refine VO_goG rfl rfl rfl ?_ | refine VC_if ?_ | refine VD_stepP rfl rfl ?_ | refine VD_goC rfl rfl ?_ | refine VD_guardP rfl rfl rfl ?_ | refine VD_goG rfl rfl rfl ?_); intro K' hK'; simp (disch := omega) only [go_sem, ↓reduceIte, Nat.reduceEqDiff, Nat.reduceAdd, Nat.reduceMul, Nat.reduceLeDiff, Nat.reduceLT, Nat.reduceSub, Int.reduceToNat, Int.reduceLE, Int.reduceLT, reduceCtorEq, Tree.enc]; first
     | ((first | refine hK' _ _ ?_ | refine hK' _ ?_ | refine hK' _ _ _ _ _ _ _ ?_); clear hK' K')
     | (refine ⟨fun hg => ?_, fun hg => ?_⟩ <;> (first | refine hK' _ _ ?_ | refine hK' _ ?_ | refine hK' _ _ _ _ _ _ _ ?_) <;> clear hK' K' <;> (try rw [hg]) <;> (try simp only [decide_eq_true_eq, decide_eq_false_iff_not, ne_eq, Bool.not_eq_true, Bool.not_eq_false, Bool.not_eq_eq_eq_not, Bool.not_true, Bool.not_false, Decidable.not_not, beq_iff_eq, bne_iff_ne, beq_eq_false_iff_ne, Int.not_le, Int.not_lt, reduceCtorEq, not_true_eq_false, not_false_eq_true, Bool.true_eq_false, Bool.false_eq_true, Bool.and_eq_true, Bool.or_eq_false_iff, bne_eq_false_iff_eq, Int.natCast_inj, Int.ofNat_lt] at hg) <;> (try (exfalso; omega))))
    | (simp only [andThenV_normal, andThenV_ret, andThenV_exit, outOfV_normal, outOfV_ret, outOfV_exit, ↓reduceIte, Nat.reduceEqDiff])
    | ((first | refine atEndV_r ?_ | refine atEndV_n ?_); simp (disch := omega) only [go_sem, ↓reduceIte, Nat.reduceEqDiff, Nat.reduceAdd, Nat.reduceMul, Nat.reduceLeDiff, Nat.reduceLT, Nat.reduceSub, Int.reduceToNat, Int.reduceLE, Int.reduceLT, reduceCtorEq, Tree.enc]; try (first | rw [deep_bool_eq] | rw [deep_int_eq] | rw [deep_str_eq])))
  refine VC_loop (α := Nat × List TObj × List Nat) (fun y => y.2.1.length) (fun y => [(1, .ptr 0 0), (3, .ref 1 0 32), (4, .int .i64 y.1)]) (fun y => [some ⟨t.enc, 0⟩, some ⟨y.2.2.map ci, 1⟩])
    (fun y => t.objs.drop y.1 = y.2.1 ∧ y.1 + y.2.1.length = t.objs.length ∧ y.2.2.length = 32 ∧ ∀ j, j < 32 → y.2.2.getD j 0 + cntO y.2.1 j = homes t (j : Int)) ?_ (0, t.objs, List.replicate 32 0) ?_ ?_
  · rintro ⟨i, r, f⟩ ⟨h1, h2, h3, h4⟩
    simp only at h1 h2 h3 h4 ⊢
    cases r with
    | nil =>
      simp only [List.length_nil] at h2
      repeat' (first
    | refine VC_seq ?_ | refine VC_region ?_ | refine VC_block ?_ | refine VC_exit ?_ | refine VC_ret ?_ | refine VC_skip ?_ | refine VO_nil ?_ | refine VC_draw (by kernel_rfl) ?_ | (refine VD_nil ?_; refine ⟨by kernel_rfl, ?_⟩)
    | ((first | refine VO_stepP rfl rfl ?_ | refine VO_goC rfl rfl ?_ | refine VO_guardP rfl rfl rfl ?_ | refine VO_goG rfl rfl rfl ?_ | refine VC_if ?_ | refine VD_stepP rfl rfl ?_ | refine VD_goC rfl rfl ?_ | refine VD_guardP rfl rfl rfl ?_ | refine VD_goG rfl rfl rfl ?_); intro K' hK'; simp (disch := omega) only [go_sem, ↓reduceIte, Nat.reduceEqDiff, Nat.reduceAdd, Nat.reduceMul, Nat.reduceLeDiff, Nat.reduceLT, Nat.reduceSub, Int.reduceToNat, Int.reduceLE, Int.reduceLT, reduceCtorEq, FL_cons, Tree.enc]; first
     | ((first | refine hK' _ _ ?_ | refine hK' _ ?_ | refine hK' _ _ _ _ _ _ _ ?_); clear hK' K')
     | (refine ⟨fun hg => ?_, fun hg => ?_⟩ <;> (first | refine hK' _ _ ?_ | refine hK' _ ?_ | refine hK' _ _ _ _ _ _ _ ?_) <;> clear hK' K' <;> (try rw [hg]) <;> (try simp only [decide_eq_true_eq, decide_eq_false_iff_not, ne_eq, Bool.not_eq_true, Bool.not_eq_false, Bool.not_eq_eq_eq_not, Bool.not_true, Bool.not_false, Decidable.not_not, beq_iff_eq, bne_iff_ne, beq_eq_false_iff_ne, Int.not_le, Int.not_lt, reduceCtorEq, not_true_eq_false, not_false_eq_true, Bool.true_eq_false, Bool.false_eq_true, Bool.and_eq_true, Bool.or_eq_false_iff, bne_eq_false_iff_eq, Int.natCast_inj, Int.ofNat_lt] at hg) <;> (try (exfalso; omega))))
    | (simp only [andThenV_normal, andThenV_ret, andThenV_exit, outOfV_normal, outOfV_ret, outOfV_exit, ↓reduceIte, Nat.reduceEqDiff])
    | ((first | refine atEndV_r ?_ | refine atEndV_n ?_); simp (disch := omega) only [go_sem, ↓reduceIte, Nat.reduceEqDiff, Nat.reduceAdd, Nat.reduceMul, Nat.reduceLeDiff, Nat.reduceLT, Nat.reduceSub, Int.reduceToNat, Int.reduceLE, Int.reduceLT, reduceCtorEq, FL_cons, Tree.enc]; try (first | rw [deep_bool_eq] | rw [deep_int_eq] | rw [deep_str_eq])))
      have hf : f.map ci = (homesD t).flatten := by
        rw [homesD, sing_flat]
        refine List.ext_getElem? fun j => ?_
        rw [List.getElem?_map, List.getElem?_map]
        by_cases hj : j < 32
        · have := h4 j hj
          rw [List.getD_eq_getElem?_getD, List.getElem?_eq_getElem (by omega)] at this
          rw [List.getElem?_eq_getElem (by omega), List.getElem?_range hj]
          simp only [Option.map_some, Option.getD_some] at this ⊢
          rw [← this]; rfl
        · rw [List.getElem?_eq_none (by omega), List.getElem?_eq_none (by simp; omega)]; rfl
      refine deep_list (e := 1) (homesD_len t).symm (by rw [← hf]; rfl) ?_ (by simp)
      intro r hr; unfold homesD at hr; obtain ⟨x, _, rfl⟩ := List.mem_map.1 hr; exact ⟨rfl, rfl⟩
    | cons o r =>
      simp only [List.length_cons] at h2
      obtain ⟨k1, k2, k3⟩ := drop_cons h1
      have ho := mem_lsum TObj.tot (List.mem_of_getElem? k1)
      have hk := kids_le o
      repeat' (first
    | refine VC_seq ?_ | refine VC_region ?_ | refine VC_block ?_ | refine VC_exit ?_ | refine VC_ret ?_ | refine VC_skip ?_ | refine VO_nil ?_ | refine VC_draw (by kernel_rfl) ?_ | (refine VD_nil ?_; refine ⟨by kernel_rfl, ?_⟩)
    | ((first | refine VO_stepP rfl rfl ?_ | refine VO_goC rfl rfl ?_ | refine VO_guardP rfl rfl rfl ?_ | refine VO_goG rfl rfl rfl ?_ | refine VC_if ?_ | refine VD_stepP rfl rfl ?_ | refine VD_goC rfl rfl ?_ | refine VD_guardP rfl rfl rfl ?_ | refine VD_goG rfl rfl rfl ?_); intro K' hK'; simp (disch := omega) only [go_sem, ↓reduceIte, Nat.reduceEqDiff, Nat.reduceAdd, Nat.reduceMul, Nat.reduceLeDiff, Nat.reduceLT, Nat.reduceSub, Int.reduceToNat, Int.reduceLE, Int.reduceLT, reduceCtorEq, FL_cons, k1, Tree.enc, TObj.enc]; first
     | ((first | refine hK' _ _ ?_ | refine hK' _ ?_ | refine hK' _ _ _ _ _ _ _ ?_); clear hK' K')
     | (refine ⟨fun hg => ?_, fun hg => ?_⟩ <;> (first | refine hK' _ _ ?_ | refine hK' _ ?_ | refine hK' _ _ _ _ _ _ _ ?_) <;> clear hK' K' <;> (try rw [hg]) <;> (try simp only [decide_eq_true_eq, decide_eq_false_iff_not, ne_eq, Bool.not_eq_true, Bool.not_eq_false, Bool.not_eq_eq_eq_not, Bool.not_true, Bool.not_false, Decidable.not_not, beq_iff_eq, bne_iff_ne, beq_eq_false_iff_ne, Int.not_le, Int.not_lt, reduceCtorEq, not_true_eq_false, not_false_eq_true, Bool.true_eq_false, Bool.false_eq_true, Bool.and_eq_true, Bool.or_eq_false_iff, bne_eq_false_iff_eq, Int.natCast_inj, Int.ofNat_lt] at hg) <;> (try (exfalso; omega))))
    | (simp only [andThenV_normal, andThenV_ret, andThenV_exit, outOfV_normal, outOfV_ret, outOfV_exit, ↓reduceIte, Nat.reduceEqDiff])
    | ((first | refine atEndV_r ?_ | refine atEndV_n ?_); simp (disch := omega) only [go_sem, ↓reduceIte, Nat.reduceEqDiff, Nat.reduceAdd, Nat.reduceMul, Nat.reduceLeDiff, Nat.reduceLT, Nat.reduceSub, Int.reduceToNat, Int.reduceLE, Int.reduceLT, reduceCtorEq, FL_cons, k1, Tree.enc, TObj.enc]; try (first | rw [deep_bool_eq] | rw [deep_int_eq] | rw [deep_str_eq])))
      refine VC_loop (α := Nat × List Ent × List Nat) (fun y => y.2.1.length) (fun y => [(1, .ptr 0 0), (3, .ref 1 0 32), (4, .int .i64 i), (5, .int .i64 y.1)]) (fun y => [some ⟨t.enc, 0⟩, some ⟨y.2.2.map ci, 1⟩])
        (fun y => o.kids.drop y.1 = y.2.1 ∧ y.1 + y.2.1.length = o.kids.length ∧ y.2.2.length = 32 ∧ ∀ j, j < 32 → y.2.2.getD j 0 + cntE y.2.1 j + cntO r j = homes t (j : Int)) ?_ (0, o.kids, f) ?_ ?_
      · rintro ⟨m, q, f⟩ ⟨g1, g2, g3, g4⟩
        simp only at g1 g2 g3 g4 ⊢
        cases q with
        | nil =>
          simp only [List.length_nil] at g2
          repeat' (first
    | refine VC_seq ?_ | refine VC_region ?_ | refine VC_block ?_ | refine VC_exit ?_ | refine VC_ret ?_ | refine VC_skip ?_ | refine VO_nil ?_ | refine VC_draw (by kernel_rfl) ?_ | (refine VD_nil ?_; refine ⟨by kernel_rfl, ?_⟩)
    | ((first | refine VO_stepP rfl rfl ?_ | refine VO_goC rfl rfl ?_ | refine VO_guardP rfl rfl rfl ?_ | refine VO_goG rfl rfl rfl ?_ | refine VC_if ?_ | refine VD_stepP rfl rfl ?_ | refine VD_goC rfl rfl ?_ | refine VD_guardP rfl rfl rfl ?_ | refine VD_goG rfl rfl rfl ?_); intro K' hK'; simp (disch := omega) only [go_sem, ↓reduceIte, Nat.reduceEqDiff, Nat.reduceAdd, Nat.reduceMul, Nat.reduceLeDiff, Nat.reduceLT, Nat.reduceSub, Int.reduceToNat, Int.reduceLE, Int.reduceLT, reduceCtorEq, FL_cons, k1, Tree.enc, TObj.enc]; first
     | ((first | refine hK' _ _ ?_ | refine hK' _ ?_ | refine hK' _ _ _ _ _ _ _ ?_); clear hK' K')
     | (refine ⟨fun hg => ?_, fun hg => ?_⟩ <;> (first | refine hK' _ _ ?_ | refine hK' _ ?_ | refine hK' _ _ _ _ _ _ _ ?_) <;> clear hK' K' <;> (try rw [hg]) <;> (try simp only [decide_eq_true_eq, decide_eq_false_iff_not, ne_eq, Bool.not_eq_true, Bool.not_eq_false, Bool.not_eq_eq_eq_not, Bool.not_true, Bool.not_false, Decidable.not_not, beq_iff_eq, bne_iff_ne, beq_eq_false_iff_ne, Int.not_le, Int.not_lt, reduceCtorEq, not_true_eq_false, not_false_eq_true, Bool.true_eq_false, Bool.false_eq_true, Bool.and_eq_true, Bool.or_eq_false_iff, bne_eq_false_iff_eq, Int.natCast_inj, Int.ofNat_lt] at hg) <;> (try (exfalso; omega))))
    | (simp only [andThenV_normal, andThenV_ret, andThenV_exit, outOfV_normal, outOfV_ret, outOfV_exit, ↓reduceIte, Nat.reduceEqDiff])
    | ((first | refine atEndV_r ?_ | refine atEndV_n ?_); simp (disch := omega) only [go_sem, ↓reduceIte, Nat.reduceEqDiff, Nat.reduceAdd, Nat.reduceMul, Nat.reduceLeDiff, Nat.reduceLT, Nat.reduceSub, Int.reduceToNat, Int.reduceLE, Int.reduceLT, reduceCtorEq, FL_cons, k1, Tree.enc, TObj.enc]; try (first | rw [deep_bool_eq] | rw [deep_int_eq] | rw [deep_str_eq])))
          refine ⟨(i + 1, r, f), by simp, ⟨k2, by simp; omega, g3, fun j hj => by simpa [cntE] using g4 j hj⟩, ?_⟩
          (refine ⟨[0, 1], ?_, ?_, by decide, by simp⟩; (· simp (disch := omega) only [AllRN, go_sem, ↓reduceIte, Nat.reduceEqDiff, Nat.reduceAdd, Nat.reduceMul, Nat.reduceLeDiff, Nat.reduceLT, Nat.reduceSub, Int.reduceToNat, Int.reduceLE, Int.reduceLT, reduceCtorEq, Int.natCast_add, Int.cast_ofNat_Int]; (repeat' (first | exact trivial | (refine ⟨?_, ?_⟩) | exact RN.im rfl | exact RN.any _ _ | exact RN.ptr _ rfl | exact RN.ref _ _ rfl | exact RN.nil _ | (refine RN.int ?_; omega) | (exact RNL.im (nr_ci _))))); (· (try simp (disch := omega) only [RNH, RNL, Int.natCast_add, Int.cast_ofNat_Int, go_sem, ↓reduceIte, Nat.reduceEqDiff, Nat.reduceAdd, Nat.reduceMul, Nat.reduceLeDiff, Nat.reduceLT, Nat.reduceSub, Int.reduceToNat, Int.reduceLE, Int.reduceLT, reduceCtorEq]); (repeat' (first | exact trivial | (refine ⟨_, rfl, rfl, ?_⟩) | (refine ⟨?_, ?_⟩) | exact RNL.im rfl | exact RN.im rfl | exact RN.any _ _ | exact RN.ptr _ rfl | exact RN.ref _ _ rfl | exact RN.nil _ | (refine RN.int ?_; omega) | (exact RNL.im (nr_ci _))))))
        | cons k q =>
          simp only [List.length_cons] at g2
          obtain ⟨m1, m2, m3⟩ := drop_cons g1
          have hid := hi o (List.mem_of_getElem? k1) k (List.mem_of_getElem? m1)
          obtain ⟨n, hf⟩ : ∃ n, f[k.id.toNat]? = some n := ⟨_, List.getElem?_eq_getElem (by omega)⟩
          have hn1 : n ≤ homes t ((k.id.toNat : Nat) : Int) := by
            have := g4 k.id.toNat (by omega)
            rw [List.getD_eq_getElem?_getD, hf] at this
            simp only [Option.getD_some] at this
            omega
          have hn2 := hb ((k.id.toNat : Nat) : Int)
          have hfl : k.id.toNat < f.length := by omega
          repeat' (first
    | refine VC_seq ?_ | refine VC_region ?_ | refine VC_block ?_ | refine VC_exit ?_ | refine VC_ret ?_ | refine VC_skip ?_ | refine VO_nil ?_ | refine VC_draw (by kernel_rfl) ?_ | (refine VD_nil ?_; refine ⟨by kernel_rfl, ?_⟩)
    | ((first | refine VO_stepP rfl rfl ?_ | refine VO_goC rfl rfl ?_ | refine VO_guardP rfl rfl rfl ?_ | refine VO_goG rfl rfl rfl ?_ | refine VC_if ?_ | refine VD_stepP rfl rfl ?_ | refine VD_goC rfl rfl ?_ | refine VD_guardP rfl rfl rfl ?_ | refine VD_goG rfl rfl rfl ?_); intro K' hK'; simp (disch := omega) only [go_sem, ↓reduceIte, Nat.reduceEqDiff, Nat.reduceAdd, Nat.reduceMul, Nat.reduceLeDiff, Nat.reduceLT, Nat.reduceSub, Int.reduceToNat, Int.reduceLE, Int.reduceLT, reduceCtorEq, FL_cons, k1, m1, Tree.enc, TObj.enc, Ent.enc, List.getElem?_map, hf, ci, Nat.mul_one, Nat.zero_add, g3, hfl]; first
     | ((first | refine hK' _ _ ?_ | refine hK' _ ?_ | refine hK' _ _ _ _ _ _ _ ?_); clear hK' K')
     | (refine ⟨fun hg => ?_, fun hg => ?_⟩ <;> (first | refine hK' _ _ ?_ | refine hK' _ ?_ | refine hK' _ _ _ _ _ _ _ ?_) <;> clear hK' K' <;> (try rw [hg]) <;> (try simp only [decide_eq_true_eq, decide_eq_false_iff_not, ne_eq, Bool.not_eq_true, Bool.not_eq_false, Bool.not_eq_eq_eq_not, Bool.not_true, Bool.not_false, Decidable.not_not, beq_iff_eq, bne_iff_ne, beq_eq_false_iff_ne, Int.not_le, Int.not_lt, reduceCtorEq, not_true_eq_false, not_false_eq_true, Bool.true_eq_false, Bool.false_eq_true, Bool.and_eq_true, Bool.or_eq_false_iff, bne_eq_false_iff_eq, Int.natCast_inj, Int.ofNat_lt] at hg) <;> (try (exfalso; omega))))
    | (simp only [andThenV_normal, andThenV_ret, andThenV_exit, outOfV_normal, outOfV_ret, outOfV_exit, ↓reduceIte, Nat.reduceEqDiff])
    | ((first | refine atEndV_r ?_ | refine atEndV_n ?_); simp (disch := omega) only [go_sem, ↓reduceIte, Nat.reduceEqDiff, Nat.reduceAdd, Nat.reduceMul, Nat.reduceLeDiff, Nat.reduceLT, Nat.reduceSub, Int.reduceToNat, Int.reduceLE, Int.reduceLT, reduceCtorEq, FL_cons, k1, m1, Tree.enc, TObj.enc, Ent.enc, List.getElem?_map, hf, ci, Nat.mul_one, Nat.zero_add, g3, hfl]; try (first | rw [deep_bool_eq] | rw [deep_int_eq] | rw [deep_str_eq])))
          refine ⟨(m + 1, q, f.set k.id.toNat (n + 1)), by simp, ⟨m2, by simp; omega, by simp [g3], fun j hj => ?_⟩, ?_⟩
          · have := g4 j hj
            rw [cntE_cons] at this
            simp only
            rw [set_get hf (by omega)]
            by_cases e : k.id = j
            · have e2 : k.id.toNat = j := by omega
              rw [if_pos e] at this
              rw [if_pos e2]
              rw [← e2, List.getD_eq_getElem?_getD, hf] at this
              simp only [Option.getD_some] at this
              rw [← e2]; omega
            · rw [if_neg e] at this
              rw [if_neg (by omega)]; omega
          · (refine ⟨[0, 1], ?_, ?_, by decide, by simp⟩; (· simp (disch := omega) only [AllRN, go_sem, ↓reduceIte, Nat.reduceEqDiff, Nat.reduceAdd, Nat.reduceMul, Nat.reduceLeDiff, Nat.reduceLT, Nat.reduceSub, Int.reduceToNat, Int.reduceLE, Int.reduceLT, reduceCtorEq, Int.natCast_add, Int.cast_ofNat_Int]; (repeat' (first | exact trivial | (refine ⟨?_, ?_⟩) | exact RN.im rfl | exact RN.any _ _ | exact RN.ptr _ rfl | exact RN.ref _ _ rfl | exact RN.nil _ | (refine RN.int ?_; omega) | (exact RNL.eq (splice_set hfl) (nr_ci _))))); (· (try simp (disch := omega) only [RNH, RNL, Int.natCast_add, Int.cast_ofNat_Int, go_sem, ↓reduceIte, Nat.reduceEqDiff, Nat.reduceAdd, Nat.reduceMul, Nat.reduceLeDiff, Nat.reduceLT, Nat.reduceSub, Int.reduceToNat, Int.reduceLE, Int.reduceLT, reduceCtorEq]); (repeat' (first | exact trivial | (refine ⟨_, rfl, rfl, ?_⟩) | (refine ⟨?_, ?_⟩) | exact RNL.im rfl | exact RN.im rfl | exact RN.any _ _ | exact RN.ptr _ rfl | exact RN.ref _ _ rfl | exact RN.nil _ | (refine RN.int ?_; omega) | (exact RNL.eq (splice_set hfl) (nr_ci _))))))
      · exact ⟨rfl, by simp, h3, fun j hj => by have := h4 j hj; rw [cntO_cons] at this; simp only; omega⟩
      · (refine ⟨[0, 1], ?_, ?_, by decide, by simp⟩; (· simp (disch := omega) only [AllRN, go_sem, ↓reduceIte, Nat.reduceEqDiff, Nat.reduceAdd, Nat.reduceMul, Nat.reduceLeDiff, Nat.reduceLT, Nat.reduceSub, Int.reduceToNat, Int.reduceLE, Int.reduceLT, reduceCtorEq, Int.natCast_add, Int.cast_ofNat_Int]; (repeat' (first | exact trivial | (refine ⟨?_, ?_⟩) | exact RN.im rfl | exact RN.any _ _ | exact RN.ptr _ rfl | exact RN.ref _ _ rfl | exact RN.nil _ | (refine RN.int ?_; omega) | (exact RNL.im (nr_ci _))))); (· (try simp (disch := omega) only [RNH, RNL, Int.natCast_add, Int.cast_ofNat_Int, go_sem, ↓reduceIte, Nat.reduceEqDiff, Nat.reduceAdd, Nat.reduceMul, Nat.reduceLeDiff, Nat.reduceLT, Nat.reduceSub, Int.reduceToNat, Int.reduceLE, Int.reduceLT, reduceCtorEq]); (repeat' (first | exact trivial | (refine ⟨_, rfl, rfl, ?_⟩) | (refine ⟨?_, ?_⟩) | exact RNL.im rfl | exact RN.im rfl | exact RN.any _ _ | exact RN.ptr _ rfl | exact RN.ref _ _ rfl | exact RN.nil _ | (refine RN.int ?_; omega) | (exact RNL.im (nr_ci _))))))
  · refine ⟨rfl, by simp, by simp, fun j hj => ?_⟩
    have : ∀ j, j < 32 → (List.replicate 32 0).getD j 0 = 0 := by decide
    rw [this j hj, Nat.zero_add]; rfl
  · (refine ⟨[0, 1], ?_, ?_, by decide, by simp⟩; (· simp (disch := omega) only [AllRN, go_sem, ↓reduceIte, Nat.reduceEqDiff, Nat.reduceAdd, Nat.reduceMul, Nat.reduceLeDiff, Nat.reduceLT, Nat.reduceSub, Int.reduceToNat, Int.reduceLE, Int.reduceLT, reduceCtorEq, Int.natCast_add, Int.cast_ofNat_Int]; (repeat' (first | exact trivial | (refine ⟨?_, ?_⟩) | exact RN.im rfl | exact RN.any _ _ | exact RN.ptr _ rfl | exact RN.ref _ _ rfl | exact RN.nil _ | (refine RN.int ?_; omega) | (exact RNL.eq rfl (nr_ci _))))); (· (try simp (disch := omega) only [RNH, RNL, Int.natCast_add, Int.cast_ofNat_Int, go_sem, ↓reduceIte, Nat.reduceEqDiff, Nat.reduceAdd, Nat.reduceMul, Nat.reduceLeDiff, Nat.reduceLT, Nat.reduceSub, Int.reduceToNat, Int.reduceLE, Int.reduceLT, reduceCtorEq]); (repeat' (first | exact trivial | (refine ⟨_, rfl, rfl, ?_⟩) | (refine ⟨?_, ?_⟩) | exact RNL.im rfl | exact RN.im rfl | exact RN.any _ _ | exact RN.ptr _ rfl | exact RN.ref _ _ rfl | exact RN.nil _ | (refine RN.int ?_; omega) | (exact RNL.eq rfl (nr_ci _))))))

theorem topIn_s (t : Tree) (n : Nat) (id : Int) (h : 0 < id) : topIn t (n + 1) id = topIn t n (home t id) := by simp [topIn, h]
theorem topIn_n (t : Tree) (n : Nat) (id : Int) (h : n = 0 ∨ id ≤ 0) : topIn t n id = decide (id = 0) := by
  cases n with
  | zero => rfl
  | succ n => simp only [topIn]; rw [if_neg (by omega)]
theorem pu_l1Top (t : Tree) (id : Int) (hn : t.tot ≤ 1073741824) : Pu Try.prog X 100 [.agg t.enc, .int .i64 id] (.bool (topIn t 32 id)) := by
  refine Pu.body Try.func100 rfl (rs := [.tmp 4]) rfl okf_100 (by rw [Try.ntmps100]; simp) ?_
  repeat' (first
    | refine VC_seq ?_ | refine VC_region ?_ | refine VC_block ?_ | refine VC_exit ?_ | refine VC_ret ?_ | refine VC_skip ?_ | refine VO_nil ?_ | refine VC_draw (by kernel_rfl) ?_ | (refine VD_nil ?_; refine ⟨by kernel_rfl, ?_⟩)
    | ((first | refine VO_stepP rfl rfl ?_ | refine VO_goC rfl rfl ?_ | refine VO_guardP rfl rfl rfl ?_ | refine VO_goG rfl rfl rfl ?_ | refine VC_if ?_ | refine VD_stepP rfl rfl ?_ | refine VD_goC rfl rfl ?_ | refine VD_guardP rfl rfl rfl ?_ | refine VD_goG rfl rfl rfl ?_); intro K' hK'; simp (disch := omega) only [go_sem, ↓reduceIte, Nat.reduceEqDiff, Nat.reduceAdd, Nat.reduceMul, Nat.reduceLeDiff, Nat.reduceLT, Nat.reduceSub, Int.reduceToNat, Int.reduceLE, Int.reduceLT, reduceCtorEq, Tree.enc]; first
     | ((first | refine hK' _ _ ?_ | refine hK' _ ?_ | refine hK' _ _ _ _ _ _ _ ?_); clear hK' K')
     | (refine ⟨fun hg => ?_, fun hg => ?_⟩ <;> (first | refine hK' _ _ ?_ | refine hK' _ ?_ | refine hK' _ _ _ _ _ _ _ ?_) <;> clear hK' K' <;> (try rw [hg]) <;> (try simp only [decide_eq_true_eq, decide_eq_false_iff_not, ne_eq, Bool.not_eq_true, Bool.not_eq_false, Bool.not_eq_eq_eq_not, Bool.not_true, Bool.not_false, Decidable.not_not, beq_iff_eq, bne_iff_ne, beq_eq_false_iff_ne, Int.not_le, Int.not_lt, reduceCtorEq, not_true_eq_false, not_false_eq_true, Bool.true_eq_false, Bool.false_eq_true, Bool.and_eq_true, Bool.or_eq_false_iff, bne_eq_false_iff_eq, Int.natCast_inj, Int.ofNat_lt] at hg) <;> (try (exfalso; omega))))
    | (simp only [andThenV_normal, andThenV_ret, andThenV_exit, outOfV_normal, outOfV_ret, outOfV_exit, ↓reduceIte, Nat.reduceEqDiff])
    | ((first | refine atEndV_r ?_ | refine atEndV_n ?_); simp (disch := omega) only [go_sem, ↓reduceIte, Nat.reduceEqDiff, Nat.reduceAdd, Nat.reduceMul, Nat.reduceLeDiff, Nat.reduceLT, Nat.reduceSub, Int.reduceToNat, Int.reduceLE, Int.reduceLT, reduceCtorEq, Tree.enc]; try (first | rw [deep_bool_eq] | rw [deep_int_eq] | rw [deep_str_eq])))
  refine VC_loop (α := Nat × Nat × Int) (fun y => y.2.1) (fun y => [(1, .int .i64 y.2.2), (2, .ptr 0 0), (5, .int .i64 y.1)]) (fun _ => [some ⟨t.enc, 0⟩])
    (fun y => y.1 + y.2.1 = 32 ∧ topIn t 32 id = topIn t y.2.1 y.2.2) ?_ (0, 32, id) ?_ ?_
  · rintro ⟨i, n, w⟩ ⟨h1, h2⟩
    simp only at h1 h2 ⊢
    by_cases hs : n = 0 ∨ w ≤ 0
    · rw [topIn_n t n w hs] at h2
      repeat' (first
    | refine VC_seq ?_ | refine VC_region ?_ | refine VC_block ?_ | refine VC_exit ?_ | refine VC_ret ?_ | refine VC_skip ?_ | refine VO_nil ?_ | refine VC_draw (by kernel_rfl) ?_ | (refine VD_nil ?_; refine ⟨by kernel_rfl, ?_⟩)
    | ((first | refine VO_stepP rfl rfl ?_ | refine VO_goC rfl rfl ?_ | refine VO_guardP rfl rfl rfl ?_ | refine VO_goG rfl rfl rfl ?_ | refine VC_if ?_ | refine VD_stepP rfl rfl ?_ | refine VD_goC rfl rfl ?_ | refine VD_guardP rfl rfl rfl ?_ | refine VD_goG rfl rfl rfl ?_); intro K' hK'; simp (disch := omega) only [go_sem, ↓reduceIte, Nat.reduceEqDiff, Nat.reduceAdd, Nat.reduceMul, Nat.reduceLeDiff, Nat.reduceLT, Nat.reduceSub, Int.reduceToNat, Int.reduceLE, Int.reduceLT, reduceCtorEq, FL_cons, Tree.enc]; first
     | ((first | refine hK' _ _ ?_ | refine hK' _ ?_ | refine hK' _ _ _ _ _ _ _ ?_); clear hK' K')
     | ((first | refine Pu.g (pu_l1Home _ _ hn) rfl rfl ?_); (first | refine hK' _ _ ?_ | refine hK' _ ?_ | refine hK' _ _ _ _ _ _ _ ?_); clear hK' K')
     | (refine ⟨fun hg => ?_, fun hg => ?_⟩ <;> (first | (first | refine hK' _ _ ?_ | refine hK' _ ?_ | refine hK' _ _ _ _ _ _ _ ?_) | ((first | refine Pu.g (pu_l1Home _ _ hn) rfl rfl ?_); (first | refine hK' _ _ ?_ | refine hK' _ ?_ | refine hK' _ _ _ _ _ _ _ ?_))) <;> clear hK' K' <;> (try rw [hg]) <;> (try simp only [decide_eq_true_eq, decide_eq_false_iff_not, ne_eq, Bool.not_eq_true, Bool.not_eq_false, Bool.not_eq_eq_eq_not, Bool.not_true, Bool.not_false, Decidable.not_not, beq_iff_eq, bne_iff_ne, beq_eq_false_iff_ne, Int.not_le, Int.not_lt, reduceCtorEq, not_true_eq_false, not_false_eq_true, Bool.true_eq_false, Bool.false_eq_true, Bool.and_eq_true, Bool.or_eq_false_iff, bne_eq_false_iff_eq, Int.natCast_inj, Int.ofNat_lt] at hg) <;> (try (exfalso; omega))))
    | (simp only [andThenV_normal, andThenV_ret, andThenV_exit, outOfV_normal, outOfV_ret, outOfV_exit, ↓reduceIte, Nat.reduceEqDiff])
    | ((first | refine atEndV_r ?_ | refine atEndV_n ?_); simp (disch := omega) only [go_sem, ↓reduceIte, Nat.reduceEqDiff, Nat.reduceAdd, Nat.reduceMul, Nat.reduceLeDiff, Nat.reduceLT, Nat.reduceSub, Int.reduceToNat, Int.reduceLE, Int.reduceLT, reduceCtorEq, FL_cons, Tree.enc]; try (first | rw [deep_bool_eq] | rw [deep_int_eq] | rw [deep_str_eq])))
      all_goals (rw [h2]; first | done | rfl | (congr 1; rw [Bool.eq_iff_iff]; simp; done))
    · obtain ⟨n, rfl⟩ : ∃ m, n = m + 1 := ⟨n - 1, by omega⟩
      rw [topIn_s t n w (by omega)] at h2
      repeat' (first
    | refine VC_seq ?_ | refine VC_region ?_ | refine VC_block ?_ | refine VC_exit ?_ | refine VC_ret ?_ | refine VC_skip ?_ | refine VO_nil ?_ | refine VC_draw (by kernel_rfl) ?_ | (refine VD_nil ?_; refine ⟨by kernel_rfl, ?_⟩)
    | ((first | refine VO_stepP rfl rfl ?_ | refine VO_goC rfl rfl ?_ | refine VO_guardP rfl rfl rfl ?_ | refine VO_goG rfl rfl rfl ?_ | refine VC_if ?_ | refine VD_stepP rfl rfl ?_ | refine VD_goC rfl rfl ?_ | refine VD_guardP rfl rfl rfl ?_ | refine VD_goG rfl rfl rfl ?_); intro K' hK'; simp (disch := omega) only [go_sem, ↓reduceIte, Nat.reduceEqDiff, Nat.reduceAdd, Nat.reduceMul, Nat.reduceLeDiff, Nat.reduceLT, Nat.reduceSub, Int.reduceToNat, Int.reduceLE, Int.reduceLT, reduceCtorEq, FL_cons, Tree.enc]; first
     | ((first | refine hK' _ _ ?_ | refine hK' _ ?_ | refine hK' _ _ _ _ _ _ _ ?_); clear hK' K')
     | ((first | refine Pu.g (pu_l1Home _ _ hn) rfl rfl ?_); (first | refine hK' _ _ ?_ | refine hK' _ ?_ | refine hK' _ _ _ _ _ _ _ ?_); clear hK' K')
     | (refine ⟨fun hg => ?_, fun hg => ?_⟩ <;> (first | (first | refine hK' _ _ ?_ | refine hK' _ ?_ | refine hK' _ _ _ _ _ _ _ ?_) | ((first | refine Pu.g (pu_l1Home _ _ hn) rfl rfl ?_); (first | refine hK' _ _ ?_ | refine hK' _ ?_ | refine hK' _ _ _ _ _ _ _ ?_))) <;> clear hK' K' <;> (try rw [hg]) <;> (try simp only [decide_eq_true_eq, decide_eq_false_iff_not, ne_eq, Bool.not_eq_true, Bool.not_eq_false, Bool.not_eq_eq_eq_not, Bool.not_true, Bool.not_false, Decidable.not_not, beq_iff_eq, bne_iff_ne, beq_eq_false_iff_ne, Int.not_le, Int.not_lt, reduceCtorEq, not_true_eq_false, not_false_eq_true, Bool.true_eq_false, Bool.false_eq_true, Bool.and_eq_true, Bool.or_eq_false_iff, bne_eq_false_iff_eq, Int.natCast_inj, Int.ofNat_lt] at hg) <;> (try (exfalso; omega))))
    | (simp only [andThenV_normal, andThenV_ret, andThenV_exit, outOfV_normal, outOfV_ret, outOfV_exit, ↓reduceIte, Nat.reduceEqDiff])
    | ((first | refine atEndV_r ?_ | refine atEndV_n ?_); simp (disch := omega) only [go_sem, ↓reduceIte, Nat.reduceEqDiff, Nat.reduceAdd, Nat.reduceMul, Nat.reduceLeDiff, Nat.reduceLT, Nat.reduceSub, Int.reduceToNat, Int.reduceLE, Int.reduceLT, reduceCtorEq, FL_cons, Tree.enc]; try (first | rw [deep_bool_eq] | rw [deep_int_eq] | rw [deep_str_eq])))
      refine ⟨(i + 1, n, home t w), by simp, ⟨by simp; omega, h2⟩, ?_⟩
      (refine ⟨[0], ?_, ?_, by decide, by simp⟩; (· simp (disch := omega) only [AllRN, go_sem, ↓reduceIte, Nat.reduceEqDiff, Nat.reduceAdd, Nat.reduceMul, Nat.reduceLeDiff, Nat.reduceLT, Nat.reduceSub, Int.reduceToNat, Int.reduceLE, Int.reduceLT, reduceCtorEq, Int.natCast_add, Int.cast_ofNat_Int]; (repeat' (first | exact trivial | (refine ⟨?_, ?_⟩) | exact RN.im rfl | exact RN.any _ _ | exact RN.ptr _ rfl | exact RN.ref _ _ rfl | exact RN.nil _ | (refine RN.int ?_; omega)))); (· (try simp (disch := omega) only [RNH, RNL, Int.natCast_add, Int.cast_ofNat_Int, go_sem, ↓reduceIte, Nat.reduceEqDiff, Nat.reduceAdd, Nat.reduceMul, Nat.reduceLeDiff, Nat.reduceLT, Nat.reduceSub, Int.reduceToNat, Int.reduceLE, Int.reduceLT, reduceCtorEq]); (repeat' (first | exact trivial | (refine ⟨_, rfl, rfl, ?_⟩) | (refine ⟨?_, ?_⟩) | exact RNL.im rfl | exact RN.im rfl | exact RN.any _ _ | exact RN.ptr _ rfl | exact RN.ref _ _ rfl | exact RN.nil _ | (refine RN.int ?_; omega)))))
  · exact ⟨rfl, rfl⟩
  · (refine ⟨[0], ?_, ?_, by decide, by simp⟩; (· simp (disch := omega) only [AllRN, go_sem, ↓reduceIte, Nat.reduceEqDiff, Nat.reduceAdd, Nat.reduceMul, Nat.reduceLeDiff, Nat.reduceLT, Nat.reduceSub, Int.reduceToNat, Int.reduceLE, Int.reduceLT, reduceCtorEq, Int.natCast_add, Int.cast_ofNat_Int]; (repeat' (first | exact trivial | (refine ⟨?_, ?_⟩) | exact RN.im rfl | exact RN.any _ _ | exact RN.ptr _ rfl | exact RN.ref _ _ rfl | exact RN.nil _ | (refine RN.int ?_; omega)))); (· (try simp (disch := omega) only [RNH, RNL, Int.natCast_add, Int.cast_ofNat_Int, go_sem, ↓reduceIte, Nat.reduceEqDiff, Nat.reduceAdd, Nat.reduceMul, Nat.reduceLeDiff, Nat.reduceLT, Nat.reduceSub, Int.reduceToNat, Int.reduceLE, Int.reduceLT, reduceCtorEq]); (repeat' (first | exact trivial | (refine ⟨_, rfl, rfl, ?_⟩) | (refine ⟨?_, ?_⟩) | exact RNL.im rfl | exact RN.im rfl | exact RN.any _ _ | exact RN.ptr _ rfl | exact RN.ref _ _ rfl | exact RN.nil _ | (refine RN.int ?_; omega)))))

theorem objAt_of {t : Tree} {i : Nat} {o : TObj} (h : t.objs[i]? = some o) : objAt t (i : Int) = o := by
  unfold objAt; rw [Int.toNat_natCast, List.getD_eq_getElem?_getD, h]; rfl
theorem treeOk_len {t : Tree} (h : ¬ t.objs.length = 32) : treeOk t = false := by simp [treeOk, h]
theorem treeOk_dir {t : Tree} (h : ¬ (objAt t 0).kind = 2) : treeOk t = false := by simp [treeOk, h]
theorem treeOk_obj {t : Tree} (h : t.objs.all objOk = false) : treeOk t = false := by unfold treeOk; rw [h]; simp
theorem treeOk_live {t : Tree} {i : Nat} (h0 : i ≠ 0) (hi : i < 32) (h : liveOk t i = false) : treeOk t = false := by
  rw [Bool.eq_false_iff]
  intro q
  simp only [treeOk, Bool.and_eq_true, List.all_eq_true, List.mem_range, Bool.or_eq_true, decide_eq_true_eq] at q
  rcases q.2 i hi with q | q
  · exact h0 q
  · rw [q] at h; cases h
theorem treeOk_true {t : Tree} (hl : t.objs.length = 32) (hd : (objAt t 0).kind = 2) (ho : t.objs.all objOk = true) (h : ∀ j, j < 32 → j ≠ 0 → liveOk t j = true) : treeOk t = true := by
  simp only [treeOk, Bool.and_eq_true, List.all_eq_true (l := List.range 32), List.mem_range, Bool.or_eq_true, decide_eq_true_eq]
  refine ⟨⟨⟨hl, hd⟩, ho⟩, fun i hi => ?_⟩
  by_cases h0 : i = 0
  · exact .inl h0
  · exact .inr (h i hi h0)
theorem pu_spec_TreeOk (t : Tree) (hn : t.tot ≤ 1073741824) : Pu Try.prog X 48 [.agg t.enc] (.bool (treeOk t)) := by
  have hl := le_lsum TObj.tot t.objs
  have hn' := hn
  unfold Tree.tot at hn'
  have hb := homes_le t
  refine Pu.body Try.func48 rfl (rs := [.tmp 2]) rfl okf_48 (by rw [Try.ntmps48]; simp) ?_
  by_cases h32 : t.objs.length = 32
  case neg =>
    repeat' (first
    | refine VC_seq ?_ | refine VC_region ?_ | refine VC_block ?_ | refine VC_exit ?_ | refine VC_ret ?_ | refine VC_skip ?_ | refine VO_nil ?_ | refine VC_draw (by kernel_rfl) ?_ | (refine VD_nil ?_; refine ⟨by kernel_rfl, ?_⟩)
    | ((first | refine VO_stepP rfl rfl ?_ | refine VO_goC rfl rfl ?_ | refine VO_guardP rfl rfl rfl ?_ | refine VO_goG rfl rfl rfl ?_ | refine VC_if ?_ | refine VD_stepP rfl rfl ?_ | refine VD_goC rfl rfl ?_ | refine VD_guardP rfl rfl rfl ?_ | refine VD_goG rfl rfl rfl ?_); intro K' hK'; simp (disch := omega) only [go_sem, ↓reduceIte, Nat.reduceEqDiff, Nat.reduceAdd, Nat.reduceMul, Nat.reduceLeDiff, Nat.reduceLT, Nat.reduceSub, Int.reduceToNat, Int.reduceLE, Int.reduceLT, reduceCtorEq, Tree.enc]; first
     | ((first | refine hK' _ _ ?_ | refine hK' _ ?_ | refine hK' _ _ _ _ _ _ _ ?_); clear hK' K')
     | (refine ⟨fun hg => ?_, fun hg => ?_⟩ <;> (first | refine hK' _ _ ?_ | refine hK' _ ?_ | refine hK' _ _ _ _ _ _ _ ?_) <;> clear hK' K' <;> (try rw [hg]) <;> (try simp only [decide_eq_true_eq, decide_eq_false_iff_not, ne_eq, Bool.not_eq_true, Bool.not_eq_false, Bool.not_eq_eq_eq_not, Bool.not_true, Bool.not_false, Decidable.not_not, beq_iff_eq, bne_iff_ne, beq_eq_false_iff_ne, Int.not_le, Int.not_lt, reduceCtorEq, not_true_eq_false, not_false_eq_true, Bool.true_eq_false, Bool.false_eq_true, Bool.and_eq_true, Bool.or_eq_false_iff, bne_eq_false_iff_eq, Int.natCast_inj, Int.ofNat_lt] at hg) <;> (try (exfalso; omega))))
    | (simp only [andThenV_normal, andThenV_ret, andThenV_exit, outOfV_normal, outOfV_ret, outOfV_exit, ↓reduceIte, Nat.reduceEqDiff])
    | ((first | refine atEndV_r ?_ | refine atEndV_n ?_); simp (disch := omega) only [go_sem, ↓reduceIte, Nat.reduceEqDiff, Nat.reduceAdd, Nat.reduceMul, Nat.reduceLeDiff, Nat.reduceLT, Nat.reduceSub, Int.reduceToNat, Int.reduceLE, Int.reduceLT, reduceCtorEq, Tree.enc]; try (first | rw [deep_bool_eq] | rw [deep_int_eq] | rw [deep_str_eq])))
    rw [treeOk_len h32]
  obtain ⟨o0, ho0⟩ : ∃ o, t.objs[0]? = some o := ⟨_, List.getElem?_eq_getElem (by omega)⟩
  have hat : objAt t 0 = o0 := objAt_of (i := 0) ho0
  repeat' (first
    | refine VC_seq ?_ | refine VC_region ?_ | refine VC_block ?_ | refine VC_exit ?_ | refine VC_ret ?_ | refine VC_skip ?_ | refine VO_nil ?_ | refine VC_draw (by kernel_rfl) ?_ | (refine VD_nil ?_; refine ⟨by kernel_rfl, ?_⟩)
    | ((first | refine VO_stepP rfl rfl ?_ | refine VO_goC rfl rfl ?_ | refine VO_guardP rfl rfl rfl ?_ | refine VO_goG rfl rfl rfl ?_ | refine VC_if ?_ | refine VD_stepP rfl rfl ?_ | refine VD_goC rfl rfl ?_ | refine VD_guardP rfl rfl rfl ?_ | refine VD_goG rfl rfl rfl ?_); intro K' hK'; simp (disch := omega) only [go_sem, ↓reduceIte, Nat.reduceEqDiff, Nat.reduceAdd, Nat.reduceMul, Nat.reduceLeDiff, Nat.reduceLT, Nat.reduceSub, Int.reduceToNat, Int.reduceLE, Int.reduceLT, reduceCtorEq, Tree.enc, TObj.enc, ho0]; first
     | ((first | refine hK' _ _ ?_ | refine hK' _ ?_ | refine hK' _ _ _ _ _ _ _ ?_); clear hK' K')
     | (refine ⟨fun hg => ?_, fun hg => ?_⟩ <;> (first | refine hK' _ _ ?_ | refine hK' _ ?_ | refine hK' _ _ _ _ _ _ _ ?_) <;> clear hK' K' <;> (try rw [hg]) <;> (try simp only [decide_eq_true_eq, decide_eq_false_iff_not, ne_eq, Bool.not_eq_true, Bool.not_eq_false, Bool.not_eq_eq_eq_not, Bool.not_true, Bool.not_false, Decidable.not_not, beq_iff_eq, bne_iff_ne, beq_eq_false_iff_ne, Int.not_le, Int.not_lt, reduceCtorEq, not_true_eq_false, not_false_eq_true, Bool.true_eq_false, Bool.false_eq_true, Bool.and_eq_true, Bool.or_eq_false_iff, bne_eq_false_iff_eq, Int.natCast_inj, Int.ofNat_lt] at hg) <;> (try (exfalso; omega))))
    | (simp only [andThenV_normal, andThenV_ret, andThenV_exit, outOfV_normal, outOfV_ret, outOfV_exit, ↓reduceIte, Nat.reduceEqDiff])
    | ((first | refine atEndV_r ?_ | refine atEndV_n ?_); simp (disch := omega) only [go_sem, ↓reduceIte, Nat.reduceEqDiff, Nat.reduceAdd, Nat.reduceMul, Nat.reduceLeDiff, Nat.reduceLT, Nat.reduceSub, Int.reduceToNat, Int.reduceLE, Int.reduceLT, reduceCtorEq, Tree.enc, TObj.enc, ho0]; try (first | rw [deep_bool_eq] | rw [deep_int_eq] | rw [deep_str_eq])))
  · rw [treeOk_dir (by rw [hat]; exact hg)]
  rw [← hat] at hg
  have hdir := hg
  refine VC_loop (α := Nat × List TObj) (fun y => y.2.length) (fun y => [(1, .ptr 0 0), (3, .int .i64 y.1)]) (fun _ => [some ⟨t.enc, 0⟩])
    (fun y => t.objs.drop y.1 = y.2 ∧ y.1 + y.2.length = t.objs.length ∧ t.objs.all objOk = y.2.all objOk) ?_ (0, t.objs) ?_ ?_
  · rintro ⟨i, r⟩ ⟨h1, h2, h3⟩
    simp only at h1 h2 h3 ⊢
    cases r with
    | cons o r =>
      simp only [List.length_cons] at h2
      obtain ⟨k1, k2, k3⟩ := drop_cons h1
      have ho := mem_lsum TObj.tot (List.mem_of_getElem? k1)
      rw [List.all_cons] at h3
      repeat' (first
    | refine VC_seq ?_ | refine VC_region ?_ | refine VC_block ?_ | refine VC_exit ?_ | refine VC_ret ?_ | refine VC_skip ?_ | refine VO_nil ?_ | refine VC_draw (by kernel_rfl) ?_ | (refine VD_nil ?_; refine ⟨by kernel_rfl, ?_⟩)
    | ((first | refine VO_stepP rfl rfl ?_ | refine VO_goC rfl rfl ?_ | refine VO_guardP rfl rfl rfl ?_ | refine VO_goG rfl rfl rfl ?_ | refine VC_if ?_ | refine VD_stepP rfl rfl ?_ | refine VD_goC rfl rfl ?_ | refine VD_guardP rfl rfl rfl ?_ | refine VD_goG rfl rfl rfl ?_); intro K' hK'; simp (disch := omega) only [go_sem, ↓reduceIte, Nat.reduceEqDiff, Nat.reduceAdd, Nat.reduceMul, Nat.reduceLeDiff, Nat.reduceLT, Nat.reduceSub, Int.reduceToNat, Int.reduceLE, Int.reduceLT, reduceCtorEq, FL_cons, k1, Tree.enc]; first
     | ((first | refine hK' _ _ ?_ | refine hK' _ ?_ | refine hK' _ _ _ _ _ _ _ ?_); clear hK' K')
     | ((first | refine Pu.g (pu_l1Obj _ (by omega)) rfl rfl ?_); (first | refine hK' _ _ ?_ | refine hK' _ ?_ | refine hK' _ _ _ _ _ _ _ ?_); clear hK' K')
     | (refine ⟨fun hg => ?_, fun hg => ?_⟩ <;> (first | (first | refine hK' _ _ ?_ | refine hK' _ ?_ | refine hK' _ _ _ _ _ _ _ ?_) | ((first | refine Pu.g (pu_l1Obj _ (by omega)) rfl rfl ?_); (first | refine hK' _ _ ?_ | refine hK' _ ?_ | refine hK' _ _ _ _ _ _ _ ?_))) <;> clear hK' K' <;> (try rw [hg]) <;> (try simp only [decide_eq_true_eq, decide_eq_false_iff_not, ne_eq, Bool.not_eq_true, Bool.not_eq_false, Bool.not_eq_eq_eq_not, Bool.not_true, Bool.not_false, Decidable.not_not, beq_iff_eq, bne_iff_ne, beq_eq_false_iff_ne, Int.not_le, Int.not_lt, reduceCtorEq, not_true_eq_false, not_false_eq_true, Bool.true_eq_false, Bool.false_eq_true, Bool.and_eq_true, Bool.or_eq_false_iff, bne_eq_false_iff_eq, Int.natCast_inj, Int.ofNat_lt] at hg) <;> (try (exfalso; omega))))
    | (simp only [andThenV_normal, andThenV_ret, andThenV_exit, outOfV_normal, outOfV_ret, outOfV_exit, ↓reduceIte, Nat.reduceEqDiff])
    | ((first | refine atEndV_r ?_ | refine atEndV_n ?_); simp (disch := omega) only [go_sem, ↓reduceIte, Nat.reduceEqDiff, Nat.reduceAdd, Nat.reduceMul, Nat.reduceLeDiff, Nat.reduceLT, Nat.reduceSub, Int.reduceToNat, Int.reduceLE, Int.reduceLT, reduceCtorEq, FL_cons, k1, Tree.enc]; try (first | rw [deep_bool_eq] | rw [deep_int_eq] | rw [deep_str_eq])))
      all_goals first
        | (refine ⟨(i + 1, r), by simp, ⟨k2, by simp; omega, ?_⟩, ?_⟩
           · rw [h3]; simp_all
           · (refine ⟨[0], ?_, ?_, by decide, by simp⟩; (· simp (disch := omega) only [AllRN, go_sem, ↓reduceIte, Nat.reduceEqDiff, Nat.reduceAdd, Nat.reduceMul, Nat.reduceLeDiff, Nat.reduceLT, Nat.reduceSub, Int.reduceToNat, Int.reduceLE, Int.reduceLT, reduceCtorEq, Int.natCast_add, Int.cast_ofNat_Int]; (repeat' (first | exact trivial | (refine ⟨?_, ?_⟩) | exact RN.im rfl | exact RN.any _ _ | exact RN.ptr _ rfl | exact RN.ref _ _ rfl | exact RN.nil _ | (refine RN.int ?_; omega)))); (· (try simp (disch := omega) only [RNH, RNL, Int.natCast_add, Int.cast_ofNat_Int, go_sem, ↓reduceIte, Nat.reduceEqDiff, Nat.reduceAdd, Nat.reduceMul, Nat.reduceLeDiff, Nat.reduceLT, Nat.reduceSub, Int.reduceToNat, Int.reduceLE, Int.reduceLT, reduceCtorEq]); (repeat' (first | exact trivial | (refine ⟨_, rfl, rfl, ?_⟩) | (refine ⟨?_, ?_⟩) | exact RNL.im rfl | exact RN.im rfl | exact RN.any _ _ | exact RN.ptr _ rfl | exact RN.ref _ _ rfl | exact RN.nil _ | (refine RN.int ?_; omega))))))
        | (rw [treeOk_obj]; rw [h3]; simp_all)
    | nil =>
      simp only [List.length_nil] at h2
      have hall : t.objs.all objOk = true := h3
      have hids : ∀ o ∈ t.objs, ∀ k ∈ o.kids, 0 ≤ k.id ∧ k.id ≤ 31 := fun o ho k hk => by have := ids_of hall o ho k hk; omega
      repeat' (first
    | refine VC_seq ?_ | refine VC_region ?_ | refine VC_block ?_ | refine VC_exit ?_ | refine VC_ret ?_ | refine VC_skip ?_ | refine VO_nil ?_ | refine VC_draw (by kernel_rfl) ?_ | (refine VD_nil ?_; refine ⟨by kernel_rfl, ?_⟩)
    | ((first | refine VO_stepP rfl rfl ?_ | refine VO_goC rfl rfl ?_ | refine VO_guardP rfl rfl rfl ?_ | refine VO_goG rfl rfl rfl ?_ | refine VC_if ?_ | refine VD_stepP rfl rfl ?_ | refine VD_goC rfl rfl ?_ | refine VD_guardP rfl rfl rfl ?_ | refine VD_goG rfl rfl rfl ?_); intro K' hK'; simp (disch := omega) only [go_sem, ↓reduceIte, Nat.reduceEqDiff, Nat.reduceAdd, Nat.reduceMul, Nat.reduceLeDiff, Nat.reduceLT, Nat.reduceSub, Int.reduceToNat, Int.reduceLE, Int.reduceLT, reduceCtorEq, FL_cons, Tree.enc]; first
     | ((first | refine hK' _ _ ?_ | refine hK' _ ?_ | refine hK' _ _ _ _ _ _ _ ?_); clear hK' K')
     | ((first | refine Pu.g (pu_l1Homes _ hn hids) rfl rfl ?_); (first | refine hK' _ _ ?_ | refine hK' _ ?_ | refine hK' _ _ _ _ _ _ _ ?_); clear hK' K')
     | (refine ⟨fun hg => ?_, fun hg => ?_⟩ <;> (first | (first | refine hK' _ _ ?_ | refine hK' _ ?_ | refine hK' _ _ _ _ _ _ _ ?_) | ((first | refine Pu.g (pu_l1Homes _ hn hids) rfl rfl ?_); (first | refine hK' _ _ ?_ | refine hK' _ ?_ | refine hK' _ _ _ _ _ _ _ ?_))) <;> clear hK' K' <;> (try rw [hg]) <;> (try simp only [decide_eq_true_eq, decide_eq_false_iff_not, ne_eq, Bool.not_eq_true, Bool.not_eq_false, Bool.not_eq_eq_eq_not, Bool.not_true, Bool.not_false, Decidable.not_not, beq_iff_eq, bne_iff_ne, beq_eq_false_iff_ne, Int.not_le, Int.not_lt, reduceCtorEq, not_true_eq_false, not_false_eq_true, Bool.true_eq_false, Bool.false_eq_true, Bool.and_eq_true, Bool.or_eq_false_iff, bne_eq_false_iff_eq, Int.natCast_inj, Int.ofNat_lt] at hg) <;> (try (exfalso; omega))))
    | (simp only [andThenV_normal, andThenV_ret, andThenV_exit, outOfV_normal, outOfV_ret, outOfV_exit, ↓reduceIte, Nat.reduceEqDiff])
    | ((first | refine atEndV_r ?_ | refine atEndV_n ?_); simp (disch := omega) only [go_sem, ↓reduceIte, Nat.reduceEqDiff, Nat.reduceAdd, Nat.reduceMul, Nat.reduceLeDiff, Nat.reduceLT, Nat.reduceSub, Int.reduceToNat, Int.reduceLE, Int.reduceLT, reduceCtorEq, FL_cons, Tree.enc]; try (first | rw [deep_bool_eq] | rw [deep_int_eq] | rw [deep_str_eq])))
      refine VC_loop (α := Nat) (fun y => 32 - y) (fun y => [(1, .ptr 0 0), (4, .sl 1 (homesD t)), (5, .int .i64 y)]) (fun _ => [some ⟨t.enc, 0⟩])
        (fun y => 1 ≤ y ∧ y ≤ 32 ∧ ∀ j, j < y → j ≠ 0 → liveOk t j = true) ?_ 1 ?_ ?_
      · rintro m ⟨g1, g2, g3⟩
        rcases Nat.lt_or_ge m 32 with hm | hm
        · obtain ⟨o, k1⟩ : ∃ o, t.objs[m]? = some o := ⟨_, List.getElem?_eq_getElem (by omega)⟩
          have hho := homesD_at t hm
          have hbm := hb (m : Int)
          have hom := objAt_of k1
          have hlv : liveOk t m = (if o.kind ≠ 0 then decide (homes t m = 1) && topIn t 32 m else decide (homes t m = 0)) := by unfold liveOk; rw [hom]
          repeat' (first
    | refine VC_seq ?_ | refine VC_region ?_ | refine VC_block ?_ | refine VC_exit ?_ | refine VC_ret ?_ | refine VC_skip ?_ | refine VO_nil ?_ | refine VC_draw (by kernel_rfl) ?_ | (refine VD_nil ?_; refine ⟨by kernel_rfl, ?_⟩)
    | ((first | refine VO_stepP rfl rfl ?_ | refine VO_goC rfl rfl ?_ | refine VO_guardP rfl rfl rfl ?_ | refine VO_goG rfl rfl rfl ?_ | refine VC_if ?_ | refine VD_stepP rfl rfl ?_ | refine VD_goC rfl rfl ?_ | refine VD_guardP rfl rfl rfl ?_ | refine VD_goG rfl rfl rfl ?_); intro K' hK'; simp (disch := omega) only [go_sem, ↓reduceIte, Nat.reduceEqDiff, Nat.reduceAdd, Nat.reduceMul, Nat.reduceLeDiff, Nat.reduceLT, Nat.reduceSub, Int.reduceToNat, Int.reduceLE, Int.reduceLT, reduceCtorEq, FL_cons, k1, hho, ci, Tree.enc, TObj.enc]; first
     | ((first | refine hK' _ _ ?_ | refine hK' _ ?_ | refine hK' _ _ _ _ _ _ _ ?_); clear hK' K')
     | ((first | refine Pu.g (pu_l1Top _ _ hn) rfl rfl ?_); (first | refine hK' _ _ ?_ | refine hK' _ ?_ | refine hK' _ _ _ _ _ _ _ ?_); clear hK' K')
     | (refine ⟨fun hg => ?_, fun hg => ?_⟩ <;> (first | (first | refine hK' _ _ ?_ | refine hK' _ ?_ | refine hK' _ _ _ _ _ _ _ ?_) | ((first | refine Pu.g (pu_l1Top _ _ hn) rfl rfl ?_); (first | refine hK' _ _ ?_ | refine hK' _ ?_ | refine hK' _ _ _ _ _ _ _ ?_))) <;> clear hK' K' <;> (try rw [hg]) <;> (try simp only [decide_eq_true_eq, decide_eq_false_iff_not, ne_eq, Bool.not_eq_true, Bool.not_eq_false, Bool.not_eq_eq_eq_not, Bool.not_true, Bool.not_false, Decidable.not_not, beq_iff_eq, bne_iff_ne, beq_eq_false_iff_ne, Int.not_le, Int.not_lt, reduceCtorEq, not_true_eq_false, not_false_eq_true, Bool.true_eq_false, Bool.false_eq_true, Bool.and_eq_true, Bool.or_eq_false_iff, bne_eq_false_iff_eq, Int.natCast_inj, Int.ofNat_lt] at hg) <;> (try (exfalso; omega))))
    | (simp only [andThenV_normal, andThenV_ret, andThenV_exit, outOfV_normal, outOfV_ret, outOfV_exit, ↓reduceIte, Nat.reduceEqDiff])
    | ((first | refine atEndV_r ?_ | refine atEndV_n ?_); simp (disch := omega) only [go_sem, ↓reduceIte, Nat.reduceEqDiff, Nat.reduceAdd, Nat.reduceMul, Nat.reduceLeDiff, Nat.reduceLT, Nat.reduceSub, Int.reduceToNat, Int.reduceLE, Int.reduceLT, reduceCtorEq, FL_cons, k1, hho, ci, Tree.enc, TObj.enc]; try (first | rw [deep_bool_eq] | rw [deep_int_eq] | rw [deep_str_eq])))
          all_goals first
            | (rw [treeOk_live (i := m) (by omega) hm (by rw [hlv]; clear g3 hlv hho k1 hids; simp_all <;> omega)])
            | (refine ⟨m + 1, by omega, ⟨by omega, by omega, fun j hj h0 => ?_⟩, ?_⟩
               · rcases Nat.lt_or_ge j m with q | q
                 · exact g3 j q h0
                 · rw [show j = m by omega, hlv]; clear g3 hlv hho k1 hids; simp_all <;> omega
               · (refine ⟨[0], ?_, ?_, by decide, by simp⟩; (· simp (disch := omega) only [AllRN, go_sem, ↓reduceIte, Nat.reduceEqDiff, Nat.reduceAdd, Nat.reduceMul, Nat.reduceLeDiff, Nat.reduceLT, Nat.reduceSub, Int.reduceToNat, Int.reduceLE, Int.reduceLT, reduceCtorEq, Int.natCast_add, Int.cast_ofNat_Int]; (repeat' (first | exact trivial | (refine ⟨?_, ?_⟩) | exact RN.im rfl | exact RN.any _ _ | exact RN.ptr _ rfl | exact RN.ref _ _ rfl | exact RN.nil _ | (refine RN.int ?_; omega)))); (· (try simp (disch := omega) only [RNH, RNL, Int.natCast_add, Int.cast_ofNat_Int, go_sem, ↓reduceIte, Nat.reduceEqDiff, Nat.reduceAdd, Nat.reduceMul, Nat.reduceLeDiff, Nat.reduceLT, Nat.reduceSub, Int.reduceToNat, Int.reduceLE, Int.reduceLT, reduceCtorEq]); (repeat' (first | exact trivial | (refine ⟨_, rfl, rfl, ?_⟩) | (refine ⟨?_, ?_⟩) | exact RNL.im rfl | exact RN.im rfl | exact RN.any _ _ | exact RN.ptr _ rfl | exact RN.ref _ _ rfl | exact RN.nil _ | (refine RN.int ?_; omega))))))
        · repeat' (first
    | refine VC_seq ?_ | refine VC_region ?_ | refine VC_block ?_ | refine VC_exit ?_ | refine VC_ret ?_ | refine VC_skip ?_ | refine VO_nil ?_ | refine VC_draw (by kernel_rfl) ?_ | (refine VD_nil ?_; refine ⟨by kernel_rfl, ?_⟩)
    | ((first | refine VO_stepP rfl rfl ?_ | refine VO_goC rfl rfl ?_ | refine VO_guardP rfl rfl rfl ?_ | refine VO_goG rfl rfl rfl ?_ | refine VC_if ?_ | refine VD_stepP rfl rfl ?_ | refine VD_goC rfl rfl ?_ | refine VD_guardP rfl rfl rfl ?_ | refine VD_goG rfl rfl rfl ?_); intro K' hK'; simp (disch := omega) only [go_sem, ↓reduceIte, Nat.reduceEqDiff, Nat.reduceAdd, Nat.reduceMul, Nat.reduceLeDiff, Nat.reduceLT, Nat.reduceSub, Int.reduceToNat, Int.reduceLE, Int.reduceLT, reduceCtorEq, FL_cons, Tree.enc]; first
     | ((first | refine hK' _ _ ?_ | refine hK' _ ?_ | refine hK' _ _ _ _ _ _ _ ?_); clear hK' K')
     | (refine ⟨fun hg => ?_, fun hg => ?_⟩ <;> (first | refine hK' _ _ ?_ | refine hK' _ ?_ | refine hK' _ _ _ _ _ _ _ ?_) <;> clear hK' K' <;> (try rw [hg]) <;> (try simp only [decide_eq_true_eq, decide_eq_false_iff_not, ne_eq, Bool.not_eq_true, Bool.not_eq_false, Bool.not_eq_eq_eq_not, Bool.not_true, Bool.not_false, Decidable.not_not, beq_iff_eq, bne_iff_ne, beq_eq_false_iff_ne, Int.not_le, Int.not_lt, reduceCtorEq, not_true_eq_false, not_false_eq_true, Bool.true_eq_false, Bool.false_eq_true, Bool.and_eq_true, Bool.or_eq_false_iff, bne_eq_false_iff_eq, Int.natCast_inj, Int.ofNat_lt] at hg) <;> (try (exfalso; omega))))
    | (simp only [andThenV_normal, andThenV_ret, andThenV_exit, outOfV_normal, outOfV_ret, outOfV_exit, ↓reduceIte, Nat.reduceEqDiff])
    | ((first | refine atEndV_r ?_ | refine atEndV_n ?_); simp (disch := omega) only [go_sem, ↓reduceIte, Nat.reduceEqDiff, Nat.reduceAdd, Nat.reduceMul, Nat.reduceLeDiff, Nat.reduceLT, Nat.reduceSub, Int.reduceToNat, Int.reduceLE, Int.reduceLT, reduceCtorEq, FL_cons, Tree.enc]; try (first | rw [deep_bool_eq] | rw [deep_int_eq] | rw [deep_str_eq])))
          rw [treeOk_true h32 hdir hall (fun j hj => g3 j (by omega))]
      · exact ⟨by omega, by omega, fun j hj h0 => by omega⟩
      · (refine ⟨[0], ?_, ?_, by decide, by simp⟩; (· simp (disch := omega) only [AllRN, go_sem, ↓reduceIte, Nat.reduceEqDiff, Nat.reduceAdd, Nat.reduceMul, Nat.reduceLeDiff, Nat.reduceLT, Nat.reduceSub, Int.reduceToNat, Int.reduceLE, Int.reduceLT, reduceCtorEq, Int.natCast_add, Int.cast_ofNat_Int]; (repeat' (first | exact trivial | (refine ⟨?_, ?_⟩) | exact RN.im rfl | exact RN.any _ _ | exact RN.ptr _ rfl | exact RN.ref _ _ rfl | exact RN.nil _ | (refine RN.int ?_; omega)))); (· (try simp (disch := omega) only [RNH, RNL, Int.natCast_add, Int.cast_ofNat_Int, go_sem, ↓reduceIte, Nat.reduceEqDiff, Nat.reduceAdd, Nat.reduceMul, Nat.reduceLeDiff, Nat.reduceLT, Nat.reduceSub, Int.reduceToNat, Int.reduceLE, Int.reduceLT, reduceCtorEq]); (repeat' (first | exact trivial | (refine ⟨_, rfl, rfl, ?_⟩) | (refine ⟨?_, ?_⟩) | exact RNL.im rfl | exact RN.im rfl | exact RN.any _ _ | exact RN.ptr _ rfl | exact RN.ref _ _ rfl | exact RN.nil _ | (refine RN.int ?_; omega)))))
  · exact ⟨rfl, by simp, rfl⟩
  · (refine ⟨[0], ?_, ?_, by decide, by simp⟩; (· simp (disch := omega) only [AllRN, go_sem, ↓reduceIte, Nat.reduceEqDiff, Nat.reduceAdd, Nat.reduceMul, Nat.reduceLeDiff, Nat.reduceLT, Nat.reduceSub, Int.reduceToNat, Int.reduceLE, Int.reduceLT, reduceCtorEq, Int.natCast_add, Int.cast_ofNat_Int]; (repeat' (first | exact trivial | (refine ⟨?_, ?_⟩) | exact RN.im rfl | exact RN.any _ _ | exact RN.ptr _ rfl | exact RN.ref _ _ rfl | exact RN.nil _ | (refine RN.int ?_; omega)))); (· (try simp (disch := omega) only [RNH, RNL, Int.natCast_add, Int.cast_ofNat_Int, go_sem, ↓reduceIte, Nat.reduceEqDiff, Nat.reduceAdd, Nat.reduceMul, Nat.reduceLeDiff, Nat.reduceLT, Nat.reduceSub, Int.reduceToNat, Int.reduceLE, Int.reduceLT, reduceCtorEq]); (repeat' (first | exact trivial | (refine ⟨_, rfl, rfl, ?_⟩) | (refine ⟨?_, ?_⟩) | exact RNL.im rfl | exact RN.im rfl | exact RN.any _ _ | exact RN.ptr _ rfl | exact RN.ref _ _ rfl | exact RN.nil _ | (refine RN.int ?_; omega)))))

end Go.Proofs.Ytmbikamebhoelaa.Ai.Av
