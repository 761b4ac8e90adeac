/- Walks: small functions. No condition. -/
import Derived.Test.YtmbikamebhoelaaAiG
import Derived.Test.YtmbikamebhoelaaV10
set_option linter.unusedVariables false
set_option linter.unusedSimpArgs false
set_option maxRecDepth 8000
namespace Go.Proofs.Ytmbikamebhoelaa.Ai.Av
open Go
variable {X : FuncId → List Value → Value → Prop}
theorem pu_in (n lo hi : Int) : Pu Try.prog X 82 [.int .i64 n, .int .i64 lo, .int .i64 hi] (.bool (inB n lo hi)) := by
  refine Pu.body Try.func82 rfl (rs := [.tmp 6]) rfl okf_82 (by rw [Try.ntmps82]; simp) ?_
  repeat' (first
    | refine VC_seq ?_ | refine VC_region ?_ | refine VC_block ?_ | refine VC_exit ?_ | refine VC_ret ?_ | refine VC_skip ?_ | refine VO_nil ?_ | refine VC_draw (by kernel_rfl) ?_ | (refine VD_nil ?_; refine ⟨by kernel_rfl, ?_⟩)
    | ((first | refine VO_stepP rfl rfl ?_ | refine VO_goC rfl rfl ?_ | refine VO_guardP rfl rfl rfl ?_ | refine VO_goG rfl rfl rfl ?_ | refine VC_if ?_ | refine VD_stepP rfl rfl ?_ | refine VD_goC rfl rfl ?_ | refine VD_guardP rfl rfl rfl ?_ | refine VD_goG rfl rfl rfl ?_); intro K' hK'; simp (disch := omega) only [go_sem, ↓reduceIte, Nat.reduceEqDiff, Nat.reduceAdd, Nat.reduceMul, Nat.reduceLeDiff, Nat.reduceLT, Nat.reduceSub, Int.reduceToNat, Int.reduceLE, Int.reduceLT, reduceCtorEq]; first
     | ((first | refine hK' _ _ ?_ | refine hK' _ ?_ | refine hK' _ _ _ _ _ _ _ ?_); clear hK' K')
     | (refine ⟨fun hg => ?_, fun hg => ?_⟩ <;> (first | refine hK' _ _ ?_ | refine hK' _ ?_ | refine hK' _ _ _ _ _ _ _ ?_) <;> clear hK' K' <;> (try rw [hg]) <;> (try simp only [decide_eq_true_eq, decide_eq_false_iff_not, ne_eq, Bool.not_eq_true, Bool.not_eq_false, Bool.not_eq_eq_eq_not, Bool.not_true, Bool.not_false, Decidable.not_not, beq_iff_eq, bne_iff_ne, beq_eq_false_iff_ne, Int.not_le, Int.not_lt, reduceCtorEq, not_true_eq_false, not_false_eq_true, Bool.true_eq_false, Bool.false_eq_true, Bool.and_eq_true, Bool.or_eq_false_iff, bne_eq_false_iff_eq, Int.natCast_inj, Int.ofNat_lt] at hg) <;> (try (exfalso; omega))))
    | (simp only [andThenV_normal, andThenV_ret, andThenV_exit, outOfV_normal, outOfV_ret, outOfV_exit, ↓reduceIte, Nat.reduceEqDiff])
    | ((first | refine atEndV_r ?_ | refine atEndV_n ?_); simp (disch := omega) only [go_sem, ↓reduceIte, Nat.reduceEqDiff, Nat.reduceAdd, Nat.reduceMul, Nat.reduceLeDiff, Nat.reduceLT, Nat.reduceSub, Int.reduceToNat, Int.reduceLE, Int.reduceLT, reduceCtorEq]; try (first | rw [deep_bool_eq] | rw [deep_int_eq] | rw [deep_str_eq])))
  · simp_all [inB]
  · have : ¬ lo ≤ n := by omega
    simp [inB, this]
theorem pu_isClient (n : Int) : Pu Try.prog X 77 [.int .i64 n] (.bool (isClient n)) := by
  refine Pu.body Try.func77 rfl (rs := [.tmp 2]) rfl okf_77 (by rw [Try.ntmps77]; simp) ?_
  repeat' (first
    | refine VC_seq ?_ | refine VC_region ?_ | refine VC_block ?_ | refine VC_exit ?_ | refine VC_ret ?_ | refine VC_skip ?_ | refine VO_nil ?_ | refine VC_draw (by kernel_rfl) ?_ | (refine VD_nil ?_; refine ⟨by kernel_rfl, ?_⟩)
    | ((first | refine VO_stepP rfl rfl ?_ | refine VO_goC rfl rfl ?_ | refine VO_guardP rfl rfl rfl ?_ | refine VO_goG rfl rfl rfl ?_ | refine VC_if ?_ | refine VD_stepP rfl rfl ?_ | refine VD_goC rfl rfl ?_ | refine VD_guardP rfl rfl rfl ?_ | refine VD_goG rfl rfl rfl ?_); intro K' hK'; simp (disch := omega) only [go_sem, ↓reduceIte, Nat.reduceEqDiff, Nat.reduceAdd, Nat.reduceMul, Nat.reduceLeDiff, Nat.reduceLT, Nat.reduceSub, Int.reduceToNat, Int.reduceLE, Int.reduceLT, reduceCtorEq]; first
     | ((first | refine hK' _ _ ?_ | refine hK' _ ?_ | refine hK' _ _ _ _ _ _ _ ?_); clear hK' K')
     | ((first | refine Pu.g (pu_in _ _ _) rfl rfl ?_); (first | refine hK' _ _ ?_ | refine hK' _ ?_ | refine hK' _ _ _ _ _ _ _ ?_); clear hK' K')
     | (refine ⟨fun hg => ?_, fun hg => ?_⟩ <;> (first | (first | refine hK' _ _ ?_ | refine hK' _ ?_ | refine hK' _ _ _ _ _ _ _ ?_) | ((first | refine Pu.g (pu_in _ _ _) rfl rfl ?_); (first | refine hK' _ _ ?_ | refine hK' _ ?_ | refine hK' _ _ _ _ _ _ _ ?_))) <;> clear hK' K' <;> (try rw [hg]) <;> (try simp only [decide_eq_true_eq, decide_eq_false_iff_not, ne_eq, Bool.not_eq_true, Bool.not_eq_false, Bool.not_eq_eq_eq_not, Bool.not_true, Bool.not_false, Decidable.not_not, beq_iff_eq, bne_iff_ne, beq_eq_false_iff_ne, Int.not_le, Int.not_lt, reduceCtorEq, not_true_eq_false, not_false_eq_true, Bool.true_eq_false, Bool.false_eq_true, Bool.and_eq_true, Bool.or_eq_false_iff, bne_eq_false_iff_eq, Int.natCast_inj, Int.ofNat_lt] at hg) <;> (try (exfalso; omega))))
    | (simp only [andThenV_normal, andThenV_ret, andThenV_exit, outOfV_normal, outOfV_ret, outOfV_exit, ↓reduceIte, Nat.reduceEqDiff])
    | ((first | refine atEndV_r ?_ | refine atEndV_n ?_); simp (disch := omega) only [go_sem, ↓reduceIte, Nat.reduceEqDiff, Nat.reduceAdd, Nat.reduceMul, Nat.reduceLeDiff, Nat.reduceLT, Nat.reduceSub, Int.reduceToNat, Int.reduceLE, Int.reduceLT, reduceCtorEq]; try (first | rw [deep_bool_eq] | rw [deep_int_eq] | rw [deep_str_eq])))
  rfl
end Go.Proofs.Ytmbikamebhoelaa.Ai.Av
