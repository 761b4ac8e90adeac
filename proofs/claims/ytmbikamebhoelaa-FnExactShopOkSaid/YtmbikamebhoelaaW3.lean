/- Walks: logs and messages held against each other. Printed by gen_w2.py. No condition. -/
import Derived.Test.YtmbikamebhoelaaW2
set_option linter.unusedVariables false
set_option linter.unusedSimpArgs false
set_option maxRecDepth 8000
namespace Go.Proofs.Ytmbikamebhoelaa.Ai.Av
open Go
variable {X : FuncId → List Value → Value → Prop}

theorem pu_impl_LogSame (a b : Log) (h : a.tot ≤ 1073741824) : Pu Try.prog X 41 [.agg a.enc, .agg b.enc] (.bool (decide (a = b))) := by
  refine Pu.body Try.func41 rfl (rs := [.tmp 4]) rfl okf_41 (by rw [Try.ntmps41]; simp) ?_
  have h1 : a.bases.length ≤ 1073741824 := by have := le_lsum Base.tot a.bases; unfold Log.tot at h; omega
  have h2 : a.list.length ≤ 1073741824 := by have := le_lsum TOp.tot a.list; unfold Log.tot at h; omega
  repeat' (first
    | refine VC_seq ?_ | refine VC_region ?_ | refine VC_block ?_ | refine VC_exit ?_ | refine VC_ret ?_ | refine VC_skip ?_ | refine VO_nil ?_ | refine VC_draw (by kernel_rfl) ?_ | (refine VD_nil ?_; refine ⟨by kernel_rfl, ?_⟩)
    | ((first | refine VO_stepP rfl rfl ?_ | refine VO_goC rfl rfl ?_ | refine VO_guardP rfl rfl rfl ?_ | refine VO_goG rfl rfl rfl ?_ | refine VC_if ?_ | refine VD_stepP rfl rfl ?_ | refine VD_goC rfl rfl ?_ | refine VD_guardP rfl rfl rfl ?_ | refine VD_goG rfl rfl rfl ?_); intro K' hK'; simp (disch := omega) only [go_sem, ↓reduceIte, Nat.reduceEqDiff, Nat.reduceAdd, Nat.reduceMul, Nat.reduceLeDiff, Nat.reduceLT, Nat.reduceSub, Int.reduceToNat, Int.reduceLE, Int.reduceLT, reduceCtorEq, Log.enc]; first
     | ((first | refine hK' _ _ ?_ | refine hK' _ ?_ | refine hK' _ _ _ _ _ _ _ ?_); clear hK' K')
     | ((first | refine Pu.g (pu_same_Base _ _ h1) rfl rfl ?_ | refine Pu.g (pu_same_TOp _ _ h2) rfl rfl ?_); (first | refine hK' _ _ ?_ | refine hK' _ ?_ | refine hK' _ _ _ _ _ _ _ ?_); clear hK' K')
     | (refine ⟨fun hg => ?_, fun hg => ?_⟩ <;> (first | (first | refine hK' _ _ ?_ | refine hK' _ ?_ | refine hK' _ _ _ _ _ _ _ ?_) | ((first | refine Pu.g (pu_same_Base _ _ h1) rfl rfl ?_ | refine Pu.g (pu_same_TOp _ _ h2) rfl rfl ?_); (first | refine hK' _ _ ?_ | refine hK' _ ?_ | refine hK' _ _ _ _ _ _ _ ?_))) <;> clear hK' K' <;> (try rw [hg]) <;> (try simp only [decide_eq_true_eq, decide_eq_false_iff_not, ne_eq, Bool.not_eq_true, Bool.not_eq_false, Bool.not_eq_eq_eq_not, Bool.not_true, Bool.not_false, Decidable.not_not, beq_iff_eq, bne_iff_ne, beq_eq_false_iff_ne, Int.not_le, Int.not_lt, reduceCtorEq, not_true_eq_false, not_false_eq_true, Bool.true_eq_false, Bool.false_eq_true, Bool.and_eq_true, Bool.or_eq_false_iff, bne_eq_false_iff_eq, Int.natCast_inj, Int.ofNat_lt] at hg) <;> (try (exfalso; omega))))
    | (simp only [andThenV_normal, andThenV_ret, andThenV_exit, outOfV_normal, outOfV_ret, outOfV_exit, ↓reduceIte, Nat.reduceEqDiff])
    | ((first | refine atEndV_r ?_ | refine atEndV_n ?_); simp (disch := omega) only [go_sem, ↓reduceIte, Nat.reduceEqDiff, Nat.reduceAdd, Nat.reduceMul, Nat.reduceLeDiff, Nat.reduceLT, Nat.reduceSub, Int.reduceToNat, Int.reduceLE, Int.reduceLT, reduceCtorEq, Log.enc]; try (first | rw [deep_bool_eq] | rw [deep_int_eq] | rw [deep_str_eq])))
  all_goals (cases a; cases b; simp_all)

theorem pu_spec_LogSame (a b : Log) (h : a.tot ≤ 1073741824) : Pu Try.prog X 42 [.agg a.enc, .agg b.enc] (.bool (decide (a = b))) := by
  refine Pu.body Try.func42 rfl (rs := [.tmp 4]) rfl okf_42 (by rw [Try.ntmps42]; simp) ?_
  have h1 : a.bases.length ≤ 1073741824 := by have := le_lsum Base.tot a.bases; unfold Log.tot at h; omega
  have h2 : a.list.length ≤ 1073741824 := by have := le_lsum TOp.tot a.list; unfold Log.tot at h; omega
  repeat' (first
    | refine VC_seq ?_ | refine VC_region ?_ | refine VC_block ?_ | refine VC_exit ?_ | refine VC_ret ?_ | refine VC_skip ?_ | refine VO_nil ?_ | refine VC_draw (by kernel_rfl) ?_ | (refine VD_nil ?_; refine ⟨by kernel_rfl, ?_⟩)
    | ((first | refine VO_stepP rfl rfl ?_ | refine VO_goC rfl rfl ?_ | refine VO_guardP rfl rfl rfl ?_ | refine VO_goG rfl rfl rfl ?_ | refine VC_if ?_ | refine VD_stepP rfl rfl ?_ | refine VD_goC rfl rfl ?_ | refine VD_guardP rfl rfl rfl ?_ | refine VD_goG rfl rfl rfl ?_); intro K' hK'; simp (disch := omega) only [go_sem, ↓reduceIte, Nat.reduceEqDiff, Nat.reduceAdd, Nat.reduceMul, Nat.reduceLeDiff, Nat.reduceLT, Nat.reduceSub, Int.reduceToNat, Int.reduceLE, Int.reduceLT, reduceCtorEq, Log.enc]; first
     | ((first | refine hK' _ _ ?_ | refine hK' _ ?_ | refine hK' _ _ _ _ _ _ _ ?_); clear hK' K')
     | ((first | refine Pu.g (pu_spec_OpSame _ _ h2) rfl rfl ?_); (first | refine hK' _ _ ?_ | refine hK' _ ?_ | refine hK' _ _ _ _ _ _ _ ?_); clear hK' K')
     | (refine ⟨fun hg => ?_, fun hg => ?_⟩ <;> (first | (first | refine hK' _ _ ?_ | refine hK' _ ?_ | refine hK' _ _ _ _ _ _ _ ?_) | ((first | refine Pu.g (pu_spec_OpSame _ _ h2) rfl rfl ?_); (first | refine hK' _ _ ?_ | refine hK' _ ?_ | refine hK' _ _ _ _ _ _ _ ?_))) <;> clear hK' K' <;> (try rw [hg]) <;> (try simp only [decide_eq_true_eq, decide_eq_false_iff_not, ne_eq, Bool.not_eq_true, Bool.not_eq_false, Bool.not_eq_eq_eq_not, Bool.not_true, Bool.not_false, Decidable.not_not, beq_iff_eq, bne_iff_ne, beq_eq_false_iff_ne, Int.not_le, Int.not_lt, reduceCtorEq, not_true_eq_false, not_false_eq_true, Bool.true_eq_false, Bool.false_eq_true, Bool.and_eq_true, Bool.or_eq_false_iff, bne_eq_false_iff_eq, Int.natCast_inj, Int.ofNat_lt] at hg) <;> (try (exfalso; omega))))
    | (simp only [andThenV_normal, andThenV_ret, andThenV_exit, outOfV_normal, outOfV_ret, outOfV_exit, ↓reduceIte, Nat.reduceEqDiff])
    | ((first | refine atEndV_r ?_ | refine atEndV_n ?_); simp (disch := omega) only [go_sem, ↓reduceIte, Nat.reduceEqDiff, Nat.reduceAdd, Nat.reduceMul, Nat.reduceLeDiff, Nat.reduceLT, Nat.reduceSub, Int.reduceToNat, Int.reduceLE, Int.reduceLT, reduceCtorEq, Log.enc]; try (first | rw [deep_bool_eq] | rw [deep_int_eq] | rw [deep_str_eq])))
  all_goals try (congr 1; symm; rw [decide_eq_false_iff_not]; rintro rfl; simp_all; done)
  refine VC_loop (α := Nat × List Base × List Base) (fun y => y.2.1.length) (fun y => [(2, .ptr 0 0), (3, .ptr 1 0), (5, .int .i64 y.1)]) (fun _ => [some ⟨[.int .i64 a.who, .int .i64 a.seq, .sl 2 (a.bases.map Base.enc), .sl 7 (a.list.map TOp.enc)], 0⟩, some ⟨[.int .i64 b.who, .int .i64 b.seq, .sl 2 (b.bases.map Base.enc), .sl 7 (b.list.map TOp.enc)], 0⟩])
    (fun y => (a.bases).drop y.1 = y.2.1 ∧ (b.bases).drop y.1 = y.2.2 ∧ y.1 + y.2.1.length = (a.bases).length ∧ decide (a = b) = decide (y.2.1 = y.2.2)) ?_ (0, a.bases, b.bases) ?_ ?_
  · rintro ⟨i, ra, rb⟩ ⟨h1, h2, h3, h4⟩
    simp only at h1 h2 h3 h4 ⊢
    cases ra with
    | nil =>
      simp only [List.length_nil] at h3
      have hb : rb = [] := by
        rw [← h2]; exact List.drop_eq_nil_of_le (by omega)
      subst hb
      repeat' (first
    | refine VC_seq ?_ | refine VC_region ?_ | refine VC_block ?_ | refine VC_exit ?_ | refine VC_ret ?_ | refine VC_skip ?_ | refine VO_nil ?_ | refine VC_draw (by kernel_rfl) ?_ | (refine VD_nil ?_; refine ⟨by kernel_rfl, ?_⟩)
    | ((first | refine VO_stepP rfl rfl ?_ | refine VO_goC rfl rfl ?_ | refine VO_guardP rfl rfl rfl ?_ | refine VO_goG rfl rfl rfl ?_ | refine VC_if ?_ | refine VD_stepP rfl rfl ?_ | refine VD_goC rfl rfl ?_ | refine VD_guardP rfl rfl rfl ?_ | refine VD_goG rfl rfl rfl ?_); intro K' hK'; simp (disch := omega) only [go_sem, ↓reduceIte, Nat.reduceEqDiff, Nat.reduceAdd, Nat.reduceMul, Nat.reduceLeDiff, Nat.reduceLT, Nat.reduceSub, Int.reduceToNat, Int.reduceLE, Int.reduceLT, reduceCtorEq, FL_cons]; first
     | ((first | refine hK' _ _ ?_ | refine hK' _ ?_ | refine hK' _ _ _ _ _ _ _ ?_); clear hK' K')
     | (refine ⟨fun hg => ?_, fun hg => ?_⟩ <;> (first | refine hK' _ _ ?_ | refine hK' _ ?_ | refine hK' _ _ _ _ _ _ _ ?_) <;> clear hK' K' <;> (try rw [hg]) <;> (try simp only [decide_eq_true_eq, decide_eq_false_iff_not, ne_eq, Bool.not_eq_true, Bool.not_eq_false, Bool.not_eq_eq_eq_not, Bool.not_true, Bool.not_false, Decidable.not_not, beq_iff_eq, bne_iff_ne, beq_eq_false_iff_ne, Int.not_le, Int.not_lt, reduceCtorEq, not_true_eq_false, not_false_eq_true, Bool.true_eq_false, Bool.false_eq_true, Bool.and_eq_true, Bool.or_eq_false_iff, bne_eq_false_iff_eq, Int.natCast_inj, Int.ofNat_lt] at hg) <;> (try (exfalso; omega))))
    | (simp only [andThenV_normal, andThenV_ret, andThenV_exit, outOfV_normal, outOfV_ret, outOfV_exit, ↓reduceIte, Nat.reduceEqDiff])
    | ((first | refine atEndV_r ?_ | refine atEndV_n ?_); simp (disch := omega) only [go_sem, ↓reduceIte, Nat.reduceEqDiff, Nat.reduceAdd, Nat.reduceMul, Nat.reduceLeDiff, Nat.reduceLT, Nat.reduceSub, Int.reduceToNat, Int.reduceLE, Int.reduceLT, reduceCtorEq, FL_cons]; try (first | rw [deep_bool_eq] | rw [deep_int_eq] | rw [deep_str_eq])))
      rw [h4]; simp
    | cons x ra =>
      simp only [List.length_cons] at h3
      obtain ⟨k1, k2, k3⟩ := drop_cons h1
      obtain ⟨y, rb, rfl⟩ : ∃ y r, rb = y :: r := by
        cases rb with
        | nil => have := drop_nil h2; omega
        | cons y r => exact ⟨y, r, rfl⟩
      obtain ⟨m1, m2, m3⟩ := drop_cons h2
      skip
      repeat' (first
    | refine VC_seq ?_ | refine VC_region ?_ | refine VC_block ?_ | refine VC_exit ?_ | refine VC_ret ?_ | refine VC_skip ?_ | refine VO_nil ?_ | refine VC_draw (by kernel_rfl) ?_ | (refine VD_nil ?_; refine ⟨by kernel_rfl, ?_⟩)
    | ((first | refine VO_stepP rfl rfl ?_ | refine VO_goC rfl rfl ?_ | refine VO_guardP rfl rfl rfl ?_ | refine VO_goG rfl rfl rfl ?_ | refine VC_if ?_ | refine VD_stepP rfl rfl ?_ | refine VD_goC rfl rfl ?_ | refine VD_guardP rfl rfl rfl ?_ | refine VD_goG rfl rfl rfl ?_); intro K' hK'; simp (disch := omega) only [go_sem, ↓reduceIte, Nat.reduceEqDiff, Nat.reduceAdd, Nat.reduceMul, Nat.reduceLeDiff, Nat.reduceLT, Nat.reduceSub, Int.reduceToNat, Int.reduceLE, Int.reduceLT, reduceCtorEq, FL_cons, k1, m1, Base.enc]; first
     | ((first | refine hK' _ _ ?_ | refine hK' _ ?_ | refine hK' _ _ _ _ _ _ _ ?_); clear hK' K')
     | (refine ⟨fun hg => ?_, fun hg => ?_⟩ <;> (first | refine hK' _ _ ?_ | refine hK' _ ?_ | refine hK' _ _ _ _ _ _ _ ?_) <;> clear hK' K' <;> (try rw [hg]) <;> (try simp only [decide_eq_true_eq, decide_eq_false_iff_not, ne_eq, Bool.not_eq_true, Bool.not_eq_false, Bool.not_eq_eq_eq_not, Bool.not_true, Bool.not_false, Decidable.not_not, beq_iff_eq, bne_iff_ne, beq_eq_false_iff_ne, Int.not_le, Int.not_lt, reduceCtorEq, not_true_eq_false, not_false_eq_true, Bool.true_eq_false, Bool.false_eq_true, Bool.and_eq_true, Bool.or_eq_false_iff, bne_eq_false_iff_eq, Int.natCast_inj, Int.ofNat_lt] at hg) <;> (try (exfalso; omega))))
    | (simp only [andThenV_normal, andThenV_ret, andThenV_exit, outOfV_normal, outOfV_ret, outOfV_exit, ↓reduceIte, Nat.reduceEqDiff])
    | ((first | refine atEndV_r ?_ | refine atEndV_n ?_); simp (disch := omega) only [go_sem, ↓reduceIte, Nat.reduceEqDiff, Nat.reduceAdd, Nat.reduceMul, Nat.reduceLeDiff, Nat.reduceLT, Nat.reduceSub, Int.reduceToNat, Int.reduceLE, Int.reduceLT, reduceCtorEq, FL_cons, k1, m1, Base.enc]; try (first | rw [deep_bool_eq] | rw [deep_int_eq] | rw [deep_str_eq])))
      · rw [h4]; congr 1; symm
        simp only [decide_eq_false_iff_not, List.cons.injEq, not_and]
        rintro rfl; simp at hg
      · refine ⟨(i + 1, ra, rb), by simp, ⟨k2, m2, by simp; omega, ?_⟩, ?_⟩
        · rw [h4]
          have : x = y := by cases x; cases y; simp_all
          subst this; simp
        · (refine ⟨[0, 1], ?_, ?_, by decide, by simp⟩; (· simp (disch := omega) only [AllRN, go_sem, ↓reduceIte, Nat.reduceEqDiff, Nat.reduceAdd, Nat.reduceMul, Nat.reduceLeDiff, Nat.reduceLT, Nat.reduceSub, Int.reduceToNat, Int.reduceLE, Int.reduceLT, reduceCtorEq, Int.natCast_add, Int.cast_ofNat_Int]; (repeat' (first | exact trivial | (refine ⟨?_, ?_⟩) | exact RN.im rfl | exact RN.any _ _ | exact RN.ptr _ rfl | exact RN.ref _ _ rfl | exact RN.nil _ | (refine RN.int ?_; omega)))); (· (try simp (disch := omega) only [RNH, RNL, Int.natCast_add, Int.cast_ofNat_Int, go_sem, ↓reduceIte, Nat.reduceEqDiff, Nat.reduceAdd, Nat.reduceMul, Nat.reduceLeDiff, Nat.reduceLT, Nat.reduceSub, Int.reduceToNat, Int.reduceLE, Int.reduceLT, reduceCtorEq]); (repeat' (first | exact trivial | (refine ⟨_, rfl, rfl, ?_⟩) | (refine ⟨?_, ?_⟩) | exact RNL.im rfl | exact RN.im rfl | exact RN.any _ _ | exact RN.ptr _ rfl | exact RN.ref _ _ rfl | exact RN.nil _ | (refine RN.int ?_; omega)))))
  · refine ⟨rfl, rfl, by simp, ?_⟩
    cases a; cases b; simp_all
  · (refine ⟨[0, 1], ?_, ?_, by decide, by simp⟩; (· simp (disch := omega) only [AllRN, go_sem, ↓reduceIte, Nat.reduceEqDiff, Nat.reduceAdd, Nat.reduceMul, Nat.reduceLeDiff, Nat.reduceLT, Nat.reduceSub, Int.reduceToNat, Int.reduceLE, Int.reduceLT, reduceCtorEq, Int.natCast_add, Int.cast_ofNat_Int]; (repeat' (first | exact trivial | (refine ⟨?_, ?_⟩) | exact RN.im rfl | exact RN.any _ _ | exact RN.ptr _ rfl | exact RN.ref _ _ rfl | exact RN.nil _ | (refine RN.int ?_; omega)))); (· (try simp (disch := omega) only [RNH, RNL, Int.natCast_add, Int.cast_ofNat_Int, go_sem, ↓reduceIte, Nat.reduceEqDiff, Nat.reduceAdd, Nat.reduceMul, Nat.reduceLeDiff, Nat.reduceLT, Nat.reduceSub, Int.reduceToNat, Int.reduceLE, Int.reduceLT, reduceCtorEq]); (repeat' (first | exact trivial | (refine ⟨_, rfl, rfl, ?_⟩) | (refine ⟨?_, ?_⟩) | exact RNL.im rfl | exact RN.im rfl | exact RN.any _ _ | exact RN.ptr _ rfl | exact RN.ref _ _ rfl | exact RN.nil _ | (refine RN.int ?_; omega)))))

theorem pu_impl_MsgSame (a b : Msg) (h : a.tot ≤ 1073741824) : Pu Try.prog X 37 [.agg a.enc, .agg b.enc] (.bool (decide (a = b))) := by
  refine Pu.body Try.func37 rfl (rs := [.tmp 4]) rfl okf_37 (by rw [Try.ntmps37]; simp) ?_
  have h1 : a.log.tot ≤ 1073741824 := by unfold Msg.tot at h; omega
  have h2 : a.tree.tot ≤ 1073741824 := by unfold Msg.tot at h; omega
  repeat' (first
    | refine VC_seq ?_ | refine VC_region ?_ | refine VC_block ?_ | refine VC_exit ?_ | refine VC_ret ?_ | refine VC_skip ?_ | refine VO_nil ?_ | refine VC_draw (by kernel_rfl) ?_ | (refine VD_nil ?_; refine ⟨by kernel_rfl, ?_⟩)
    | ((first | refine VO_stepP rfl rfl ?_ | refine VO_goC rfl rfl ?_ | refine VO_guardP rfl rfl rfl ?_ | refine VO_goG rfl rfl rfl ?_ | refine VC_if ?_ | refine VD_stepP rfl rfl ?_ | refine VD_goC rfl rfl ?_ | refine VD_guardP rfl rfl rfl ?_ | refine VD_goG rfl rfl rfl ?_); intro K' hK'; simp (disch := omega) only [go_sem, ↓reduceIte, Nat.reduceEqDiff, Nat.reduceAdd, Nat.reduceMul, Nat.reduceLeDiff, Nat.reduceLT, Nat.reduceSub, Int.reduceToNat, Int.reduceLE, Int.reduceLT, reduceCtorEq, Msg.enc]; first
     | ((first | refine hK' _ _ ?_ | refine hK' _ ?_ | refine hK' _ _ _ _ _ _ _ ?_); clear hK' K')
     | ((first | refine Pu.g (pu_impl_LogSame a.log b.log h1) rfl rfl ?_ | refine Pu.g (pu_impl_TreeSame a.tree b.tree h2) rfl rfl ?_); (first | refine hK' _ _ ?_ | refine hK' _ ?_ | refine hK' _ _ _ _ _ _ _ ?_); clear hK' K')
     | (refine ⟨fun hg => ?_, fun hg => ?_⟩ <;> (first | (first | refine hK' _ _ ?_ | refine hK' _ ?_ | refine hK' _ _ _ _ _ _ _ ?_) | ((first | refine Pu.g (pu_impl_LogSame a.log b.log h1) rfl rfl ?_ | refine Pu.g (pu_impl_TreeSame a.tree b.tree h2) rfl rfl ?_); (first | refine hK' _ _ ?_ | refine hK' _ ?_ | refine hK' _ _ _ _ _ _ _ ?_))) <;> clear hK' K' <;> (try rw [hg]) <;> (try simp only [decide_eq_true_eq, decide_eq_false_iff_not, ne_eq, Bool.not_eq_true, Bool.not_eq_false, Bool.not_eq_eq_eq_not, Bool.not_true, Bool.not_false, Decidable.not_not, beq_iff_eq, bne_iff_ne, beq_eq_false_iff_ne, Int.not_le, Int.not_lt, reduceCtorEq, not_true_eq_false, not_false_eq_true, Bool.true_eq_false, Bool.false_eq_true, Bool.and_eq_true, Bool.or_eq_false_iff, bne_eq_false_iff_eq, Int.natCast_inj, Int.ofNat_lt] at hg) <;> (try (exfalso; omega))))
    | (simp only [andThenV_normal, andThenV_ret, andThenV_exit, outOfV_normal, outOfV_ret, outOfV_exit, ↓reduceIte, Nat.reduceEqDiff])
    | ((first | refine atEndV_r ?_ | refine atEndV_n ?_); simp (disch := omega) only [go_sem, ↓reduceIte, Nat.reduceEqDiff, Nat.reduceAdd, Nat.reduceMul, Nat.reduceLeDiff, Nat.reduceLT, Nat.reduceSub, Int.reduceToNat, Int.reduceLE, Int.reduceLT, reduceCtorEq, Msg.enc]; try (first | rw [deep_bool_eq] | rw [deep_int_eq] | rw [deep_str_eq])))
  all_goals (cases a; cases b; simp_all)

theorem pu_spec_MsgSame (a b : Msg) (h : a.tot ≤ 1073741824) : Pu Try.prog X 35 [.agg a.enc, .agg b.enc] (.bool (decide (a = b))) := by
  refine Pu.body Try.func35 rfl (rs := [.tmp 4]) rfl okf_35 (by rw [Try.ntmps35]; simp) ?_
  have h1 : a.log.tot ≤ 1073741824 := by unfold Msg.tot at h; omega
  have h2 : a.tree.tot ≤ 1073741824 := by unfold Msg.tot at h; omega
  repeat' (first
    | refine VC_seq ?_ | refine VC_region ?_ | refine VC_block ?_ | refine VC_exit ?_ | refine VC_ret ?_ | refine VC_skip ?_ | refine VO_nil ?_ | refine VC_draw (by kernel_rfl) ?_ | (refine VD_nil ?_; refine ⟨by kernel_rfl, ?_⟩)
    | ((first | refine VO_stepP rfl rfl ?_ | refine VO_goC rfl rfl ?_ | refine VO_guardP rfl rfl rfl ?_ | refine VO_goG rfl rfl rfl ?_ | refine VC_if ?_ | refine VD_stepP rfl rfl ?_ | refine VD_goC rfl rfl ?_ | refine VD_guardP rfl rfl rfl ?_ | refine VD_goG rfl rfl rfl ?_); intro K' hK'; simp (disch := omega) only [go_sem, ↓reduceIte, Nat.reduceEqDiff, Nat.reduceAdd, Nat.reduceMul, Nat.reduceLeDiff, Nat.reduceLT, Nat.reduceSub, Int.reduceToNat, Int.reduceLE, Int.reduceLT, reduceCtorEq, Msg.enc]; first
     | ((first | refine hK' _ _ ?_ | refine hK' _ ?_ | refine hK' _ _ _ _ _ _ _ ?_); clear hK' K')
     | ((first | refine Pu.g (pu_spec_LogSame a.log b.log h1) rfl rfl ?_ | refine Pu.g (pu_spec_TreeSame a.tree b.tree h2) rfl rfl ?_); (first | refine hK' _ _ ?_ | refine hK' _ ?_ | refine hK' _ _ _ _ _ _ _ ?_); clear hK' K')
     | (refine ⟨fun hg => ?_, fun hg => ?_⟩ <;> (first | (first | refine hK' _ _ ?_ | refine hK' _ ?_ | refine hK' _ _ _ _ _ _ _ ?_) | ((first | refine Pu.g (pu_spec_LogSame a.log b.log h1) rfl rfl ?_ | refine Pu.g (pu_spec_TreeSame a.tree b.tree h2) rfl rfl ?_); (first | refine hK' _ _ ?_ | refine hK' _ ?_ | refine hK' _ _ _ _ _ _ _ ?_))) <;> clear hK' K' <;> (try rw [hg]) <;> (try simp only [decide_eq_true_eq, decide_eq_false_iff_not, ne_eq, Bool.not_eq_true, Bool.not_eq_false, Bool.not_eq_eq_eq_not, Bool.not_true, Bool.not_false, Decidable.not_not, beq_iff_eq, bne_iff_ne, beq_eq_false_iff_ne, Int.not_le, Int.not_lt, reduceCtorEq, not_true_eq_false, not_false_eq_true, Bool.true_eq_false, Bool.false_eq_true, Bool.and_eq_true, Bool.or_eq_false_iff, bne_eq_false_iff_eq, Int.natCast_inj, Int.ofNat_lt] at hg) <;> (try (exfalso; omega))))
    | (simp only [andThenV_normal, andThenV_ret, andThenV_exit, outOfV_normal, outOfV_ret, outOfV_exit, ↓reduceIte, Nat.reduceEqDiff])
    | ((first | refine atEndV_r ?_ | refine atEndV_n ?_); simp (disch := omega) only [go_sem, ↓reduceIte, Nat.reduceEqDiff, Nat.reduceAdd, Nat.reduceMul, Nat.reduceLeDiff, Nat.reduceLT, Nat.reduceSub, Int.reduceToNat, Int.reduceLE, Int.reduceLT, reduceCtorEq, Msg.enc]; try (first | rw [deep_bool_eq] | rw [deep_int_eq] | rw [deep_str_eq])))
  all_goals (cases a; cases b; simp_all)

end Go.Proofs.Ytmbikamebhoelaa.Ai.Av
