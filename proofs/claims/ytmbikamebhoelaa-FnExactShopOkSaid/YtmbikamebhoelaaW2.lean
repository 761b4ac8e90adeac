/- Walks: trees, logs and servers held against each other. Printed by gen_w2.py. No condition. -/
import Derived.Test.YtmbikamebhoelaaW1
set_option linter.unusedVariables false
set_option linter.unusedSimpArgs false
set_option maxRecDepth 8000
namespace Go.Proofs.Ytmbikamebhoelaa.Ai.Av
open Go
variable {X : FuncId → List Value → Value → Prop}
def versAll : List TObj → List TObj → Bool
  | a :: s, b :: r => decide (a.ver = b.ver) && versAll s r
  | [], [] => true
  | _, _ => false
theorem likeAll_len : ∀ {a b : List TObj}, likeAll a b = true → a.length = b.length
  | [], [], _ => rfl
  | x :: a, y :: b, h => by simp only [likeAll, Bool.and_eq_true] at h; simp [likeAll_len h.2]
  | [], _ :: _, h => by simp [likeAll] at h
  | _ :: _, [], h => by simp [likeAll] at h
theorem likeAll_ne {a b : List TObj} (h : ¬ a.length = b.length) : likeAll a b = false := by
  cases hl : likeAll a b with
  | false => rfl
  | true => exact absurd (likeAll_len hl) h
theorem same_all : ∀ (a b : List TObj), decide (a = b) = (likeAll a b && versAll a b)
  | [], [] => rfl
  | [], _ :: _ => rfl
  | _ :: _, [] => rfl
  | x :: a, y :: b => by
    have := same_all a b
    simp only [likeAll, versAll]
    rw [Bool.eq_iff_iff] at this ⊢
    simp only [decide_eq_true_eq, Bool.and_eq_true, objLike, List.cons.injEq] at this ⊢
    rw [this]
    constructor
    · rintro ⟨rfl, h1, h2⟩; simp [h1, h2]
    · rintro ⟨⟨⟨⟨h1, h2⟩, h3⟩, h4⟩, h5, h6⟩; exact ⟨by cases x; cases y; simp_all, h4, h6⟩
theorem kids_le (x : TObj) : x.kids.length ≤ x.tot := by
  have := le_lsum Ent.tot x.kids
  unfold TObj.tot; omega
theorem treeSame_all (a b : Tree) : decide (a = b) = (treeLike a b && versAll a.objs b.objs) := by
  rw [treeLike, ← same_all]
  cases a; cases b; simp

theorem pu_l1SameKids (a b : List Ent) (hn : a.length ≤ 1073741824) : Pu Try.prog X 144 [.sl 2 (a.map Ent.enc), .sl 2 (b.map Ent.enc)] (.bool (decide (a = b))) := by
  refine Pu.body Try.func144 rfl (rs := [.tmp 4]) rfl okf_144 (by rw [Try.ntmps144]; simp) ?_
  repeat' (first
    | refine VC_seq ?_ | refine VC_region ?_ | refine VC_block ?_ | refine VC_exit ?_ | refine VC_ret ?_ | refine VC_skip ?_ | refine VO_nil ?_ | refine VC_draw (by kernel_rfl) ?_ | (refine VD_nil ?_; refine ⟨by kernel_rfl, ?_⟩)
    | ((first | refine VO_stepP rfl rfl ?_ | refine VO_goC rfl rfl ?_ | refine VO_guardP rfl rfl rfl ?_ | refine VO_goG rfl rfl rfl ?_ | refine VC_if ?_ | refine VD_stepP rfl rfl ?_ | refine VD_goC rfl rfl ?_ | refine VD_guardP rfl rfl rfl ?_ | refine VD_goG rfl rfl rfl ?_); intro K' hK'; simp (disch := omega) only [go_sem, ↓reduceIte, Nat.reduceEqDiff, Nat.reduceAdd, Nat.reduceMul, Nat.reduceLeDiff, Nat.reduceLT, Nat.reduceSub, Int.reduceToNat, Int.reduceLE, Int.reduceLT, reduceCtorEq]; first
     | ((first | refine hK' _ _ ?_ | refine hK' _ ?_ | refine hK' _ _ _ _ _ _ _ ?_); clear hK' K')
     | (refine ⟨fun hg => ?_, fun hg => ?_⟩ <;> (first | refine hK' _ _ ?_ | refine hK' _ ?_ | refine hK' _ _ _ _ _ _ _ ?_) <;> clear hK' K' <;> (try rw [hg]) <;> (try simp only [decide_eq_true_eq, decide_eq_false_iff_not, ne_eq, Bool.not_eq_true, Bool.not_eq_false, Bool.not_eq_eq_eq_not, Bool.not_true, Bool.not_false, Decidable.not_not, beq_iff_eq, bne_iff_ne, beq_eq_false_iff_ne, Int.not_le, Int.not_lt, reduceCtorEq, not_true_eq_false, not_false_eq_true, Bool.true_eq_false, Bool.false_eq_true, Bool.and_eq_true, Bool.or_eq_false_iff, bne_eq_false_iff_eq, Int.natCast_inj, Int.ofNat_lt] at hg) <;> (try (exfalso; omega))))
    | (simp only [andThenV_normal, andThenV_ret, andThenV_exit, outOfV_normal, outOfV_ret, outOfV_exit, ↓reduceIte, Nat.reduceEqDiff])
    | ((first | refine atEndV_r ?_ | refine atEndV_n ?_); simp (disch := omega) only [go_sem, ↓reduceIte, Nat.reduceEqDiff, Nat.reduceAdd, Nat.reduceMul, Nat.reduceLeDiff, Nat.reduceLT, Nat.reduceSub, Int.reduceToNat, Int.reduceLE, Int.reduceLT, reduceCtorEq]; try (first | rw [deep_bool_eq] | rw [deep_int_eq] | rw [deep_str_eq])))
  · simp; rintro rfl; exact hg rfl
  refine VC_loop (α := Nat × List Ent × List Ent) (fun y => y.2.1.length) (fun y => [(0, .sl 2 (a.map Ent.enc)), (1, .sl 2 (b.map Ent.enc)), (5, .int .i64 y.1)]) (fun _ => [])
    (fun y => (a).drop y.1 = y.2.1 ∧ (b).drop y.1 = y.2.2 ∧ y.1 + y.2.1.length = (a).length ∧ decide (a = b) = decide (y.2.1 = y.2.2)) ?_ (0, a, b) ?_ ?_
  · rintro ⟨i, ra, rb⟩ ⟨h1, h2, h3, h4⟩
    simp only at h1 h2 h3 h4 ⊢
    cases ra with
    | nil =>
      simp only [List.length_nil] at h3
      have hb : rb = [] := by
        rw [← h2]; exact List.drop_eq_nil_of_le (by omega)
      subst hb
      repeat' (first
    | refine VC_seq ?_ | refine VC_region ?_ | refine VC_block ?_ | refine VC_exit ?_ | refine VC_ret ?_ | refine VC_skip ?_ | refine VO_nil ?_ | refine VC_draw (by kernel_rfl) ?_ | (refine VD_nil ?_; refine ⟨by kernel_rfl, ?_⟩)
    | ((first | refine VO_stepP rfl rfl ?_ | refine VO_goC rfl rfl ?_ | refine VO_guardP rfl rfl rfl ?_ | refine VO_goG rfl rfl rfl ?_ | refine VC_if ?_ | refine VD_stepP rfl rfl ?_ | refine VD_goC rfl rfl ?_ | refine VD_guardP rfl rfl rfl ?_ | refine VD_goG rfl rfl rfl ?_); intro K' hK'; simp (disch := omega) only [go_sem, ↓reduceIte, Nat.reduceEqDiff, Nat.reduceAdd, Nat.reduceMul, Nat.reduceLeDiff, Nat.reduceLT, Nat.reduceSub, Int.reduceToNat, Int.reduceLE, Int.reduceLT, reduceCtorEq, FL_cons]; first
     | ((first | refine hK' _ _ ?_ | refine hK' _ ?_ | refine hK' _ _ _ _ _ _ _ ?_); clear hK' K')
     | (refine ⟨fun hg => ?_, fun hg => ?_⟩ <;> (first | refine hK' _ _ ?_ | refine hK' _ ?_ | refine hK' _ _ _ _ _ _ _ ?_) <;> clear hK' K' <;> (try rw [hg]) <;> (try simp only [decide_eq_true_eq, decide_eq_false_iff_not, ne_eq, Bool.not_eq_true, Bool.not_eq_false, Bool.not_eq_eq_eq_not, Bool.not_true, Bool.not_false, Decidable.not_not, beq_iff_eq, bne_iff_ne, beq_eq_false_iff_ne, Int.not_le, Int.not_lt, reduceCtorEq, not_true_eq_false, not_false_eq_true, Bool.true_eq_false, Bool.false_eq_true, Bool.and_eq_true, Bool.or_eq_false_iff, bne_eq_false_iff_eq, Int.natCast_inj, Int.ofNat_lt] at hg) <;> (try (exfalso; omega))))
    | (simp only [andThenV_normal, andThenV_ret, andThenV_exit, outOfV_normal, outOfV_ret, outOfV_exit, ↓reduceIte, Nat.reduceEqDiff])
    | ((first | refine atEndV_r ?_ | refine atEndV_n ?_); simp (disch := omega) only [go_sem, ↓reduceIte, Nat.reduceEqDiff, Nat.reduceAdd, Nat.reduceMul, Nat.reduceLeDiff, Nat.reduceLT, Nat.reduceSub, Int.reduceToNat, Int.reduceLE, Int.reduceLT, reduceCtorEq, FL_cons]; try (first | rw [deep_bool_eq] | rw [deep_int_eq] | rw [deep_str_eq])))
      rw [h4]; simp
    | cons x ra =>
      simp only [List.length_cons] at h3
      obtain ⟨k1, k2, k3⟩ := drop_cons h1
      obtain ⟨y, rb, rfl⟩ : ∃ y r, rb = y :: r := by
        cases rb with
        | nil => have := drop_nil h2; omega
        | cons y r => exact ⟨y, r, rfl⟩
      obtain ⟨m1, m2, m3⟩ := drop_cons h2
      skip
      repeat' (first
    | refine VC_seq ?_ | refine VC_region ?_ | refine VC_block ?_ | refine VC_exit ?_ | refine VC_ret ?_ | refine VC_skip ?_ | refine VO_nil ?_ | refine VC_draw (by kernel_rfl) ?_ | (refine VD_nil ?_; refine ⟨by kernel_rfl, ?_⟩)
    | ((first | refine VO_stepP rfl rfl ?_ | refine VO_goC rfl rfl ?_ | refine VO_guardP rfl rfl rfl ?_ | refine VO_goG rfl rfl rfl ?_ | refine VC_if ?_ | refine VD_stepP rfl rfl ?_ | refine VD_goC rfl rfl ?_ | refine VD_guardP rfl rfl rfl ?_ | refine VD_goG rfl rfl rfl ?_); intro K' hK'; simp (disch := omega) only [go_sem, ↓reduceIte, Nat.reduceEqDiff, Nat.reduceAdd, Nat.reduceMul, Nat.reduceLeDiff, Nat.reduceLT, Nat.reduceSub, Int.reduceToNat, Int.reduceLE, Int.reduceLT, reduceCtorEq, FL_cons, k1, m1, Ent.enc]; first
     | ((first | refine hK' _ _ ?_ | refine hK' _ ?_ | refine hK' _ _ _ _ _ _ _ ?_); clear hK' K')
     | (refine ⟨fun hg => ?_, fun hg => ?_⟩ <;> (first | refine hK' _ _ ?_ | refine hK' _ ?_ | refine hK' _ _ _ _ _ _ _ ?_) <;> clear hK' K' <;> (try rw [hg]) <;> (try simp only [decide_eq_true_eq, decide_eq_false_iff_not, ne_eq, Bool.not_eq_true, Bool.not_eq_false, Bool.not_eq_eq_eq_not, Bool.not_true, Bool.not_false, Decidable.not_not, beq_iff_eq, bne_iff_ne, beq_eq_false_iff_ne, Int.not_le, Int.not_lt, reduceCtorEq, not_true_eq_false, not_false_eq_true, Bool.true_eq_false, Bool.false_eq_true, Bool.and_eq_true, Bool.or_eq_false_iff, bne_eq_false_iff_eq, Int.natCast_inj, Int.ofNat_lt] at hg) <;> (try (exfalso; omega))))
    | (simp only [andThenV_normal, andThenV_ret, andThenV_exit, outOfV_normal, outOfV_ret, outOfV_exit, ↓reduceIte, Nat.reduceEqDiff])
    | ((first | refine atEndV_r ?_ | refine atEndV_n ?_); simp (disch := omega) only [go_sem, ↓reduceIte, Nat.reduceEqDiff, Nat.reduceAdd, Nat.reduceMul, Nat.reduceLeDiff, Nat.reduceLT, Nat.reduceSub, Int.reduceToNat, Int.reduceLE, Int.reduceLT, reduceCtorEq, FL_cons, k1, m1, Ent.enc]; try (first | rw [deep_bool_eq] | rw [deep_int_eq] | rw [deep_str_eq])))
      · rw [h4]; congr 1; symm
        simp only [decide_eq_false_iff_not, List.cons.injEq, not_and]
        rintro rfl; simp at hg
      · refine ⟨(i + 1, ra, rb), by simp, ⟨k2, m2, by simp; omega, ?_⟩, ?_⟩
        · rw [h4]
          have : x = y := by cases x; cases y; simp_all
          subst this; simp
        · (refine ⟨[], ?_, ?_, by decide, by simp⟩; (· simp (disch := omega) only [AllRN, go_sem, ↓reduceIte, Nat.reduceEqDiff, Nat.reduceAdd, Nat.reduceMul, Nat.reduceLeDiff, Nat.reduceLT, Nat.reduceSub, Int.reduceToNat, Int.reduceLE, Int.reduceLT, reduceCtorEq, Int.natCast_add, Int.cast_ofNat_Int]; (repeat' (first | exact trivial | (refine ⟨?_, ?_⟩) | exact RN.im rfl | exact RN.any _ _ | exact RN.ptr _ rfl | exact RN.ref _ _ rfl | exact RN.nil _ | (refine RN.int ?_; omega)))); (· (try simp (disch := omega) only [RNH, RNL, Int.natCast_add, Int.cast_ofNat_Int, go_sem, ↓reduceIte, Nat.reduceEqDiff, Nat.reduceAdd, Nat.reduceMul, Nat.reduceLeDiff, Nat.reduceLT, Nat.reduceSub, Int.reduceToNat, Int.reduceLE, Int.reduceLT, reduceCtorEq]); (repeat' (first | exact trivial | (refine ⟨_, rfl, rfl, ?_⟩) | (refine ⟨?_, ?_⟩) | exact RNL.im rfl | exact RN.im rfl | exact RN.any _ _ | exact RN.ptr _ rfl | exact RN.ref _ _ rfl | exact RN.nil _ | (refine RN.int ?_; omega)))))
  · simp
  · (refine ⟨[], ?_, ?_, by decide, by simp⟩; (· simp (disch := omega) only [AllRN, go_sem, ↓reduceIte, Nat.reduceEqDiff, Nat.reduceAdd, Nat.reduceMul, Nat.reduceLeDiff, Nat.reduceLT, Nat.reduceSub, Int.reduceToNat, Int.reduceLE, Int.reduceLT, reduceCtorEq, Int.natCast_add, Int.cast_ofNat_Int]; (repeat' (first | exact trivial | (refine ⟨?_, ?_⟩) | exact RN.im rfl | exact RN.any _ _ | exact RN.ptr _ rfl | exact RN.ref _ _ rfl | exact RN.nil _ | (refine RN.int ?_; omega)))); (· (try simp (disch := omega) only [RNH, RNL, Int.natCast_add, Int.cast_ofNat_Int, go_sem, ↓reduceIte, Nat.reduceEqDiff, Nat.reduceAdd, Nat.reduceMul, Nat.reduceLeDiff, Nat.reduceLT, Nat.reduceSub, Int.reduceToNat, Int.reduceLE, Int.reduceLT, reduceCtorEq]); (repeat' (first | exact trivial | (refine ⟨_, rfl, rfl, ?_⟩) | (refine ⟨?_, ?_⟩) | exact RNL.im rfl | exact RN.im rfl | exact RN.any _ _ | exact RN.ptr _ rfl | exact RN.ref _ _ rfl | exact RN.nil _ | (refine RN.int ?_; omega)))))

theorem pu_spec_OpSame (a b : List TOp) (hn : a.length ≤ 1073741824) : Pu Try.prog X 93 [.sl 7 (a.map TOp.enc), .sl 7 (b.map TOp.enc)] (.bool (decide (a = b))) := by
  refine Pu.body Try.func93 rfl (rs := [.tmp 4]) rfl okf_93 (by rw [Try.ntmps93]; simp) ?_
  repeat' (first
    | refine VC_seq ?_ | refine VC_region ?_ | refine VC_block ?_ | refine VC_exit ?_ | refine VC_ret ?_ | refine VC_skip ?_ | refine VO_nil ?_ | refine VC_draw (by kernel_rfl) ?_ | (refine VD_nil ?_; refine ⟨by kernel_rfl, ?_⟩)
    | ((first | refine VO_stepP rfl rfl ?_ | refine VO_goC rfl rfl ?_ | refine VO_guardP rfl rfl rfl ?_ | refine VO_goG rfl rfl rfl ?_ | refine VC_if ?_ | refine VD_stepP rfl rfl ?_ | refine VD_goC rfl rfl ?_ | refine VD_guardP rfl rfl rfl ?_ | refine VD_goG rfl rfl rfl ?_); intro K' hK'; simp (disch := omega) only [go_sem, ↓reduceIte, Nat.reduceEqDiff, Nat.reduceAdd, Nat.reduceMul, Nat.reduceLeDiff, Nat.reduceLT, Nat.reduceSub, Int.reduceToNat, Int.reduceLE, Int.reduceLT, reduceCtorEq]; first
     | ((first | refine hK' _ _ ?_ | refine hK' _ ?_ | refine hK' _ _ _ _ _ _ _ ?_); clear hK' K')
     | (refine ⟨fun hg => ?_, fun hg => ?_⟩ <;> (first | refine hK' _ _ ?_ | refine hK' _ ?_ | refine hK' _ _ _ _ _ _ _ ?_) <;> clear hK' K' <;> (try rw [hg]) <;> (try simp only [decide_eq_true_eq, decide_eq_false_iff_not, ne_eq, Bool.not_eq_true, Bool.not_eq_false, Bool.not_eq_eq_eq_not, Bool.not_true, Bool.not_false, Decidable.not_not, beq_iff_eq, bne_iff_ne, beq_eq_false_iff_ne, Int.not_le, Int.not_lt, reduceCtorEq, not_true_eq_false, not_false_eq_true, Bool.true_eq_false, Bool.false_eq_true, Bool.and_eq_true, Bool.or_eq_false_iff, bne_eq_false_iff_eq, Int.natCast_inj, Int.ofNat_lt] at hg) <;> (try (exfalso; omega))))
    | (simp only [andThenV_normal, andThenV_ret, andThenV_exit, outOfV_normal, outOfV_ret, outOfV_exit, ↓reduceIte, Nat.reduceEqDiff])
    | ((first | refine atEndV_r ?_ | refine atEndV_n ?_); simp (disch := omega) only [go_sem, ↓reduceIte, Nat.reduceEqDiff, Nat.reduceAdd, Nat.reduceMul, Nat.reduceLeDiff, Nat.reduceLT, Nat.reduceSub, Int.reduceToNat, Int.reduceLE, Int.reduceLT, reduceCtorEq]; try (first | rw [deep_bool_eq] | rw [deep_int_eq] | rw [deep_str_eq])))
  · simp; rintro rfl; exact hg rfl
  refine VC_loop (α := Nat × List TOp × List TOp) (fun y => y.2.1.length) (fun y => [(0, .sl 7 (a.map TOp.enc)), (1, .sl 7 (b.map TOp.enc)), (5, .int .i64 y.1)]) (fun _ => [])
    (fun y => (a).drop y.1 = y.2.1 ∧ (b).drop y.1 = y.2.2 ∧ y.1 + y.2.1.length = (a).length ∧ decide (a = b) = decide (y.2.1 = y.2.2)) ?_ (0, a, b) ?_ ?_
  · rintro ⟨i, ra, rb⟩ ⟨h1, h2, h3, h4⟩
    simp only at h1 h2 h3 h4 ⊢
    cases ra with
    | nil =>
      simp only [List.length_nil] at h3
      have hb : rb = [] := by
        rw [← h2]; exact List.drop_eq_nil_of_le (by omega)
      subst hb
      repeat' (first
    | refine VC_seq ?_ | refine VC_region ?_ | refine VC_block ?_ | refine VC_exit ?_ | refine VC_ret ?_ | refine VC_skip ?_ | refine VO_nil ?_ | refine VC_draw (by kernel_rfl) ?_ | (refine VD_nil ?_; refine ⟨by kernel_rfl, ?_⟩)
    | ((first | refine VO_stepP rfl rfl ?_ | refine VO_goC rfl rfl ?_ | refine VO_guardP rfl rfl rfl ?_ | refine VO_goG rfl rfl rfl ?_ | refine VC_if ?_ | refine VD_stepP rfl rfl ?_ | refine VD_goC rfl rfl ?_ | refine VD_guardP rfl rfl rfl ?_ | refine VD_goG rfl rfl rfl ?_); intro K' hK'; simp (disch := omega) only [go_sem, ↓reduceIte, Nat.reduceEqDiff, Nat.reduceAdd, Nat.reduceMul, Nat.reduceLeDiff, Nat.reduceLT, Nat.reduceSub, Int.reduceToNat, Int.reduceLE, Int.reduceLT, reduceCtorEq, FL_cons]; first
     | ((first | refine hK' _ _ ?_ | refine hK' _ ?_ | refine hK' _ _ _ _ _ _ _ ?_); clear hK' K')
     | (refine ⟨fun hg => ?_, fun hg => ?_⟩ <;> (first | refine hK' _ _ ?_ | refine hK' _ ?_ | refine hK' _ _ _ _ _ _ _ ?_) <;> clear hK' K' <;> (try rw [hg]) <;> (try simp only [decide_eq_true_eq, decide_eq_false_iff_not, ne_eq, Bool.not_eq_true, Bool.not_eq_false, Bool.not_eq_eq_eq_not, Bool.not_true, Bool.not_false, Decidable.not_not, beq_iff_eq, bne_iff_ne, beq_eq_false_iff_ne, Int.not_le, Int.not_lt, reduceCtorEq, not_true_eq_false, not_false_eq_true, Bool.true_eq_false, Bool.false_eq_true, Bool.and_eq_true, Bool.or_eq_false_iff, bne_eq_false_iff_eq, Int.natCast_inj, Int.ofNat_lt] at hg) <;> (try (exfalso; omega))))
    | (simp only [andThenV_normal, andThenV_ret, andThenV_exit, outOfV_normal, outOfV_ret, outOfV_exit, ↓reduceIte, Nat.reduceEqDiff])
    | ((first | refine atEndV_r ?_ | refine atEndV_n ?_); simp (disch := omega) only [go_sem, ↓reduceIte, Nat.reduceEqDiff, Nat.reduceAdd, Nat.reduceMul, Nat.reduceLeDiff, Nat.reduceLT, Nat.reduceSub, Int.reduceToNat, Int.reduceLE, Int.reduceLT, reduceCtorEq, FL_cons]; try (first | rw [deep_bool_eq] | rw [deep_int_eq] | rw [deep_str_eq])))
      rw [h4]; simp
    | cons x ra =>
      simp only [List.length_cons] at h3
      obtain ⟨k1, k2, k3⟩ := drop_cons h1
      obtain ⟨y, rb, rfl⟩ : ∃ y r, rb = y :: r := by
        cases rb with
        | nil => have := drop_nil h2; omega
        | cons y r => exact ⟨y, r, rfl⟩
      obtain ⟨m1, m2, m3⟩ := drop_cons h2
      skip
      repeat' (first
    | refine VC_seq ?_ | refine VC_region ?_ | refine VC_block ?_ | refine VC_exit ?_ | refine VC_ret ?_ | refine VC_skip ?_ | refine VO_nil ?_ | refine VC_draw (by kernel_rfl) ?_ | (refine VD_nil ?_; refine ⟨by kernel_rfl, ?_⟩)
    | ((first | refine VO_stepP rfl rfl ?_ | refine VO_goC rfl rfl ?_ | refine VO_guardP rfl rfl rfl ?_ | refine VO_goG rfl rfl rfl ?_ | refine VC_if ?_ | refine VD_stepP rfl rfl ?_ | refine VD_goC rfl rfl ?_ | refine VD_guardP rfl rfl rfl ?_ | refine VD_goG rfl rfl rfl ?_); intro K' hK'; simp (disch := omega) only [go_sem, ↓reduceIte, Nat.reduceEqDiff, Nat.reduceAdd, Nat.reduceMul, Nat.reduceLeDiff, Nat.reduceLT, Nat.reduceSub, Int.reduceToNat, Int.reduceLE, Int.reduceLT, reduceCtorEq, FL_cons, k1, m1, TOp.enc]; first
     | ((first | refine hK' _ _ ?_ | refine hK' _ ?_ | refine hK' _ _ _ _ _ _ _ ?_); clear hK' K')
     | (refine ⟨fun hg => ?_, fun hg => ?_⟩ <;> (first | refine hK' _ _ ?_ | refine hK' _ ?_ | refine hK' _ _ _ _ _ _ _ ?_) <;> clear hK' K' <;> (try rw [hg]) <;> (try simp only [decide_eq_true_eq, decide_eq_false_iff_not, ne_eq, Bool.not_eq_true, Bool.not_eq_false, Bool.not_eq_eq_eq_not, Bool.not_true, Bool.not_false, Decidable.not_not, beq_iff_eq, bne_iff_ne, beq_eq_false_iff_ne, Int.not_le, Int.not_lt, reduceCtorEq, not_true_eq_false, not_false_eq_true, Bool.true_eq_false, Bool.false_eq_true, Bool.and_eq_true, Bool.or_eq_false_iff, bne_eq_false_iff_eq, Int.natCast_inj, Int.ofNat_lt] at hg) <;> (try (exfalso; omega))))
    | (simp only [andThenV_normal, andThenV_ret, andThenV_exit, outOfV_normal, outOfV_ret, outOfV_exit, ↓reduceIte, Nat.reduceEqDiff])
    | ((first | refine atEndV_r ?_ | refine atEndV_n ?_); simp (disch := omega) only [go_sem, ↓reduceIte, Nat.reduceEqDiff, Nat.reduceAdd, Nat.reduceMul, Nat.reduceLeDiff, Nat.reduceLT, Nat.reduceSub, Int.reduceToNat, Int.reduceLE, Int.reduceLT, reduceCtorEq, FL_cons, k1, m1, TOp.enc]; try (first | rw [deep_bool_eq] | rw [deep_int_eq] | rw [deep_str_eq])))
      · rw [h4]; congr 1; symm
        simp only [decide_eq_false_iff_not, List.cons.injEq, not_and]
        rintro rfl; simp at hg
      · refine ⟨(i + 1, ra, rb), by simp, ⟨k2, m2, by simp; omega, ?_⟩, ?_⟩
        · rw [h4]
          have : x = y := by cases x; cases y; simp_all
          subst this; simp
        · (refine ⟨[], ?_, ?_, by decide, by simp⟩; (· simp (disch := omega) only [AllRN, go_sem, ↓reduceIte, Nat.reduceEqDiff, Nat.reduceAdd, Nat.reduceMul, Nat.reduceLeDiff, Nat.reduceLT, Nat.reduceSub, Int.reduceToNat, Int.reduceLE, Int.reduceLT, reduceCtorEq, Int.natCast_add, Int.cast_ofNat_Int]; (repeat' (first | exact trivial | (refine ⟨?_, ?_⟩) | exact RN.im rfl | exact RN.any _ _ | exact RN.ptr _ rfl | exact RN.ref _ _ rfl | exact RN.nil _ | (refine RN.int ?_; omega)))); (· (try simp (disch := omega) only [RNH, RNL, Int.natCast_add, Int.cast_ofNat_Int, go_sem, ↓reduceIte, Nat.reduceEqDiff, Nat.reduceAdd, Nat.reduceMul, Nat.reduceLeDiff, Nat.reduceLT, Nat.reduceSub, Int.reduceToNat, Int.reduceLE, Int.reduceLT, reduceCtorEq]); (repeat' (first | exact trivial | (refine ⟨_, rfl, rfl, ?_⟩) | (refine ⟨?_, ?_⟩) | exact RNL.im rfl | exact RN.im rfl | exact RN.any _ _ | exact RN.ptr _ rfl | exact RN.ref _ _ rfl | exact RN.nil _ | (refine RN.int ?_; omega)))))
  · simp
  · (refine ⟨[], ?_, ?_, by decide, by simp⟩; (· simp (disch := omega) only [AllRN, go_sem, ↓reduceIte, Nat.reduceEqDiff, Nat.reduceAdd, Nat.reduceMul, Nat.reduceLeDiff, Nat.reduceLT, Nat.reduceSub, Int.reduceToNat, Int.reduceLE, Int.reduceLT, reduceCtorEq, Int.natCast_add, Int.cast_ofNat_Int]; (repeat' (first | exact trivial | (refine ⟨?_, ?_⟩) | exact RN.im rfl | exact RN.any _ _ | exact RN.ptr _ rfl | exact RN.ref _ _ rfl | exact RN.nil _ | (refine RN.int ?_; omega)))); (· (try simp (disch := omega) only [RNH, RNL, Int.natCast_add, Int.cast_ofNat_Int, go_sem, ↓reduceIte, Nat.reduceEqDiff, Nat.reduceAdd, Nat.reduceMul, Nat.reduceLeDiff, Nat.reduceLT, Nat.reduceSub, Int.reduceToNat, Int.reduceLE, Int.reduceLT, reduceCtorEq]); (repeat' (first | exact trivial | (refine ⟨_, rfl, rfl, ?_⟩) | (refine ⟨?_, ?_⟩) | exact RNL.im rfl | exact RN.im rfl | exact RN.any _ _ | exact RN.ptr _ rfl | exact RN.ref _ _ rfl | exact RN.nil _ | (refine RN.int ?_; omega)))))

theorem pu_objLike (a b : TObj) (hn : a.kids.length ≤ 1073741824) : Pu Try.prog X 145 [.agg a.enc, .agg b.enc] (.bool (objLike a b)) := by
  refine Pu.body Try.func145 rfl (rs := [.tmp 4]) rfl okf_145 (by rw [Try.ntmps145]; simp) ?_
  repeat' (first
    | refine VC_seq ?_ | refine VC_region ?_ | refine VC_block ?_ | refine VC_exit ?_ | refine VC_ret ?_ | refine VC_skip ?_ | refine VO_nil ?_ | refine VC_draw (by kernel_rfl) ?_ | (refine VD_nil ?_; refine ⟨by kernel_rfl, ?_⟩)
    | ((first | refine VO_stepP rfl rfl ?_ | refine VO_goC rfl rfl ?_ | refine VO_guardP rfl rfl rfl ?_ | refine VO_goG rfl rfl rfl ?_ | refine VC_if ?_ | refine VD_stepP rfl rfl ?_ | refine VD_goC rfl rfl ?_ | refine VD_guardP rfl rfl rfl ?_ | refine VD_goG rfl rfl rfl ?_); intro K' hK'; simp (disch := omega) only [go_sem, ↓reduceIte, Nat.reduceEqDiff, Nat.reduceAdd, Nat.reduceMul, Nat.reduceLeDiff, Nat.reduceLT, Nat.reduceSub, Int.reduceToNat, Int.reduceLE, Int.reduceLT, reduceCtorEq, TObj.enc]; first
     | ((first | refine hK' _ _ ?_ | refine hK' _ ?_ | refine hK' _ _ _ _ _ _ _ ?_); clear hK' K')
     | ((first | refine Pu.g (pu_same_Ent _ _ hn) rfl rfl ?_); (first | refine hK' _ _ ?_ | refine hK' _ ?_ | refine hK' _ _ _ _ _ _ _ ?_); clear hK' K')
     | (refine ⟨fun hg => ?_, fun hg => ?_⟩ <;> (first | (first | refine hK' _ _ ?_ | refine hK' _ ?_ | refine hK' _ _ _ _ _ _ _ ?_) | ((first | refine Pu.g (pu_same_Ent _ _ hn) rfl rfl ?_); (first | refine hK' _ _ ?_ | refine hK' _ ?_ | refine hK' _ _ _ _ _ _ _ ?_))) <;> clear hK' K' <;> (try rw [hg]) <;> (try simp only [decide_eq_true_eq, decide_eq_false_iff_not, ne_eq, Bool.not_eq_true, Bool.not_eq_false, Bool.not_eq_eq_eq_not, Bool.not_true, Bool.not_false, Decidable.not_not, beq_iff_eq, bne_iff_ne, beq_eq_false_iff_ne, Int.not_le, Int.not_lt, reduceCtorEq, not_true_eq_false, not_false_eq_true, Bool.true_eq_false, Bool.false_eq_true, Bool.and_eq_true, Bool.or_eq_false_iff, bne_eq_false_iff_eq, Int.natCast_inj, Int.ofNat_lt] at hg) <;> (try (exfalso; omega))))
    | (simp only [andThenV_normal, andThenV_ret, andThenV_exit, outOfV_normal, outOfV_ret, outOfV_exit, ↓reduceIte, Nat.reduceEqDiff])
    | ((first | refine atEndV_r ?_ | refine atEndV_n ?_); simp (disch := omega) only [go_sem, ↓reduceIte, Nat.reduceEqDiff, Nat.reduceAdd, Nat.reduceMul, Nat.reduceLeDiff, Nat.reduceLT, Nat.reduceSub, Int.reduceToNat, Int.reduceLE, Int.reduceLT, reduceCtorEq, TObj.enc]; try (first | rw [deep_bool_eq] | rw [deep_int_eq] | rw [deep_str_eq])))
  all_goals simp_all [objLike]


theorem pu_spec_TreeLike (a b : Tree) (h : a.tot ≤ 1073741824) : Pu Try.prog X 119 [.agg a.enc, .agg b.enc] (.bool (treeLike a b)) := by
  refine Pu.body Try.func119 rfl (rs := [.tmp 4]) rfl okf_119 (by rw [Try.ntmps119]; simp) ?_
  simp only [Tree.tot] at h
  have hn := Nat.le_trans (le_lsum _ a.objs) h
  repeat' (first
    | refine VC_seq ?_ | refine VC_region ?_ | refine VC_block ?_ | refine VC_exit ?_ | refine VC_ret ?_ | refine VC_skip ?_ | refine VO_nil ?_ | refine VC_draw (by kernel_rfl) ?_ | (refine VD_nil ?_; refine ⟨by kernel_rfl, ?_⟩)
    | ((first | refine VO_stepP rfl rfl ?_ | refine VO_goC rfl rfl ?_ | refine VO_guardP rfl rfl rfl ?_ | refine VO_goG rfl rfl rfl ?_ | refine VC_if ?_ | refine VD_stepP rfl rfl ?_ | refine VD_goC rfl rfl ?_ | refine VD_guardP rfl rfl rfl ?_ | refine VD_goG rfl rfl rfl ?_); intro K' hK'; simp (disch := omega) only [go_sem, ↓reduceIte, Nat.reduceEqDiff, Nat.reduceAdd, Nat.reduceMul, Nat.reduceLeDiff, Nat.reduceLT, Nat.reduceSub, Int.reduceToNat, Int.reduceLE, Int.reduceLT, reduceCtorEq, Tree.enc]; first
     | ((first | refine hK' _ _ ?_ | refine hK' _ ?_ | refine hK' _ _ _ _ _ _ _ ?_); clear hK' K')
     | (refine ⟨fun hg => ?_, fun hg => ?_⟩ <;> (first | refine hK' _ _ ?_ | refine hK' _ ?_ | refine hK' _ _ _ _ _ _ _ ?_) <;> clear hK' K' <;> (try rw [hg]) <;> (try simp only [decide_eq_true_eq, decide_eq_false_iff_not, ne_eq, Bool.not_eq_true, Bool.not_eq_false, Bool.not_eq_eq_eq_not, Bool.not_true, Bool.not_false, Decidable.not_not, beq_iff_eq, bne_iff_ne, beq_eq_false_iff_ne, Int.not_le, Int.not_lt, reduceCtorEq, not_true_eq_false, not_false_eq_true, Bool.true_eq_false, Bool.false_eq_true, Bool.and_eq_true, Bool.or_eq_false_iff, bne_eq_false_iff_eq, Int.natCast_inj, Int.ofNat_lt] at hg) <;> (try (exfalso; omega))))
    | (simp only [andThenV_normal, andThenV_ret, andThenV_exit, outOfV_normal, outOfV_ret, outOfV_exit, ↓reduceIte, Nat.reduceEqDiff])
    | ((first | refine atEndV_r ?_ | refine atEndV_n ?_); simp (disch := omega) only [go_sem, ↓reduceIte, Nat.reduceEqDiff, Nat.reduceAdd, Nat.reduceMul, Nat.reduceLeDiff, Nat.reduceLT, Nat.reduceSub, Int.reduceToNat, Int.reduceLE, Int.reduceLT, reduceCtorEq, Tree.enc]; try (first | rw [deep_bool_eq] | rw [deep_int_eq] | rw [deep_str_eq])))
  · simp only [treeLike]; rw [likeAll_ne hg]
  refine VC_loop (α := Nat × List TObj × List TObj) (fun y => y.2.1.length) (fun y => [(2, .ptr 0 0), (3, .ptr 1 0), (5, .int .i64 y.1)]) (fun _ => [some ⟨[.sl 4 (a.objs.map TObj.enc)], 0⟩, some ⟨[.sl 4 (b.objs.map TObj.enc)], 0⟩])
    (fun y => (a.objs).drop y.1 = y.2.1 ∧ (b.objs).drop y.1 = y.2.2 ∧ y.1 + y.2.1.length = (a.objs).length ∧ treeLike a b = likeAll y.2.1 y.2.2) ?_ (0, a.objs, b.objs) ?_ ?_
  · rintro ⟨i, ra, rb⟩ ⟨h1, h2, h3, h4⟩
    simp only at h1 h2 h3 h4 ⊢
    cases ra with
    | nil =>
      simp only [List.length_nil] at h3
      have hb : rb = [] := by
        rw [← h2]; exact List.drop_eq_nil_of_le (by omega)
      subst hb
      repeat' (first
    | refine VC_seq ?_ | refine VC_region ?_ | refine VC_block ?_ | refine VC_exit ?_ | refine VC_ret ?_ | refine VC_skip ?_ | refine VO_nil ?_ | refine VC_draw (by kernel_rfl) ?_ | (refine VD_nil ?_; refine ⟨by kernel_rfl, ?_⟩)
    | ((first | refine VO_stepP rfl rfl ?_ | refine VO_goC rfl rfl ?_ | refine VO_guardP rfl rfl rfl ?_ | refine VO_goG rfl rfl rfl ?_ | refine VC_if ?_ | refine VD_stepP rfl rfl ?_ | refine VD_goC rfl rfl ?_ | refine VD_guardP rfl rfl rfl ?_ | refine VD_goG rfl rfl rfl ?_); intro K' hK'; simp (disch := omega) only [go_sem, ↓reduceIte, Nat.reduceEqDiff, Nat.reduceAdd, Nat.reduceMul, Nat.reduceLeDiff, Nat.reduceLT, Nat.reduceSub, Int.reduceToNat, Int.reduceLE, Int.reduceLT, reduceCtorEq, FL_cons]; first
     | ((first | refine hK' _ _ ?_ | refine hK' _ ?_ | refine hK' _ _ _ _ _ _ _ ?_); clear hK' K')
     | (refine ⟨fun hg => ?_, fun hg => ?_⟩ <;> (first | refine hK' _ _ ?_ | refine hK' _ ?_ | refine hK' _ _ _ _ _ _ _ ?_) <;> clear hK' K' <;> (try rw [hg]) <;> (try simp only [decide_eq_true_eq, decide_eq_false_iff_not, ne_eq, Bool.not_eq_true, Bool.not_eq_false, Bool.not_eq_eq_eq_not, Bool.not_true, Bool.not_false, Decidable.not_not, beq_iff_eq, bne_iff_ne, beq_eq_false_iff_ne, Int.not_le, Int.not_lt, reduceCtorEq, not_true_eq_false, not_false_eq_true, Bool.true_eq_false, Bool.false_eq_true, Bool.and_eq_true, Bool.or_eq_false_iff, bne_eq_false_iff_eq, Int.natCast_inj, Int.ofNat_lt] at hg) <;> (try (exfalso; omega))))
    | (simp only [andThenV_normal, andThenV_ret, andThenV_exit, outOfV_normal, outOfV_ret, outOfV_exit, ↓reduceIte, Nat.reduceEqDiff])
    | ((first | refine atEndV_r ?_ | refine atEndV_n ?_); simp (disch := omega) only [go_sem, ↓reduceIte, Nat.reduceEqDiff, Nat.reduceAdd, Nat.reduceMul, Nat.reduceLeDiff, Nat.reduceLT, Nat.reduceSub, Int.reduceToNat, Int.reduceLE, Int.reduceLT, reduceCtorEq, FL_cons]; try (first | rw [deep_bool_eq] | rw [deep_int_eq] | rw [deep_str_eq])))
      rw [h4]; rfl
    | cons x ra =>
      simp only [List.length_cons] at h3
      obtain ⟨k1, k2, k3⟩ := drop_cons h1
      obtain ⟨y, rb, rfl⟩ : ∃ y r, rb = y :: r := by
        cases rb with
        | nil => have := drop_nil h2; omega
        | cons y r => exact ⟨y, r, rfl⟩
      obtain ⟨m1, m2, m3⟩ := drop_cons h2
      have hx := mem_lsum TObj.tot (List.mem_of_getElem? k1)
      repeat' (first
    | refine VC_seq ?_ | refine VC_region ?_ | refine VC_block ?_ | refine VC_exit ?_ | refine VC_ret ?_ | refine VC_skip ?_ | refine VO_nil ?_ | refine VC_draw (by kernel_rfl) ?_ | (refine VD_nil ?_; refine ⟨by kernel_rfl, ?_⟩)
    | ((first | refine VO_stepP rfl rfl ?_ | refine VO_goC rfl rfl ?_ | refine VO_guardP rfl rfl rfl ?_ | refine VO_goG rfl rfl rfl ?_ | refine VC_if ?_ | refine VD_stepP rfl rfl ?_ | refine VD_goC rfl rfl ?_ | refine VD_guardP rfl rfl rfl ?_ | refine VD_goG rfl rfl rfl ?_); intro K' hK'; simp (disch := omega) only [go_sem, ↓reduceIte, Nat.reduceEqDiff, Nat.reduceAdd, Nat.reduceMul, Nat.reduceLeDiff, Nat.reduceLT, Nat.reduceSub, Int.reduceToNat, Int.reduceLE, Int.reduceLT, reduceCtorEq, FL_cons, k1, m1, TObj.enc]; first
     | ((first | refine hK' _ _ ?_ | refine hK' _ ?_ | refine hK' _ _ _ _ _ _ _ ?_); clear hK' K')
     | ((first | refine Pu.g (pu_l1SameKids _ _ (by have := kids_le x; omega)) rfl rfl ?_); (first | refine hK' _ _ ?_ | refine hK' _ ?_ | refine hK' _ _ _ _ _ _ _ ?_); clear hK' K')
     | (refine ⟨fun hg => ?_, fun hg => ?_⟩ <;> (first | (first | refine hK' _ _ ?_ | refine hK' _ ?_ | refine hK' _ _ _ _ _ _ _ ?_) | ((first | refine Pu.g (pu_l1SameKids _ _ (by have := kids_le x; omega)) rfl rfl ?_); (first | refine hK' _ _ ?_ | refine hK' _ ?_ | refine hK' _ _ _ _ _ _ _ ?_))) <;> clear hK' K' <;> (try rw [hg]) <;> (try simp only [decide_eq_true_eq, decide_eq_false_iff_not, ne_eq, Bool.not_eq_true, Bool.not_eq_false, Bool.not_eq_eq_eq_not, Bool.not_true, Bool.not_false, Decidable.not_not, beq_iff_eq, bne_iff_ne, beq_eq_false_iff_ne, Int.not_le, Int.not_lt, reduceCtorEq, not_true_eq_false, not_false_eq_true, Bool.true_eq_false, Bool.false_eq_true, Bool.and_eq_true, Bool.or_eq_false_iff, bne_eq_false_iff_eq, Int.natCast_inj, Int.ofNat_lt] at hg) <;> (try (exfalso; omega))))
    | (simp only [andThenV_normal, andThenV_ret, andThenV_exit, outOfV_normal, outOfV_ret, outOfV_exit, ↓reduceIte, Nat.reduceEqDiff])
    | ((first | refine atEndV_r ?_ | refine atEndV_n ?_); simp (disch := omega) only [go_sem, ↓reduceIte, Nat.reduceEqDiff, Nat.reduceAdd, Nat.reduceMul, Nat.reduceLeDiff, Nat.reduceLT, Nat.reduceSub, Int.reduceToNat, Int.reduceLE, Int.reduceLT, reduceCtorEq, FL_cons, k1, m1, TObj.enc]; try (first | rw [deep_bool_eq] | rw [deep_int_eq] | rw [deep_str_eq])))
      all_goals try (rw [h4]; simp_all [likeAll, objLike]; done)
      · refine ⟨(i + 1, ra, rb), by simp, ⟨k2, m2, by simp; omega, ?_⟩, ?_⟩
        · rw [h4]; simp_all [likeAll, objLike]
        · (refine ⟨[0, 1], ?_, ?_, by decide, by simp⟩; (· simp (disch := omega) only [AllRN, go_sem, ↓reduceIte, Nat.reduceEqDiff, Nat.reduceAdd, Nat.reduceMul, Nat.reduceLeDiff, Nat.reduceLT, Nat.reduceSub, Int.reduceToNat, Int.reduceLE, Int.reduceLT, reduceCtorEq, Int.natCast_add, Int.cast_ofNat_Int]; (repeat' (first | exact trivial | (refine ⟨?_, ?_⟩) | exact RN.im rfl | exact RN.any _ _ | exact RN.ptr _ rfl | exact RN.ref _ _ rfl | exact RN.nil _ | (refine RN.int ?_; omega)))); (· (try simp (disch := omega) only [RNH, RNL, Int.natCast_add, Int.cast_ofNat_Int, go_sem, ↓reduceIte, Nat.reduceEqDiff, Nat.reduceAdd, Nat.reduceMul, Nat.reduceLeDiff, Nat.reduceLT, Nat.reduceSub, Int.reduceToNat, Int.reduceLE, Int.reduceLT, reduceCtorEq]); (repeat' (first | exact trivial | (refine ⟨_, rfl, rfl, ?_⟩) | (refine ⟨?_, ?_⟩) | exact RNL.im rfl | exact RN.im rfl | exact RN.any _ _ | exact RN.ptr _ rfl | exact RN.ref _ _ rfl | exact RN.nil _ | (refine RN.int ?_; omega)))))
  · simp [treeLike]
  · (refine ⟨[0, 1], ?_, ?_, by decide, by simp⟩; (· simp (disch := omega) only [AllRN, go_sem, ↓reduceIte, Nat.reduceEqDiff, Nat.reduceAdd, Nat.reduceMul, Nat.reduceLeDiff, Nat.reduceLT, Nat.reduceSub, Int.reduceToNat, Int.reduceLE, Int.reduceLT, reduceCtorEq, Int.natCast_add, Int.cast_ofNat_Int]; (repeat' (first | exact trivial | (refine ⟨?_, ?_⟩) | exact RN.im rfl | exact RN.any _ _ | exact RN.ptr _ rfl | exact RN.ref _ _ rfl | exact RN.nil _ | (refine RN.int ?_; omega)))); (· (try simp (disch := omega) only [RNH, RNL, Int.natCast_add, Int.cast_ofNat_Int, go_sem, ↓reduceIte, Nat.reduceEqDiff, Nat.reduceAdd, Nat.reduceMul, Nat.reduceLeDiff, Nat.reduceLT, Nat.reduceSub, Int.reduceToNat, Int.reduceLE, Int.reduceLT, reduceCtorEq]); (repeat' (first | exact trivial | (refine ⟨_, rfl, rfl, ?_⟩) | (refine ⟨?_, ?_⟩) | exact RNL.im rfl | exact RN.im rfl | exact RN.any _ _ | exact RN.ptr _ rfl | exact RN.ref _ _ rfl | exact RN.nil _ | (refine RN.int ?_; omega)))))

theorem pu_impl_TreeLike (a b : Tree) (h : a.tot ≤ 1073741824) : Pu Try.prog X 121 [.agg a.enc, .agg b.enc] (.bool (treeLike a b)) := by
  refine Pu.body Try.func121 rfl (rs := [.tmp 4]) rfl okf_121 (by rw [Try.ntmps121]; simp) ?_
  simp only [Tree.tot] at h
  have hn := Nat.le_trans (le_lsum _ a.objs) h
  repeat' (first
    | refine VC_seq ?_ | refine VC_region ?_ | refine VC_block ?_ | refine VC_exit ?_ | refine VC_ret ?_ | refine VC_skip ?_ | refine VO_nil ?_ | refine VC_draw (by kernel_rfl) ?_ | (refine VD_nil ?_; refine ⟨by kernel_rfl, ?_⟩)
    | ((first | refine VO_stepP rfl rfl ?_ | refine VO_goC rfl rfl ?_ | refine VO_guardP rfl rfl rfl ?_ | refine VO_goG rfl rfl rfl ?_ | refine VC_if ?_ | refine VD_stepP rfl rfl ?_ | refine VD_goC rfl rfl ?_ | refine VD_guardP rfl rfl rfl ?_ | refine VD_goG rfl rfl rfl ?_); intro K' hK'; simp (disch := omega) only [go_sem, ↓reduceIte, Nat.reduceEqDiff, Nat.reduceAdd, Nat.reduceMul, Nat.reduceLeDiff, Nat.reduceLT, Nat.reduceSub, Int.reduceToNat, Int.reduceLE, Int.reduceLT, reduceCtorEq, Tree.enc]; first
     | ((first | refine hK' _ _ ?_ | refine hK' _ ?_ | refine hK' _ _ _ _ _ _ _ ?_); clear hK' K')
     | (refine ⟨fun hg => ?_, fun hg => ?_⟩ <;> (first | refine hK' _ _ ?_ | refine hK' _ ?_ | refine hK' _ _ _ _ _ _ _ ?_) <;> clear hK' K' <;> (try rw [hg]) <;> (try simp only [decide_eq_true_eq, decide_eq_false_iff_not, ne_eq, Bool.not_eq_true, Bool.not_eq_false, Bool.not_eq_eq_eq_not, Bool.not_true, Bool.not_false, Decidable.not_not, beq_iff_eq, bne_iff_ne, beq_eq_false_iff_ne, Int.not_le, Int.not_lt, reduceCtorEq, not_true_eq_false, not_false_eq_true, Bool.true_eq_false, Bool.false_eq_true, Bool.and_eq_true, Bool.or_eq_false_iff, bne_eq_false_iff_eq, Int.natCast_inj, Int.ofNat_lt] at hg) <;> (try (exfalso; omega))))
    | (simp only [andThenV_normal, andThenV_ret, andThenV_exit, outOfV_normal, outOfV_ret, outOfV_exit, ↓reduceIte, Nat.reduceEqDiff])
    | ((first | refine atEndV_r ?_ | refine atEndV_n ?_); simp (disch := omega) only [go_sem, ↓reduceIte, Nat.reduceEqDiff, Nat.reduceAdd, Nat.reduceMul, Nat.reduceLeDiff, Nat.reduceLT, Nat.reduceSub, Int.reduceToNat, Int.reduceLE, Int.reduceLT, reduceCtorEq, Tree.enc]; try (first | rw [deep_bool_eq] | rw [deep_int_eq] | rw [deep_str_eq])))
  · simp only [treeLike]; rw [likeAll_ne hg]
  refine VC_loop (α := Nat × List TObj × List TObj) (fun y => y.2.1.length) (fun y => [(2, .ptr 0 0), (3, .ptr 1 0), (15, .int .i64 a.objs.length), (16, .int .i64 y.1)]) (fun _ => [some ⟨[.sl 4 (a.objs.map TObj.enc)], 0⟩, some ⟨[.sl 4 (b.objs.map TObj.enc)], 0⟩])
    (fun y => (a.objs).drop y.1 = y.2.1 ∧ (b.objs).drop y.1 = y.2.2 ∧ y.1 + y.2.1.length = (a.objs).length ∧ treeLike a b = likeAll y.2.1 y.2.2) ?_ (0, a.objs, b.objs) ?_ ?_
  · rintro ⟨i, ra, rb⟩ ⟨h1, h2, h3, h4⟩
    simp only at h1 h2 h3 h4 ⊢
    cases ra with
    | nil =>
      simp only [List.length_nil] at h3
      have hb : rb = [] := by
        rw [← h2]; exact List.drop_eq_nil_of_le (by omega)
      subst hb
      repeat' (first
    | refine VC_seq ?_ | refine VC_region ?_ | refine VC_block ?_ | refine VC_exit ?_ | refine VC_ret ?_ | refine VC_skip ?_ | refine VO_nil ?_ | refine VC_draw (by kernel_rfl) ?_ | (refine VD_nil ?_; refine ⟨by kernel_rfl, ?_⟩)
    | ((first | refine VO_stepP rfl rfl ?_ | refine VO_goC rfl rfl ?_ | refine VO_guardP rfl rfl rfl ?_ | refine VO_goG rfl rfl rfl ?_ | refine VC_if ?_ | refine VD_stepP rfl rfl ?_ | refine VD_goC rfl rfl ?_ | refine VD_guardP rfl rfl rfl ?_ | refine VD_goG rfl rfl rfl ?_); intro K' hK'; simp (disch := omega) only [go_sem, ↓reduceIte, Nat.reduceEqDiff, Nat.reduceAdd, Nat.reduceMul, Nat.reduceLeDiff, Nat.reduceLT, Nat.reduceSub, Int.reduceToNat, Int.reduceLE, Int.reduceLT, reduceCtorEq, FL_cons]; first
     | ((first | refine hK' _ _ ?_ | refine hK' _ ?_ | refine hK' _ _ _ _ _ _ _ ?_); clear hK' K')
     | (refine ⟨fun hg => ?_, fun hg => ?_⟩ <;> (first | refine hK' _ _ ?_ | refine hK' _ ?_ | refine hK' _ _ _ _ _ _ _ ?_) <;> clear hK' K' <;> (try rw [hg]) <;> (try simp only [decide_eq_true_eq, decide_eq_false_iff_not, ne_eq, Bool.not_eq_true, Bool.not_eq_false, Bool.not_eq_eq_eq_not, Bool.not_true, Bool.not_false, Decidable.not_not, beq_iff_eq, bne_iff_ne, beq_eq_false_iff_ne, Int.not_le, Int.not_lt, reduceCtorEq, not_true_eq_false, not_false_eq_true, Bool.true_eq_false, Bool.false_eq_true, Bool.and_eq_true, Bool.or_eq_false_iff, bne_eq_false_iff_eq, Int.natCast_inj, Int.ofNat_lt] at hg) <;> (try (exfalso; omega))))
    | (simp only [andThenV_normal, andThenV_ret, andThenV_exit, outOfV_normal, outOfV_ret, outOfV_exit, ↓reduceIte, Nat.reduceEqDiff])
    | ((first | refine atEndV_r ?_ | refine atEndV_n ?_); simp (disch := omega) only [go_sem, ↓reduceIte, Nat.reduceEqDiff, Nat.reduceAdd, Nat.reduceMul, Nat.reduceLeDiff, Nat.reduceLT, Nat.reduceSub, Int.reduceToNat, Int.reduceLE, Int.reduceLT, reduceCtorEq, FL_cons]; try (first | rw [deep_bool_eq] | rw [deep_int_eq] | rw [deep_str_eq])))
      rw [h4]; rfl
    | cons x ra =>
      simp only [List.length_cons] at h3
      obtain ⟨k1, k2, k3⟩ := drop_cons h1
      obtain ⟨y, rb, rfl⟩ : ∃ y r, rb = y :: r := by
        cases rb with
        | nil => have := drop_nil h2; omega
        | cons y r => exact ⟨y, r, rfl⟩
      obtain ⟨m1, m2, m3⟩ := drop_cons h2
      have hx := mem_lsum TObj.tot (List.mem_of_getElem? k1)
      repeat' (first
    | refine VC_seq ?_ | refine VC_region ?_ | refine VC_block ?_ | refine VC_exit ?_ | refine VC_ret ?_ | refine VC_skip ?_ | refine VO_nil ?_ | refine VC_draw (by kernel_rfl) ?_ | (refine VD_nil ?_; refine ⟨by kernel_rfl, ?_⟩)
    | ((first | refine VO_stepP rfl rfl ?_ | refine VO_goC rfl rfl ?_ | refine VO_guardP rfl rfl rfl ?_ | refine VO_goG rfl rfl rfl ?_ | refine VC_if ?_ | refine VD_stepP rfl rfl ?_ | refine VD_goC rfl rfl ?_ | refine VD_guardP rfl rfl rfl ?_ | refine VD_goG rfl rfl rfl ?_); intro K' hK'; simp (disch := omega) only [go_sem, ↓reduceIte, Nat.reduceEqDiff, Nat.reduceAdd, Nat.reduceMul, Nat.reduceLeDiff, Nat.reduceLT, Nat.reduceSub, Int.reduceToNat, Int.reduceLE, Int.reduceLT, reduceCtorEq, FL_cons, k1, m1, TObj.enc]; first
     | ((first | refine hK' _ _ ?_ | refine hK' _ ?_ | refine hK' _ _ _ _ _ _ _ ?_); clear hK' K')
     | ((first | refine Pu.g (pu_objLike _ _ (by have := kids_le x; omega)) rfl rfl ?_); (first | refine hK' _ _ ?_ | refine hK' _ ?_ | refine hK' _ _ _ _ _ _ _ ?_); clear hK' K')
     | (refine ⟨fun hg => ?_, fun hg => ?_⟩ <;> (first | (first | refine hK' _ _ ?_ | refine hK' _ ?_ | refine hK' _ _ _ _ _ _ _ ?_) | ((first | refine Pu.g (pu_objLike _ _ (by have := kids_le x; omega)) rfl rfl ?_); (first | refine hK' _ _ ?_ | refine hK' _ ?_ | refine hK' _ _ _ _ _ _ _ ?_))) <;> clear hK' K' <;> (try rw [hg]) <;> (try simp only [decide_eq_true_eq, decide_eq_false_iff_not, ne_eq, Bool.not_eq_true, Bool.not_eq_false, Bool.not_eq_eq_eq_not, Bool.not_true, Bool.not_false, Decidable.not_not, beq_iff_eq, bne_iff_ne, beq_eq_false_iff_ne, Int.not_le, Int.not_lt, reduceCtorEq, not_true_eq_false, not_false_eq_true, Bool.true_eq_false, Bool.false_eq_true, Bool.and_eq_true, Bool.or_eq_false_iff, bne_eq_false_iff_eq, Int.natCast_inj, Int.ofNat_lt] at hg) <;> (try (exfalso; omega))))
    | (simp only [andThenV_normal, andThenV_ret, andThenV_exit, outOfV_normal, outOfV_ret, outOfV_exit, ↓reduceIte, Nat.reduceEqDiff])
    | ((first | refine atEndV_r ?_ | refine atEndV_n ?_); simp (disch := omega) only [go_sem, ↓reduceIte, Nat.reduceEqDiff, Nat.reduceAdd, Nat.reduceMul, Nat.reduceLeDiff, Nat.reduceLT, Nat.reduceSub, Int.reduceToNat, Int.reduceLE, Int.reduceLT, reduceCtorEq, FL_cons, k1, m1, TObj.enc]; try (first | rw [deep_bool_eq] | rw [deep_int_eq] | rw [deep_str_eq])))
      all_goals try (rw [h4]; simp_all [likeAll, objLike]; done)
      · refine ⟨(i + 1, ra, rb), by simp, ⟨k2, m2, by simp; omega, ?_⟩, ?_⟩
        · rw [h4]; simp_all [likeAll, objLike]
        · (refine ⟨[0, 1], ?_, ?_, by decide, by simp⟩; (· simp (disch := omega) only [AllRN, go_sem, ↓reduceIte, Nat.reduceEqDiff, Nat.reduceAdd, Nat.reduceMul, Nat.reduceLeDiff, Nat.reduceLT, Nat.reduceSub, Int.reduceToNat, Int.reduceLE, Int.reduceLT, reduceCtorEq, Int.natCast_add, Int.cast_ofNat_Int]; (repeat' (first | exact trivial | (refine ⟨?_, ?_⟩) | exact RN.im rfl | exact RN.any _ _ | exact RN.ptr _ rfl | exact RN.ref _ _ rfl | exact RN.nil _ | (refine RN.int ?_; omega)))); (· (try simp (disch := omega) only [RNH, RNL, Int.natCast_add, Int.cast_ofNat_Int, go_sem, ↓reduceIte, Nat.reduceEqDiff, Nat.reduceAdd, Nat.reduceMul, Nat.reduceLeDiff, Nat.reduceLT, Nat.reduceSub, Int.reduceToNat, Int.reduceLE, Int.reduceLT, reduceCtorEq]); (repeat' (first | exact trivial | (refine ⟨_, rfl, rfl, ?_⟩) | (refine ⟨?_, ?_⟩) | exact RNL.im rfl | exact RN.im rfl | exact RN.any _ _ | exact RN.ptr _ rfl | exact RN.ref _ _ rfl | exact RN.nil _ | (refine RN.int ?_; omega)))))
  · simp [treeLike]
  · (refine ⟨[0, 1], ?_, ?_, by decide, by simp⟩; (· simp (disch := omega) only [AllRN, go_sem, ↓reduceIte, Nat.reduceEqDiff, Nat.reduceAdd, Nat.reduceMul, Nat.reduceLeDiff, Nat.reduceLT, Nat.reduceSub, Int.reduceToNat, Int.reduceLE, Int.reduceLT, reduceCtorEq, Int.natCast_add, Int.cast_ofNat_Int]; (repeat' (first | exact trivial | (refine ⟨?_, ?_⟩) | exact RN.im rfl | exact RN.any _ _ | exact RN.ptr _ rfl | exact RN.ref _ _ rfl | exact RN.nil _ | (refine RN.int ?_; omega)))); (· (try simp (disch := omega) only [RNH, RNL, Int.natCast_add, Int.cast_ofNat_Int, go_sem, ↓reduceIte, Nat.reduceEqDiff, Nat.reduceAdd, Nat.reduceMul, Nat.reduceLeDiff, Nat.reduceLT, Nat.reduceSub, Int.reduceToNat, Int.reduceLE, Int.reduceLT, reduceCtorEq]); (repeat' (first | exact trivial | (refine ⟨_, rfl, rfl, ?_⟩) | (refine ⟨?_, ?_⟩) | exact RNL.im rfl | exact RN.im rfl | exact RN.any _ _ | exact RN.ptr _ rfl | exact RN.ref _ _ rfl | exact RN.nil _ | (refine RN.int ?_; omega)))))

theorem pu_spec_TreeSame (a b : Tree) (h : a.tot ≤ 1073741824) : Pu Try.prog X 73 [.agg a.enc, .agg b.enc] (.bool (decide (a = b))) := by
  refine Pu.body Try.func73 rfl (rs := [.tmp 4]) rfl okf_73 (by rw [Try.ntmps73]; simp) ?_
  have hn : a.objs.length ≤ 1073741824 := Nat.le_trans (le_lsum TObj.tot a.objs) h
  repeat' (first
    | refine VC_seq ?_ | refine VC_region ?_ | refine VC_block ?_ | refine VC_exit ?_ | refine VC_ret ?_ | refine VC_skip ?_ | refine VO_nil ?_ | refine VC_draw (by kernel_rfl) ?_ | (refine VD_nil ?_; refine ⟨by kernel_rfl, ?_⟩)
    | ((first | refine VO_stepP rfl rfl ?_ | refine VO_goC rfl rfl ?_ | refine VO_guardP rfl rfl rfl ?_ | refine VO_goG rfl rfl rfl ?_ | refine VC_if ?_ | refine VD_stepP rfl rfl ?_ | refine VD_goC rfl rfl ?_ | refine VD_guardP rfl rfl rfl ?_ | refine VD_goG rfl rfl rfl ?_); intro K' hK'; simp (disch := omega) only [go_sem, ↓reduceIte, Nat.reduceEqDiff, Nat.reduceAdd, Nat.reduceMul, Nat.reduceLeDiff, Nat.reduceLT, Nat.reduceSub, Int.reduceToNat, Int.reduceLE, Int.reduceLT, reduceCtorEq, Tree.enc]; first
     | ((first | refine hK' _ _ ?_ | refine hK' _ ?_ | refine hK' _ _ _ _ _ _ _ ?_); clear hK' K')
     | ((first | refine Pu.g (pu_spec_TreeLike _ _ h) rfl rfl ?_); (first | refine hK' _ _ ?_ | refine hK' _ ?_ | refine hK' _ _ _ _ _ _ _ ?_); clear hK' K')
     | (refine ⟨fun hg => ?_, fun hg => ?_⟩ <;> (first | (first | refine hK' _ _ ?_ | refine hK' _ ?_ | refine hK' _ _ _ _ _ _ _ ?_) | ((first | refine Pu.g (pu_spec_TreeLike _ _ h) rfl rfl ?_); (first | refine hK' _ _ ?_ | refine hK' _ ?_ | refine hK' _ _ _ _ _ _ _ ?_))) <;> clear hK' K' <;> (try rw [hg]) <;> (try simp only [decide_eq_true_eq, decide_eq_false_iff_not, ne_eq, Bool.not_eq_true, Bool.not_eq_false, Bool.not_eq_eq_eq_not, Bool.not_true, Bool.not_false, Decidable.not_not, beq_iff_eq, bne_iff_ne, beq_eq_false_iff_ne, Int.not_le, Int.not_lt, reduceCtorEq, not_true_eq_false, not_false_eq_true, Bool.true_eq_false, Bool.false_eq_true, Bool.and_eq_true, Bool.or_eq_false_iff, bne_eq_false_iff_eq, Int.natCast_inj, Int.ofNat_lt] at hg) <;> (try (exfalso; omega))))
    | (simp only [andThenV_normal, andThenV_ret, andThenV_exit, outOfV_normal, outOfV_ret, outOfV_exit, ↓reduceIte, Nat.reduceEqDiff])
    | ((first | refine atEndV_r ?_ | refine atEndV_n ?_); simp (disch := omega) only [go_sem, ↓reduceIte, Nat.reduceEqDiff, Nat.reduceAdd, Nat.reduceMul, Nat.reduceLeDiff, Nat.reduceLT, Nat.reduceSub, Int.reduceToNat, Int.reduceLE, Int.reduceLT, reduceCtorEq, Tree.enc]; try (first | rw [deep_bool_eq] | rw [deep_int_eq] | rw [deep_str_eq])))
  · rw [treeSame_all, hg]; rfl
  have hlen := likeAll_len hg
  refine VC_loop (α := Nat × List TObj × List TObj) (fun y => y.2.1.length) (fun y => [(2, .ptr 0 0), (3, .ptr 1 0), (5, .int .i64 y.1)]) (fun _ => [some ⟨[.sl 4 (a.objs.map TObj.enc)], 0⟩, some ⟨[.sl 4 (b.objs.map TObj.enc)], 0⟩])
    (fun y => (a.objs).drop y.1 = y.2.1 ∧ (b.objs).drop y.1 = y.2.2 ∧ y.1 + y.2.1.length = (a.objs).length ∧ decide (a = b) = versAll y.2.1 y.2.2) ?_ (0, a.objs, b.objs) ?_ ?_
  · rintro ⟨i, ra, rb⟩ ⟨h1, h2, h3, h4⟩
    simp only at h1 h2 h3 h4 ⊢
    cases ra with
    | nil =>
      simp only [List.length_nil] at h3
      have hb : rb = [] := by
        rw [← h2]; exact List.drop_eq_nil_of_le (by omega)
      subst hb
      repeat' (first
    | refine VC_seq ?_ | refine VC_region ?_ | refine VC_block ?_ | refine VC_exit ?_ | refine VC_ret ?_ | refine VC_skip ?_ | refine VO_nil ?_ | refine VC_draw (by kernel_rfl) ?_ | (refine VD_nil ?_; refine ⟨by kernel_rfl, ?_⟩)
    | ((first | refine VO_stepP rfl rfl ?_ | refine VO_goC rfl rfl ?_ | refine VO_guardP rfl rfl rfl ?_ | refine VO_goG rfl rfl rfl ?_ | refine VC_if ?_ | refine VD_stepP rfl rfl ?_ | refine VD_goC rfl rfl ?_ | refine VD_guardP rfl rfl rfl ?_ | refine VD_goG rfl rfl rfl ?_); intro K' hK'; simp (disch := omega) only [go_sem, ↓reduceIte, Nat.reduceEqDiff, Nat.reduceAdd, Nat.reduceMul, Nat.reduceLeDiff, Nat.reduceLT, Nat.reduceSub, Int.reduceToNat, Int.reduceLE, Int.reduceLT, reduceCtorEq, FL_cons]; first
     | ((first | refine hK' _ _ ?_ | refine hK' _ ?_ | refine hK' _ _ _ _ _ _ _ ?_); clear hK' K')
     | (refine ⟨fun hg => ?_, fun hg => ?_⟩ <;> (first | refine hK' _ _ ?_ | refine hK' _ ?_ | refine hK' _ _ _ _ _ _ _ ?_) <;> clear hK' K' <;> (try rw [hg]) <;> (try simp only [decide_eq_true_eq, decide_eq_false_iff_not, ne_eq, Bool.not_eq_true, Bool.not_eq_false, Bool.not_eq_eq_eq_not, Bool.not_true, Bool.not_false, Decidable.not_not, beq_iff_eq, bne_iff_ne, beq_eq_false_iff_ne, Int.not_le, Int.not_lt, reduceCtorEq, not_true_eq_false, not_false_eq_true, Bool.true_eq_false, Bool.false_eq_true, Bool.and_eq_true, Bool.or_eq_false_iff, bne_eq_false_iff_eq, Int.natCast_inj, Int.ofNat_lt] at hg) <;> (try (exfalso; omega))))
    | (simp only [andThenV_normal, andThenV_ret, andThenV_exit, outOfV_normal, outOfV_ret, outOfV_exit, ↓reduceIte, Nat.reduceEqDiff])
    | ((first | refine atEndV_r ?_ | refine atEndV_n ?_); simp (disch := omega) only [go_sem, ↓reduceIte, Nat.reduceEqDiff, Nat.reduceAdd, Nat.reduceMul, Nat.reduceLeDiff, Nat.reduceLT, Nat.reduceSub, Int.reduceToNat, Int.reduceLE, Int.reduceLT, reduceCtorEq, FL_cons]; try (first | rw [deep_bool_eq] | rw [deep_int_eq] | rw [deep_str_eq])))
      rw [h4]; rfl
    | cons x ra =>
      simp only [List.length_cons] at h3
      obtain ⟨k1, k2, k3⟩ := drop_cons h1
      obtain ⟨y, rb, rfl⟩ : ∃ y r, rb = y :: r := by
        cases rb with
        | nil => have := drop_nil h2; omega
        | cons y r => exact ⟨y, r, rfl⟩
      obtain ⟨m1, m2, m3⟩ := drop_cons h2
      skip
      repeat' (first
    | refine VC_seq ?_ | refine VC_region ?_ | refine VC_block ?_ | refine VC_exit ?_ | refine VC_ret ?_ | refine VC_skip ?_ | refine VO_nil ?_ | refine VC_draw (by kernel_rfl) ?_ | (refine VD_nil ?_; refine ⟨by kernel_rfl, ?_⟩)
    | ((first | refine VO_stepP rfl rfl ?_ | refine VO_goC rfl rfl ?_ | refine VO_guardP rfl rfl rfl ?_ | refine VO_goG rfl rfl rfl ?_ | refine VC_if ?_ | refine VD_stepP rfl rfl ?_ | refine VD_goC rfl rfl ?_ | refine VD_guardP rfl rfl rfl ?_ | refine VD_goG rfl rfl rfl ?_); intro K' hK'; simp (disch := omega) only [go_sem, ↓reduceIte, Nat.reduceEqDiff, Nat.reduceAdd, Nat.reduceMul, Nat.reduceLeDiff, Nat.reduceLT, Nat.reduceSub, Int.reduceToNat, Int.reduceLE, Int.reduceLT, reduceCtorEq, FL_cons, k1, m1, TObj.enc]; first
     | ((first | refine hK' _ _ ?_ | refine hK' _ ?_ | refine hK' _ _ _ _ _ _ _ ?_); clear hK' K')
     | (refine ⟨fun hg => ?_, fun hg => ?_⟩ <;> (first | refine hK' _ _ ?_ | refine hK' _ ?_ | refine hK' _ _ _ _ _ _ _ ?_) <;> clear hK' K' <;> (try rw [hg]) <;> (try simp only [decide_eq_true_eq, decide_eq_false_iff_not, ne_eq, Bool.not_eq_true, Bool.not_eq_false, Bool.not_eq_eq_eq_not, Bool.not_true, Bool.not_false, Decidable.not_not, beq_iff_eq, bne_iff_ne, beq_eq_false_iff_ne, Int.not_le, Int.not_lt, reduceCtorEq, not_true_eq_false, not_false_eq_true, Bool.true_eq_false, Bool.false_eq_true, Bool.and_eq_true, Bool.or_eq_false_iff, bne_eq_false_iff_eq, Int.natCast_inj, Int.ofNat_lt] at hg) <;> (try (exfalso; omega))))
    | (simp only [andThenV_normal, andThenV_ret, andThenV_exit, outOfV_normal, outOfV_ret, outOfV_exit, ↓reduceIte, Nat.reduceEqDiff])
    | ((first | refine atEndV_r ?_ | refine atEndV_n ?_); simp (disch := omega) only [go_sem, ↓reduceIte, Nat.reduceEqDiff, Nat.reduceAdd, Nat.reduceMul, Nat.reduceLeDiff, Nat.reduceLT, Nat.reduceSub, Int.reduceToNat, Int.reduceLE, Int.reduceLT, reduceCtorEq, FL_cons, k1, m1, TObj.enc]; try (first | rw [deep_bool_eq] | rw [deep_int_eq] | rw [deep_str_eq])))
      all_goals try (rw [h4]; simp_all [versAll]; done)
      · refine ⟨(i + 1, ra, rb), by simp, ⟨k2, m2, by simp; omega, ?_⟩, ?_⟩
        · rw [h4]; simp_all [versAll]
        · (refine ⟨[0, 1], ?_, ?_, by decide, by simp⟩; (· simp (disch := omega) only [AllRN, go_sem, ↓reduceIte, Nat.reduceEqDiff, Nat.reduceAdd, Nat.reduceMul, Nat.reduceLeDiff, Nat.reduceLT, Nat.reduceSub, Int.reduceToNat, Int.reduceLE, Int.reduceLT, reduceCtorEq, Int.natCast_add, Int.cast_ofNat_Int]; (repeat' (first | exact trivial | (refine ⟨?_, ?_⟩) | exact RN.im rfl | exact RN.any _ _ | exact RN.ptr _ rfl | exact RN.ref _ _ rfl | exact RN.nil _ | (refine RN.int ?_; omega)))); (· (try simp (disch := omega) only [RNH, RNL, Int.natCast_add, Int.cast_ofNat_Int, go_sem, ↓reduceIte, Nat.reduceEqDiff, Nat.reduceAdd, Nat.reduceMul, Nat.reduceLeDiff, Nat.reduceLT, Nat.reduceSub, Int.reduceToNat, Int.reduceLE, Int.reduceLT, reduceCtorEq]); (repeat' (first | exact trivial | (refine ⟨_, rfl, rfl, ?_⟩) | (refine ⟨?_, ?_⟩) | exact RNL.im rfl | exact RN.im rfl | exact RN.any _ _ | exact RN.ptr _ rfl | exact RN.ref _ _ rfl | exact RN.nil _ | (refine RN.int ?_; omega)))))
  · simp [treeSame_all, hg]
  · (refine ⟨[0, 1], ?_, ?_, by decide, by simp⟩; (· simp (disch := omega) only [AllRN, go_sem, ↓reduceIte, Nat.reduceEqDiff, Nat.reduceAdd, Nat.reduceMul, Nat.reduceLeDiff, Nat.reduceLT, Nat.reduceSub, Int.reduceToNat, Int.reduceLE, Int.reduceLT, reduceCtorEq, Int.natCast_add, Int.cast_ofNat_Int]; (repeat' (first | exact trivial | (refine ⟨?_, ?_⟩) | exact RN.im rfl | exact RN.any _ _ | exact RN.ptr _ rfl | exact RN.ref _ _ rfl | exact RN.nil _ | (refine RN.int ?_; omega)))); (· (try simp (disch := omega) only [RNH, RNL, Int.natCast_add, Int.cast_ofNat_Int, go_sem, ↓reduceIte, Nat.reduceEqDiff, Nat.reduceAdd, Nat.reduceMul, Nat.reduceLeDiff, Nat.reduceLT, Nat.reduceSub, Int.reduceToNat, Int.reduceLE, Int.reduceLT, reduceCtorEq]); (repeat' (first | exact trivial | (refine ⟨_, rfl, rfl, ?_⟩) | (refine ⟨?_, ?_⟩) | exact RNL.im rfl | exact RN.im rfl | exact RN.any _ _ | exact RN.ptr _ rfl | exact RN.ref _ _ rfl | exact RN.nil _ | (refine RN.int ?_; omega)))))

theorem pu_impl_TreeSame (a b : Tree) (h : a.tot ≤ 1073741824) : Pu Try.prog X 75 [.agg a.enc, .agg b.enc] (.bool (decide (a = b))) := by
  refine Pu.body Try.func75 rfl (rs := [.tmp 4]) rfl okf_75 (by rw [Try.ntmps75]; simp) ?_
  have hn : a.objs.length ≤ 1073741824 := Nat.le_trans (le_lsum TObj.tot a.objs) h
  repeat' (first
    | refine VC_seq ?_ | refine VC_region ?_ | refine VC_block ?_ | refine VC_exit ?_ | refine VC_ret ?_ | refine VC_skip ?_ | refine VO_nil ?_ | refine VC_draw (by kernel_rfl) ?_ | (refine VD_nil ?_; refine ⟨by kernel_rfl, ?_⟩)
    | ((first | refine VO_stepP rfl rfl ?_ | refine VO_goC rfl rfl ?_ | refine VO_guardP rfl rfl rfl ?_ | refine VO_goG rfl rfl rfl ?_ | refine VC_if ?_ | refine VD_stepP rfl rfl ?_ | refine VD_goC rfl rfl ?_ | refine VD_guardP rfl rfl rfl ?_ | refine VD_goG rfl rfl rfl ?_); intro K' hK'; simp (disch := omega) only [go_sem, ↓reduceIte, Nat.reduceEqDiff, Nat.reduceAdd, Nat.reduceMul, Nat.reduceLeDiff, Nat.reduceLT, Nat.reduceSub, Int.reduceToNat, Int.reduceLE, Int.reduceLT, reduceCtorEq, Tree.enc]; first
     | ((first | refine hK' _ _ ?_ | refine hK' _ ?_ | refine hK' _ _ _ _ _ _ _ ?_); clear hK' K')
     | ((first | refine Pu.g (pu_impl_TreeLike _ _ h) rfl rfl ?_); (first | refine hK' _ _ ?_ | refine hK' _ ?_ | refine hK' _ _ _ _ _ _ _ ?_); clear hK' K')
     | (refine ⟨fun hg => ?_, fun hg => ?_⟩ <;> (first | (first | refine hK' _ _ ?_ | refine hK' _ ?_ | refine hK' _ _ _ _ _ _ _ ?_) | ((first | refine Pu.g (pu_impl_TreeLike _ _ h) rfl rfl ?_); (first | refine hK' _ _ ?_ | refine hK' _ ?_ | refine hK' _ _ _ _ _ _ _ ?_))) <;> clear hK' K' <;> (try rw [hg]) <;> (try simp only [decide_eq_true_eq, decide_eq_false_iff_not, ne_eq, Bool.not_eq_true, Bool.not_eq_false, Bool.not_eq_eq_eq_not, Bool.not_true, Bool.not_false, Decidable.not_not, beq_iff_eq, bne_iff_ne, beq_eq_false_iff_ne, Int.not_le, Int.not_lt, reduceCtorEq, not_true_eq_false, not_false_eq_true, Bool.true_eq_false, Bool.false_eq_true, Bool.and_eq_true, Bool.or_eq_false_iff, bne_eq_false_iff_eq, Int.natCast_inj, Int.ofNat_lt] at hg) <;> (try (exfalso; omega))))
    | (simp only [andThenV_normal, andThenV_ret, andThenV_exit, outOfV_normal, outOfV_ret, outOfV_exit, ↓reduceIte, Nat.reduceEqDiff])
    | ((first | refine atEndV_r ?_ | refine atEndV_n ?_); simp (disch := omega) only [go_sem, ↓reduceIte, Nat.reduceEqDiff, Nat.reduceAdd, Nat.reduceMul, Nat.reduceLeDiff, Nat.reduceLT, Nat.reduceSub, Int.reduceToNat, Int.reduceLE, Int.reduceLT, reduceCtorEq, Tree.enc]; try (first | rw [deep_bool_eq] | rw [deep_int_eq] | rw [deep_str_eq])))
  · rw [treeSame_all, hg]; rfl
  have hlen := likeAll_len hg
  refine VC_loop (α := Nat × List TObj × List TObj) (fun y => y.2.1.length) (fun y => [(2, .ptr 0 0), (3, .ptr 1 0), (12, .int .i64 a.objs.length), (13, .int .i64 y.1)]) (fun _ => [some ⟨[.sl 4 (a.objs.map TObj.enc)], 0⟩, some ⟨[.sl 4 (b.objs.map TObj.enc)], 0⟩])
    (fun y => (a.objs).drop y.1 = y.2.1 ∧ (b.objs).drop y.1 = y.2.2 ∧ y.1 + y.2.1.length = (a.objs).length ∧ decide (a = b) = versAll y.2.1 y.2.2) ?_ (0, a.objs, b.objs) ?_ ?_
  · rintro ⟨i, ra, rb⟩ ⟨h1, h2, h3, h4⟩
    simp only at h1 h2 h3 h4 ⊢
    cases ra with
    | nil =>
      simp only [List.length_nil] at h3
      have hb : rb = [] := by
        rw [← h2]; exact List.drop_eq_nil_of_le (by omega)
      subst hb
      repeat' (first
    | refine VC_seq ?_ | refine VC_region ?_ | refine VC_block ?_ | refine VC_exit ?_ | refine VC_ret ?_ | refine VC_skip ?_ | refine VO_nil ?_ | refine VC_draw (by kernel_rfl) ?_ | (refine VD_nil ?_; refine ⟨by kernel_rfl, ?_⟩)
    | ((first | refine VO_stepP rfl rfl ?_ | refine VO_goC rfl rfl ?_ | refine VO_guardP rfl rfl rfl ?_ | refine VO_goG rfl rfl rfl ?_ | refine VC_if ?_ | refine VD_stepP rfl rfl ?_ | refine VD_goC rfl rfl ?_ | refine VD_guardP rfl rfl rfl ?_ | refine VD_goG rfl rfl rfl ?_); intro K' hK'; simp (disch := omega) only [go_sem, ↓reduceIte, Nat.reduceEqDiff, Nat.reduceAdd, Nat.reduceMul, Nat.reduceLeDiff, Nat.reduceLT, Nat.reduceSub, Int.reduceToNat, Int.reduceLE, Int.reduceLT, reduceCtorEq, FL_cons]; first
     | ((first | refine hK' _ _ ?_ | refine hK' _ ?_ | refine hK' _ _ _ _ _ _ _ ?_); clear hK' K')
     | (refine ⟨fun hg => ?_, fun hg => ?_⟩ <;> (first | refine hK' _ _ ?_ | refine hK' _ ?_ | refine hK' _ _ _ _ _ _ _ ?_) <;> clear hK' K' <;> (try rw [hg]) <;> (try simp only [decide_eq_true_eq, decide_eq_false_iff_not, ne_eq, Bool.not_eq_true, Bool.not_eq_false, Bool.not_eq_eq_eq_not, Bool.not_true, Bool.not_false, Decidable.not_not, beq_iff_eq, bne_iff_ne, beq_eq_false_iff_ne, Int.not_le, Int.not_lt, reduceCtorEq, not_true_eq_false, not_false_eq_true, Bool.true_eq_false, Bool.false_eq_true, Bool.and_eq_true, Bool.or_eq_false_iff, bne_eq_false_iff_eq, Int.natCast_inj, Int.ofNat_lt] at hg) <;> (try (exfalso; omega))))
    | (simp only [andThenV_normal, andThenV_ret, andThenV_exit, outOfV_normal, outOfV_ret, outOfV_exit, ↓reduceIte, Nat.reduceEqDiff])
    | ((first | refine atEndV_r ?_ | refine atEndV_n ?_); simp (disch := omega) only [go_sem, ↓reduceIte, Nat.reduceEqDiff, Nat.reduceAdd, Nat.reduceMul, Nat.reduceLeDiff, Nat.reduceLT, Nat.reduceSub, Int.reduceToNat, Int.reduceLE, Int.reduceLT, reduceCtorEq, FL_cons]; try (first | rw [deep_bool_eq] | rw [deep_int_eq] | rw [deep_str_eq])))
      rw [h4]; rfl
    | cons x ra =>
      simp only [List.length_cons] at h3
      obtain ⟨k1, k2, k3⟩ := drop_cons h1
      obtain ⟨y, rb, rfl⟩ : ∃ y r, rb = y :: r := by
        cases rb with
        | nil => have := drop_nil h2; omega
        | cons y r => exact ⟨y, r, rfl⟩
      obtain ⟨m1, m2, m3⟩ := drop_cons h2
      skip
      repeat' (first
    | refine VC_seq ?_ | refine VC_region ?_ | refine VC_block ?_ | refine VC_exit ?_ | refine VC_ret ?_ | refine VC_skip ?_ | refine VO_nil ?_ | refine VC_draw (by kernel_rfl) ?_ | (refine VD_nil ?_; refine ⟨by kernel_rfl, ?_⟩)
    | ((first | refine VO_stepP rfl rfl ?_ | refine VO_goC rfl rfl ?_ | refine VO_guardP rfl rfl rfl ?_ | refine VO_goG rfl rfl rfl ?_ | refine VC_if ?_ | refine VD_stepP rfl rfl ?_ | refine VD_goC rfl rfl ?_ | refine VD_guardP rfl rfl rfl ?_ | refine VD_goG rfl rfl rfl ?_); intro K' hK'; simp (disch := omega) only [go_sem, ↓reduceIte, Nat.reduceEqDiff, Nat.reduceAdd, Nat.reduceMul, Nat.reduceLeDiff, Nat.reduceLT, Nat.reduceSub, Int.reduceToNat, Int.reduceLE, Int.reduceLT, reduceCtorEq, FL_cons, k1, m1, TObj.enc]; first
     | ((first | refine hK' _ _ ?_ | refine hK' _ ?_ | refine hK' _ _ _ _ _ _ _ ?_); clear hK' K')
     | (refine ⟨fun hg => ?_, fun hg => ?_⟩ <;> (first | refine hK' _ _ ?_ | refine hK' _ ?_ | refine hK' _ _ _ _ _ _ _ ?_) <;> clear hK' K' <;> (try rw [hg]) <;> (try simp only [decide_eq_true_eq, decide_eq_false_iff_not, ne_eq, Bool.not_eq_true, Bool.not_eq_false, Bool.not_eq_eq_eq_not, Bool.not_true, Bool.not_false, Decidable.not_not, beq_iff_eq, bne_iff_ne, beq_eq_false_iff_ne, Int.not_le, Int.not_lt, reduceCtorEq, not_true_eq_false, not_false_eq_true, Bool.true_eq_false, Bool.false_eq_true, Bool.and_eq_true, Bool.or_eq_false_iff, bne_eq_false_iff_eq, Int.natCast_inj, Int.ofNat_lt] at hg) <;> (try (exfalso; omega))))
    | (simp only [andThenV_normal, andThenV_ret, andThenV_exit, outOfV_normal, outOfV_ret, outOfV_exit, ↓reduceIte, Nat.reduceEqDiff])
    | ((first | refine atEndV_r ?_ | refine atEndV_n ?_); simp (disch := omega) only [go_sem, ↓reduceIte, Nat.reduceEqDiff, Nat.reduceAdd, Nat.reduceMul, Nat.reduceLeDiff, Nat.reduceLT, Nat.reduceSub, Int.reduceToNat, Int.reduceLE, Int.reduceLT, reduceCtorEq, FL_cons, k1, m1, TObj.enc]; try (first | rw [deep_bool_eq] | rw [deep_int_eq] | rw [deep_str_eq])))
      all_goals try (rw [h4]; simp_all [versAll]; done)
      · refine ⟨(i + 1, ra, rb), by simp, ⟨k2, m2, by simp; omega, ?_⟩, ?_⟩
        · rw [h4]; simp_all [versAll]
        · (refine ⟨[0, 1], ?_, ?_, by decide, by simp⟩; (· simp (disch := omega) only [AllRN, go_sem, ↓reduceIte, Nat.reduceEqDiff, Nat.reduceAdd, Nat.reduceMul, Nat.reduceLeDiff, Nat.reduceLT, Nat.reduceSub, Int.reduceToNat, Int.reduceLE, Int.reduceLT, reduceCtorEq, Int.natCast_add, Int.cast_ofNat_Int]; (repeat' (first | exact trivial | (refine ⟨?_, ?_⟩) | exact RN.im rfl | exact RN.any _ _ | exact RN.ptr _ rfl | exact RN.ref _ _ rfl | exact RN.nil _ | (refine RN.int ?_; omega)))); (· (try simp (disch := omega) only [RNH, RNL, Int.natCast_add, Int.cast_ofNat_Int, go_sem, ↓reduceIte, Nat.reduceEqDiff, Nat.reduceAdd, Nat.reduceMul, Nat.reduceLeDiff, Nat.reduceLT, Nat.reduceSub, Int.reduceToNat, Int.reduceLE, Int.reduceLT, reduceCtorEq]); (repeat' (first | exact trivial | (refine ⟨_, rfl, rfl, ?_⟩) | (refine ⟨?_, ?_⟩) | exact RNL.im rfl | exact RN.im rfl | exact RN.any _ _ | exact RN.ptr _ rfl | exact RN.ref _ _ rfl | exact RN.nil _ | (refine RN.int ?_; omega)))))
  · simp [treeSame_all, hg]
  · (refine ⟨[0, 1], ?_, ?_, by decide, by simp⟩; (· simp (disch := omega) only [AllRN, go_sem, ↓reduceIte, Nat.reduceEqDiff, Nat.reduceAdd, Nat.reduceMul, Nat.reduceLeDiff, Nat.reduceLT, Nat.reduceSub, Int.reduceToNat, Int.reduceLE, Int.reduceLT, reduceCtorEq, Int.natCast_add, Int.cast_ofNat_Int]; (repeat' (first | exact trivial | (refine ⟨?_, ?_⟩) | exact RN.im rfl | exact RN.any _ _ | exact RN.ptr _ rfl | exact RN.ref _ _ rfl | exact RN.nil _ | (refine RN.int ?_; omega)))); (· (try simp (disch := omega) only [RNH, RNL, Int.natCast_add, Int.cast_ofNat_Int, go_sem, ↓reduceIte, Nat.reduceEqDiff, Nat.reduceAdd, Nat.reduceMul, Nat.reduceLeDiff, Nat.reduceLT, Nat.reduceSub, Int.reduceToNat, Int.reduceLE, Int.reduceLT, reduceCtorEq]); (repeat' (first | exact trivial | (refine ⟨_, rfl, rfl, ?_⟩) | (refine ⟨?_, ?_⟩) | exact RNL.im rfl | exact RN.im rfl | exact RN.any _ _ | exact RN.ptr _ rfl | exact RN.ref _ _ rfl | exact RN.nil _ | (refine RN.int ?_; omega)))))

theorem pu_impl_ShopSame (a b : Shop) (h : a.tot ≤ 1073741824) : Pu Try.prog X 22 [.agg a.enc, .agg b.enc] (.bool (decide (a = b))) := by
  refine Pu.body Try.func22 rfl (rs := [.tmp 4]) rfl okf_22 (by rw [Try.ntmps22]; simp) ?_
  have h1 : a.tree.tot ≤ 1073741824 := by unfold Shop.tot at h; omega
  have h2 : a.dones.length ≤ 1073741824 := by have := le_lsum Done.tot a.dones; unfold Shop.tot at h; omega
  repeat' (first
    | refine VC_seq ?_ | refine VC_region ?_ | refine VC_block ?_ | refine VC_exit ?_ | refine VC_ret ?_ | refine VC_skip ?_ | refine VO_nil ?_ | refine VC_draw (by kernel_rfl) ?_ | (refine VD_nil ?_; refine ⟨by kernel_rfl, ?_⟩)
    | ((first | refine VO_stepP rfl rfl ?_ | refine VO_goC rfl rfl ?_ | refine VO_guardP rfl rfl rfl ?_ | refine VO_goG rfl rfl rfl ?_ | refine VC_if ?_ | refine VD_stepP rfl rfl ?_ | refine VD_goC rfl rfl ?_ | refine VD_guardP rfl rfl rfl ?_ | refine VD_goG rfl rfl rfl ?_); intro K' hK'; simp (disch := omega) only [go_sem, ↓reduceIte, Nat.reduceEqDiff, Nat.reduceAdd, Nat.reduceMul, Nat.reduceLeDiff, Nat.reduceLT, Nat.reduceSub, Int.reduceToNat, Int.reduceLE, Int.reduceLT, reduceCtorEq, Shop.enc]; first
     | ((first | refine hK' _ _ ?_ | refine hK' _ ?_ | refine hK' _ _ _ _ _ _ _ ?_); clear hK' K')
     | ((first | refine Pu.g (pu_impl_TreeSame _ _ h1) rfl rfl ?_ | refine Pu.g (pu_same_Done _ _ h2) rfl rfl ?_); (first | refine hK' _ _ ?_ | refine hK' _ ?_ | refine hK' _ _ _ _ _ _ _ ?_); clear hK' K')
     | (refine ⟨fun hg => ?_, fun hg => ?_⟩ <;> (first | (first | refine hK' _ _ ?_ | refine hK' _ ?_ | refine hK' _ _ _ _ _ _ _ ?_) | ((first | refine Pu.g (pu_impl_TreeSame _ _ h1) rfl rfl ?_ | refine Pu.g (pu_same_Done _ _ h2) rfl rfl ?_); (first | refine hK' _ _ ?_ | refine hK' _ ?_ | refine hK' _ _ _ _ _ _ _ ?_))) <;> clear hK' K' <;> (try rw [hg]) <;> (try simp only [decide_eq_true_eq, decide_eq_false_iff_not, ne_eq, Bool.not_eq_true, Bool.not_eq_false, Bool.not_eq_eq_eq_not, Bool.not_true, Bool.not_false, Decidable.not_not, beq_iff_eq, bne_iff_ne, beq_eq_false_iff_ne, Int.not_le, Int.not_lt, reduceCtorEq, not_true_eq_false, not_false_eq_true, Bool.true_eq_false, Bool.false_eq_true, Bool.and_eq_true, Bool.or_eq_false_iff, bne_eq_false_iff_eq, Int.natCast_inj, Int.ofNat_lt] at hg) <;> (try (exfalso; omega))))
    | (simp only [andThenV_normal, andThenV_ret, andThenV_exit, outOfV_normal, outOfV_ret, outOfV_exit, ↓reduceIte, Nat.reduceEqDiff])
    | ((first | refine atEndV_r ?_ | refine atEndV_n ?_); simp (disch := omega) only [go_sem, ↓reduceIte, Nat.reduceEqDiff, Nat.reduceAdd, Nat.reduceMul, Nat.reduceLeDiff, Nat.reduceLT, Nat.reduceSub, Int.reduceToNat, Int.reduceLE, Int.reduceLT, reduceCtorEq, Shop.enc]; try (first | rw [deep_bool_eq] | rw [deep_int_eq] | rw [deep_str_eq])))
  all_goals (cases a; cases b; simp_all)

theorem pu_spec_ShopSame (a b : Shop) (h : a.tot ≤ 1073741824) : Pu Try.prog X 20 [.agg a.enc, .agg b.enc] (.bool (decide (a = b))) := by
  refine Pu.body Try.func20 rfl (rs := [.tmp 4]) rfl okf_20 (by rw [Try.ntmps20]; simp) ?_
  have h1 : a.tree.tot ≤ 1073741824 := by unfold Shop.tot at h; omega
  have h2 : a.dones.length ≤ 1073741824 := by have := le_lsum Done.tot a.dones; unfold Shop.tot at h; omega
  repeat' (first
    | refine VC_seq ?_ | refine VC_region ?_ | refine VC_block ?_ | refine VC_exit ?_ | refine VC_ret ?_ | refine VC_skip ?_ | refine VO_nil ?_ | refine VC_draw (by kernel_rfl) ?_ | (refine VD_nil ?_; refine ⟨by kernel_rfl, ?_⟩)
    | ((first | refine VO_stepP rfl rfl ?_ | refine VO_goC rfl rfl ?_ | refine VO_guardP rfl rfl rfl ?_ | refine VO_goG rfl rfl rfl ?_ | refine VC_if ?_ | refine VD_stepP rfl rfl ?_ | refine VD_goC rfl rfl ?_ | refine VD_guardP rfl rfl rfl ?_ | refine VD_goG rfl rfl rfl ?_); intro K' hK'; simp (disch := omega) only [go_sem, ↓reduceIte, Nat.reduceEqDiff, Nat.reduceAdd, Nat.reduceMul, Nat.reduceLeDiff, Nat.reduceLT, Nat.reduceSub, Int.reduceToNat, Int.reduceLE, Int.reduceLT, reduceCtorEq, Shop.enc]; first
     | ((first | refine hK' _ _ ?_ | refine hK' _ ?_ | refine hK' _ _ _ _ _ _ _ ?_); clear hK' K')
     | ((first | refine Pu.g (pu_spec_TreeSame _ _ h1) rfl rfl ?_); (first | refine hK' _ _ ?_ | refine hK' _ ?_ | refine hK' _ _ _ _ _ _ _ ?_); clear hK' K')
     | (refine ⟨fun hg => ?_, fun hg => ?_⟩ <;> (first | (first | refine hK' _ _ ?_ | refine hK' _ ?_ | refine hK' _ _ _ _ _ _ _ ?_) | ((first | refine Pu.g (pu_spec_TreeSame _ _ h1) rfl rfl ?_); (first | refine hK' _ _ ?_ | refine hK' _ ?_ | refine hK' _ _ _ _ _ _ _ ?_))) <;> clear hK' K' <;> (try rw [hg]) <;> (try simp only [decide_eq_true_eq, decide_eq_false_iff_not, ne_eq, Bool.not_eq_true, Bool.not_eq_false, Bool.not_eq_eq_eq_not, Bool.not_true, Bool.not_false, Decidable.not_not, beq_iff_eq, bne_iff_ne, beq_eq_false_iff_ne, Int.not_le, Int.not_lt, reduceCtorEq, not_true_eq_false, not_false_eq_true, Bool.true_eq_false, Bool.false_eq_true, Bool.and_eq_true, Bool.or_eq_false_iff, bne_eq_false_iff_eq, Int.natCast_inj, Int.ofNat_lt] at hg) <;> (try (exfalso; omega))))
    | (simp only [andThenV_normal, andThenV_ret, andThenV_exit, outOfV_normal, outOfV_ret, outOfV_exit, ↓reduceIte, Nat.reduceEqDiff])
    | ((first | refine atEndV_r ?_ | refine atEndV_n ?_); simp (disch := omega) only [go_sem, ↓reduceIte, Nat.reduceEqDiff, Nat.reduceAdd, Nat.reduceMul, Nat.reduceLeDiff, Nat.reduceLT, Nat.reduceSub, Int.reduceToNat, Int.reduceLE, Int.reduceLT, reduceCtorEq, Shop.enc]; try (first | rw [deep_bool_eq] | rw [deep_int_eq] | rw [deep_str_eq])))
  all_goals try (cases a; cases b; simp_all; done)
  all_goals try (congr 1; symm; rw [decide_eq_false_iff_not]; rintro rfl; simp_all; done)
  refine VC_loop (α := Nat × List Done × List Done) (fun y => y.2.1.length) (fun y => [(2, .ptr 0 0), (3, .ptr 1 0), (5, .int .i64 y.1)]) (fun _ => [some ⟨[.sl 4 (a.tree.objs.map TObj.enc), .sl 3 (a.dones.map Done.enc)], 0⟩, some ⟨[.sl 4 (b.tree.objs.map TObj.enc), .sl 3 (b.dones.map Done.enc)], 0⟩])
    (fun y => (a.dones).drop y.1 = y.2.1 ∧ (b.dones).drop y.1 = y.2.2 ∧ y.1 + y.2.1.length = (a.dones).length ∧ decide (a = b) = decide (y.2.1 = y.2.2)) ?_ (0, a.dones, b.dones) ?_ ?_
  · rintro ⟨i, ra, rb⟩ ⟨h1, h2, h3, h4⟩
    simp only at h1 h2 h3 h4 ⊢
    cases ra with
    | nil =>
      simp only [List.length_nil] at h3
      have hb : rb = [] := by
        rw [← h2]; exact List.drop_eq_nil_of_le (by omega)
      subst hb
      repeat' (first
    | refine VC_seq ?_ | refine VC_region ?_ | refine VC_block ?_ | refine VC_exit ?_ | refine VC_ret ?_ | refine VC_skip ?_ | refine VO_nil ?_ | refine VC_draw (by kernel_rfl) ?_ | (refine VD_nil ?_; refine ⟨by kernel_rfl, ?_⟩)
    | ((first | refine VO_stepP rfl rfl ?_ | refine VO_goC rfl rfl ?_ | refine VO_guardP rfl rfl rfl ?_ | refine VO_goG rfl rfl rfl ?_ | refine VC_if ?_ | refine VD_stepP rfl rfl ?_ | refine VD_goC rfl rfl ?_ | refine VD_guardP rfl rfl rfl ?_ | refine VD_goG rfl rfl rfl ?_); intro K' hK'; simp (disch := omega) only [go_sem, ↓reduceIte, Nat.reduceEqDiff, Nat.reduceAdd, Nat.reduceMul, Nat.reduceLeDiff, Nat.reduceLT, Nat.reduceSub, Int.reduceToNat, Int.reduceLE, Int.reduceLT, reduceCtorEq, FL_cons]; first
     | ((first | refine hK' _ _ ?_ | refine hK' _ ?_ | refine hK' _ _ _ _ _ _ _ ?_); clear hK' K')
     | (refine ⟨fun hg => ?_, fun hg => ?_⟩ <;> (first | refine hK' _ _ ?_ | refine hK' _ ?_ | refine hK' _ _ _ _ _ _ _ ?_) <;> clear hK' K' <;> (try rw [hg]) <;> (try simp only [decide_eq_true_eq, decide_eq_false_iff_not, ne_eq, Bool.not_eq_true, Bool.not_eq_false, Bool.not_eq_eq_eq_not, Bool.not_true, Bool.not_false, Decidable.not_not, beq_iff_eq, bne_iff_ne, beq_eq_false_iff_ne, Int.not_le, Int.not_lt, reduceCtorEq, not_true_eq_false, not_false_eq_true, Bool.true_eq_false, Bool.false_eq_true, Bool.and_eq_true, Bool.or_eq_false_iff, bne_eq_false_iff_eq, Int.natCast_inj, Int.ofNat_lt] at hg) <;> (try (exfalso; omega))))
    | (simp only [andThenV_normal, andThenV_ret, andThenV_exit, outOfV_normal, outOfV_ret, outOfV_exit, ↓reduceIte, Nat.reduceEqDiff])
    | ((first | refine atEndV_r ?_ | refine atEndV_n ?_); simp (disch := omega) only [go_sem, ↓reduceIte, Nat.reduceEqDiff, Nat.reduceAdd, Nat.reduceMul, Nat.reduceLeDiff, Nat.reduceLT, Nat.reduceSub, Int.reduceToNat, Int.reduceLE, Int.reduceLT, reduceCtorEq, FL_cons]; try (first | rw [deep_bool_eq] | rw [deep_int_eq] | rw [deep_str_eq])))
      rw [h4]; simp
    | cons x ra =>
      simp only [List.length_cons] at h3
      obtain ⟨k1, k2, k3⟩ := drop_cons h1
      obtain ⟨y, rb, rfl⟩ : ∃ y r, rb = y :: r := by
        cases rb with
        | nil => have := drop_nil h2; omega
        | cons y r => exact ⟨y, r, rfl⟩
      obtain ⟨m1, m2, m3⟩ := drop_cons h2
      skip
      repeat' (first
    | refine VC_seq ?_ | refine VC_region ?_ | refine VC_block ?_ | refine VC_exit ?_ | refine VC_ret ?_ | refine VC_skip ?_ | refine VO_nil ?_ | refine VC_draw (by kernel_rfl) ?_ | (refine VD_nil ?_; refine ⟨by kernel_rfl, ?_⟩)
    | ((first | refine VO_stepP rfl rfl ?_ | refine VO_goC rfl rfl ?_ | refine VO_guardP rfl rfl rfl ?_ | refine VO_goG rfl rfl rfl ?_ | refine VC_if ?_ | refine VD_stepP rfl rfl ?_ | refine VD_goC rfl rfl ?_ | refine VD_guardP rfl rfl rfl ?_ | refine VD_goG rfl rfl rfl ?_); intro K' hK'; simp (disch := omega) only [go_sem, ↓reduceIte, Nat.reduceEqDiff, Nat.reduceAdd, Nat.reduceMul, Nat.reduceLeDiff, Nat.reduceLT, Nat.reduceSub, Int.reduceToNat, Int.reduceLE, Int.reduceLT, reduceCtorEq, FL_cons, k1, m1, Done.enc]; first
     | ((first | refine hK' _ _ ?_ | refine hK' _ ?_ | refine hK' _ _ _ _ _ _ _ ?_); clear hK' K')
     | (refine ⟨fun hg => ?_, fun hg => ?_⟩ <;> (first | refine hK' _ _ ?_ | refine hK' _ ?_ | refine hK' _ _ _ _ _ _ _ ?_) <;> clear hK' K' <;> (try rw [hg]) <;> (try simp only [decide_eq_true_eq, decide_eq_false_iff_not, ne_eq, Bool.not_eq_true, Bool.not_eq_false, Bool.not_eq_eq_eq_not, Bool.not_true, Bool.not_false, Decidable.not_not, beq_iff_eq, bne_iff_ne, beq_eq_false_iff_ne, Int.not_le, Int.not_lt, reduceCtorEq, not_true_eq_false, not_false_eq_true, Bool.true_eq_false, Bool.false_eq_true, Bool.and_eq_true, Bool.or_eq_false_iff, bne_eq_false_iff_eq, Int.natCast_inj, Int.ofNat_lt] at hg) <;> (try (exfalso; omega))))
    | (simp only [andThenV_normal, andThenV_ret, andThenV_exit, outOfV_normal, outOfV_ret, outOfV_exit, ↓reduceIte, Nat.reduceEqDiff])
    | ((first | refine atEndV_r ?_ | refine atEndV_n ?_); simp (disch := omega) only [go_sem, ↓reduceIte, Nat.reduceEqDiff, Nat.reduceAdd, Nat.reduceMul, Nat.reduceLeDiff, Nat.reduceLT, Nat.reduceSub, Int.reduceToNat, Int.reduceLE, Int.reduceLT, reduceCtorEq, FL_cons, k1, m1, Done.enc]; try (first | rw [deep_bool_eq] | rw [deep_int_eq] | rw [deep_str_eq])))
      · rw [h4]; congr 1; symm
        simp only [decide_eq_false_iff_not, List.cons.injEq, not_and]
        rintro rfl; simp at hg
      · refine ⟨(i + 1, ra, rb), by simp, ⟨k2, m2, by simp; omega, ?_⟩, ?_⟩
        · rw [h4]
          have : x = y := by cases x; cases y; simp_all
          subst this; simp
        · (refine ⟨[0, 1], ?_, ?_, by decide, by simp⟩; (· simp (disch := omega) only [AllRN, go_sem, ↓reduceIte, Nat.reduceEqDiff, Nat.reduceAdd, Nat.reduceMul, Nat.reduceLeDiff, Nat.reduceLT, Nat.reduceSub, Int.reduceToNat, Int.reduceLE, Int.reduceLT, reduceCtorEq, Int.natCast_add, Int.cast_ofNat_Int]; (repeat' (first | exact trivial | (refine ⟨?_, ?_⟩) | exact RN.im rfl | exact RN.any _ _ | exact RN.ptr _ rfl | exact RN.ref _ _ rfl | exact RN.nil _ | (refine RN.int ?_; omega)))); (· (try simp (disch := omega) only [RNH, RNL, Int.natCast_add, Int.cast_ofNat_Int, go_sem, ↓reduceIte, Nat.reduceEqDiff, Nat.reduceAdd, Nat.reduceMul, Nat.reduceLeDiff, Nat.reduceLT, Nat.reduceSub, Int.reduceToNat, Int.reduceLE, Int.reduceLT, reduceCtorEq]); (repeat' (first | exact trivial | (refine ⟨_, rfl, rfl, ?_⟩) | (refine ⟨?_, ?_⟩) | exact RNL.im rfl | exact RN.im rfl | exact RN.any _ _ | exact RN.ptr _ rfl | exact RN.ref _ _ rfl | exact RN.nil _ | (refine RN.int ?_; omega)))))
  · refine ⟨rfl, rfl, by simp, ?_⟩
    cases a; cases b; simp_all
  · (refine ⟨[0, 1], ?_, ?_, by decide, by simp⟩; (· simp (disch := omega) only [AllRN, go_sem, ↓reduceIte, Nat.reduceEqDiff, Nat.reduceAdd, Nat.reduceMul, Nat.reduceLeDiff, Nat.reduceLT, Nat.reduceSub, Int.reduceToNat, Int.reduceLE, Int.reduceLT, reduceCtorEq, Int.natCast_add, Int.cast_ofNat_Int]; (repeat' (first | exact trivial | (refine ⟨?_, ?_⟩) | exact RN.im rfl | exact RN.any _ _ | exact RN.ptr _ rfl | exact RN.ref _ _ rfl | exact RN.nil _ | (refine RN.int ?_; omega)))); (· (try simp (disch := omega) only [RNH, RNL, Int.natCast_add, Int.cast_ofNat_Int, go_sem, ↓reduceIte, Nat.reduceEqDiff, Nat.reduceAdd, Nat.reduceMul, Nat.reduceLeDiff, Nat.reduceLT, Nat.reduceSub, Int.reduceToNat, Int.reduceLE, Int.reduceLT, reduceCtorEq]); (repeat' (first | exact trivial | (refine ⟨_, rfl, rfl, ?_⟩) | (refine ⟨?_, ?_⟩) | exact RNL.im rfl | exact RN.im rfl | exact RN.any _ _ | exact RN.ptr _ rfl | exact RN.ref _ _ rfl | exact RN.nil _ | (refine RN.int ?_; omega)))))

end Go.Proofs.Ytmbikamebhoelaa.Ai.Av
