/- Walks, joined from W9, W10, W11, W12. No condition. -/
import Derived.Test.YtmbikamebhoelaaWA
set_option linter.unusedVariables false
set_option linter.unusedSimpArgs false
set_option maxRecDepth 8000
namespace Go.Proofs.Ytmbikamebhoelaa.Ai.Av
open Go
variable {X : FuncId → List Value → Value → Prop}
/-- The result and the rows behind a call, told by other numbers. -/
theorem VF.renOut {P : Program} {f : FuncId} {ds : List D} {hv : HV} {Q : D → HV → Prop} (h : VF P X f ds hv (fun d hv' => ∃ d1 hv1, Ren hv.length (FL [(0, d)]) hv' [(0, d1)] hv1 ∧ Q d1 hv1)) : VF P X f ds hv Q := by
  intro c H vs hr ha
  refine (h c H vs hr ha).mono fun v H' hk => ?_
  obtain ⟨c', d, hv', k1, k2, k3, d1, hv1, q1, q2⟩ := hk
  have hs : St ⟨c, hv, H⟩ c' (FL [(0, d)]) hv' (fun _ => v) H' := ⟨fun t => by
    rw [FL_cons]
    split
    · exact k1
    · rw [FL_nil]; simp only [RD], k2, k3⟩
  obtain ⟨c'', hs'⟩ := hs.ren (L := [(0, d1)]) (hv1 := hv1) (by show Ren c.n _ _ _ _; rw [hr.n]; exact q1)
  refine ⟨c'', d1, hv1, ?_, hs'.hr, hs'.sp, q2⟩
  have := hs'.fr 0
  rw [FL_cons, if_pos rfl] at this
  exact this
theorem VF.goFrame {P : Program} {f : FuncId} {ds es : List D} {hv hl : HV} {Q : D → HV → Prop} (keep : List Nat) (ha : RNL keep ds es) (hk : RNH keep hv keep hl) (hnd : keep.Nodup) (hb : ∀ i ∈ keep, i < hv.length)
    (h : VF P X f es hl (fun d hl' => keep.length ≤ hl'.length ∧ Q (d.ren (reN keep hv.length)) (putRows (VRow.ren (reN keep hv.length)) keep hl' hv))) :
    ∃ W, VFw P X f ds hv W (fun d hv1 => (∀ i r, readV hv i = some r → ¬ i ∈ W → readV hv1 i = some r) ∧ Q d hv1) :=
  ⟨keep, VF_frameW keep ha hk hnd hb (h.mono fun d hl' q => ⟨fun i r hi hw => ((putRows_spec _ keep hl' hv hnd hb q.1).2.2.1 i (readV_lt hi) hw).trans hi, q.2⟩)⟩
def cz (n : Int) : D := .int .i64 n
theorem nr_cz (f : List Int) : noRefs (f.map cz) = true := by
  induction f with
  | nil => rfl
  | cons x f ih => simp only [List.map_cons, noRefs, ih, Bool.and_true]; rfl
theorem take_cz (l : List Int) : (l.map cz).take l.length = l.map cz := by rw [List.take_of_length_le (by simp)]
theorem app_cz (l : List Int) (x : Int) : l.map cz ++ [.int .i64 x] = (l ++ [x]).map cz := by simp [cz]
theorem cz_cells (l : List Int) : (if l.length = 0 then some [] else some (l.map cz)) = some (l.map cz) := by split <;> simp_all
theorem renL_cz (f : Nat → Nat) (l : List Int) : renL f (l.map cz) = l.map cz := (noRefs_ok (nr_cz l)).2 f
theorem vf_walk (t : Tree) (hn : t.tot ≤ 1073741824) (h32 : t.objs.length = 32) (hids : ∀ o ∈ t.objs, ∀ k ∈ o.kids, 0 ≤ k.id ∧ k.id ≤ 31) : ∀ (m : Nat) (deep id : Int) (l : List Int), deep + m = 33 → 0 ≤ deep → 0 ≤ id → id ≤ 31 → l.length + (walkF t m id).length ≤ 1000000 →
    VF Try.prog X 123 [.agg t.enc, .int .i64 id, .ref 0 0 l.length, .int .i64 deep] [some ⟨l.map cz, 1⟩] (fun d hv => d = .ref 1 0 (l ++ walkF t m id).length ∧ hv = [none, some ⟨(l ++ walkF t m id).map cz, 1⟩]) := by
  intro m
  induction m with
  | zero =>
    intro deep id l hd hd0 h0 h1 hb
    refine VF.renOut ?_
    simp only [walkF, List.length_singleton] at hb ⊢
    refine VF_body Try.func123 rfl (rs := [.tmp 8]) rfl okf_123 (by rw [Try.ntmps123]; simp) ?_
    repeat' (first
    | refine VC_seq ?_ | refine VC_region ?_ | refine VC_block ?_ | refine VC_exit ?_ | refine VC_ret ?_ | refine VC_skip ?_ | refine VO_nil ?_ | refine VC_draw (by kernel_rfl) ?_ | (refine VD_nil ?_; refine ⟨by kernel_rfl, ?_⟩)
    | ((first | refine VO_stepP rfl rfl ?_ | refine VO_goC rfl rfl ?_ | refine VO_guardP rfl rfl rfl ?_ | refine VO_goG rfl rfl rfl ?_ | refine VC_if ?_ | refine VD_stepP rfl rfl ?_ | refine VD_goC rfl rfl ?_ | refine VD_guardP rfl rfl rfl ?_ | refine VD_goG rfl rfl rfl ?_); intro K' hK'; simp (disch := omega) only [go_sem, ↓reduceIte, Nat.reduceEqDiff, Nat.reduceAdd, Nat.reduceMul, Nat.reduceLeDiff, Nat.reduceLT, Nat.reduceSub, Int.reduceToNat, Int.reduceLE, Int.reduceLT, reduceCtorEq, Tree.enc, Nat.mul_one, Nat.zero_add, List.drop_zero, take_cz, app_cz, List.replicate_one, List.flatten_cons, List.flatten_nil, cz_cells]; first
     | ((first | refine hK' _ _ ?_ | refine hK' _ ?_ | refine hK' _ _ _ _ _ _ _ ?_); clear hK' K')
     | (refine ⟨fun hg => ?_, fun hg => ?_⟩ <;> (first | refine hK' _ _ ?_ | refine hK' _ ?_ | refine hK' _ _ _ _ _ _ _ ?_) <;> clear hK' K' <;> (try rw [hg]) <;> (try simp only [decide_eq_true_eq, decide_eq_false_iff_not, ne_eq, Bool.not_eq_true, Bool.not_eq_false, Bool.not_eq_eq_eq_not, Bool.not_true, Bool.not_false, Decidable.not_not, beq_iff_eq, bne_iff_ne, beq_eq_false_iff_ne, Int.not_le, Int.not_lt, reduceCtorEq, not_true_eq_false, not_false_eq_true, Bool.true_eq_false, Bool.false_eq_true, Bool.and_eq_true, Bool.or_eq_false_iff, bne_eq_false_iff_eq, Int.natCast_inj, Int.ofNat_lt] at hg) <;> (try (exfalso; omega))))
    | (simp only [andThenV_normal, andThenV_ret, andThenV_exit, outOfV_normal, outOfV_ret, outOfV_exit, ↓reduceIte, Nat.reduceEqDiff])
    | ((first | refine atEndV_r ?_ | refine atEndV_n ?_); simp (disch := omega) only [go_sem, ↓reduceIte, Nat.reduceEqDiff, Nat.reduceAdd, Nat.reduceMul, Nat.reduceLeDiff, Nat.reduceLT, Nat.reduceSub, Int.reduceToNat, Int.reduceLE, Int.reduceLT, reduceCtorEq, Tree.enc, Nat.mul_one, Nat.zero_add, List.drop_zero, take_cz, app_cz, List.replicate_one, List.flatten_cons, List.flatten_nil, cz_cells]; try (first | rw [deep_bool_eq] | rw [deep_int_eq] | rw [deep_str_eq])))
    refine ⟨_, _, ?_, rfl, rfl⟩
    (refine ⟨[0, 3], ?_, ?_, by decide, by simp⟩; (· simp (disch := omega) only [AllRN, go_sem, ↓reduceIte, Nat.reduceEqDiff, Nat.reduceAdd, Nat.reduceMul, Nat.reduceLeDiff, Nat.reduceLT, Nat.reduceSub, Int.reduceToNat, Int.reduceLE, Int.reduceLT, reduceCtorEq, Int.natCast_add, Int.cast_ofNat_Int]; (repeat' (first | exact trivial | (refine ⟨?_, ?_⟩) | exact RN.im rfl | exact RN.any _ _ | exact RN.ptr _ rfl | exact RN.ref _ _ rfl | exact RN.nil _ | (refine RN.int ?_; omega) | ((rw [FL_cons, if_pos rfl, List.length_append]; exact RN.ref _ _ rfl)) | ((rw [List.length_append]; exact RN.ref _ _ rfl)) | (exact RNL.im (nr_cz _))))); (· (try simp (disch := omega) only [RNH, RNL, Int.natCast_add, Int.cast_ofNat_Int, go_sem, ↓reduceIte, Nat.reduceEqDiff, Nat.reduceAdd, Nat.reduceMul, Nat.reduceLeDiff, Nat.reduceLT, Nat.reduceSub, Int.reduceToNat, Int.reduceLE, Int.reduceLT, reduceCtorEq]); (repeat' (first | exact trivial | (refine ⟨_, rfl, rfl, ?_⟩) | (refine ⟨?_, ?_⟩) | exact RNL.im rfl | exact RN.im rfl | exact RN.any _ _ | exact RN.ptr _ rfl | exact RN.ref _ _ rfl | exact RN.nil _ | (refine RN.int ?_; omega) | ((rw [FL_cons, if_pos rfl, List.length_append]; exact RN.ref _ _ rfl)) | ((rw [List.length_append]; exact RN.ref _ _ rfl)) | (exact RNL.im (nr_cz _))))))
  | succ m ih =>
    intro deep id l hd hd0 h0 h1 hb
    refine VF.renOut ?_
    obtain ⟨o, ho⟩ : ∃ o, t.objs[id.toNat]? = some o := ⟨_, List.getElem?_eq_getElem (by omega)⟩
    have hat : objAt t id = o := by have := objAt_of ho; rwa [Int.toNat_of_nonneg h0] at this
    have hn2 : lsum TObj.tot t.objs ≤ 1073741824 := hn
    have hko : o.kids.length ≤ 1073741824 := by
      have h1 := mem_lsum TObj.tot (List.mem_of_getElem? ho)
      have h2 := kids_le o
      omega
    simp only [walkF, hat] at hb ⊢
    refine VF_body Try.func123 rfl (rs := [.tmp 8]) rfl okf_123 (by rw [Try.ntmps123]; simp) ?_
    repeat' (first
    | refine VC_seq ?_ | refine VC_region ?_ | refine VC_block ?_ | refine VC_exit ?_ | refine VC_ret ?_ | refine VC_skip ?_ | refine VO_nil ?_ | refine VC_draw (by kernel_rfl) ?_ | (refine VD_nil ?_; refine ⟨by kernel_rfl, ?_⟩)
    | ((first | refine VO_stepP rfl rfl ?_ | refine VO_goC rfl rfl ?_ | refine VO_guardP rfl rfl rfl ?_ | refine VO_goG rfl rfl rfl ?_ | refine VC_if ?_ | refine VD_stepP rfl rfl ?_ | refine VD_goC rfl rfl ?_ | refine VD_guardP rfl rfl rfl ?_ | refine VD_goG rfl rfl rfl ?_); intro K' hK'; simp (disch := omega) only [go_sem, ↓reduceIte, Nat.reduceEqDiff, Nat.reduceAdd, Nat.reduceMul, Nat.reduceLeDiff, Nat.reduceLT, Nat.reduceSub, Int.reduceToNat, Int.reduceLE, Int.reduceLT, reduceCtorEq, Tree.enc, TObj.enc, ho, Nat.mul_one, Nat.zero_add, List.drop_zero, take_cz, app_cz, List.replicate_one, List.flatten_cons, List.flatten_nil, cz_cells]; first
     | ((first | refine hK' _ _ ?_ | refine hK' _ ?_ | refine hK' _ _ _ _ _ _ _ ?_); clear hK' K')
     | (refine ⟨fun hg => ?_, fun hg => ?_⟩ <;> (first | refine hK' _ _ ?_ | refine hK' _ ?_ | refine hK' _ _ _ _ _ _ _ ?_) <;> clear hK' K' <;> (try rw [hg]) <;> (try simp only [decide_eq_true_eq, decide_eq_false_iff_not, ne_eq, Bool.not_eq_true, Bool.not_eq_false, Bool.not_eq_eq_eq_not, Bool.not_true, Bool.not_false, Decidable.not_not, beq_iff_eq, bne_iff_ne, beq_eq_false_iff_ne, Int.not_le, Int.not_lt, reduceCtorEq, not_true_eq_false, not_false_eq_true, Bool.true_eq_false, Bool.false_eq_true, Bool.and_eq_true, Bool.or_eq_false_iff, bne_eq_false_iff_eq, Int.natCast_inj, Int.ofNat_lt] at hg) <;> (try (exfalso; omega))))
    | (simp only [andThenV_normal, andThenV_ret, andThenV_exit, outOfV_normal, outOfV_ret, outOfV_exit, ↓reduceIte, Nat.reduceEqDiff])
    | ((first | refine atEndV_r ?_ | refine atEndV_n ?_); simp (disch := omega) only [go_sem, ↓reduceIte, Nat.reduceEqDiff, Nat.reduceAdd, Nat.reduceMul, Nat.reduceLeDiff, Nat.reduceLT, Nat.reduceSub, Int.reduceToNat, Int.reduceLE, Int.reduceLT, reduceCtorEq, Tree.enc, TObj.enc, ho, Nat.mul_one, Nat.zero_add, List.drop_zero, take_cz, app_cz, List.replicate_one, List.flatten_cons, List.flatten_nil, cz_cells]; try (first | rw [deep_bool_eq] | rw [deep_int_eq] | rw [deep_str_eq])))
    refine VC_loop (α := Nat × List Ent × List Int) (fun y => y.2.1.length) (fun y => [(2, .ref 2 0 y.2.2.length), (3, .int .i64 deep), (4, .ptr 1 0), (23, .sl 2 (o.kids.map Ent.enc)), (24, .int .i64 o.kids.length), (25, .int .i64 y.1)])
      (fun y => [none, some ⟨t.enc, 0⟩, some ⟨y.2.2.map cz, 1⟩])
      (fun y => o.kids.drop y.1 = y.2.1 ∧ y.1 + y.2.1.length = o.kids.length ∧ y.2.2 ++ y.2.1.flatMap (fun k => walkF t m k.id) = l ++ (id :: o.kids.flatMap fun k => walkF t m k.id)) ?_ (0, o.kids, l ++ [id]) ?_ ?_
    · rintro ⟨i, r, out⟩ ⟨h1, h2, h3⟩
      simp only at h1 h2 h3 ⊢
      cases r with
      | nil =>
        simp only [List.length_nil] at h2
        repeat' (first
    | refine VC_seq ?_ | refine VC_region ?_ | refine VC_block ?_ | refine VC_exit ?_ | refine VC_ret ?_ | refine VC_skip ?_ | refine VO_nil ?_ | refine VC_draw (by kernel_rfl) ?_ | (refine VD_nil ?_; refine ⟨by kernel_rfl, ?_⟩)
    | ((first | refine VO_stepP rfl rfl ?_ | refine VO_goC rfl rfl ?_ | refine VO_guardP rfl rfl rfl ?_ | refine VO_goG rfl rfl rfl ?_ | refine VC_if ?_ | refine VD_stepP rfl rfl ?_ | refine VD_goC rfl rfl ?_ | refine VD_guardP rfl rfl rfl ?_ | refine VD_goG rfl rfl rfl ?_); intro K' hK'; simp (disch := omega) only [go_sem, ↓reduceIte, Nat.reduceEqDiff, Nat.reduceAdd, Nat.reduceMul, Nat.reduceLeDiff, Nat.reduceLT, Nat.reduceSub, Int.reduceToNat, Int.reduceLE, Int.reduceLT, reduceCtorEq, FL_cons, Tree.enc]; first
     | ((first | refine hK' _ _ ?_ | refine hK' _ ?_ | refine hK' _ _ _ _ _ _ _ ?_); clear hK' K')
     | (refine ⟨fun hg => ?_, fun hg => ?_⟩ <;> (first | refine hK' _ _ ?_ | refine hK' _ ?_ | refine hK' _ _ _ _ _ _ _ ?_) <;> clear hK' K' <;> (try rw [hg]) <;> (try simp only [decide_eq_true_eq, decide_eq_false_iff_not, ne_eq, Bool.not_eq_true, Bool.not_eq_false, Bool.not_eq_eq_eq_not, Bool.not_true, Bool.not_false, Decidable.not_not, beq_iff_eq, bne_iff_ne, beq_eq_false_iff_ne, Int.not_le, Int.not_lt, reduceCtorEq, not_true_eq_false, not_false_eq_true, Bool.true_eq_false, Bool.false_eq_true, Bool.and_eq_true, Bool.or_eq_false_iff, bne_eq_false_iff_eq, Int.natCast_inj, Int.ofNat_lt] at hg) <;> (try (exfalso; omega))))
    | (simp only [andThenV_normal, andThenV_ret, andThenV_exit, outOfV_normal, outOfV_ret, outOfV_exit, ↓reduceIte, Nat.reduceEqDiff])
    | ((first | refine atEndV_r ?_ | refine atEndV_n ?_); simp (disch := omega) only [go_sem, ↓reduceIte, Nat.reduceEqDiff, Nat.reduceAdd, Nat.reduceMul, Nat.reduceLeDiff, Nat.reduceLT, Nat.reduceSub, Int.reduceToNat, Int.reduceLE, Int.reduceLT, reduceCtorEq, FL_cons, Tree.enc]; try (first | rw [deep_bool_eq] | rw [deep_int_eq] | rw [deep_str_eq])))
        simp only [List.flatMap_nil, List.append_nil] at h3
        rw [← h3]
        refine ⟨_, _, ?_, rfl, rfl⟩
        (refine ⟨[0, 2], ?_, ?_, by decide, by simp⟩; (· simp (disch := omega) only [AllRN, go_sem, ↓reduceIte, Nat.reduceEqDiff, Nat.reduceAdd, Nat.reduceMul, Nat.reduceLeDiff, Nat.reduceLT, Nat.reduceSub, Int.reduceToNat, Int.reduceLE, Int.reduceLT, reduceCtorEq, Int.natCast_add, Int.cast_ofNat_Int]; (repeat' (first | exact trivial | (refine ⟨?_, ?_⟩) | exact RN.im rfl | exact RN.any _ _ | exact RN.ptr _ rfl | exact RN.ref _ _ rfl | exact RN.nil _ | (refine RN.int ?_; omega) | (exact RNL.im (nr_cz _))))); (· (try simp (disch := omega) only [RNH, RNL, Int.natCast_add, Int.cast_ofNat_Int, go_sem, ↓reduceIte, Nat.reduceEqDiff, Nat.reduceAdd, Nat.reduceMul, Nat.reduceLeDiff, Nat.reduceLT, Nat.reduceSub, Int.reduceToNat, Int.reduceLE, Int.reduceLT, reduceCtorEq]); (repeat' (first | exact trivial | (refine ⟨_, rfl, rfl, ?_⟩) | (refine ⟨?_, ?_⟩) | exact RNL.im rfl | exact RN.im rfl | exact RN.any _ _ | exact RN.ptr _ rfl | exact RN.ref _ _ rfl | exact RN.nil _ | (refine RN.int ?_; omega) | (exact RNL.im (nr_cz _))))))
      | cons k r =>
        simp only [List.length_cons] at h2
        obtain ⟨k1, k2, k3⟩ := drop_cons h1
        have hid := hids o (List.mem_of_getElem? ho) k (List.mem_of_getElem? k1)
        have hlen := congrArg List.length h3
        simp only [List.flatMap_cons, List.length_append, List.length_cons] at hlen hb
        have hkl : out.length + (walkF t m k.id).length ≤ 1000000 := by omega
        repeat' (first
    | refine VC_seq ?_ | refine VC_region ?_ | refine VC_block ?_ | refine VC_exit ?_ | refine VC_ret ?_ | refine VC_skip ?_ | refine VO_nil ?_ | refine VC_draw (by kernel_rfl) ?_ | (refine VD_nil ?_; refine ⟨by kernel_rfl, ?_⟩)
    | ((first | refine VO_stepP rfl rfl ?_ | refine VO_goC rfl rfl ?_ | refine VO_guardP rfl rfl rfl ?_ | refine VO_goG rfl rfl rfl ?_ | refine VC_if ?_ | refine VD_stepP rfl rfl ?_ | refine VD_goC rfl rfl ?_ | refine VD_guardP rfl rfl rfl ?_ | refine VD_goG rfl rfl rfl ?_); intro K' hK'; simp (disch := omega) only [go_sem, ↓reduceIte, Nat.reduceEqDiff, Nat.reduceAdd, Nat.reduceMul, Nat.reduceLeDiff, Nat.reduceLT, Nat.reduceSub, Int.reduceToNat, Int.reduceLE, Int.reduceLT, reduceCtorEq, FL_cons, k1, Tree.enc, Ent.enc]; first
     | ((first | refine hK' _ _ ?_ | refine hK' _ ?_ | refine hK' _ _ _ _ _ _ _ ?_); clear hK' K')
     | ((first | (refine VF_frame [2] (by simp only [RNL]; exact ⟨RN.im rfl, RN.int rfl, RN.ref _ _ rfl, RN.int rfl, trivial⟩) (by simp only [RNH]; exact ⟨⟨_, rfl, rfl, RNL.im (nr_cz _)⟩, trivial⟩) (by simp) (by simp) ((ih (deep + 1) k.id out (by omega) (by omega) (by omega) (by omega) hkl).mono ?_); rintro _ _ ⟨rfl, rfl⟩)); (first | refine hK' _ _ ?_ | refine hK' _ ?_ | refine hK' _ _ _ _ _ _ _ ?_); clear hK' K')
     | (refine ⟨fun hg => ?_, fun hg => ?_⟩ <;> (first | (first | refine hK' _ _ ?_ | refine hK' _ ?_ | refine hK' _ _ _ _ _ _ _ ?_) | ((first | (refine VF_frame [2] (by simp only [RNL]; exact ⟨RN.im rfl, RN.int rfl, RN.ref _ _ rfl, RN.int rfl, trivial⟩) (by simp only [RNH]; exact ⟨⟨_, rfl, rfl, RNL.im (nr_cz _)⟩, trivial⟩) (by simp) (by simp) ((ih (deep + 1) k.id out (by omega) (by omega) (by omega) (by omega) hkl).mono ?_); rintro _ _ ⟨rfl, rfl⟩)); (first | refine hK' _ _ ?_ | refine hK' _ ?_ | refine hK' _ _ _ _ _ _ _ ?_))) <;> clear hK' K' <;> (try rw [hg]) <;> (try simp only [decide_eq_true_eq, decide_eq_false_iff_not, ne_eq, Bool.not_eq_true, Bool.not_eq_false, Bool.not_eq_eq_eq_not, Bool.not_true, Bool.not_false, Decidable.not_not, beq_iff_eq, bne_iff_ne, beq_eq_false_iff_ne, Int.not_le, Int.not_lt, reduceCtorEq, not_true_eq_false, not_false_eq_true, Bool.true_eq_false, Bool.false_eq_true, Bool.and_eq_true, Bool.or_eq_false_iff, bne_eq_false_iff_eq, Int.natCast_inj, Int.ofNat_lt] at hg) <;> (try (exfalso; omega))))
    | (simp only [andThenV_normal, andThenV_ret, andThenV_exit, outOfV_normal, outOfV_ret, outOfV_exit, ↓reduceIte, Nat.reduceEqDiff])
    | ((first | refine atEndV_r ?_ | refine atEndV_n ?_); simp (disch := omega) only [go_sem, ↓reduceIte, Nat.reduceEqDiff, Nat.reduceAdd, Nat.reduceMul, Nat.reduceLeDiff, Nat.reduceLT, Nat.reduceSub, Int.reduceToNat, Int.reduceLE, Int.reduceLT, reduceCtorEq, FL_cons, k1, Tree.enc, Ent.enc]; try (first | rw [deep_bool_eq] | rw [deep_int_eq] | rw [deep_str_eq])))
        refine VO_goC rfl rfl ?_
        intro K' hK'
        simp (disch := omega) only [go_sem, ↓reduceIte, Nat.reduceEqDiff, Nat.reduceAdd, Nat.reduceMul, Nat.reduceLeDiff, Nat.reduceLT, Nat.reduceSub, Int.reduceToNat, Int.reduceLE, Int.reduceLT, reduceCtorEq, FL_cons, k1, Tree.enc, Ent.enc]
        refine VF.goFrame [2] (es := [.agg t.enc, .int .i64 k.id, .ref 0 0 out.length, .int .i64 (deep + 1)]) (hl := [some ⟨out.map cz, 1⟩]) ?_ ?_ (by simp) (by simp) ((ih (deep + 1) k.id out (by omega) (by omega) (by omega) (by omega) hkl).mono ?_)
        · simp only [RNL]; exact ⟨RN.im rfl, RN.int rfl, RN.ref _ _ rfl, RN.int rfl, trivial⟩
        · simp only [RNH]; exact ⟨⟨_, rfl, rfl, RNL.im (nr_cz _)⟩, trivial⟩
        rintro _ _ ⟨rfl, rfl⟩
        refine ⟨by simp, hK' _ _ ?_⟩
        clear hK' K'
        simp only [D.ren, reN, putRows, VRow.ren, renL_cz, List.length_cons, List.length_nil, List.map_cons, List.map_nil, Option.map_some, Option.map_none, List.set_cons_succ, List.set_cons_zero, List.cons_append, List.nil_append, ↓reduceIte, Nat.reduceLT, Nat.reduceAdd, Nat.reduceSub, Nat.lt_irrefl]
        repeat' (first
    | refine VC_seq ?_ | refine VC_region ?_ | refine VC_block ?_ | refine VC_exit ?_ | refine VC_ret ?_ | refine VC_skip ?_ | refine VO_nil ?_ | refine VC_draw (by kernel_rfl) ?_ | (refine VD_nil ?_; refine ⟨by kernel_rfl, ?_⟩)
    | ((first | refine VO_stepP rfl rfl ?_ | refine VO_goC rfl rfl ?_ | refine VO_guardP rfl rfl rfl ?_ | refine VO_goG rfl rfl rfl ?_ | refine VC_if ?_ | refine VD_stepP rfl rfl ?_ | refine VD_goC rfl rfl ?_ | refine VD_guardP rfl rfl rfl ?_ | refine VD_goG rfl rfl rfl ?_); intro K' hK'; simp (disch := omega) only [go_sem, ↓reduceIte, Nat.reduceEqDiff, Nat.reduceAdd, Nat.reduceMul, Nat.reduceLeDiff, Nat.reduceLT, Nat.reduceSub, Int.reduceToNat, Int.reduceLE, Int.reduceLT, reduceCtorEq, FL_cons, Tree.enc]; first
     | ((first | refine hK' _ _ ?_ | refine hK' _ ?_ | refine hK' _ _ _ _ _ _ _ ?_); clear hK' K')
     | (refine ⟨fun hg => ?_, fun hg => ?_⟩ <;> (first | refine hK' _ _ ?_ | refine hK' _ ?_ | refine hK' _ _ _ _ _ _ _ ?_) <;> clear hK' K' <;> (try rw [hg]) <;> (try simp only [decide_eq_true_eq, decide_eq_false_iff_not, ne_eq, Bool.not_eq_true, Bool.not_eq_false, Bool.not_eq_eq_eq_not, Bool.not_true, Bool.not_false, Decidable.not_not, beq_iff_eq, bne_iff_ne, beq_eq_false_iff_ne, Int.not_le, Int.not_lt, reduceCtorEq, not_true_eq_false, not_false_eq_true, Bool.true_eq_false, Bool.false_eq_true, Bool.and_eq_true, Bool.or_eq_false_iff, bne_eq_false_iff_eq, Int.natCast_inj, Int.ofNat_lt] at hg) <;> (try (exfalso; omega))))
    | (simp only [andThenV_normal, andThenV_ret, andThenV_exit, outOfV_normal, outOfV_ret, outOfV_exit, ↓reduceIte, Nat.reduceEqDiff])
    | ((first | refine atEndV_r ?_ | refine atEndV_n ?_); simp (disch := omega) only [go_sem, ↓reduceIte, Nat.reduceEqDiff, Nat.reduceAdd, Nat.reduceMul, Nat.reduceLeDiff, Nat.reduceLT, Nat.reduceSub, Int.reduceToNat, Int.reduceLE, Int.reduceLT, reduceCtorEq, FL_cons, Tree.enc]; try (first | rw [deep_bool_eq] | rw [deep_int_eq] | rw [deep_str_eq])))
        refine ⟨(i + 1, r, out ++ walkF t m k.id), by simp, ⟨k2, by simp; omega, by rw [← h3]; simp⟩, ?_⟩
        (refine ⟨[0, 1, 4], ?_, ?_, by decide, by simp⟩; (· simp (disch := omega) only [AllRN, go_sem, ↓reduceIte, Nat.reduceEqDiff, Nat.reduceAdd, Nat.reduceMul, Nat.reduceLeDiff, Nat.reduceLT, Nat.reduceSub, Int.reduceToNat, Int.reduceLE, Int.reduceLT, reduceCtorEq, Int.natCast_add, Int.cast_ofNat_Int]; (repeat' (first | exact trivial | (refine ⟨?_, ?_⟩) | exact RN.im rfl | exact RN.any _ _ | exact RN.ptr _ rfl | exact RN.ref _ _ rfl | exact RN.nil _ | (refine RN.int ?_; omega) | (exact RNL.im (nr_cz _))))); (· (try simp (disch := omega) only [RNH, RNL, Int.natCast_add, Int.cast_ofNat_Int, go_sem, ↓reduceIte, Nat.reduceEqDiff, Nat.reduceAdd, Nat.reduceMul, Nat.reduceLeDiff, Nat.reduceLT, Nat.reduceSub, Int.reduceToNat, Int.reduceLE, Int.reduceLT, reduceCtorEq]); (repeat' (first | exact trivial | (refine ⟨_, rfl, rfl, ?_⟩) | (refine ⟨?_, ?_⟩) | exact RNL.im rfl | exact RN.im rfl | exact RN.any _ _ | exact RN.ptr _ rfl | exact RN.ref _ _ rfl | exact RN.nil _ | (refine RN.int ?_; omega) | (exact RNL.im (nr_cz _))))))
    · exact ⟨rfl, by simp, by simp⟩
    · (refine ⟨[0, 1, 3], ?_, ?_, by decide, by simp⟩; (· simp (disch := omega) only [AllRN, go_sem, ↓reduceIte, Nat.reduceEqDiff, Nat.reduceAdd, Nat.reduceMul, Nat.reduceLeDiff, Nat.reduceLT, Nat.reduceSub, Int.reduceToNat, Int.reduceLE, Int.reduceLT, reduceCtorEq, Int.natCast_add, Int.cast_ofNat_Int]; (repeat' (first | exact trivial | (refine ⟨?_, ?_⟩) | exact RN.im rfl | exact RN.any _ _ | exact RN.ptr _ rfl | exact RN.ref _ _ rfl | exact RN.nil _ | (refine RN.int ?_; omega) | ((rw [FL_cons, if_pos rfl, List.length_append]; exact RN.ref _ _ rfl)) | ((rw [List.length_append]; exact RN.ref _ _ rfl)) | (exact RNL.im (nr_cz _))))); (· (try simp (disch := omega) only [RNH, RNL, Int.natCast_add, Int.cast_ofNat_Int, go_sem, ↓reduceIte, Nat.reduceEqDiff, Nat.reduceAdd, Nat.reduceMul, Nat.reduceLeDiff, Nat.reduceLT, Nat.reduceSub, Int.reduceToNat, Int.reduceLE, Int.reduceLT, reduceCtorEq]); (repeat' (first | exact trivial | (refine ⟨_, rfl, rfl, ?_⟩) | (refine ⟨?_, ?_⟩) | exact RNL.im rfl | exact RN.im rfl | exact RN.any _ _ | exact RN.ptr _ rfl | exact RN.ref _ _ rfl | exact RN.nil _ | (refine RN.int ?_; omega) | ((rw [FL_cons, if_pos rfl, List.length_append]; exact RN.ref _ _ rfl)) | ((rw [List.length_append]; exact RN.ref _ _ rfl)) | (exact RNL.im (nr_cz _))))))

theorem pu_walk (t : Tree) (hn : t.tot ≤ 1073741824) (h32 : t.objs.length = 32) (hids : ∀ o ∈ t.objs, ∀ k ∈ o.kids, 0 ≤ k.id ∧ k.id ≤ 31) (hb : (walkF t 33 0).length ≤ 1000000) :
    Pu Try.prog X 123 [.agg t.enc, .int .i64 0, .nil, .int .i64 0] (.sl 1 ((walkF t 33 0).map fun x => [cz x])) := by
  obtain ⟨o, ho⟩ : ∃ o, t.objs[0]? = some o := ⟨_, List.getElem?_eq_getElem (by omega)⟩
  have hat : objAt t 0 = o := objAt_of (i := 0) ho
  have hn2 : lsum TObj.tot t.objs ≤ 1073741824 := hn
  have hko : o.kids.length ≤ 1073741824 := by
    have h1 := mem_lsum TObj.tot (List.mem_of_getElem? ho)
    have h2 := kids_le o
    omega
  have hw : walkF t 33 0 = 0 :: o.kids.flatMap fun k => walkF t 32 k.id := by rw [← hat]; rfl
  generalize walkF t 33 0 = wl at hb hw ⊢
  refine Pu.body Try.func123 rfl (rs := [.tmp 8]) rfl okf_123 (by rw [Try.ntmps123]; simp) ?_
  repeat' (first
    | refine VC_seq ?_ | refine VC_region ?_ | refine VC_block ?_ | refine VC_exit ?_ | refine VC_ret ?_ | refine VC_skip ?_ | refine VO_nil ?_ | refine VC_draw (by kernel_rfl) ?_ | (refine VD_nil ?_; refine ⟨by kernel_rfl, ?_⟩)
    | ((first | refine VO_stepP rfl rfl ?_ | refine VO_goC rfl rfl ?_ | refine VO_guardP rfl rfl rfl ?_ | refine VO_goG rfl rfl rfl ?_ | refine VC_if ?_ | refine VD_stepP rfl rfl ?_ | refine VD_goC rfl rfl ?_ | refine VD_guardP rfl rfl rfl ?_ | refine VD_goG rfl rfl rfl ?_); intro K' hK'; simp (disch := omega) only [go_sem, ↓reduceIte, Nat.reduceEqDiff, Nat.reduceAdd, Nat.reduceMul, Nat.reduceLeDiff, Nat.reduceLT, Nat.reduceSub, Int.reduceToNat, Int.reduceLE, Int.reduceLT, reduceCtorEq, Tree.enc, TObj.enc, ho, Nat.mul_one, Nat.zero_add, List.drop_zero, List.replicate_one, List.flatten_cons, List.flatten_nil]; first
     | ((first | refine hK' _ _ ?_ | refine hK' _ ?_ | refine hK' _ _ _ _ _ _ _ ?_); clear hK' K')
     | (refine ⟨fun hg => ?_, fun hg => ?_⟩ <;> (first | refine hK' _ _ ?_ | refine hK' _ ?_ | refine hK' _ _ _ _ _ _ _ ?_) <;> clear hK' K' <;> (try rw [hg]) <;> (try simp only [decide_eq_true_eq, decide_eq_false_iff_not, ne_eq, Bool.not_eq_true, Bool.not_eq_false, Bool.not_eq_eq_eq_not, Bool.not_true, Bool.not_false, Decidable.not_not, beq_iff_eq, bne_iff_ne, beq_eq_false_iff_ne, Int.not_le, Int.not_lt, reduceCtorEq, not_true_eq_false, not_false_eq_true, Bool.true_eq_false, Bool.false_eq_true, Bool.and_eq_true, Bool.or_eq_false_iff, bne_eq_false_iff_eq, Int.natCast_inj, Int.ofNat_lt] at hg) <;> (try (exfalso; omega))))
    | (simp only [andThenV_normal, andThenV_ret, andThenV_exit, outOfV_normal, outOfV_ret, outOfV_exit, ↓reduceIte, Nat.reduceEqDiff])
    | ((first | refine atEndV_r ?_ | refine atEndV_n ?_); simp (disch := omega) only [go_sem, ↓reduceIte, Nat.reduceEqDiff, Nat.reduceAdd, Nat.reduceMul, Nat.reduceLeDiff, Nat.reduceLT, Nat.reduceSub, Int.reduceToNat, Int.reduceLE, Int.reduceLT, reduceCtorEq, Tree.enc, TObj.enc, ho, Nat.mul_one, Nat.zero_add, List.drop_zero, List.replicate_one, List.flatten_cons, List.flatten_nil]; try (first | rw [deep_bool_eq] | rw [deep_int_eq] | rw [deep_str_eq])))
  refine VC_loop (α := Nat × List Ent × List Int) (fun y => y.2.1.length) (fun y => [(2, .ref 1 0 y.2.2.length), (3, .int .i64 0), (4, .ptr 0 0), (23, .sl 2 (o.kids.map Ent.enc)), (24, .int .i64 o.kids.length), (25, .int .i64 y.1)])
    (fun y => [some ⟨t.enc, 0⟩, some ⟨y.2.2.map cz, 1⟩])
    (fun y => o.kids.drop y.1 = y.2.1 ∧ y.1 + y.2.1.length = o.kids.length ∧ y.2.2 ++ y.2.1.flatMap (fun k => walkF t 32 k.id) = wl) ?_ (0, o.kids, [0]) ?_ ?_
  · rintro ⟨i, r, out⟩ ⟨h1, h2, h3⟩
    simp only at h1 h2 h3 ⊢
    cases r with
    | nil =>
      simp only [List.length_nil] at h2
      repeat' (first
    | refine VC_seq ?_ | refine VC_region ?_ | refine VC_block ?_ | refine VC_exit ?_ | refine VC_ret ?_ | refine VC_skip ?_ | refine VO_nil ?_ | refine VC_draw (by kernel_rfl) ?_ | (refine VD_nil ?_; refine ⟨by kernel_rfl, ?_⟩)
    | ((first | refine VO_stepP rfl rfl ?_ | refine VO_goC rfl rfl ?_ | refine VO_guardP rfl rfl rfl ?_ | refine VO_goG rfl rfl rfl ?_ | refine VC_if ?_ | refine VD_stepP rfl rfl ?_ | refine VD_goC rfl rfl ?_ | refine VD_guardP rfl rfl rfl ?_ | refine VD_goG rfl rfl rfl ?_); intro K' hK'; simp (disch := omega) only [go_sem, ↓reduceIte, Nat.reduceEqDiff, Nat.reduceAdd, Nat.reduceMul, Nat.reduceLeDiff, Nat.reduceLT, Nat.reduceSub, Int.reduceToNat, Int.reduceLE, Int.reduceLT, reduceCtorEq, FL_cons, Tree.enc]; first
     | ((first | refine hK' _ _ ?_ | refine hK' _ ?_ | refine hK' _ _ _ _ _ _ _ ?_); clear hK' K')
     | (refine ⟨fun hg => ?_, fun hg => ?_⟩ <;> (first | refine hK' _ _ ?_ | refine hK' _ ?_ | refine hK' _ _ _ _ _ _ _ ?_) <;> clear hK' K' <;> (try rw [hg]) <;> (try simp only [decide_eq_true_eq, decide_eq_false_iff_not, ne_eq, Bool.not_eq_true, Bool.not_eq_false, Bool.not_eq_eq_eq_not, Bool.not_true, Bool.not_false, Decidable.not_not, beq_iff_eq, bne_iff_ne, beq_eq_false_iff_ne, Int.not_le, Int.not_lt, reduceCtorEq, not_true_eq_false, not_false_eq_true, Bool.true_eq_false, Bool.false_eq_true, Bool.and_eq_true, Bool.or_eq_false_iff, bne_eq_false_iff_eq, Int.natCast_inj, Int.ofNat_lt] at hg) <;> (try (exfalso; omega))))
    | (simp only [andThenV_normal, andThenV_ret, andThenV_exit, outOfV_normal, outOfV_ret, outOfV_exit, ↓reduceIte, Nat.reduceEqDiff])
    | ((first | refine atEndV_r ?_ | refine atEndV_n ?_); simp (disch := omega) only [go_sem, ↓reduceIte, Nat.reduceEqDiff, Nat.reduceAdd, Nat.reduceMul, Nat.reduceLeDiff, Nat.reduceLT, Nat.reduceSub, Int.reduceToNat, Int.reduceLE, Int.reduceLT, reduceCtorEq, FL_cons, Tree.enc]; try (first | rw [deep_bool_eq] | rw [deep_int_eq] | rw [deep_str_eq])))
      simp only [List.flatMap_nil, List.append_nil] at h3
      rw [← h3]
      exact deep_list (e := 1) (by simp) (by rw [sing_flat]; rfl) (by intro r hr; obtain ⟨x, _, rfl⟩ := List.mem_map.1 hr; exact ⟨rfl, rfl⟩) (by simp)
    | cons k r =>
      simp only [List.length_cons] at h2
      obtain ⟨k1, k2, k3⟩ := drop_cons h1
      have hid := hids o (List.mem_of_getElem? ho) k (List.mem_of_getElem? k1)
      have hlen := congrArg List.length h3
      simp only [List.flatMap_cons, List.length_append, List.length_cons] at hlen
      have hkl : out.length + (walkF t 32 k.id).length ≤ 1000000 := by omega
      repeat' (first
    | refine VC_seq ?_ | refine VC_region ?_ | refine VC_block ?_ | refine VC_exit ?_ | refine VC_ret ?_ | refine VC_skip ?_ | refine VO_nil ?_ | refine VC_draw (by kernel_rfl) ?_ | (refine VD_nil ?_; refine ⟨by kernel_rfl, ?_⟩)
    | ((first | refine VO_stepP rfl rfl ?_ | refine VO_goC rfl rfl ?_ | refine VO_guardP rfl rfl rfl ?_ | refine VO_goG rfl rfl rfl ?_ | refine VC_if ?_ | refine VD_stepP rfl rfl ?_ | refine VD_goC rfl rfl ?_ | refine VD_guardP rfl rfl rfl ?_ | refine VD_goG rfl rfl rfl ?_); intro K' hK'; simp (disch := omega) only [go_sem, ↓reduceIte, Nat.reduceEqDiff, Nat.reduceAdd, Nat.reduceMul, Nat.reduceLeDiff, Nat.reduceLT, Nat.reduceSub, Int.reduceToNat, Int.reduceLE, Int.reduceLT, reduceCtorEq, FL_cons, k1, Tree.enc, Ent.enc]; first
     | ((first | refine hK' _ _ ?_ | refine hK' _ ?_ | refine hK' _ _ _ _ _ _ _ ?_); clear hK' K')
     | (refine ⟨fun hg => ?_, fun hg => ?_⟩ <;> (first | refine hK' _ _ ?_ | refine hK' _ ?_ | refine hK' _ _ _ _ _ _ _ ?_) <;> clear hK' K' <;> (try rw [hg]) <;> (try simp only [decide_eq_true_eq, decide_eq_false_iff_not, ne_eq, Bool.not_eq_true, Bool.not_eq_false, Bool.not_eq_eq_eq_not, Bool.not_true, Bool.not_false, Decidable.not_not, beq_iff_eq, bne_iff_ne, beq_eq_false_iff_ne, Int.not_le, Int.not_lt, reduceCtorEq, not_true_eq_false, not_false_eq_true, Bool.true_eq_false, Bool.false_eq_true, Bool.and_eq_true, Bool.or_eq_false_iff, bne_eq_false_iff_eq, Int.natCast_inj, Int.ofNat_lt] at hg) <;> (try (exfalso; omega))))
    | (simp only [andThenV_normal, andThenV_ret, andThenV_exit, outOfV_normal, outOfV_ret, outOfV_exit, ↓reduceIte, Nat.reduceEqDiff])
    | ((first | refine atEndV_r ?_ | refine atEndV_n ?_); simp (disch := omega) only [go_sem, ↓reduceIte, Nat.reduceEqDiff, Nat.reduceAdd, Nat.reduceMul, Nat.reduceLeDiff, Nat.reduceLT, Nat.reduceSub, Int.reduceToNat, Int.reduceLE, Int.reduceLT, reduceCtorEq, FL_cons, k1, Tree.enc, Ent.enc]; try (first | rw [deep_bool_eq] | rw [deep_int_eq] | rw [deep_str_eq])))
      refine VO_goC rfl rfl ?_
      intro K' hK'
      simp (disch := omega) only [go_sem, ↓reduceIte, Nat.reduceEqDiff, Nat.reduceAdd, Nat.reduceMul, Nat.reduceLeDiff, Nat.reduceLT, Nat.reduceSub, Int.reduceToNat, Int.reduceLE, Int.reduceLT, reduceCtorEq, FL_cons, k1, Tree.enc, Ent.enc]
      refine VF.goFrame [1] (es := [.agg t.enc, .int .i64 k.id, .ref 0 0 out.length, .int .i64 1]) (hl := [some ⟨out.map cz, 1⟩]) ?_ ?_ (by simp) (by simp) ((vf_walk t hn h32 hids 32 1 k.id out (by omega) (by omega) (by omega) (by omega) hkl).mono ?_)
      · simp only [RNL]; exact ⟨RN.im rfl, RN.int rfl, RN.ref _ _ rfl, RN.int (by omega), trivial⟩
      · simp only [RNH]; exact ⟨⟨_, rfl, rfl, RNL.im (nr_cz _)⟩, trivial⟩
      rintro _ _ ⟨rfl, rfl⟩
      refine ⟨by simp, hK' _ _ ?_⟩
      clear hK' K'
      simp only [D.ren, reN, putRows, VRow.ren, renL_cz, List.length_cons, List.length_nil, List.map_cons, List.map_nil, Option.map_some, Option.map_none, List.set_cons_succ, List.set_cons_zero, List.cons_append, List.nil_append, ↓reduceIte, Nat.reduceLT, Nat.reduceAdd, Nat.reduceSub, Nat.lt_irrefl]
      repeat' (first
    | refine VC_seq ?_ | refine VC_region ?_ | refine VC_block ?_ | refine VC_exit ?_ | refine VC_ret ?_ | refine VC_skip ?_ | refine VO_nil ?_ | refine VC_draw (by kernel_rfl) ?_ | (refine VD_nil ?_; refine ⟨by kernel_rfl, ?_⟩)
    | ((first | refine VO_stepP rfl rfl ?_ | refine VO_goC rfl rfl ?_ | refine VO_guardP rfl rfl rfl ?_ | refine VO_goG rfl rfl rfl ?_ | refine VC_if ?_ | refine VD_stepP rfl rfl ?_ | refine VD_goC rfl rfl ?_ | refine VD_guardP rfl rfl rfl ?_ | refine VD_goG rfl rfl rfl ?_); intro K' hK'; simp (disch := omega) only [go_sem, ↓reduceIte, Nat.reduceEqDiff, Nat.reduceAdd, Nat.reduceMul, Nat.reduceLeDiff, Nat.reduceLT, Nat.reduceSub, Int.reduceToNat, Int.reduceLE, Int.reduceLT, reduceCtorEq, FL_cons, Tree.enc]; first
     | ((first | refine hK' _ _ ?_ | refine hK' _ ?_ | refine hK' _ _ _ _ _ _ _ ?_); clear hK' K')
     | (refine ⟨fun hg => ?_, fun hg => ?_⟩ <;> (first | refine hK' _ _ ?_ | refine hK' _ ?_ | refine hK' _ _ _ _ _ _ _ ?_) <;> clear hK' K' <;> (try rw [hg]) <;> (try simp only [decide_eq_true_eq, decide_eq_false_iff_not, ne_eq, Bool.not_eq_true, Bool.not_eq_false, Bool.not_eq_eq_eq_not, Bool.not_true, Bool.not_false, Decidable.not_not, beq_iff_eq, bne_iff_ne, beq_eq_false_iff_ne, Int.not_le, Int.not_lt, reduceCtorEq, not_true_eq_false, not_false_eq_true, Bool.true_eq_false, Bool.false_eq_true, Bool.and_eq_true, Bool.or_eq_false_iff, bne_eq_false_iff_eq, Int.natCast_inj, Int.ofNat_lt] at hg) <;> (try (exfalso; omega))))
    | (simp only [andThenV_normal, andThenV_ret, andThenV_exit, outOfV_normal, outOfV_ret, outOfV_exit, ↓reduceIte, Nat.reduceEqDiff])
    | ((first | refine atEndV_r ?_ | refine atEndV_n ?_); simp (disch := omega) only [go_sem, ↓reduceIte, Nat.reduceEqDiff, Nat.reduceAdd, Nat.reduceMul, Nat.reduceLeDiff, Nat.reduceLT, Nat.reduceSub, Int.reduceToNat, Int.reduceLE, Int.reduceLT, reduceCtorEq, FL_cons, Tree.enc]; try (first | rw [deep_bool_eq] | rw [deep_int_eq] | rw [deep_str_eq])))
      refine ⟨(i + 1, r, out ++ walkF t 32 k.id), by simp, ⟨k2, by simp; omega, by rw [← h3]; simp⟩, ?_⟩
      (refine ⟨[0, 3], ?_, ?_, by decide, by simp⟩; (· simp (disch := omega) only [AllRN, go_sem, ↓reduceIte, Nat.reduceEqDiff, Nat.reduceAdd, Nat.reduceMul, Nat.reduceLeDiff, Nat.reduceLT, Nat.reduceSub, Int.reduceToNat, Int.reduceLE, Int.reduceLT, reduceCtorEq, Int.natCast_add, Int.cast_ofNat_Int]; (repeat' (first | exact trivial | (refine ⟨?_, ?_⟩) | exact RN.im rfl | exact RN.any _ _ | exact RN.ptr _ rfl | exact RN.ref _ _ rfl | exact RN.nil _ | (refine RN.int ?_; omega) | (exact RNL.im (nr_cz _))))); (· (try simp (disch := omega) only [RNH, RNL, Int.natCast_add, Int.cast_ofNat_Int, go_sem, ↓reduceIte, Nat.reduceEqDiff, Nat.reduceAdd, Nat.reduceMul, Nat.reduceLeDiff, Nat.reduceLT, Nat.reduceSub, Int.reduceToNat, Int.reduceLE, Int.reduceLT, reduceCtorEq]); (repeat' (first | exact trivial | (refine ⟨_, rfl, rfl, ?_⟩) | (refine ⟨?_, ?_⟩) | exact RNL.im rfl | exact RN.im rfl | exact RN.any _ _ | exact RN.ptr _ rfl | exact RN.ref _ _ rfl | exact RN.nil _ | (refine RN.int ?_; omega) | (exact RNL.im (nr_cz _))))))
  · exact ⟨rfl, by simp, hw.symm⟩
  · (refine ⟨[0, 2], ?_, ?_, by decide, by simp⟩; (· simp (disch := omega) only [AllRN, go_sem, ↓reduceIte, Nat.reduceEqDiff, Nat.reduceAdd, Nat.reduceMul, Nat.reduceLeDiff, Nat.reduceLT, Nat.reduceSub, Int.reduceToNat, Int.reduceLE, Int.reduceLT, reduceCtorEq, Int.natCast_add, Int.cast_ofNat_Int]; (repeat' (first | exact trivial | (refine ⟨?_, ?_⟩) | exact RN.im rfl | exact RN.any _ _ | exact RN.ptr _ rfl | exact RN.ref _ _ rfl | exact RN.nil _ | (refine RN.int ?_; omega) | (exact RNL.eq rfl (nr_cz _))))); (· (try simp (disch := omega) only [RNH, RNL, Int.natCast_add, Int.cast_ofNat_Int, go_sem, ↓reduceIte, Nat.reduceEqDiff, Nat.reduceAdd, Nat.reduceMul, Nat.reduceLeDiff, Nat.reduceLT, Nat.reduceSub, Int.reduceToNat, Int.reduceLE, Int.reduceLT, reduceCtorEq]); (repeat' (first | exact trivial | (refine ⟨_, rfl, rfl, ?_⟩) | (refine ⟨?_, ?_⟩) | exact RNL.im rfl | exact RN.im rfl | exact RN.any _ _ | exact RN.ptr _ rfl | exact RN.ref _ _ rfl | exact RN.nil _ | (refine RN.int ?_; omega) | (exact RNL.eq rfl (nr_cz _))))))

theorem treeOkI_obj {t : Tree} (h : t.objs.all objOk = false) : treeOkI t = false := by unfold treeOkI; rw [h]; simp
theorem treeOkI_many {t : Tree} {i : Nat} (hi : i < 32) (h : ¬ homes t i = if i = 0 ∨ (objAt t i).kind = 0 then 0 else 1) : treeOkI t = false := by
  rw [Bool.eq_false_iff]
  intro q
  simp only [treeOkI, Bool.and_eq_true, List.all_eq_true (l := List.range 32), List.mem_range, decide_eq_true_eq] at q
  exact h (q.1.2 i hi)
theorem treeOkI_walk {t : Tree} (hl : t.objs.length = 32) (hd : (objAt t 0).kind = 2) (ho : t.objs.all objOk = true) (h : ∀ j : Nat, j < 32 → homes t j = if j = 0 ∨ (objAt t j).kind = 0 then 0 else 1) :
    treeOkI t = decide ((walkF t 33 0).length = t.objs.countP live) := by
  have : ((List.range 32).all (fun i => decide (homes t i = if i = 0 ∨ (objAt t i).kind = 0 then 0 else 1))) = true := by
    rw [List.all_eq_true]; intro i hi; rw [decide_eq_true_eq]; exact h i (List.mem_range.1 hi)
  rw [treeOkI, this, ho, hd, hl]; simp
theorem walk_le {t : Tree} (h : Half t) : (walkF t 33 0).length ≤ 32 := by
  rw [walk_length h 33]
  have h1 : sumR 32 (fun _ => 1) = 32 := by decide
  have := sumR_le (n := 32) (f := fun v : Nat => if (∃ j, j < 33 + 1 ∧ anc t j (v : Int) = 0) then 1 else 0) (g := fun _ => 1) (fun i _ => by split <;> omega)
  omega
theorem pu_impl_TreeOk (t : Tree) (hn : t.tot ≤ 1073741824) : Pu Try.prog X 83 [.agg t.enc] (.bool (treeOk t)) := by
  have hl := le_lsum TObj.tot t.objs
  have hn' : lsum TObj.tot t.objs ≤ 1073741824 := hn
  have hb := homes_le t
  refine Pu.body Try.func83 rfl (rs := [.tmp 2]) rfl okf_83 (by rw [Try.ntmps83]; simp) ?_
  by_cases h32 : t.objs.length = 32
  case neg =>
    repeat' (first
    | refine VC_seq ?_ | refine VC_region ?_ | refine VC_block ?_ | refine VC_exit ?_ | refine VC_ret ?_ | refine VC_skip ?_ | refine VO_nil ?_ | refine VC_draw (by kernel_rfl) ?_ | (refine VD_nil ?_; refine ⟨by kernel_rfl, ?_⟩)
    | ((first | refine VO_stepP rfl rfl ?_ | refine VO_goC rfl rfl ?_ | refine VO_guardP rfl rfl rfl ?_ | refine VO_goG rfl rfl rfl ?_ | refine VC_if ?_ | refine VD_stepP rfl rfl ?_ | refine VD_goC rfl rfl ?_ | refine VD_guardP rfl rfl rfl ?_ | refine VD_goG rfl rfl rfl ?_); intro K' hK'; simp (disch := omega) only [go_sem, ↓reduceIte, Nat.reduceEqDiff, Nat.reduceAdd, Nat.reduceMul, Nat.reduceLeDiff, Nat.reduceLT, Nat.reduceSub, Int.reduceToNat, Int.reduceLE, Int.reduceLT, reduceCtorEq, Tree.enc]; first
     | ((first | refine hK' _ _ ?_ | refine hK' _ ?_ | refine hK' _ _ _ _ _ _ _ ?_); clear hK' K')
     | (refine ⟨fun hg => ?_, fun hg => ?_⟩ <;> (first | refine hK' _ _ ?_ | refine hK' _ ?_ | refine hK' _ _ _ _ _ _ _ ?_) <;> clear hK' K' <;> (try rw [hg]) <;> (try simp only [decide_eq_true_eq, decide_eq_false_iff_not, ne_eq, Bool.not_eq_true, Bool.not_eq_false, Bool.not_eq_eq_eq_not, Bool.not_true, Bool.not_false, Decidable.not_not, beq_iff_eq, bne_iff_ne, beq_eq_false_iff_ne, Int.not_le, Int.not_lt, reduceCtorEq, not_true_eq_false, not_false_eq_true, Bool.true_eq_false, Bool.false_eq_true, Bool.and_eq_true, Bool.or_eq_false_iff, bne_eq_false_iff_eq, Int.natCast_inj, Int.ofNat_lt] at hg) <;> (try (exfalso; omega))))
    | (simp only [andThenV_normal, andThenV_ret, andThenV_exit, outOfV_normal, outOfV_ret, outOfV_exit, ↓reduceIte, Nat.reduceEqDiff])
    | ((first | refine atEndV_r ?_ | refine atEndV_n ?_); simp (disch := omega) only [go_sem, ↓reduceIte, Nat.reduceEqDiff, Nat.reduceAdd, Nat.reduceMul, Nat.reduceLeDiff, Nat.reduceLT, Nat.reduceSub, Int.reduceToNat, Int.reduceLE, Int.reduceLT, reduceCtorEq, Tree.enc]; try (first | rw [deep_bool_eq] | rw [deep_int_eq] | rw [deep_str_eq])))
    rw [treeOk_len h32]
  obtain ⟨o0, ho0⟩ : ∃ o, t.objs[0]? = some o := ⟨_, List.getElem?_eq_getElem (by omega)⟩
  have hat : objAt t 0 = o0 := objAt_of (i := 0) ho0
  repeat' (first
    | refine VC_seq ?_ | refine VC_region ?_ | refine VC_block ?_ | refine VC_exit ?_ | refine VC_ret ?_ | refine VC_skip ?_ | refine VO_nil ?_ | refine VC_draw (by kernel_rfl) ?_ | (refine VD_nil ?_; refine ⟨by kernel_rfl, ?_⟩)
    | ((first | refine VO_stepP rfl rfl ?_ | refine VO_goC rfl rfl ?_ | refine VO_guardP rfl rfl rfl ?_ | refine VO_goG rfl rfl rfl ?_ | refine VC_if ?_ | refine VD_stepP rfl rfl ?_ | refine VD_goC rfl rfl ?_ | refine VD_guardP rfl rfl rfl ?_ | refine VD_goG rfl rfl rfl ?_); intro K' hK'; simp (disch := omega) only [go_sem, ↓reduceIte, Nat.reduceEqDiff, Nat.reduceAdd, Nat.reduceMul, Nat.reduceLeDiff, Nat.reduceLT, Nat.reduceSub, Int.reduceToNat, Int.reduceLE, Int.reduceLT, reduceCtorEq, Tree.enc, TObj.enc, ho0]; first
     | ((first | refine hK' _ _ ?_ | refine hK' _ ?_ | refine hK' _ _ _ _ _ _ _ ?_); clear hK' K')
     | (refine ⟨fun hg => ?_, fun hg => ?_⟩ <;> (first | refine hK' _ _ ?_ | refine hK' _ ?_ | refine hK' _ _ _ _ _ _ _ ?_) <;> clear hK' K' <;> (try rw [hg]) <;> (try simp only [decide_eq_true_eq, decide_eq_false_iff_not, ne_eq, Bool.not_eq_true, Bool.not_eq_false, Bool.not_eq_eq_eq_not, Bool.not_true, Bool.not_false, Decidable.not_not, beq_iff_eq, bne_iff_ne, beq_eq_false_iff_ne, Int.not_le, Int.not_lt, reduceCtorEq, not_true_eq_false, not_false_eq_true, Bool.true_eq_false, Bool.false_eq_true, Bool.and_eq_true, Bool.or_eq_false_iff, bne_eq_false_iff_eq, Int.natCast_inj, Int.ofNat_lt] at hg) <;> (try (exfalso; omega))))
    | (simp only [andThenV_normal, andThenV_ret, andThenV_exit, outOfV_normal, outOfV_ret, outOfV_exit, ↓reduceIte, Nat.reduceEqDiff])
    | ((first | refine atEndV_r ?_ | refine atEndV_n ?_); simp (disch := omega) only [go_sem, ↓reduceIte, Nat.reduceEqDiff, Nat.reduceAdd, Nat.reduceMul, Nat.reduceLeDiff, Nat.reduceLT, Nat.reduceSub, Int.reduceToNat, Int.reduceLE, Int.reduceLT, reduceCtorEq, Tree.enc, TObj.enc, ho0]; try (first | rw [deep_bool_eq] | rw [deep_int_eq] | rw [deep_str_eq])))
  · rw [treeOk_dir (by rw [hat]; exact hg)]
  rw [← hat] at hg
  have hdir := hg
  rw [← treeOkI_eq]
  refine VC_loop (α := Nat × List TObj × List Nat) (fun y => y.2.1.length) (fun y => [(1, .ptr 0 0), (3, .ptr 1 0), (27, .sl 4 (t.objs.map TObj.enc)), (28, .int .i64 t.objs.length), (29, .int .i64 y.1)]) (fun y => [some ⟨t.enc, 0⟩, some ⟨y.2.2.map ci, 0⟩])
    (fun y => t.objs.drop y.1 = y.2.1 ∧ y.1 + y.2.1.length = t.objs.length ∧ y.2.2.length = 32 ∧ (∀ j, j < 32 → y.2.2.getD j 0 + cntO y.2.1 j = homes t (j : Int)) ∧ t.objs.all objOk = y.2.1.all objOk) ?_ (0, t.objs, List.replicate 32 0) ?_ ?_
  · rintro ⟨i, r, f⟩ ⟨h1, h2, h3, h4, h5⟩
    simp only at h1 h2 h3 h4 h5 ⊢
    cases r with
    | cons o r =>
      simp only [List.length_cons] at h2
      obtain ⟨k1, k2, k3⟩ := drop_cons h1
      have ho := mem_lsum TObj.tot (List.mem_of_getElem? k1)
      have hk := kids_le o
      rw [List.all_cons] at h5
      repeat' (first
    | refine VC_seq ?_ | refine VC_region ?_ | refine VC_block ?_ | refine VC_exit ?_ | refine VC_ret ?_ | refine VC_skip ?_ | refine VO_nil ?_ | refine VC_draw (by kernel_rfl) ?_ | (refine VD_nil ?_; refine ⟨by kernel_rfl, ?_⟩)
    | ((first | refine VO_stepP rfl rfl ?_ | refine VO_goC rfl rfl ?_ | refine VO_guardP rfl rfl rfl ?_ | refine VO_goG rfl rfl rfl ?_ | refine VC_if ?_ | refine VD_stepP rfl rfl ?_ | refine VD_goC rfl rfl ?_ | refine VD_guardP rfl rfl rfl ?_ | refine VD_goG rfl rfl rfl ?_); intro K' hK'; simp (disch := omega) only [go_sem, ↓reduceIte, Nat.reduceEqDiff, Nat.reduceAdd, Nat.reduceMul, Nat.reduceLeDiff, Nat.reduceLT, Nat.reduceSub, Int.reduceToNat, Int.reduceLE, Int.reduceLT, reduceCtorEq, FL_cons, k1, Tree.enc, TObj.enc]; first
     | ((first | refine hK' _ _ ?_ | refine hK' _ ?_ | refine hK' _ _ _ _ _ _ _ ?_); clear hK' K')
     | ((first | refine Pu.g (pu_objOk _ (by omega)) rfl rfl ?_); (first | refine hK' _ _ ?_ | refine hK' _ ?_ | refine hK' _ _ _ _ _ _ _ ?_); clear hK' K')
     | (refine ⟨fun hg => ?_, fun hg => ?_⟩ <;> (first | (first | refine hK' _ _ ?_ | refine hK' _ ?_ | refine hK' _ _ _ _ _ _ _ ?_) | ((first | refine Pu.g (pu_objOk _ (by omega)) rfl rfl ?_); (first | refine hK' _ _ ?_ | refine hK' _ ?_ | refine hK' _ _ _ _ _ _ _ ?_))) <;> clear hK' K' <;> (try rw [hg]) <;> (try simp only [decide_eq_true_eq, decide_eq_false_iff_not, ne_eq, Bool.not_eq_true, Bool.not_eq_false, Bool.not_eq_eq_eq_not, Bool.not_true, Bool.not_false, Decidable.not_not, beq_iff_eq, bne_iff_ne, beq_eq_false_iff_ne, Int.not_le, Int.not_lt, reduceCtorEq, not_true_eq_false, not_false_eq_true, Bool.true_eq_false, Bool.false_eq_true, Bool.and_eq_true, Bool.or_eq_false_iff, bne_eq_false_iff_eq, Int.natCast_inj, Int.ofNat_lt] at hg) <;> (try (exfalso; omega))))
    | (simp only [andThenV_normal, andThenV_ret, andThenV_exit, outOfV_normal, outOfV_ret, outOfV_exit, ↓reduceIte, Nat.reduceEqDiff])
    | ((first | refine atEndV_r ?_ | refine atEndV_n ?_); simp (disch := omega) only [go_sem, ↓reduceIte, Nat.reduceEqDiff, Nat.reduceAdd, Nat.reduceMul, Nat.reduceLeDiff, Nat.reduceLT, Nat.reduceSub, Int.reduceToNat, Int.reduceLE, Int.reduceLT, reduceCtorEq, FL_cons, k1, Tree.enc, TObj.enc]; try (first | rw [deep_bool_eq] | rw [deep_int_eq] | rw [deep_str_eq])))
      · rw [treeOkI_obj]; rw [h5, hg]; rfl
      have hid0 := kids_ids hg
      have hoe : objOk o = true := hg
      refine VC_loop (α := Nat × List Ent × List Nat) (fun y => y.2.1.length) (fun y => [(1, .ptr 0 0), (3, .ptr 1 0), (27, .sl 4 (t.objs.map TObj.enc)), (28, .int .i64 t.objs.length), (29, .int .i64 i), (37, .sl 2 (o.kids.map Ent.enc)), (38, .int .i64 o.kids.length), (39, .int .i64 y.1)]) (fun y => [some ⟨t.enc, 0⟩, some ⟨y.2.2.map ci, 0⟩])
        (fun y => o.kids.drop y.1 = y.2.1 ∧ y.1 + y.2.1.length = o.kids.length ∧ y.2.2.length = 32 ∧ ∀ j, j < 32 → y.2.2.getD j 0 + cntE y.2.1 j + cntO r j = homes t (j : Int)) ?_ (0, o.kids, f) ?_ ?_
      · rintro ⟨m, q, f⟩ ⟨g1, g2, g3, g4⟩
        simp only at g1 g2 g3 g4 ⊢
        cases q with
        | nil =>
          simp only [List.length_nil] at g2
          repeat' (first
    | refine VC_seq ?_ | refine VC_region ?_ | refine VC_block ?_ | refine VC_exit ?_ | refine VC_ret ?_ | refine VC_skip ?_ | refine VO_nil ?_ | refine VC_draw (by kernel_rfl) ?_ | (refine VD_nil ?_; refine ⟨by kernel_rfl, ?_⟩)
    | ((first | refine VO_stepP rfl rfl ?_ | refine VO_goC rfl rfl ?_ | refine VO_guardP rfl rfl rfl ?_ | refine VO_goG rfl rfl rfl ?_ | refine VC_if ?_ | refine VD_stepP rfl rfl ?_ | refine VD_goC rfl rfl ?_ | refine VD_guardP rfl rfl rfl ?_ | refine VD_goG rfl rfl rfl ?_); intro K' hK'; simp (disch := omega) only [go_sem, ↓reduceIte, Nat.reduceEqDiff, Nat.reduceAdd, Nat.reduceMul, Nat.reduceLeDiff, Nat.reduceLT, Nat.reduceSub, Int.reduceToNat, Int.reduceLE, Int.reduceLT, reduceCtorEq, FL_cons, k1, Tree.enc, TObj.enc]; first
     | ((first | refine hK' _ _ ?_ | refine hK' _ ?_ | refine hK' _ _ _ _ _ _ _ ?_); clear hK' K')
     | (refine ⟨fun hg => ?_, fun hg => ?_⟩ <;> (first | refine hK' _ _ ?_ | refine hK' _ ?_ | refine hK' _ _ _ _ _ _ _ ?_) <;> clear hK' K' <;> (try rw [hg]) <;> (try simp only [decide_eq_true_eq, decide_eq_false_iff_not, ne_eq, Bool.not_eq_true, Bool.not_eq_false, Bool.not_eq_eq_eq_not, Bool.not_true, Bool.not_false, Decidable.not_not, beq_iff_eq, bne_iff_ne, beq_eq_false_iff_ne, Int.not_le, Int.not_lt, reduceCtorEq, not_true_eq_false, not_false_eq_true, Bool.true_eq_false, Bool.false_eq_true, Bool.and_eq_true, Bool.or_eq_false_iff, bne_eq_false_iff_eq, Int.natCast_inj, Int.ofNat_lt] at hg) <;> (try (exfalso; omega))))
    | (simp only [andThenV_normal, andThenV_ret, andThenV_exit, outOfV_normal, outOfV_ret, outOfV_exit, ↓reduceIte, Nat.reduceEqDiff])
    | ((first | refine atEndV_r ?_ | refine atEndV_n ?_); simp (disch := omega) only [go_sem, ↓reduceIte, Nat.reduceEqDiff, Nat.reduceAdd, Nat.reduceMul, Nat.reduceLeDiff, Nat.reduceLT, Nat.reduceSub, Int.reduceToNat, Int.reduceLE, Int.reduceLT, reduceCtorEq, FL_cons, k1, Tree.enc, TObj.enc]; try (first | rw [deep_bool_eq] | rw [deep_int_eq] | rw [deep_str_eq])))
          refine ⟨(i + 1, r, f), by simp, ⟨k2, by simp; omega, g3, fun j hj => by simpa [cntE] using g4 j hj, by rw [h5, hoe]; rfl⟩, ?_⟩
          (refine ⟨[0, 1], ?_, ?_, by decide, by simp⟩; (· simp (disch := omega) only [AllRN, go_sem, ↓reduceIte, Nat.reduceEqDiff, Nat.reduceAdd, Nat.reduceMul, Nat.reduceLeDiff, Nat.reduceLT, Nat.reduceSub, Int.reduceToNat, Int.reduceLE, Int.reduceLT, reduceCtorEq, Int.natCast_add, Int.cast_ofNat_Int]; (repeat' (first | exact trivial | (refine ⟨?_, ?_⟩) | exact RN.im rfl | exact RN.any _ _ | exact RN.ptr _ rfl | exact RN.ref _ _ rfl | exact RN.nil _ | (refine RN.int ?_; omega) | (exact RNL.im (nr_ci _))))); (· (try simp (disch := omega) only [RNH, RNL, Int.natCast_add, Int.cast_ofNat_Int, go_sem, ↓reduceIte, Nat.reduceEqDiff, Nat.reduceAdd, Nat.reduceMul, Nat.reduceLeDiff, Nat.reduceLT, Nat.reduceSub, Int.reduceToNat, Int.reduceLE, Int.reduceLT, reduceCtorEq]); (repeat' (first | exact trivial | (refine ⟨_, rfl, rfl, ?_⟩) | (refine ⟨?_, ?_⟩) | exact RNL.im rfl | exact RN.im rfl | exact RN.any _ _ | exact RN.ptr _ rfl | exact RN.ref _ _ rfl | exact RN.nil _ | (refine RN.int ?_; omega) | (exact RNL.im (nr_ci _))))))
        | cons k q =>
          simp only [List.length_cons] at g2
          obtain ⟨m1, m2, m3⟩ := drop_cons g1
          have hid := hid0 k (List.mem_of_getElem? m1)
          obtain ⟨n, hf⟩ : ∃ n, f[k.id.toNat]? = some n := ⟨_, List.getElem?_eq_getElem (by omega)⟩
          have hn1 : n ≤ homes t ((k.id.toNat : Nat) : Int) := by
            have := g4 k.id.toNat (by omega)
            rw [List.getD_eq_getElem?_getD, hf] at this
            simp only [Option.getD_some] at this
            omega
          have hn2 := hb ((k.id.toNat : Nat) : Int)
          have hfl : k.id.toNat < f.length := by omega
          repeat' (first
    | refine VC_seq ?_ | refine VC_region ?_ | refine VC_block ?_ | refine VC_exit ?_ | refine VC_ret ?_ | refine VC_skip ?_ | refine VO_nil ?_ | refine VC_draw (by kernel_rfl) ?_ | (refine VD_nil ?_; refine ⟨by kernel_rfl, ?_⟩)
    | ((first | refine VO_stepP rfl rfl ?_ | refine VO_goC rfl rfl ?_ | refine VO_guardP rfl rfl rfl ?_ | refine VO_goG rfl rfl rfl ?_ | refine VC_if ?_ | refine VD_stepP rfl rfl ?_ | refine VD_goC rfl rfl ?_ | refine VD_guardP rfl rfl rfl ?_ | refine VD_goG rfl rfl rfl ?_); intro K' hK'; simp (disch := omega) only [go_sem, ↓reduceIte, Nat.reduceEqDiff, Nat.reduceAdd, Nat.reduceMul, Nat.reduceLeDiff, Nat.reduceLT, Nat.reduceSub, Int.reduceToNat, Int.reduceLE, Int.reduceLT, reduceCtorEq, FL_cons, k1, m1, Tree.enc, TObj.enc, Ent.enc, List.getElem?_map, hf, ci, Nat.mul_one, Nat.zero_add, g3, hfl]; first
     | ((first | refine hK' _ _ ?_ | refine hK' _ ?_ | refine hK' _ _ _ _ _ _ _ ?_); clear hK' K')
     | (refine ⟨fun hg => ?_, fun hg => ?_⟩ <;> (first | refine hK' _ _ ?_ | refine hK' _ ?_ | refine hK' _ _ _ _ _ _ _ ?_) <;> clear hK' K' <;> (try rw [hg]) <;> (try simp only [decide_eq_true_eq, decide_eq_false_iff_not, ne_eq, Bool.not_eq_true, Bool.not_eq_false, Bool.not_eq_eq_eq_not, Bool.not_true, Bool.not_false, Decidable.not_not, beq_iff_eq, bne_iff_ne, beq_eq_false_iff_ne, Int.not_le, Int.not_lt, reduceCtorEq, not_true_eq_false, not_false_eq_true, Bool.true_eq_false, Bool.false_eq_true, Bool.and_eq_true, Bool.or_eq_false_iff, bne_eq_false_iff_eq, Int.natCast_inj, Int.ofNat_lt] at hg) <;> (try (exfalso; omega))))
    | (simp only [andThenV_normal, andThenV_ret, andThenV_exit, outOfV_normal, outOfV_ret, outOfV_exit, ↓reduceIte, Nat.reduceEqDiff])
    | ((first | refine atEndV_r ?_ | refine atEndV_n ?_); simp (disch := omega) only [go_sem, ↓reduceIte, Nat.reduceEqDiff, Nat.reduceAdd, Nat.reduceMul, Nat.reduceLeDiff, Nat.reduceLT, Nat.reduceSub, Int.reduceToNat, Int.reduceLE, Int.reduceLT, reduceCtorEq, FL_cons, k1, m1, Tree.enc, TObj.enc, Ent.enc, List.getElem?_map, hf, ci, Nat.mul_one, Nat.zero_add, g3, hfl]; try (first | rw [deep_bool_eq] | rw [deep_int_eq] | rw [deep_str_eq])))
          refine ⟨(m + 1, q, f.set k.id.toNat (n + 1)), by simp, ⟨m2, by simp; omega, by simp [g3], fun j hj => ?_⟩, ?_⟩
          · have := g4 j hj
            rw [cntE_cons] at this
            simp only
            rw [set_get hf (by omega)]
            by_cases e : k.id = j
            · have e2 : k.id.toNat = j := by omega
              rw [if_pos e] at this
              rw [if_pos e2]
              rw [← e2, List.getD_eq_getElem?_getD, hf] at this
              simp only [Option.getD_some] at this
              rw [← e2]; omega
            · rw [if_neg e] at this
              rw [if_neg (by omega)]; omega
          · (refine ⟨[0, 1], ?_, ?_, by decide, by simp⟩; (· simp (disch := omega) only [AllRN, go_sem, ↓reduceIte, Nat.reduceEqDiff, Nat.reduceAdd, Nat.reduceMul, Nat.reduceLeDiff, Nat.reduceLT, Nat.reduceSub, Int.reduceToNat, Int.reduceLE, Int.reduceLT, reduceCtorEq, Int.natCast_add, Int.cast_ofNat_Int]; (repeat' (first | exact trivial | (refine ⟨?_, ?_⟩) | exact RN.im rfl | exact RN.any _ _ | exact RN.ptr _ rfl | exact RN.ref _ _ rfl | exact RN.nil _ | (refine RN.int ?_; omega) | (exact RNL.eq (splice_set hfl) (nr_ci _))))); (· (try simp (disch := omega) only [RNH, RNL, Int.natCast_add, Int.cast_ofNat_Int, go_sem, ↓reduceIte, Nat.reduceEqDiff, Nat.reduceAdd, Nat.reduceMul, Nat.reduceLeDiff, Nat.reduceLT, Nat.reduceSub, Int.reduceToNat, Int.reduceLE, Int.reduceLT, reduceCtorEq]); (repeat' (first | exact trivial | (refine ⟨_, rfl, rfl, ?_⟩) | (refine ⟨?_, ?_⟩) | exact RNL.im rfl | exact RN.im rfl | exact RN.any _ _ | exact RN.ptr _ rfl | exact RN.ref _ _ rfl | exact RN.nil _ | (refine RN.int ?_; omega) | (exact RNL.eq (splice_set hfl) (nr_ci _))))))
      · exact ⟨rfl, by simp, h3, fun j hj => by have := h4 j hj; rw [cntO_cons] at this; simp only; omega⟩
      · (refine ⟨[0, 1], ?_, ?_, by decide, by simp⟩; (· simp (disch := omega) only [AllRN, go_sem, ↓reduceIte, Nat.reduceEqDiff, Nat.reduceAdd, Nat.reduceMul, Nat.reduceLeDiff, Nat.reduceLT, Nat.reduceSub, Int.reduceToNat, Int.reduceLE, Int.reduceLT, reduceCtorEq, Int.natCast_add, Int.cast_ofNat_Int]; (repeat' (first | exact trivial | (refine ⟨?_, ?_⟩) | exact RN.im rfl | exact RN.any _ _ | exact RN.ptr _ rfl | exact RN.ref _ _ rfl | exact RN.nil _ | (refine RN.int ?_; omega) | (exact RNL.im (nr_ci _))))); (· (try simp (disch := omega) only [RNH, RNL, Int.natCast_add, Int.cast_ofNat_Int, go_sem, ↓reduceIte, Nat.reduceEqDiff, Nat.reduceAdd, Nat.reduceMul, Nat.reduceLeDiff, Nat.reduceLT, Nat.reduceSub, Int.reduceToNat, Int.reduceLE, Int.reduceLT, reduceCtorEq]); (repeat' (first | exact trivial | (refine ⟨_, rfl, rfl, ?_⟩) | (refine ⟨?_, ?_⟩) | exact RNL.im rfl | exact RN.im rfl | exact RN.any _ _ | exact RN.ptr _ rfl | exact RN.ref _ _ rfl | exact RN.nil _ | (refine RN.int ?_; omega) | (exact RNL.im (nr_ci _))))))
    | nil =>
      simp only [List.length_nil] at h2
      have hall : t.objs.all objOk = true := h5
      have hids : ∀ o ∈ t.objs, ∀ k ∈ o.kids, 0 ≤ k.id ∧ k.id ≤ 31 := fun o ho k hk => by have := ids_of hall o ho k hk; omega
      have hf : ∀ j : Nat, j < 32 → f[j]? = some (homes t (j : Int)) := fun j hj => by
        have := h4 j hj
        rw [List.getD_eq_getElem?_getD, List.getElem?_eq_getElem (by omega)] at this
        rw [List.getElem?_eq_getElem (by omega), ← this]; rfl
      repeat' (first
    | refine VC_seq ?_ | refine VC_region ?_ | refine VC_block ?_ | refine VC_exit ?_ | refine VC_ret ?_ | refine VC_skip ?_ | refine VO_nil ?_ | refine VC_draw (by kernel_rfl) ?_ | (refine VD_nil ?_; refine ⟨by kernel_rfl, ?_⟩)
    | ((first | refine VO_stepP rfl rfl ?_ | refine VO_goC rfl rfl ?_ | refine VO_guardP rfl rfl rfl ?_ | refine VO_goG rfl rfl rfl ?_ | refine VC_if ?_ | refine VD_stepP rfl rfl ?_ | refine VD_goC rfl rfl ?_ | refine VD_guardP rfl rfl rfl ?_ | refine VD_goG rfl rfl rfl ?_); intro K' hK'; simp (disch := omega) only [go_sem, ↓reduceIte, Nat.reduceEqDiff, Nat.reduceAdd, Nat.reduceMul, Nat.reduceLeDiff, Nat.reduceLT, Nat.reduceSub, Int.reduceToNat, Int.reduceLE, Int.reduceLT, reduceCtorEq, FL_cons, Tree.enc]; first
     | ((first | refine hK' _ _ ?_ | refine hK' _ ?_ | refine hK' _ _ _ _ _ _ _ ?_); clear hK' K')
     | (refine ⟨fun hg => ?_, fun hg => ?_⟩ <;> (first | refine hK' _ _ ?_ | refine hK' _ ?_ | refine hK' _ _ _ _ _ _ _ ?_) <;> clear hK' K' <;> (try rw [hg]) <;> (try simp only [decide_eq_true_eq, decide_eq_false_iff_not, ne_eq, Bool.not_eq_true, Bool.not_eq_false, Bool.not_eq_eq_eq_not, Bool.not_true, Bool.not_false, Decidable.not_not, beq_iff_eq, bne_iff_ne, beq_eq_false_iff_ne, Int.not_le, Int.not_lt, reduceCtorEq, not_true_eq_false, not_false_eq_true, Bool.true_eq_false, Bool.false_eq_true, Bool.and_eq_true, Bool.or_eq_false_iff, bne_eq_false_iff_eq, Int.natCast_inj, Int.ofNat_lt] at hg) <;> (try (exfalso; omega))))
    | (simp only [andThenV_normal, andThenV_ret, andThenV_exit, outOfV_normal, outOfV_ret, outOfV_exit, ↓reduceIte, Nat.reduceEqDiff])
    | ((first | refine atEndV_r ?_ | refine atEndV_n ?_); simp (disch := omega) only [go_sem, ↓reduceIte, Nat.reduceEqDiff, Nat.reduceAdd, Nat.reduceMul, Nat.reduceLeDiff, Nat.reduceLT, Nat.reduceSub, Int.reduceToNat, Int.reduceLE, Int.reduceLT, reduceCtorEq, FL_cons, Tree.enc]; try (first | rw [deep_bool_eq] | rw [deep_int_eq] | rw [deep_str_eq])))
      refine VC_loop (α := Nat) (fun y => 32 - y) (fun y => [(1, .ptr 0 0), (3, .ptr 1 0), (52, .sl 4 (t.objs.map TObj.enc)), (53, .int .i64 t.objs.length), (54, .int .i64 y)]) (fun _ => [some ⟨t.enc, 0⟩, some ⟨f.map ci, 0⟩])
        (fun y => y ≤ 32 ∧ ∀ j : Nat, j < y → homes t j = if j = 0 ∨ (objAt t j).kind = 0 then 0 else 1) ?_ 0 ?_ ?_
      · rintro m ⟨g2, g3⟩
        rcases Nat.lt_or_ge m 32 with hm | hm
        · obtain ⟨o, k1⟩ : ∃ o, t.objs[m]? = some o := ⟨_, List.getElem?_eq_getElem (by omega)⟩
          have hho := hf m hm
          have hbm := hb (m : Int)
          have hom := objAt_of k1
          have hlv : homes t m = (if m = 0 ∨ o.kind = 0 then 0 else 1) → homes t m = if m = 0 ∨ (objAt t m).kind = 0 then 0 else 1 := by rw [hom]; exact fun h => h
          have hlf : ¬ homes t m = (if m = 0 ∨ o.kind = 0 then 0 else 1) → treeOkI t = false := fun h => treeOkI_many hm (by rw [hom]; exact h)
          repeat' (first
    | refine VC_seq ?_ | refine VC_region ?_ | refine VC_block ?_ | refine VC_exit ?_ | refine VC_ret ?_ | refine VC_skip ?_ | refine VO_nil ?_ | refine VC_draw (by kernel_rfl) ?_ | (refine VD_nil ?_; refine ⟨by kernel_rfl, ?_⟩)
    | ((first | refine VO_stepP rfl rfl ?_ | refine VO_goC rfl rfl ?_ | refine VO_guardP rfl rfl rfl ?_ | refine VO_goG rfl rfl rfl ?_ | refine VC_if ?_ | refine VD_stepP rfl rfl ?_ | refine VD_goC rfl rfl ?_ | refine VD_guardP rfl rfl rfl ?_ | refine VD_goG rfl rfl rfl ?_); intro K' hK'; simp (disch := omega) only [go_sem, ↓reduceIte, Nat.reduceEqDiff, Nat.reduceAdd, Nat.reduceMul, Nat.reduceLeDiff, Nat.reduceLT, Nat.reduceSub, Int.reduceToNat, Int.reduceLE, Int.reduceLT, reduceCtorEq, FL_cons, k1, List.getElem?_map, hho, ci, Nat.mul_one, Nat.zero_add, h3, Tree.enc, TObj.enc]; first
     | ((first | refine hK' _ _ ?_ | refine hK' _ ?_ | refine hK' _ _ _ _ _ _ _ ?_); clear hK' K')
     | (refine ⟨fun hg => ?_, fun hg => ?_⟩ <;> (first | refine hK' _ _ ?_ | refine hK' _ ?_ | refine hK' _ _ _ _ _ _ _ ?_) <;> clear hK' K' <;> (try rw [hg]) <;> (try simp only [decide_eq_true_eq, decide_eq_false_iff_not, ne_eq, Bool.not_eq_true, Bool.not_eq_false, Bool.not_eq_eq_eq_not, Bool.not_true, Bool.not_false, Decidable.not_not, beq_iff_eq, bne_iff_ne, beq_eq_false_iff_ne, Int.not_le, Int.not_lt, reduceCtorEq, not_true_eq_false, not_false_eq_true, Bool.true_eq_false, Bool.false_eq_true, Bool.and_eq_true, Bool.or_eq_false_iff, bne_eq_false_iff_eq, Int.natCast_inj, Int.ofNat_lt] at hg) <;> (try (exfalso; omega))))
    | (simp only [andThenV_normal, andThenV_ret, andThenV_exit, outOfV_normal, outOfV_ret, outOfV_exit, ↓reduceIte, Nat.reduceEqDiff])
    | ((first | refine atEndV_r ?_ | refine atEndV_n ?_); simp (disch := omega) only [go_sem, ↓reduceIte, Nat.reduceEqDiff, Nat.reduceAdd, Nat.reduceMul, Nat.reduceLeDiff, Nat.reduceLT, Nat.reduceSub, Int.reduceToNat, Int.reduceLE, Int.reduceLT, reduceCtorEq, FL_cons, k1, List.getElem?_map, hho, ci, Nat.mul_one, Nat.zero_add, h3, Tree.enc, TObj.enc]; try (first | rw [deep_bool_eq] | rw [deep_int_eq] | rw [deep_str_eq])))
          all_goals first
            | (rw [hlf (by clear g3 hlv hlf hho k1 hids; simp_all <;> omega)])
            | (refine ⟨m + 1, by omega, ⟨by omega, fun j hj => ?_⟩, ?_⟩
               · rcases Nat.lt_or_ge j m with q | q
                 · exact g3 j q
                 · rw [show j = m by omega]; refine hlv ?_; clear g3 hlv hlf hho k1 hids; simp_all <;> omega
               · (refine ⟨[0, 1], ?_, ?_, by decide, by simp⟩; (· simp (disch := omega) only [AllRN, go_sem, ↓reduceIte, Nat.reduceEqDiff, Nat.reduceAdd, Nat.reduceMul, Nat.reduceLeDiff, Nat.reduceLT, Nat.reduceSub, Int.reduceToNat, Int.reduceLE, Int.reduceLT, reduceCtorEq, Int.natCast_add, Int.cast_ofNat_Int]; (repeat' (first | exact trivial | (refine ⟨?_, ?_⟩) | exact RN.im rfl | exact RN.any _ _ | exact RN.ptr _ rfl | exact RN.ref _ _ rfl | exact RN.nil _ | (refine RN.int ?_; omega) | (exact RNL.im (nr_ci _))))); (· (try simp (disch := omega) only [RNH, RNL, Int.natCast_add, Int.cast_ofNat_Int, go_sem, ↓reduceIte, Nat.reduceEqDiff, Nat.reduceAdd, Nat.reduceMul, Nat.reduceLeDiff, Nat.reduceLT, Nat.reduceSub, Int.reduceToNat, Int.reduceLE, Int.reduceLT, reduceCtorEq]); (repeat' (first | exact trivial | (refine ⟨_, rfl, rfl, ?_⟩) | (refine ⟨?_, ?_⟩) | exact RNL.im rfl | exact RN.im rfl | exact RN.any _ _ | exact RN.ptr _ rfl | exact RN.ref _ _ rfl | exact RN.nil _ | (refine RN.int ?_; omega) | (exact RNL.im (nr_ci _)))))))
        · have hho : ∀ j : Nat, j < 32 → homes t j = if j = 0 ∨ (objAt t j).kind = 0 then 0 else 1 := fun j hj => g3 j (by omega)
          have hbw := walk_le (half_of h32 hall (fun i hi => by have := hho i hi; split at this <;> omega))
          rw [treeOkI_walk h32 hdir hall hho]
          repeat' (first
    | refine VC_seq ?_ | refine VC_region ?_ | refine VC_block ?_ | refine VC_exit ?_ | refine VC_ret ?_ | refine VC_skip ?_ | refine VO_nil ?_ | refine VC_draw (by kernel_rfl) ?_ | (refine VD_nil ?_; refine ⟨by kernel_rfl, ?_⟩)
    | ((first | refine VO_stepP rfl rfl ?_ | refine VO_goC rfl rfl ?_ | refine VO_guardP rfl rfl rfl ?_ | refine VO_goG rfl rfl rfl ?_ | refine VC_if ?_ | refine VD_stepP rfl rfl ?_ | refine VD_goC rfl rfl ?_ | refine VD_guardP rfl rfl rfl ?_ | refine VD_goG rfl rfl rfl ?_); intro K' hK'; simp (disch := omega) only [go_sem, ↓reduceIte, Nat.reduceEqDiff, Nat.reduceAdd, Nat.reduceMul, Nat.reduceLeDiff, Nat.reduceLT, Nat.reduceSub, Int.reduceToNat, Int.reduceLE, Int.reduceLT, reduceCtorEq, FL_cons, Tree.enc]; first
     | ((first | refine hK' _ _ ?_ | refine hK' _ ?_ | refine hK' _ _ _ _ _ _ _ ?_); clear hK' K')
     | (refine ⟨fun hg => ?_, fun hg => ?_⟩ <;> (first | refine hK' _ _ ?_ | refine hK' _ ?_ | refine hK' _ _ _ _ _ _ _ ?_) <;> clear hK' K' <;> (try rw [hg]) <;> (try simp only [decide_eq_true_eq, decide_eq_false_iff_not, ne_eq, Bool.not_eq_true, Bool.not_eq_false, Bool.not_eq_eq_eq_not, Bool.not_true, Bool.not_false, Decidable.not_not, beq_iff_eq, bne_iff_ne, beq_eq_false_iff_ne, Int.not_le, Int.not_lt, reduceCtorEq, not_true_eq_false, not_false_eq_true, Bool.true_eq_false, Bool.false_eq_true, Bool.and_eq_true, Bool.or_eq_false_iff, bne_eq_false_iff_eq, Int.natCast_inj, Int.ofNat_lt] at hg) <;> (try (exfalso; omega))))
    | (simp only [andThenV_normal, andThenV_ret, andThenV_exit, outOfV_normal, outOfV_ret, outOfV_exit, ↓reduceIte, Nat.reduceEqDiff])
    | ((first | refine atEndV_r ?_ | refine atEndV_n ?_); simp (disch := omega) only [go_sem, ↓reduceIte, Nat.reduceEqDiff, Nat.reduceAdd, Nat.reduceMul, Nat.reduceLeDiff, Nat.reduceLT, Nat.reduceSub, Int.reduceToNat, Int.reduceLE, Int.reduceLT, reduceCtorEq, FL_cons, Tree.enc]; try (first | rw [deep_bool_eq] | rw [deep_int_eq] | rw [deep_str_eq])))
          refine VC_loop (α := Nat × List TObj × Nat) (fun y => y.2.1.length) (fun y => [(1, .ptr 0 0), (11, .int .i64 y.2.2), (73, .sl 4 (t.objs.map TObj.enc)), (74, .int .i64 t.objs.length), (75, .int .i64 y.1)]) (fun _ => [some ⟨t.enc, 0⟩])
            (fun y => t.objs.drop y.1 = y.2.1 ∧ y.1 + y.2.1.length = t.objs.length ∧ y.2.2 + y.2.1.countP live = t.objs.countP live ∧ y.2.2 ≤ y.1) ?_ (0, t.objs, 0) ?_ ?_
          · rintro ⟨i, r, c⟩ ⟨e1, e2, e3, e4⟩
            simp only at e1 e2 e3 e4 ⊢
            cases r with
            | nil =>
              simp only [List.length_nil] at e2
              repeat' (first
    | refine VC_seq ?_ | refine VC_region ?_ | refine VC_block ?_ | refine VC_exit ?_ | refine VC_ret ?_ | refine VC_skip ?_ | refine VO_nil ?_ | refine VC_draw (by kernel_rfl) ?_ | (refine VD_nil ?_; refine ⟨by kernel_rfl, ?_⟩)
    | ((first | refine VO_stepP rfl rfl ?_ | refine VO_goC rfl rfl ?_ | refine VO_guardP rfl rfl rfl ?_ | refine VO_goG rfl rfl rfl ?_ | refine VC_if ?_ | refine VD_stepP rfl rfl ?_ | refine VD_goC rfl rfl ?_ | refine VD_guardP rfl rfl rfl ?_ | refine VD_goG rfl rfl rfl ?_); intro K' hK'; simp (disch := omega) only [go_sem, ↓reduceIte, Nat.reduceEqDiff, Nat.reduceAdd, Nat.reduceMul, Nat.reduceLeDiff, Nat.reduceLT, Nat.reduceSub, Int.reduceToNat, Int.reduceLE, Int.reduceLT, reduceCtorEq, FL_cons, Tree.enc]; first
     | ((first | refine hK' _ _ ?_ | refine hK' _ ?_ | refine hK' _ _ _ _ _ _ _ ?_); clear hK' K')
     | ((first | refine Pu.g (pu_walk t hn h32 hids (by omega)) rfl rfl ?_); (first | refine hK' _ _ ?_ | refine hK' _ ?_ | refine hK' _ _ _ _ _ _ _ ?_); clear hK' K')
     | (refine ⟨fun hg => ?_, fun hg => ?_⟩ <;> (first | (first | refine hK' _ _ ?_ | refine hK' _ ?_ | refine hK' _ _ _ _ _ _ _ ?_) | ((first | refine Pu.g (pu_walk t hn h32 hids (by omega)) rfl rfl ?_); (first | refine hK' _ _ ?_ | refine hK' _ ?_ | refine hK' _ _ _ _ _ _ _ ?_))) <;> clear hK' K' <;> (try rw [hg]) <;> (try simp only [decide_eq_true_eq, decide_eq_false_iff_not, ne_eq, Bool.not_eq_true, Bool.not_eq_false, Bool.not_eq_eq_eq_not, Bool.not_true, Bool.not_false, Decidable.not_not, beq_iff_eq, bne_iff_ne, beq_eq_false_iff_ne, Int.not_le, Int.not_lt, reduceCtorEq, not_true_eq_false, not_false_eq_true, Bool.true_eq_false, Bool.false_eq_true, Bool.and_eq_true, Bool.or_eq_false_iff, bne_eq_false_iff_eq, Int.natCast_inj, Int.ofNat_lt] at hg) <;> (try (exfalso; omega))))
    | (simp only [andThenV_normal, andThenV_ret, andThenV_exit, outOfV_normal, outOfV_ret, outOfV_exit, ↓reduceIte, Nat.reduceEqDiff])
    | ((first | refine atEndV_r ?_ | refine atEndV_n ?_); simp (disch := omega) only [go_sem, ↓reduceIte, Nat.reduceEqDiff, Nat.reduceAdd, Nat.reduceMul, Nat.reduceLeDiff, Nat.reduceLT, Nat.reduceSub, Int.reduceToNat, Int.reduceLE, Int.reduceLT, reduceCtorEq, FL_cons, Tree.enc]; try (first | rw [deep_bool_eq] | rw [deep_int_eq] | rw [deep_str_eq])))
              have hc : c = t.objs.countP live := by simpa using e3
              rw [← hc]; congr 1; rw [Bool.eq_iff_iff]; simp; omega
            | cons o r =>
              simp only [List.length_cons] at e2
              obtain ⟨k1, k2, k3⟩ := drop_cons e1
              rw [List.countP_cons] at e3
              repeat' (first
    | refine VC_seq ?_ | refine VC_region ?_ | refine VC_block ?_ | refine VC_exit ?_ | refine VC_ret ?_ | refine VC_skip ?_ | refine VO_nil ?_ | refine VC_draw (by kernel_rfl) ?_ | (refine VD_nil ?_; refine ⟨by kernel_rfl, ?_⟩)
    | ((first | refine VO_stepP rfl rfl ?_ | refine VO_goC rfl rfl ?_ | refine VO_guardP rfl rfl rfl ?_ | refine VO_goG rfl rfl rfl ?_ | refine VC_if ?_ | refine VD_stepP rfl rfl ?_ | refine VD_goC rfl rfl ?_ | refine VD_guardP rfl rfl rfl ?_ | refine VD_goG rfl rfl rfl ?_); intro K' hK'; simp (disch := omega) only [go_sem, ↓reduceIte, Nat.reduceEqDiff, Nat.reduceAdd, Nat.reduceMul, Nat.reduceLeDiff, Nat.reduceLT, Nat.reduceSub, Int.reduceToNat, Int.reduceLE, Int.reduceLT, reduceCtorEq, FL_cons, k1, Tree.enc, TObj.enc]; first
     | ((first | refine hK' _ _ ?_ | refine hK' _ ?_ | refine hK' _ _ _ _ _ _ _ ?_); clear hK' K')
     | (refine ⟨fun hg => ?_, fun hg => ?_⟩ <;> (first | refine hK' _ _ ?_ | refine hK' _ ?_ | refine hK' _ _ _ _ _ _ _ ?_) <;> clear hK' K' <;> (try rw [hg]) <;> (try simp only [decide_eq_true_eq, decide_eq_false_iff_not, ne_eq, Bool.not_eq_true, Bool.not_eq_false, Bool.not_eq_eq_eq_not, Bool.not_true, Bool.not_false, Decidable.not_not, beq_iff_eq, bne_iff_ne, beq_eq_false_iff_ne, Int.not_le, Int.not_lt, reduceCtorEq, not_true_eq_false, not_false_eq_true, Bool.true_eq_false, Bool.false_eq_true, Bool.and_eq_true, Bool.or_eq_false_iff, bne_eq_false_iff_eq, Int.natCast_inj, Int.ofNat_lt] at hg) <;> (try (exfalso; omega))))
    | (simp only [andThenV_normal, andThenV_ret, andThenV_exit, outOfV_normal, outOfV_ret, outOfV_exit, ↓reduceIte, Nat.reduceEqDiff])
    | ((first | refine atEndV_r ?_ | refine atEndV_n ?_); simp (disch := omega) only [go_sem, ↓reduceIte, Nat.reduceEqDiff, Nat.reduceAdd, Nat.reduceMul, Nat.reduceLeDiff, Nat.reduceLT, Nat.reduceSub, Int.reduceToNat, Int.reduceLE, Int.reduceLT, reduceCtorEq, FL_cons, k1, Tree.enc, TObj.enc]; try (first | rw [deep_bool_eq] | rw [deep_int_eq] | rw [deep_str_eq])))
              · have hlo : live o = true := by simp [live, hg]
                rw [hlo, if_pos rfl] at e3
                refine ⟨(i + 1, r, c + 1), by simp, ⟨k2, by simp; omega, by simp only; omega, by simp only; omega⟩, ?_⟩
                (refine ⟨[0], ?_, ?_, by decide, by simp⟩; (· simp (disch := omega) only [AllRN, go_sem, ↓reduceIte, Nat.reduceEqDiff, Nat.reduceAdd, Nat.reduceMul, Nat.reduceLeDiff, Nat.reduceLT, Nat.reduceSub, Int.reduceToNat, Int.reduceLE, Int.reduceLT, reduceCtorEq, Int.natCast_add, Int.cast_ofNat_Int]; (repeat' (first | exact trivial | (refine ⟨?_, ?_⟩) | exact RN.im rfl | exact RN.any _ _ | exact RN.ptr _ rfl | exact RN.ref _ _ rfl | exact RN.nil _ | (refine RN.int ?_; omega)))); (· (try simp (disch := omega) only [RNH, RNL, Int.natCast_add, Int.cast_ofNat_Int, go_sem, ↓reduceIte, Nat.reduceEqDiff, Nat.reduceAdd, Nat.reduceMul, Nat.reduceLeDiff, Nat.reduceLT, Nat.reduceSub, Int.reduceToNat, Int.reduceLE, Int.reduceLT, reduceCtorEq]); (repeat' (first | exact trivial | (refine ⟨_, rfl, rfl, ?_⟩) | (refine ⟨?_, ?_⟩) | exact RNL.im rfl | exact RN.im rfl | exact RN.any _ _ | exact RN.ptr _ rfl | exact RN.ref _ _ rfl | exact RN.nil _ | (refine RN.int ?_; omega)))))
              · have hlo : live o = false := by simp [live, hg]
                rw [hlo, if_neg (by decide)] at e3
                refine ⟨(i + 1, r, c), by simp, ⟨k2, by simp; omega, by simp only; omega, by simp only; omega⟩, ?_⟩
                (refine ⟨[0], ?_, ?_, by decide, by simp⟩; (· simp (disch := omega) only [AllRN, go_sem, ↓reduceIte, Nat.reduceEqDiff, Nat.reduceAdd, Nat.reduceMul, Nat.reduceLeDiff, Nat.reduceLT, Nat.reduceSub, Int.reduceToNat, Int.reduceLE, Int.reduceLT, reduceCtorEq, Int.natCast_add, Int.cast_ofNat_Int]; (repeat' (first | exact trivial | (refine ⟨?_, ?_⟩) | exact RN.im rfl | exact RN.any _ _ | exact RN.ptr _ rfl | exact RN.ref _ _ rfl | exact RN.nil _ | (refine RN.int ?_; omega)))); (· (try simp (disch := omega) only [RNH, RNL, Int.natCast_add, Int.cast_ofNat_Int, go_sem, ↓reduceIte, Nat.reduceEqDiff, Nat.reduceAdd, Nat.reduceMul, Nat.reduceLeDiff, Nat.reduceLT, Nat.reduceSub, Int.reduceToNat, Int.reduceLE, Int.reduceLT, reduceCtorEq]); (repeat' (first | exact trivial | (refine ⟨_, rfl, rfl, ?_⟩) | (refine ⟨?_, ?_⟩) | exact RNL.im rfl | exact RN.im rfl | exact RN.any _ _ | exact RN.ptr _ rfl | exact RN.ref _ _ rfl | exact RN.nil _ | (refine RN.int ?_; omega)))))
          · exact ⟨rfl, by simp, by simp, Nat.le_refl _⟩
          · (refine ⟨[0], ?_, ?_, by decide, by simp⟩; (· simp (disch := omega) only [AllRN, go_sem, ↓reduceIte, Nat.reduceEqDiff, Nat.reduceAdd, Nat.reduceMul, Nat.reduceLeDiff, Nat.reduceLT, Nat.reduceSub, Int.reduceToNat, Int.reduceLE, Int.reduceLT, reduceCtorEq, Int.natCast_add, Int.cast_ofNat_Int]; (repeat' (first | exact trivial | (refine ⟨?_, ?_⟩) | exact RN.im rfl | exact RN.any _ _ | exact RN.ptr _ rfl | exact RN.ref _ _ rfl | exact RN.nil _ | (refine RN.int ?_; omega)))); (· (try simp (disch := omega) only [RNH, RNL, Int.natCast_add, Int.cast_ofNat_Int, go_sem, ↓reduceIte, Nat.reduceEqDiff, Nat.reduceAdd, Nat.reduceMul, Nat.reduceLeDiff, Nat.reduceLT, Nat.reduceSub, Int.reduceToNat, Int.reduceLE, Int.reduceLT, reduceCtorEq]); (repeat' (first | exact trivial | (refine ⟨_, rfl, rfl, ?_⟩) | (refine ⟨?_, ?_⟩) | exact RNL.im rfl | exact RN.im rfl | exact RN.any _ _ | exact RN.ptr _ rfl | exact RN.ref _ _ rfl | exact RN.nil _ | (refine RN.int ?_; omega)))))
      · exact ⟨by omega, fun j hj => by omega⟩
      · (refine ⟨[0, 1], ?_, ?_, by decide, by simp⟩; (· simp (disch := omega) only [AllRN, go_sem, ↓reduceIte, Nat.reduceEqDiff, Nat.reduceAdd, Nat.reduceMul, Nat.reduceLeDiff, Nat.reduceLT, Nat.reduceSub, Int.reduceToNat, Int.reduceLE, Int.reduceLT, reduceCtorEq, Int.natCast_add, Int.cast_ofNat_Int]; (repeat' (first | exact trivial | (refine ⟨?_, ?_⟩) | exact RN.im rfl | exact RN.any _ _ | exact RN.ptr _ rfl | exact RN.ref _ _ rfl | exact RN.nil _ | (refine RN.int ?_; omega) | (exact RNL.im (nr_ci _))))); (· (try simp (disch := omega) only [RNH, RNL, Int.natCast_add, Int.cast_ofNat_Int, go_sem, ↓reduceIte, Nat.reduceEqDiff, Nat.reduceAdd, Nat.reduceMul, Nat.reduceLeDiff, Nat.reduceLT, Nat.reduceSub, Int.reduceToNat, Int.reduceLE, Int.reduceLT, reduceCtorEq]); (repeat' (first | exact trivial | (refine ⟨_, rfl, rfl, ?_⟩) | (refine ⟨?_, ?_⟩) | exact RNL.im rfl | exact RN.im rfl | exact RN.any _ _ | exact RN.ptr _ rfl | exact RN.ref _ _ rfl | exact RN.nil _ | (refine RN.int ?_; omega) | (exact RNL.im (nr_ci _))))))
  · refine ⟨rfl, by simp, by simp, fun j hj => ?_, rfl⟩
    have : ∀ j, j < 32 → (List.replicate 32 0).getD j 0 = 0 := by decide
    rw [this j hj, Nat.zero_add]; rfl
  · (refine ⟨[0, 1], ?_, ?_, by decide, by simp⟩; (· simp (disch := omega) only [AllRN, go_sem, ↓reduceIte, Nat.reduceEqDiff, Nat.reduceAdd, Nat.reduceMul, Nat.reduceLeDiff, Nat.reduceLT, Nat.reduceSub, Int.reduceToNat, Int.reduceLE, Int.reduceLT, reduceCtorEq, Int.natCast_add, Int.cast_ofNat_Int]; (repeat' (first | exact trivial | (refine ⟨?_, ?_⟩) | exact RN.im rfl | exact RN.any _ _ | exact RN.ptr _ rfl | exact RN.ref _ _ rfl | exact RN.nil _ | (refine RN.int ?_; omega) | (exact RNL.eq rfl (nr_ci _))))); (· (try simp (disch := omega) only [RNH, RNL, Int.natCast_add, Int.cast_ofNat_Int, go_sem, ↓reduceIte, Nat.reduceEqDiff, Nat.reduceAdd, Nat.reduceMul, Nat.reduceLeDiff, Nat.reduceLT, Nat.reduceSub, Int.reduceToNat, Int.reduceLE, Int.reduceLT, reduceCtorEq]); (repeat' (first | exact trivial | (refine ⟨_, rfl, rfl, ?_⟩) | (refine ⟨?_, ?_⟩) | exact RNL.im rfl | exact RN.im rfl | exact RN.any _ _ | exact RN.ptr _ rfl | exact RN.ref _ _ rfl | exact RN.nil _ | (refine RN.int ?_; omega) | (exact RNL.eq rfl (nr_ci _))))))

theorem dones_step (p : Option Int) (d : Done) (ds : List Done) : donesFrom p (d :: ds) = (isClient d.who && inB d.seq 1 1000 && inB d.code 0 1 && (match p with | none => true | some q => decide (q < d.who)) && donesFrom (some d.who) ds) := rfl
set_option maxHeartbeats 1000000 in
theorem pu_spec_ShopOk (s : Shop) (hn : s.tot ≤ 1073741824) : Pu Try.prog X 28 [.agg s.enc] (.bool (shopOk s)) := by
  refine Pu.body Try.func28 rfl (rs := [.tmp 2]) rfl okf_28 (by rw [Try.ntmps28]; simp) ?_
  unfold Shop.tot at hn
  have hl := le_lsum Done.tot s.dones
  repeat' (first
    | refine VC_seq ?_ | refine VC_region ?_ | refine VC_block ?_ | refine VC_exit ?_ | refine VC_ret ?_ | refine VC_skip ?_ | refine VO_nil ?_ | refine VC_draw (by kernel_rfl) ?_ | (refine VD_nil ?_; refine ⟨by kernel_rfl, ?_⟩)
    | ((first | refine VO_stepP rfl rfl ?_ | refine VO_goC rfl rfl ?_ | refine VO_guardP rfl rfl rfl ?_ | refine VO_goG rfl rfl rfl ?_ | refine VC_if ?_ | refine VD_stepP rfl rfl ?_ | refine VD_goC rfl rfl ?_ | refine VD_guardP rfl rfl rfl ?_ | refine VD_goG rfl rfl rfl ?_); intro K' hK'; simp (disch := omega) only [go_sem, ↓reduceIte, Nat.reduceEqDiff, Nat.reduceAdd, Nat.reduceMul, Nat.reduceLeDiff, Nat.reduceLT, Nat.reduceSub, Int.reduceToNat, Int.reduceLE, Int.reduceLT, reduceCtorEq, Shop.enc]; first
     | ((first | refine hK' _ _ ?_ | refine hK' _ ?_ | refine hK' _ _ _ _ _ _ _ ?_); clear hK' K')
     | ((first | refine Pu.g (pu_spec_TreeOk s.tree (by omega)) rfl rfl ?_); (first | refine hK' _ _ ?_ | refine hK' _ ?_ | refine hK' _ _ _ _ _ _ _ ?_); clear hK' K')
     | (refine ⟨fun hg => ?_, fun hg => ?_⟩ <;> (first | (first | refine hK' _ _ ?_ | refine hK' _ ?_ | refine hK' _ _ _ _ _ _ _ ?_) | ((first | refine Pu.g (pu_spec_TreeOk s.tree (by omega)) rfl rfl ?_); (first | refine hK' _ _ ?_ | refine hK' _ ?_ | refine hK' _ _ _ _ _ _ _ ?_))) <;> clear hK' K' <;> (try rw [hg]) <;> (try simp only [decide_eq_true_eq, decide_eq_false_iff_not, ne_eq, Bool.not_eq_true, Bool.not_eq_false, Bool.not_eq_eq_eq_not, Bool.not_true, Bool.not_false, Decidable.not_not, beq_iff_eq, bne_iff_ne, beq_eq_false_iff_ne, Int.not_le, Int.not_lt, reduceCtorEq, not_true_eq_false, not_false_eq_true, Bool.true_eq_false, Bool.false_eq_true, Bool.and_eq_true, Bool.or_eq_false_iff, bne_eq_false_iff_eq, Int.natCast_inj, Int.ofNat_lt] at hg) <;> (try (exfalso; omega))))
    | (simp only [andThenV_normal, andThenV_ret, andThenV_exit, outOfV_normal, outOfV_ret, outOfV_exit, ↓reduceIte, Nat.reduceEqDiff])
    | ((first | refine atEndV_r ?_ | refine atEndV_n ?_); simp (disch := omega) only [go_sem, ↓reduceIte, Nat.reduceEqDiff, Nat.reduceAdd, Nat.reduceMul, Nat.reduceLeDiff, Nat.reduceLT, Nat.reduceSub, Int.reduceToNat, Int.reduceLE, Int.reduceLT, reduceCtorEq, Shop.enc]; try (first | rw [deep_bool_eq] | rw [deep_int_eq] | rw [deep_str_eq])))
  · simp [shopOk, hg]
  have hto := hg
  refine VC_loop (α := Nat × Option Int × List Done) (fun y => y.2.2.length) (fun y => [(1, .ptr 0 0), (3, .int .i64 y.1)]) (fun _ => [some ⟨s.enc, 0⟩])
    (fun y => s.dones.drop y.1 = y.2.2 ∧ y.1 + y.2.2.length = s.dones.length ∧ shopOk s = donesFrom y.2.1 y.2.2 ∧
      (match y.2.1 with | none => y.1 = 0 | some q => ∃ j e, y.1 = j + 1 ∧ s.dones[j]? = some e ∧ e.who = q)) ?_ (0, none, s.dones) ?_ ?_
  · rintro ⟨i, p, r⟩ ⟨h1, h2, h3, h4⟩
    simp only at h1 h2 h3 h4 ⊢
    cases r with
    | nil =>
      simp only [List.length_nil] at h2
      repeat' (first
    | refine VC_seq ?_ | refine VC_region ?_ | refine VC_block ?_ | refine VC_exit ?_ | refine VC_ret ?_ | refine VC_skip ?_ | refine VO_nil ?_ | refine VC_draw (by kernel_rfl) ?_ | (refine VD_nil ?_; refine ⟨by kernel_rfl, ?_⟩)
    | ((first | refine VO_stepP rfl rfl ?_ | refine VO_goC rfl rfl ?_ | refine VO_guardP rfl rfl rfl ?_ | refine VO_goG rfl rfl rfl ?_ | refine VC_if ?_ | refine VD_stepP rfl rfl ?_ | refine VD_goC rfl rfl ?_ | refine VD_guardP rfl rfl rfl ?_ | refine VD_goG rfl rfl rfl ?_); intro K' hK'; simp (disch := omega) only [go_sem, ↓reduceIte, Nat.reduceEqDiff, Nat.reduceAdd, Nat.reduceMul, Nat.reduceLeDiff, Nat.reduceLT, Nat.reduceSub, Int.reduceToNat, Int.reduceLE, Int.reduceLT, reduceCtorEq, FL_cons, Shop.enc]; first
     | ((first | refine hK' _ _ ?_ | refine hK' _ ?_ | refine hK' _ _ _ _ _ _ _ ?_); clear hK' K')
     | (refine ⟨fun hg => ?_, fun hg => ?_⟩ <;> (first | refine hK' _ _ ?_ | refine hK' _ ?_ | refine hK' _ _ _ _ _ _ _ ?_) <;> clear hK' K' <;> (try rw [hg]) <;> (try simp only [decide_eq_true_eq, decide_eq_false_iff_not, ne_eq, Bool.not_eq_true, Bool.not_eq_false, Bool.not_eq_eq_eq_not, Bool.not_true, Bool.not_false, Decidable.not_not, beq_iff_eq, bne_iff_ne, beq_eq_false_iff_ne, Int.not_le, Int.not_lt, reduceCtorEq, not_true_eq_false, not_false_eq_true, Bool.true_eq_false, Bool.false_eq_true, Bool.and_eq_true, Bool.or_eq_false_iff, bne_eq_false_iff_eq, Int.natCast_inj, Int.ofNat_lt] at hg) <;> (try (exfalso; omega))))
    | (simp only [andThenV_normal, andThenV_ret, andThenV_exit, outOfV_normal, outOfV_ret, outOfV_exit, ↓reduceIte, Nat.reduceEqDiff])
    | ((first | refine atEndV_r ?_ | refine atEndV_n ?_); simp (disch := omega) only [go_sem, ↓reduceIte, Nat.reduceEqDiff, Nat.reduceAdd, Nat.reduceMul, Nat.reduceLeDiff, Nat.reduceLT, Nat.reduceSub, Int.reduceToNat, Int.reduceLE, Int.reduceLT, reduceCtorEq, FL_cons, Shop.enc]; try (first | rw [deep_bool_eq] | rw [deep_int_eq] | rw [deep_str_eq])))
      rw [h3]; rfl
    | cons k r =>
      simp only [List.length_cons] at h2
      obtain ⟨k1, k2, k3⟩ := drop_cons h1
      rw [dones_step] at h3
      cases p with
      | none =>
        simp only at h4 h3
        subst h4
        repeat' (first
    | refine VC_seq ?_ | refine VC_region ?_ | refine VC_block ?_ | refine VC_exit ?_ | refine VC_ret ?_ | refine VC_skip ?_ | refine VO_nil ?_ | refine VC_draw (by kernel_rfl) ?_ | (refine VD_nil ?_; refine ⟨by kernel_rfl, ?_⟩)
    | ((first | refine VO_stepP rfl rfl ?_ | refine VO_goC rfl rfl ?_ | refine VO_guardP rfl rfl rfl ?_ | refine VO_goG rfl rfl rfl ?_ | refine VC_if ?_ | refine VD_stepP rfl rfl ?_ | refine VD_goC rfl rfl ?_ | refine VD_guardP rfl rfl rfl ?_ | refine VD_goG rfl rfl rfl ?_); intro K' hK'; simp (disch := omega) only [go_sem, ↓reduceIte, Nat.reduceEqDiff, Nat.reduceAdd, Nat.reduceMul, Nat.reduceLeDiff, Nat.reduceLT, Nat.reduceSub, Int.reduceToNat, Int.reduceLE, Int.reduceLT, reduceCtorEq, FL_cons, k1, Done.enc, Shop.enc]; first
     | ((first | refine hK' _ _ ?_ | refine hK' _ ?_ | refine hK' _ _ _ _ _ _ _ ?_); clear hK' K')
     | (refine ⟨fun hg => ?_, fun hg => ?_⟩ <;> (first | refine hK' _ _ ?_ | refine hK' _ ?_ | refine hK' _ _ _ _ _ _ _ ?_) <;> clear hK' K' <;> (try rw [hg]) <;> (try simp only [decide_eq_true_eq, decide_eq_false_iff_not, ne_eq, Bool.not_eq_true, Bool.not_eq_false, Bool.not_eq_eq_eq_not, Bool.not_true, Bool.not_false, Decidable.not_not, beq_iff_eq, bne_iff_ne, beq_eq_false_iff_ne, Int.not_le, Int.not_lt, reduceCtorEq, not_true_eq_false, not_false_eq_true, Bool.true_eq_false, Bool.false_eq_true, Bool.and_eq_true, Bool.or_eq_false_iff, bne_eq_false_iff_eq, Int.natCast_inj, Int.ofNat_lt] at hg) <;> (try (exfalso; omega))))
    | (simp only [andThenV_normal, andThenV_ret, andThenV_exit, outOfV_normal, outOfV_ret, outOfV_exit, ↓reduceIte, Nat.reduceEqDiff])
    | ((first | refine atEndV_r ?_ | refine atEndV_n ?_); simp (disch := omega) only [go_sem, ↓reduceIte, Nat.reduceEqDiff, Nat.reduceAdd, Nat.reduceMul, Nat.reduceLeDiff, Nat.reduceLT, Nat.reduceSub, Int.reduceToNat, Int.reduceLE, Int.reduceLT, reduceCtorEq, FL_cons, k1, Done.enc, Shop.enc]; try (first | rw [deep_bool_eq] | rw [deep_int_eq] | rw [deep_str_eq])))
        all_goals first
          | (refine ⟨(1, some k.who, r), by simp, ⟨k2, by simp; omega, ?_, ⟨0, k, rfl, k1, rfl⟩⟩, ?_⟩
             · rw [h3]; clear h3; simp_all [inB, isClient] <;> omega
             · (refine ⟨[0], ?_, ?_, by decide, by simp⟩; (· simp (disch := omega) only [AllRN, go_sem, ↓reduceIte, Nat.reduceEqDiff, Nat.reduceAdd, Nat.reduceMul, Nat.reduceLeDiff, Nat.reduceLT, Nat.reduceSub, Int.reduceToNat, Int.reduceLE, Int.reduceLT, reduceCtorEq, Int.natCast_add, Int.cast_ofNat_Int]; (repeat' (first | exact trivial | (refine ⟨?_, ?_⟩) | exact RN.im rfl | exact RN.any _ _ | exact RN.ptr _ rfl | exact RN.ref _ _ rfl | exact RN.nil _ | (refine RN.int ?_; omega)))); (· (try simp (disch := omega) only [RNH, RNL, Int.natCast_add, Int.cast_ofNat_Int, go_sem, ↓reduceIte, Nat.reduceEqDiff, Nat.reduceAdd, Nat.reduceMul, Nat.reduceLeDiff, Nat.reduceLT, Nat.reduceSub, Int.reduceToNat, Int.reduceLE, Int.reduceLT, reduceCtorEq]); (repeat' (first | exact trivial | (refine ⟨_, rfl, rfl, ?_⟩) | (refine ⟨?_, ?_⟩) | exact RNL.im rfl | exact RN.im rfl | exact RN.any _ _ | exact RN.ptr _ rfl | exact RN.ref _ _ rfl | exact RN.nil _ | (refine RN.int ?_; omega))))))
          | (rw [h3]; clear h3; simp_all [inB, isClient] <;> omega)
      | some q =>
        obtain ⟨j, e, rfl, he, hq⟩ := h4
        simp only at h3
        subst hq
        repeat' (first
    | refine VC_seq ?_ | refine VC_region ?_ | refine VC_block ?_ | refine VC_exit ?_ | refine VC_ret ?_ | refine VC_skip ?_ | refine VO_nil ?_ | refine VC_draw (by kernel_rfl) ?_ | (refine VD_nil ?_; refine ⟨by kernel_rfl, ?_⟩)
    | ((first | refine VO_stepP rfl rfl ?_ | refine VO_goC rfl rfl ?_ | refine VO_guardP rfl rfl rfl ?_ | refine VO_goG rfl rfl rfl ?_ | refine VC_if ?_ | refine VD_stepP rfl rfl ?_ | refine VD_goC rfl rfl ?_ | refine VD_guardP rfl rfl rfl ?_ | refine VD_goG rfl rfl rfl ?_); intro K' hK'; simp (disch := omega) only [go_sem, ↓reduceIte, Nat.reduceEqDiff, Nat.reduceAdd, Nat.reduceMul, Nat.reduceLeDiff, Nat.reduceLT, Nat.reduceSub, Int.reduceToNat, Int.reduceLE, Int.reduceLT, reduceCtorEq, FL_cons, k1, he, Done.enc, Shop.enc, succ_sub]; first
     | ((first | refine hK' _ _ ?_ | refine hK' _ ?_ | refine hK' _ _ _ _ _ _ _ ?_); clear hK' K')
     | (refine ⟨fun hg => ?_, fun hg => ?_⟩ <;> (first | refine hK' _ _ ?_ | refine hK' _ ?_ | refine hK' _ _ _ _ _ _ _ ?_) <;> clear hK' K' <;> (try rw [hg]) <;> (try simp only [decide_eq_true_eq, decide_eq_false_iff_not, ne_eq, Bool.not_eq_true, Bool.not_eq_false, Bool.not_eq_eq_eq_not, Bool.not_true, Bool.not_false, Decidable.not_not, beq_iff_eq, bne_iff_ne, beq_eq_false_iff_ne, Int.not_le, Int.not_lt, reduceCtorEq, not_true_eq_false, not_false_eq_true, Bool.true_eq_false, Bool.false_eq_true, Bool.and_eq_true, Bool.or_eq_false_iff, bne_eq_false_iff_eq, Int.natCast_inj, Int.ofNat_lt] at hg) <;> (try (exfalso; omega))))
    | (simp only [andThenV_normal, andThenV_ret, andThenV_exit, outOfV_normal, outOfV_ret, outOfV_exit, ↓reduceIte, Nat.reduceEqDiff])
    | ((first | refine atEndV_r ?_ | refine atEndV_n ?_); simp (disch := omega) only [go_sem, ↓reduceIte, Nat.reduceEqDiff, Nat.reduceAdd, Nat.reduceMul, Nat.reduceLeDiff, Nat.reduceLT, Nat.reduceSub, Int.reduceToNat, Int.reduceLE, Int.reduceLT, reduceCtorEq, FL_cons, k1, he, Done.enc, Shop.enc, succ_sub]; try (first | rw [deep_bool_eq] | rw [deep_int_eq] | rw [deep_str_eq])))
        all_goals first
          | (refine ⟨(j + 2, some k.who, r), by simp, ⟨k2, by simp; omega, ?_, ⟨j + 1, k, rfl, k1, rfl⟩⟩, ?_⟩
             · rw [h3]; clear h3; simp_all [inB, isClient] <;> omega
             · (refine ⟨[0], ?_, ?_, by decide, by simp⟩; (· simp (disch := omega) only [AllRN, go_sem, ↓reduceIte, Nat.reduceEqDiff, Nat.reduceAdd, Nat.reduceMul, Nat.reduceLeDiff, Nat.reduceLT, Nat.reduceSub, Int.reduceToNat, Int.reduceLE, Int.reduceLT, reduceCtorEq, Int.natCast_add, Int.cast_ofNat_Int]; (repeat' (first | exact trivial | (refine ⟨?_, ?_⟩) | exact RN.im rfl | exact RN.any _ _ | exact RN.ptr _ rfl | exact RN.ref _ _ rfl | exact RN.nil _ | (refine RN.int ?_; omega)))); (· (try simp (disch := omega) only [RNH, RNL, Int.natCast_add, Int.cast_ofNat_Int, go_sem, ↓reduceIte, Nat.reduceEqDiff, Nat.reduceAdd, Nat.reduceMul, Nat.reduceLeDiff, Nat.reduceLT, Nat.reduceSub, Int.reduceToNat, Int.reduceLE, Int.reduceLT, reduceCtorEq]); (repeat' (first | exact trivial | (refine ⟨_, rfl, rfl, ?_⟩) | (refine ⟨?_, ?_⟩) | exact RNL.im rfl | exact RN.im rfl | exact RN.any _ _ | exact RN.ptr _ rfl | exact RN.ref _ _ rfl | exact RN.nil _ | (refine RN.int ?_; omega))))))
          | (rw [h3]; clear h3; simp_all [inB, isClient] <;> omega)
  · exact ⟨rfl, by simp, by simp [shopOk, hto], rfl⟩
  · (refine ⟨[0], ?_, ?_, by decide, by simp⟩; (· simp (disch := omega) only [AllRN, go_sem, ↓reduceIte, Nat.reduceEqDiff, Nat.reduceAdd, Nat.reduceMul, Nat.reduceLeDiff, Nat.reduceLT, Nat.reduceSub, Int.reduceToNat, Int.reduceLE, Int.reduceLT, reduceCtorEq, Int.natCast_add, Int.cast_ofNat_Int]; (repeat' (first | exact trivial | (refine ⟨?_, ?_⟩) | exact RN.im rfl | exact RN.any _ _ | exact RN.ptr _ rfl | exact RN.ref _ _ rfl | exact RN.nil _ | (refine RN.int ?_; omega)))); (· (try simp (disch := omega) only [RNH, RNL, Int.natCast_add, Int.cast_ofNat_Int, go_sem, ↓reduceIte, Nat.reduceEqDiff, Nat.reduceAdd, Nat.reduceMul, Nat.reduceLeDiff, Nat.reduceLT, Nat.reduceSub, Int.reduceToNat, Int.reduceLE, Int.reduceLT, reduceCtorEq]); (repeat' (first | exact trivial | (refine ⟨_, rfl, rfl, ?_⟩) | (refine ⟨?_, ?_⟩) | exact RNL.im rfl | exact RN.im rfl | exact RN.any _ _ | exact RN.ptr _ rfl | exact RN.ref _ _ rfl | exact RN.nil _ | (refine RN.int ?_; omega)))))

set_option maxHeartbeats 1000000 in
theorem pu_impl_ShopOk (s : Shop) (hn : s.tot ≤ 1073741824) : Pu Try.prog X 29 [.agg s.enc] (.bool (shopOk s)) := by
  refine Pu.body Try.func29 rfl (rs := [.tmp 2]) rfl okf_29 (by rw [Try.ntmps29]; simp) ?_
  unfold Shop.tot at hn
  have hl := le_lsum Done.tot s.dones
  repeat' (first
    | refine VC_seq ?_ | refine VC_region ?_ | refine VC_block ?_ | refine VC_exit ?_ | refine VC_ret ?_ | refine VC_skip ?_ | refine VO_nil ?_ | refine VC_draw (by kernel_rfl) ?_ | (refine VD_nil ?_; refine ⟨by kernel_rfl, ?_⟩)
    | ((first | refine VO_stepP rfl rfl ?_ | refine VO_goC rfl rfl ?_ | refine VO_guardP rfl rfl rfl ?_ | refine VO_goG rfl rfl rfl ?_ | refine VC_if ?_ | refine VD_stepP rfl rfl ?_ | refine VD_goC rfl rfl ?_ | refine VD_guardP rfl rfl rfl ?_ | refine VD_goG rfl rfl rfl ?_); intro K' hK'; simp (disch := omega) only [go_sem, ↓reduceIte, Nat.reduceEqDiff, Nat.reduceAdd, Nat.reduceMul, Nat.reduceLeDiff, Nat.reduceLT, Nat.reduceSub, Int.reduceToNat, Int.reduceLE, Int.reduceLT, reduceCtorEq, Shop.enc]; first
     | ((first | refine hK' _ _ ?_ | refine hK' _ ?_ | refine hK' _ _ _ _ _ _ _ ?_); clear hK' K')
     | (refine ⟨fun hg => ?_, fun hg => ?_⟩ <;> (first | refine hK' _ _ ?_ | refine hK' _ ?_ | refine hK' _ _ _ _ _ _ _ ?_) <;> clear hK' K' <;> (try rw [hg]) <;> (try simp only [decide_eq_true_eq, decide_eq_false_iff_not, ne_eq, Bool.not_eq_true, Bool.not_eq_false, Bool.not_eq_eq_eq_not, Bool.not_true, Bool.not_false, Decidable.not_not, beq_iff_eq, bne_iff_ne, beq_eq_false_iff_ne, Int.not_le, Int.not_lt, reduceCtorEq, not_true_eq_false, not_false_eq_true, Bool.true_eq_false, Bool.false_eq_true, Bool.and_eq_true, Bool.or_eq_false_iff, bne_eq_false_iff_eq, Int.natCast_inj, Int.ofNat_lt] at hg) <;> (try (exfalso; omega))))
    | (simp only [andThenV_normal, andThenV_ret, andThenV_exit, outOfV_normal, outOfV_ret, outOfV_exit, ↓reduceIte, Nat.reduceEqDiff])
    | ((first | refine atEndV_r ?_ | refine atEndV_n ?_); simp (disch := omega) only [go_sem, ↓reduceIte, Nat.reduceEqDiff, Nat.reduceAdd, Nat.reduceMul, Nat.reduceLeDiff, Nat.reduceLT, Nat.reduceSub, Int.reduceToNat, Int.reduceLE, Int.reduceLT, reduceCtorEq, Shop.enc]; try (first | rw [deep_bool_eq] | rw [deep_int_eq] | rw [deep_str_eq])))
  refine VC_loop (α := Nat × Option Int × List Done) (fun y => y.2.2.length) (fun y => [(1, .ptr 0 0), (6, .sl 3 (s.dones.map Done.enc)), (7, .int .i64 s.dones.length), (8, .int .i64 y.1)]) (fun _ => [some ⟨s.enc, 0⟩])
    (fun y => s.dones.drop y.1 = y.2.2 ∧ y.1 + y.2.2.length = s.dones.length ∧ donesFrom none s.dones = donesFrom y.2.1 y.2.2 ∧
      (match y.2.1 with | none => y.1 = 0 | some q => ∃ j e, y.1 = j + 1 ∧ s.dones[j]? = some e ∧ e.who = q)) ?_ (0, none, s.dones) ?_ ?_
  · rintro ⟨i, p, r⟩ ⟨h1, h2, h3, h4⟩
    simp only at h1 h2 h3 h4 ⊢
    cases r with
    | nil =>
      simp only [List.length_nil] at h2
      repeat' (first
    | refine VC_seq ?_ | refine VC_region ?_ | refine VC_block ?_ | refine VC_exit ?_ | refine VC_ret ?_ | refine VC_skip ?_ | refine VO_nil ?_ | refine VC_draw (by kernel_rfl) ?_ | (refine VD_nil ?_; refine ⟨by kernel_rfl, ?_⟩)
    | ((first | refine VO_stepP rfl rfl ?_ | refine VO_goC rfl rfl ?_ | refine VO_guardP rfl rfl rfl ?_ | refine VO_goG rfl rfl rfl ?_ | refine VC_if ?_ | refine VD_stepP rfl rfl ?_ | refine VD_goC rfl rfl ?_ | refine VD_guardP rfl rfl rfl ?_ | refine VD_goG rfl rfl rfl ?_); intro K' hK'; simp (disch := omega) only [go_sem, ↓reduceIte, Nat.reduceEqDiff, Nat.reduceAdd, Nat.reduceMul, Nat.reduceLeDiff, Nat.reduceLT, Nat.reduceSub, Int.reduceToNat, Int.reduceLE, Int.reduceLT, reduceCtorEq, FL_cons, Shop.enc]; first
     | ((first | refine hK' _ _ ?_ | refine hK' _ ?_ | refine hK' _ _ _ _ _ _ _ ?_); clear hK' K')
     | ((first | refine Pu.g (pu_impl_TreeOk s.tree (by omega)) rfl rfl ?_); (first | refine hK' _ _ ?_ | refine hK' _ ?_ | refine hK' _ _ _ _ _ _ _ ?_); clear hK' K')
     | (refine ⟨fun hg => ?_, fun hg => ?_⟩ <;> (first | (first | refine hK' _ _ ?_ | refine hK' _ ?_ | refine hK' _ _ _ _ _ _ _ ?_) | ((first | refine Pu.g (pu_impl_TreeOk s.tree (by omega)) rfl rfl ?_); (first | refine hK' _ _ ?_ | refine hK' _ ?_ | refine hK' _ _ _ _ _ _ _ ?_))) <;> clear hK' K' <;> (try rw [hg]) <;> (try simp only [decide_eq_true_eq, decide_eq_false_iff_not, ne_eq, Bool.not_eq_true, Bool.not_eq_false, Bool.not_eq_eq_eq_not, Bool.not_true, Bool.not_false, Decidable.not_not, beq_iff_eq, bne_iff_ne, beq_eq_false_iff_ne, Int.not_le, Int.not_lt, reduceCtorEq, not_true_eq_false, not_false_eq_true, Bool.true_eq_false, Bool.false_eq_true, Bool.and_eq_true, Bool.or_eq_false_iff, bne_eq_false_iff_eq, Int.natCast_inj, Int.ofNat_lt] at hg) <;> (try (exfalso; omega))))
    | (simp only [andThenV_normal, andThenV_ret, andThenV_exit, outOfV_normal, outOfV_ret, outOfV_exit, ↓reduceIte, Nat.reduceEqDiff])
    | ((first | refine atEndV_r ?_ | refine atEndV_n ?_); simp (disch := omega) only [go_sem, ↓reduceIte, Nat.reduceEqDiff, Nat.reduceAdd, Nat.reduceMul, Nat.reduceLeDiff, Nat.reduceLT, Nat.reduceSub, Int.reduceToNat, Int.reduceLE, Int.reduceLT, reduceCtorEq, FL_cons, Shop.enc]; try (first | rw [deep_bool_eq] | rw [deep_int_eq] | rw [deep_str_eq])))
      simp [shopOk, h3, donesFrom]
    | cons k r =>
      simp only [List.length_cons] at h2
      obtain ⟨k1, k2, k3⟩ := drop_cons h1
      rw [dones_step] at h3
      cases p with
      | none =>
        simp only at h4 h3
        subst h4
        repeat' (first
    | refine VC_seq ?_ | refine VC_region ?_ | refine VC_block ?_ | refine VC_exit ?_ | refine VC_ret ?_ | refine VC_skip ?_ | refine VO_nil ?_ | refine VC_draw (by kernel_rfl) ?_ | (refine VD_nil ?_; refine ⟨by kernel_rfl, ?_⟩)
    | ((first | refine VO_stepP rfl rfl ?_ | refine VO_goC rfl rfl ?_ | refine VO_guardP rfl rfl rfl ?_ | refine VO_goG rfl rfl rfl ?_ | refine VC_if ?_ | refine VD_stepP rfl rfl ?_ | refine VD_goC rfl rfl ?_ | refine VD_guardP rfl rfl rfl ?_ | refine VD_goG rfl rfl rfl ?_); intro K' hK'; simp (disch := omega) only [go_sem, ↓reduceIte, Nat.reduceEqDiff, Nat.reduceAdd, Nat.reduceMul, Nat.reduceLeDiff, Nat.reduceLT, Nat.reduceSub, Int.reduceToNat, Int.reduceLE, Int.reduceLT, reduceCtorEq, FL_cons, k1, Done.enc, Shop.enc]; first
     | ((first | refine hK' _ _ ?_ | refine hK' _ ?_ | refine hK' _ _ _ _ _ _ _ ?_); clear hK' K')
     | ((first | refine Pu.g (pu_isClient _) rfl rfl ?_ | refine Pu.g (pu_in _ _ _) rfl rfl ?_); (first | refine hK' _ _ ?_ | refine hK' _ ?_ | refine hK' _ _ _ _ _ _ _ ?_); clear hK' K')
     | (refine ⟨fun hg => ?_, fun hg => ?_⟩ <;> (first | (first | refine hK' _ _ ?_ | refine hK' _ ?_ | refine hK' _ _ _ _ _ _ _ ?_) | ((first | refine Pu.g (pu_isClient _) rfl rfl ?_ | refine Pu.g (pu_in _ _ _) rfl rfl ?_); (first | refine hK' _ _ ?_ | refine hK' _ ?_ | refine hK' _ _ _ _ _ _ _ ?_))) <;> clear hK' K' <;> (try rw [hg]) <;> (try simp only [decide_eq_true_eq, decide_eq_false_iff_not, ne_eq, Bool.not_eq_true, Bool.not_eq_false, Bool.not_eq_eq_eq_not, Bool.not_true, Bool.not_false, Decidable.not_not, beq_iff_eq, bne_iff_ne, beq_eq_false_iff_ne, Int.not_le, Int.not_lt, reduceCtorEq, not_true_eq_false, not_false_eq_true, Bool.true_eq_false, Bool.false_eq_true, Bool.and_eq_true, Bool.or_eq_false_iff, bne_eq_false_iff_eq, Int.natCast_inj, Int.ofNat_lt] at hg) <;> (try (exfalso; omega))))
    | (simp only [andThenV_normal, andThenV_ret, andThenV_exit, outOfV_normal, outOfV_ret, outOfV_exit, ↓reduceIte, Nat.reduceEqDiff])
    | ((first | refine atEndV_r ?_ | refine atEndV_n ?_); simp (disch := omega) only [go_sem, ↓reduceIte, Nat.reduceEqDiff, Nat.reduceAdd, Nat.reduceMul, Nat.reduceLeDiff, Nat.reduceLT, Nat.reduceSub, Int.reduceToNat, Int.reduceLE, Int.reduceLT, reduceCtorEq, FL_cons, k1, Done.enc, Shop.enc]; try (first | rw [deep_bool_eq] | rw [deep_int_eq] | rw [deep_str_eq])))
        all_goals first
          | (refine ⟨(1, some k.who, r), by simp, ⟨k2, by simp; omega, ?_, ⟨0, k, rfl, k1, rfl⟩⟩, ?_⟩
             · rw [h3]; clear h3; simp_all [inB, isClient] <;> omega
             · (refine ⟨[0], ?_, ?_, by decide, by simp⟩; (· simp (disch := omega) only [AllRN, go_sem, ↓reduceIte, Nat.reduceEqDiff, Nat.reduceAdd, Nat.reduceMul, Nat.reduceLeDiff, Nat.reduceLT, Nat.reduceSub, Int.reduceToNat, Int.reduceLE, Int.reduceLT, reduceCtorEq, Int.natCast_add, Int.cast_ofNat_Int]; (repeat' (first | exact trivial | (refine ⟨?_, ?_⟩) | exact RN.im rfl | exact RN.any _ _ | exact RN.ptr _ rfl | exact RN.ref _ _ rfl | exact RN.nil _ | (refine RN.int ?_; omega)))); (· (try simp (disch := omega) only [RNH, RNL, Int.natCast_add, Int.cast_ofNat_Int, go_sem, ↓reduceIte, Nat.reduceEqDiff, Nat.reduceAdd, Nat.reduceMul, Nat.reduceLeDiff, Nat.reduceLT, Nat.reduceSub, Int.reduceToNat, Int.reduceLE, Int.reduceLT, reduceCtorEq]); (repeat' (first | exact trivial | (refine ⟨_, rfl, rfl, ?_⟩) | (refine ⟨?_, ?_⟩) | exact RNL.im rfl | exact RN.im rfl | exact RN.any _ _ | exact RN.ptr _ rfl | exact RN.ref _ _ rfl | exact RN.nil _ | (refine RN.int ?_; omega))))))
          | (rw [shopOk, h3]; clear h3; simp_all <;> omega)
      | some q =>
        obtain ⟨j, e, rfl, he, hq⟩ := h4
        simp only at h3
        subst hq
        repeat' (first
    | refine VC_seq ?_ | refine VC_region ?_ | refine VC_block ?_ | refine VC_exit ?_ | refine VC_ret ?_ | refine VC_skip ?_ | refine VO_nil ?_ | refine VC_draw (by kernel_rfl) ?_ | (refine VD_nil ?_; refine ⟨by kernel_rfl, ?_⟩)
    | ((first | refine VO_stepP rfl rfl ?_ | refine VO_goC rfl rfl ?_ | refine VO_guardP rfl rfl rfl ?_ | refine VO_goG rfl rfl rfl ?_ | refine VC_if ?_ | refine VD_stepP rfl rfl ?_ | refine VD_goC rfl rfl ?_ | refine VD_guardP rfl rfl rfl ?_ | refine VD_goG rfl rfl rfl ?_); intro K' hK'; simp (disch := omega) only [go_sem, ↓reduceIte, Nat.reduceEqDiff, Nat.reduceAdd, Nat.reduceMul, Nat.reduceLeDiff, Nat.reduceLT, Nat.reduceSub, Int.reduceToNat, Int.reduceLE, Int.reduceLT, reduceCtorEq, FL_cons, k1, he, Done.enc, Shop.enc, succ_sub]; first
     | ((first | refine hK' _ _ ?_ | refine hK' _ ?_ | refine hK' _ _ _ _ _ _ _ ?_); clear hK' K')
     | ((first | refine Pu.g (pu_isClient _) rfl rfl ?_ | refine Pu.g (pu_in _ _ _) rfl rfl ?_); (first | refine hK' _ _ ?_ | refine hK' _ ?_ | refine hK' _ _ _ _ _ _ _ ?_); clear hK' K')
     | (refine ⟨fun hg => ?_, fun hg => ?_⟩ <;> (first | (first | refine hK' _ _ ?_ | refine hK' _ ?_ | refine hK' _ _ _ _ _ _ _ ?_) | ((first | refine Pu.g (pu_isClient _) rfl rfl ?_ | refine Pu.g (pu_in _ _ _) rfl rfl ?_); (first | refine hK' _ _ ?_ | refine hK' _ ?_ | refine hK' _ _ _ _ _ _ _ ?_))) <;> clear hK' K' <;> (try rw [hg]) <;> (try simp only [decide_eq_true_eq, decide_eq_false_iff_not, ne_eq, Bool.not_eq_true, Bool.not_eq_false, Bool.not_eq_eq_eq_not, Bool.not_true, Bool.not_false, Decidable.not_not, beq_iff_eq, bne_iff_ne, beq_eq_false_iff_ne, Int.not_le, Int.not_lt, reduceCtorEq, not_true_eq_false, not_false_eq_true, Bool.true_eq_false, Bool.false_eq_true, Bool.and_eq_true, Bool.or_eq_false_iff, bne_eq_false_iff_eq, Int.natCast_inj, Int.ofNat_lt] at hg) <;> (try (exfalso; omega))))
    | (simp only [andThenV_normal, andThenV_ret, andThenV_exit, outOfV_normal, outOfV_ret, outOfV_exit, ↓reduceIte, Nat.reduceEqDiff])
    | ((first | refine atEndV_r ?_ | refine atEndV_n ?_); simp (disch := omega) only [go_sem, ↓reduceIte, Nat.reduceEqDiff, Nat.reduceAdd, Nat.reduceMul, Nat.reduceLeDiff, Nat.reduceLT, Nat.reduceSub, Int.reduceToNat, Int.reduceLE, Int.reduceLT, reduceCtorEq, FL_cons, k1, he, Done.enc, Shop.enc, succ_sub]; try (first | rw [deep_bool_eq] | rw [deep_int_eq] | rw [deep_str_eq])))
        all_goals first
          | (refine ⟨(j + 2, some k.who, r), by simp, ⟨k2, by simp; omega, ?_, ⟨j + 1, k, rfl, k1, rfl⟩⟩, ?_⟩
             · rw [h3]; clear h3; simp_all [inB, isClient] <;> omega
             · (refine ⟨[0], ?_, ?_, by decide, by simp⟩; (· simp (disch := omega) only [AllRN, go_sem, ↓reduceIte, Nat.reduceEqDiff, Nat.reduceAdd, Nat.reduceMul, Nat.reduceLeDiff, Nat.reduceLT, Nat.reduceSub, Int.reduceToNat, Int.reduceLE, Int.reduceLT, reduceCtorEq, Int.natCast_add, Int.cast_ofNat_Int]; (repeat' (first | exact trivial | (refine ⟨?_, ?_⟩) | exact RN.im rfl | exact RN.any _ _ | exact RN.ptr _ rfl | exact RN.ref _ _ rfl | exact RN.nil _ | (refine RN.int ?_; omega)))); (· (try simp (disch := omega) only [RNH, RNL, Int.natCast_add, Int.cast_ofNat_Int, go_sem, ↓reduceIte, Nat.reduceEqDiff, Nat.reduceAdd, Nat.reduceMul, Nat.reduceLeDiff, Nat.reduceLT, Nat.reduceSub, Int.reduceToNat, Int.reduceLE, Int.reduceLT, reduceCtorEq]); (repeat' (first | exact trivial | (refine ⟨_, rfl, rfl, ?_⟩) | (refine ⟨?_, ?_⟩) | exact RNL.im rfl | exact RN.im rfl | exact RN.any _ _ | exact RN.ptr _ rfl | exact RN.ref _ _ rfl | exact RN.nil _ | (refine RN.int ?_; omega))))))
          | (rw [shopOk, h3]; clear h3; simp_all <;> omega)
  · exact ⟨rfl, by simp, rfl, rfl⟩
  · (refine ⟨[0], ?_, ?_, by decide, by simp⟩; (· simp (disch := omega) only [AllRN, go_sem, ↓reduceIte, Nat.reduceEqDiff, Nat.reduceAdd, Nat.reduceMul, Nat.reduceLeDiff, Nat.reduceLT, Nat.reduceSub, Int.reduceToNat, Int.reduceLE, Int.reduceLT, reduceCtorEq, Int.natCast_add, Int.cast_ofNat_Int]; (repeat' (first | exact trivial | (refine ⟨?_, ?_⟩) | exact RN.im rfl | exact RN.any _ _ | exact RN.ptr _ rfl | exact RN.ref _ _ rfl | exact RN.nil _ | (refine RN.int ?_; omega)))); (· (try simp (disch := omega) only [RNH, RNL, Int.natCast_add, Int.cast_ofNat_Int, go_sem, ↓reduceIte, Nat.reduceEqDiff, Nat.reduceAdd, Nat.reduceMul, Nat.reduceLeDiff, Nat.reduceLT, Nat.reduceSub, Int.reduceToNat, Int.reduceLE, Int.reduceLT, reduceCtorEq]); (repeat' (first | exact trivial | (refine ⟨_, rfl, rfl, ?_⟩) | (refine ⟨?_, ?_⟩) | exact RNL.im rfl | exact RN.im rfl | exact RN.any _ _ | exact RN.ptr _ rfl | exact RN.ref _ _ rfl | exact RN.nil _ | (refine RN.int ?_; omega)))))

end Go.Proofs.Ytmbikamebhoelaa.Ai.Av
