/- FnExactShopOk holds for every input: it returns true and writes to nothing that was there. No condition. -/
import Derived.Test.YtmbikamebhoelaaRows
import Derived.Test.YtmbikamebhoelaaT1
import Derived.Test.YtmbikamebhoelaaWB
import Derived.HandedShaped
set_option linter.unusedVariables false
set_option linter.unusedSimpArgs false
set_option maxRecDepth 8000
namespace Go.Proofs.Ytmbikamebhoelaa.Ai.Av.exactShopOk
open Go Go.ChangeShapes Go.WideShapes Go.ChangeAt Go.RowKit
theorem law (a : Shop) (ha : a.wf) : VF Try.prog (fun _ _ _ => False) 6 [.agg a.enc] [] (fun d _ => d = .bool true) := by
  refine VF.body0 Try.func6 rfl (rs := [.tmp 2]) rfl okf_6 (by rw [Try.ntmps6]; simp) ?_
  repeat' (first
    | refine VC_seq ?_ | refine VC_region ?_ | refine VC_block ?_ | refine VC_exit ?_ | refine VC_ret ?_ | refine VC_skip ?_ | refine VO_nil ?_ | refine VC_drawV (id := 10) ?_ | refine VC_draw (by kernel_rfl) ?_ | (refine VD_nil ?_; refine ⟨by kernel_rfl, ?_⟩)
    | ((first | refine VO_stepP rfl rfl ?_ | refine VO_goC rfl rfl ?_ | refine VO_guardP rfl rfl rfl ?_ | refine VO_goG rfl rfl rfl ?_ | refine VC_if ?_ | refine VD_stepP rfl rfl ?_ | refine VD_goC rfl rfl ?_ | refine VD_guardP rfl rfl rfl ?_ | refine VD_goG rfl rfl rfl ?_); intro K' hK'; simp (disch := omega) only [go_sem, ↓reduceIte, Nat.reduceEqDiff, Nat.reduceAdd, Nat.reduceMul, Nat.reduceLeDiff, Nat.reduceLT, Nat.reduceSub, Int.reduceToNat, Int.reduceLE, Int.reduceLT, reduceCtorEq, szv_neg, szv_pos]; first
     | ((first | refine hK' _ _ ?_ | refine hK' _ ?_ | refine hK' _ _ _ _ _ _ _ ?_); clear hK' K')
     | ((first | refine Pu.g (pu_sz_Shop _ _ (by assumption) (by omega)) rfl rfl ?_ | refine Pu.g (pu_to_Shop _ (by omega)) rfl rfl ?_ | refine Pu.g (pu_spec_ShopOk _ (by omega)) rfl rfl ?_ | refine Pu.g (pu_impl_ShopOk _ (by omega)) rfl rfl ?_ | refine Pu.g (pu_eq_Shop _ _ (by omega)) rfl rfl ?_); (first | refine hK' _ _ ?_ | refine hK' _ ?_ | refine hK' _ _ _ _ _ _ _ ?_); clear hK' K')
     | (refine ⟨fun hg => ?_, fun hg => ?_⟩ <;> (first | (first | refine hK' _ _ ?_ | refine hK' _ ?_ | refine hK' _ _ _ _ _ _ _ ?_) | ((first | refine Pu.g (pu_sz_Shop _ _ (by assumption) (by omega)) rfl rfl ?_ | refine Pu.g (pu_to_Shop _ (by omega)) rfl rfl ?_ | refine Pu.g (pu_spec_ShopOk _ (by omega)) rfl rfl ?_ | refine Pu.g (pu_impl_ShopOk _ (by omega)) rfl rfl ?_ | refine Pu.g (pu_eq_Shop _ _ (by omega)) rfl rfl ?_); (first | refine hK' _ _ ?_ | refine hK' _ ?_ | refine hK' _ _ _ _ _ _ _ ?_))) <;> clear hK' K' <;> (try rw [hg]) <;> (try simp only [decide_eq_true_eq, decide_eq_false_iff_not, ne_eq, Bool.not_eq_true, Bool.not_eq_false, Bool.not_eq_eq_eq_not, Bool.not_true, Bool.not_false, Decidable.not_not, beq_iff_eq, bne_iff_ne, beq_eq_false_iff_ne, Int.not_le, Int.not_lt, reduceCtorEq, not_true_eq_false, not_false_eq_true, Bool.true_eq_false, Bool.false_eq_true, Bool.and_eq_true, Bool.or_eq_false_iff, bne_eq_false_iff_eq, Int.natCast_inj, Int.ofNat_lt] at hg) <;> (try (exfalso; omega))))
    | (simp only [andThenV_normal, andThenV_ret, andThenV_exit, outOfV_normal, outOfV_ret, outOfV_exit, ↓reduceIte, Nat.reduceEqDiff])
    | ((first | refine atEndV_r ?_ | refine atEndV_n ?_); simp (disch := omega) only [go_sem, ↓reduceIte, Nat.reduceEqDiff, Nat.reduceAdd, Nat.reduceMul, Nat.reduceLeDiff, Nat.reduceLT, Nat.reduceSub, Int.reduceToNat, Int.reduceLE, Int.reduceLT, reduceCtorEq, szv_neg, szv_pos]; try (first | rw [deep_bool_eq] | rw [deep_int_eq] | rw [deep_str_eq])))
theorem own : ownKnob Try.prog.godebug = none := by kernel_rfl
theorem laidOut : laidOutB Try.prog = true := by kernel_rfl
theorem mixed : Try.prog.follows .mixedOrders = true := by kernel_rfl
theorem params : Try.f6.params = #[37] := by kernel_rfl
theorem results : Try.f6.resultTypes = #[4] := by kernel_rfl
theorem blocks : (0 < (begin Try.prog (fun _ _ => 0) default).world.heap.size) := of_decide_eq_true (by kernel_rfl)
theorem globals : Try.prog.globals.size = 0 := by kernel_rfl
theorem shape0 : shapeOf Try.prog 12 37 = some shShop := by kernel_rfl
set_option maxRecDepth 100000 in
theorem lifted (os : Os) (started : os.Started) (H : Type) (enc : TypeId × Value → H) :
    ReturnsInHanded {} Try.checked os 6 .any (Rows.fnExactShopOkSpec.pre6 enc Try.prog Try.f6 Rows.fnExactShopOkRow.domain false) (Rows.fnExactShopOkSpec.post enc Try.prog Try.f6 false true false false) := by
  refine returnsInHanded_of_change_shaped (C := Try.checked) own started (by kernel_rfl) Try.func6
    (ChangeSpec.witness6 (enc := enc) (C := Try.checked) false ⟨#[], #[.agg #[.slice none 0 0, .slice none 0 0]], []⟩ 8 (by kernel_rfl) (by kernel_rfl) (by kernel_rfl) (by kernel_rfl)) ?_
  intro W base args ds gs before hval0 hW _ _ hsh _
  have h0 : 0 < W.heap.size := by
    obtain ⟨o, _, ho, _⟩ := hsh.2 0 (by show Try.prog.globals.size ≤ 0; rw [globals]; exact Nat.le_refl 0) blocks
    have ho : W.heap[0]? = some o := ho
    exact (Array.getElem?_eq_some_iff.1 ho).1
  have hval : ∀ (j : Nat) t v, Try.f6.params[j]? = some t → args[j]? = some v → Value.okWide Try.prog W .any base t v := hval0
  obtain ⟨p, q, hA0, hV, _⟩ := id hW
  have hA : DataW.TrodAll enc Try.prog W 0 (fun _ => true) true Try.f6.params.toList args.toList ds p := hA0
  rw [params] at hA hval
  obtain ⟨v0, vs0, d0, ds0, p0, q0, hargs0, hds0, _, h1, r0⟩ := trodAll_cons hA
  obtain ⟨rfl, rfl, rfl⟩ := trodAll_nil r0
  obtain rfl : args = #[v0] := by cases args; simp_all
  obtain ⟨cs0, rfl⟩ : ∃ cs, v0 = .agg cs := by
    have := hval 0 37 v0 rfl rfl
    unfold Value.okWide at this
    rw [Try.underlying37] at this
    obtain ⟨cs, rfl, _⟩ := this
    exact ⟨cs, rfl⟩
  obtain ⟨e0, g0, f0⟩ := arg_agg h0 shape0 h1 cs0 rfl
  obtain ⟨a, rfl, w0⟩ := fitShop _ f0
  refine law_post (tb := 4) laidOut (by rw [params]; intro t ht; simp at ht; (repeat' (first | (rcases ht with rfl | ht) | subst ht)) <;> exact ⟨by kernel_rfl, of_decide_eq_true (by kernel_rfl)⟩) results Try.underlying4 rfl (fun ds hd => ?_) hW
    (enterV mixed W _ (ds := [.agg a.enc]) ?_ (law a w0))
  · rw [params] at hd
    match ds, hd with
    | [_], _ => rfl
  · show RCells (cxW W) (absH W) _ [absV W (.agg cs0)]
    exact .cons g0 (.nil)
end Go.Proofs.Ytmbikamebhoelaa.Ai.Av.exactShopOk
namespace Go.Proofs.Ytmbikamebhoelaa
open Go Go.Proofs.Ytmbikamebhoelaa.Ai.Av.exactShopOk
theorem exactShopOk : Rows.FnExactShopOkSaid :=
  OpenClaim.holds_of_wide 6 Try.f6 rfl rfl rfl rfl rfl rfl rfl ⟨rfl, rfl, rfl, rfl, rfl⟩ rfl rfl rfl rfl rfl (by kernel_rfl) Try.func6 (by kernel_rfl)
    (of_decide_eq_true (by kernel_rfl)) (by unfold Func.isWrapper; first | (rw [if_pos (by decide +kernel)]; kernel_rfl) | (rw [if_neg (by decide +kernel)]; exact ⟨rfl, rfl⟩))
    (fun os started H enc _ => lifted os started H enc)
end Go.Proofs.Ytmbikamebhoelaa
