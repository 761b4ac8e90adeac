/- FnExactKeepOpen holds for every input: it returns true and writes to nothing that was there. No condition. -/
import Derived.Test.YtmbikamebhoelaaRows
import Derived.Test.YtmbikamebhoelaaAiF
import Derived.Test.YtmbikamebhoelaaAi25
import Derived.Test.YtmbikamebhoelaaAi27
set_option linter.unusedVariables false
namespace Go.Proofs.Ytmbikamebhoelaa.ExactKeepOpen
open Go Go.ChangeShapes Go.WideShapes Go.ChangeAt Go.RowKit Go.Proofs.Ytmbikamebhoelaa.Ai

noncomputable def fs : List (Nat × Func) := [(5, Try.f5), (23, Try.f23), (24, Try.f24), (25, Try.f25), (26, Try.f26), (27, Try.f27), (66, Try.f66), (67, Try.f67), (77, Try.f77), (82, Try.f82), (53, Try.f53), (59, Try.f59), (78, Try.f78), (60, Try.f60), (61, Try.f61), (79, Try.f79), (70, Try.f70), (80, Try.f80), (81, Try.f81), (105, Try.f105), (112, Try.f112), (113, Try.f113), (118, Try.f118), (139, Try.f139), (142, Try.f142), (143, Try.f143), (161, Try.f161), (170, Try.f170), (111, Try.f111)]
theorem fs_ok : TabOk Try.prog (tabL fs) := tabL_ok _ (by
  intro p hp
  simp only [fs, List.mem_cons, List.not_mem_nil, or_false] at hp
  rcases hp with rfl | rfl | rfl | rfl | rfl | rfl | rfl | rfl | rfl | rfl | rfl | rfl | rfl | rfl | rfl | rfl | rfl | rfl | rfl | rfl | rfl | rfl | rfl | rfl | rfl | rfl | rfl | rfl | rfl
  · exact ⟨Try.func5, okf_5⟩
  · exact ⟨Try.func23, okf_23⟩
  · exact ⟨Try.func24, okf_24⟩
  · exact ⟨Try.func25, okf_25⟩
  · exact ⟨Try.func26, okf_26⟩
  · exact ⟨Try.func27, okf_27⟩
  · exact ⟨Try.func66, okf_66⟩
  · exact ⟨Try.func67, okf_67⟩
  · exact ⟨Try.func77, okf_77⟩
  · exact ⟨Try.func82, okf_82⟩
  · exact ⟨Try.func53, okf_53⟩
  · exact ⟨Try.func59, okf_59⟩
  · exact ⟨Try.func78, okf_78⟩
  · exact ⟨Try.func60, okf_60⟩
  · exact ⟨Try.func61, okf_61⟩
  · exact ⟨Try.func79, okf_79⟩
  · exact ⟨Try.func70, okf_70⟩
  · exact ⟨Try.func80, okf_80⟩
  · exact ⟨Try.func81, okf_81⟩
  · exact ⟨Try.func105, okf_105⟩
  · exact ⟨Try.func112, okf_112⟩
  · exact ⟨Try.func113, okf_113⟩
  · exact ⟨Try.func118, okf_118⟩
  · exact ⟨Try.func139, okf_139⟩
  · exact ⟨Try.func142, okf_142⟩
  · exact ⟨Try.func143, okf_143⟩
  · exact ⟨Try.func161, okf_161⟩
  · exact ⟨Try.func170, okf_170⟩
  · exact ⟨Try.func111, okf_111⟩)
set_option maxRecDepth 100000 in
theorem run0 (k : Nat) : saysTrue (runF Try.prog (primS Try.prog) (tabL fs) 64 20 5 [.int .i64 (Int.negSucc k)] [none]) = true := by kernel_rfl
set_option maxRecDepth 100000 in
theorem run1 : saysTrue (runF Try.prog (primS Try.prog) (tabL fs) 64 20 5 [.int .i64 (Int.ofNat 0)] [none]) = true := by kernel_rfl
set_option maxRecDepth 100000 in
theorem run2 : saysTrue (runF Try.prog (primS Try.prog) (tabL fs) 64 20 5 [.int .i64 (Int.ofNat 1)] [none]) = true := by kernel_rfl
set_option maxRecDepth 100000 in
theorem run3 : saysTrue (runF Try.prog (primS Try.prog) (tabL fs) 64 20 5 [.int .i64 (Int.ofNat 2)] [none]) = true := by kernel_rfl
set_option maxRecDepth 100000 in
theorem run4 (k : Nat) : saysTrue (runF Try.prog (primS Try.prog) (tabL fs) 64 20 5 [.int .i64 (Int.ofNat (k + 3))] [none]) = true := by kernel_rfl
theorem own : ownKnob Try.prog.godebug = none := by kernel_rfl
theorem laidOut : laidOutB Try.prog = true := by kernel_rfl
theorem mixed : Try.prog.follows .mixedOrders = true := by kernel_rfl
theorem params : Try.f5.params = #[3] := by kernel_rfl
theorem results : Try.f5.resultTypes = #[4] := by kernel_rfl
theorem walk (W : World) (n : Int) : Calls Try.prog 5 #[.int .i64 n] W fun e W' => e = .returned (.bool true) ∧ World.Since W.heap.size W W' := by
  refine enter0 (X := fun _ _ _ => False) mixed (fun _ _ _ h => h.elim) W #[.int .i64 n] ⟨rfl, trivial⟩ ?_
  show wpF Try.prog _ 5 [.int .i64 n] [none] _
  match n with
  | Int.negSucc k => exact wpF_true primS_ok fs_ok (run0 k)
  | Int.ofNat 0 => exact wpF_true primS_ok fs_ok (run1)
  | Int.ofNat 1 => exact wpF_true primS_ok fs_ok (run2)
  | Int.ofNat 2 => exact wpF_true primS_ok fs_ok (run3)
  | Int.ofNat (k + 3) => exact wpF_true primS_ok fs_ok (run4 k)
set_option maxRecDepth 100000 in
theorem lifted (os : Os) (started : os.Started) (H : Type) (enc : TypeId × Value → H) :
    ReturnsInHanded {} Try.checked os 5 .any (Rows.fnExactKeepOpenSpec.pre6 enc Try.prog Try.f5 Rows.fnExactKeepOpenRow.domain false) (Rows.fnExactKeepOpenSpec.post enc Try.prog Try.f5 false true false false) := by
  refine returnsInHanded_of_change (C := Try.checked) own started (by kernel_rfl) Try.func5
    (ChangeSpec.witness6 (enc := enc) (C := Try.checked) false ⟨#[], #[.int .i64 0], []⟩ 8 (by kernel_rfl) (by kernel_rfl) (by kernel_rfl) (by kernel_rfl)) ?_
  intro W base args ds gs before hval0 hW _ _
  have hval : ∀ (j : Nat) t v, Try.f5.params[j]? = some t → args[j]? = some v → Value.okWide Try.prog W .any base t v := hval0
  obtain ⟨p, q, hA0, hV, _⟩ := id hW
  have hA : DataW.TrodAll enc Try.prog W 0 (fun _ => true) true Try.f5.params.toList args.toList ds p := hA0
  rw [params] at hA hval
  obtain ⟨v0, vs0, d0, ds0, p0, q0, hargs, hds, _, h0, r0⟩ := trodAll_cons hA
  obtain ⟨rfl, rfl, rfl⟩ := trodAll_nil r0
  obtain rfl : args = #[v0] := by cases args; simp_all
  obtain ⟨a0, rfl, _⟩ := open_int Try.underlying3 (hval 0 3 v0 rfl rfl) h0
  refine law_post (tb := 4) laidOut (by rw [params]; intro t ht; simp at ht; subst ht; exact ⟨by kernel_rfl, of_decide_eq_true (by kernel_rfl)⟩) results Try.underlying4 rfl (fun ds hd => ?_) hW (walk W a0)
  rw [params] at hd
  match ds, hd with
  | [d], _ => rfl
end Go.Proofs.Ytmbikamebhoelaa.ExactKeepOpen
namespace Go.Proofs.Ytmbikamebhoelaa
open Go ExactKeepOpen
theorem exactKeepOpen : Rows.FnExactKeepOpenSaid :=
  OpenClaim.holds_of_wide 5 Try.f5 rfl rfl rfl rfl rfl rfl rfl ⟨rfl, rfl, rfl, rfl, rfl⟩ rfl rfl rfl rfl rfl (by kernel_rfl) Try.func5 (by kernel_rfl)
    (of_decide_eq_true (by kernel_rfl)) (by unfold Func.isWrapper; first | (rw [if_pos (by decide +kernel)]; kernel_rfl) | (rw [if_neg (by decide +kernel)]; exact ⟨rfl, rfl⟩))
    (fun os started H enc _ => lifted os started H enc)
end Go.Proofs.Ytmbikamebhoelaa
