/- FnExactShopOpen holds for every input: it returns true and writes to nothing that was there. No condition. -/
import Derived.Test.YtmbikamebhoelaaRows
import Derived.Test.YtmbikamebhoelaaAiF
import Derived.Test.YtmbikamebhoelaaAi25
import Derived.Test.YtmbikamebhoelaaAi27
set_option linter.unusedVariables false
namespace Go.Proofs.Ytmbikamebhoelaa.ExactShopOpen
open Go Go.ChangeShapes Go.WideShapes Go.ChangeAt Go.RowKit Go.Proofs.Ytmbikamebhoelaa.Ai

noncomputable def fs : List (Nat × Func) := [(3, Try.f3), (14, Try.f14), (15, Try.f15), (16, Try.f16), (17, Try.f17), (18, Try.f18), (66, Try.f66), (67, Try.f67), (53, Try.f53), (68, Try.f68), (60, Try.f60), (69, Try.f69), (70, Try.f70), (71, Try.f71), (105, Try.f105), (112, Try.f112), (113, Try.f113), (118, Try.f118), (139, Try.f139), (117, Try.f117), (142, Try.f142), (143, Try.f143), (161, Try.f161), (170, Try.f170)]
theorem fs_ok : TabOk Try.prog (tabL fs) := tabL_ok _ (by
  intro p hp
  simp only [fs, List.mem_cons, List.not_mem_nil, or_false] at hp
  rcases hp with rfl | rfl | rfl | rfl | rfl | rfl | rfl | rfl | rfl | rfl | rfl | rfl | rfl | rfl | rfl | rfl | rfl | rfl | rfl | rfl | rfl | rfl | rfl | rfl
  · exact ⟨Try.func3, okf_3⟩
  · exact ⟨Try.func14, okf_14⟩
  · exact ⟨Try.func15, okf_15⟩
  · exact ⟨Try.func16, okf_16⟩
  · exact ⟨Try.func17, okf_17⟩
  · exact ⟨Try.func18, okf_18⟩
  · exact ⟨Try.func66, okf_66⟩
  · exact ⟨Try.func67, okf_67⟩
  · exact ⟨Try.func53, okf_53⟩
  · exact ⟨Try.func68, okf_68⟩
  · exact ⟨Try.func60, okf_60⟩
  · exact ⟨Try.func69, okf_69⟩
  · exact ⟨Try.func70, okf_70⟩
  · exact ⟨Try.func71, okf_71⟩
  · exact ⟨Try.func105, okf_105⟩
  · exact ⟨Try.func112, okf_112⟩
  · exact ⟨Try.func113, okf_113⟩
  · exact ⟨Try.func118, okf_118⟩
  · exact ⟨Try.func139, okf_139⟩
  · exact ⟨Try.func117, okf_117⟩
  · exact ⟨Try.func142, okf_142⟩
  · exact ⟨Try.func143, okf_143⟩
  · exact ⟨Try.func161, okf_161⟩
  · exact ⟨Try.func170, okf_170⟩)
set_option maxRecDepth 100000 in
theorem run : saysTrue (runF Try.prog (primA Try.prog) (tabL fs) 64 20 3 [] [none]) = true := by kernel_rfl
theorem own : ownKnob Try.prog.godebug = none := by kernel_rfl
theorem laidOut : laidOutB Try.prog = true := by kernel_rfl
theorem mixed : Try.prog.follows .mixedOrders = true := by kernel_rfl
theorem params : Try.f3.params = #[] := by kernel_rfl
theorem results : Try.f3.resultTypes = #[4] := by kernel_rfl
theorem walk (W : World) (args : Array Value) (h : args.toList = []) : Calls Try.prog 3 args W fun e W' => e = .returned (.bool true) ∧ World.Since W.heap.size W W' := by
  refine enter0 (X := fun _ _ _ => False) mixed (fun _ _ _ h => h.elim) W args (by rw [h]; trivial) ?_
  rw [h]
  exact wpF_true primA_ok fs_ok run
set_option maxRecDepth 100000 in
theorem lifted (os : Os) (started : os.Started) (H : Type) (enc : TypeId × Value → H) :
    ReturnsInHanded {} Try.checked os 3 .any (Rows.fnExactShopOpenSpec.pre6 enc Try.prog Try.f3 Rows.fnExactShopOpenRow.domain false) (Rows.fnExactShopOpenSpec.post enc Try.prog Try.f3 false true false false) := by
  refine returnsInHanded_of_change (C := Try.checked) own started (by kernel_rfl) Try.func3
    (ChangeSpec.witness6 (enc := enc) (C := Try.checked) false ⟨#[], #[], []⟩ 8 (by kernel_rfl) (by kernel_rfl) (by kernel_rfl) (by kernel_rfl)) ?_
  intro W base args ds gs before hval hW _ _
  have hW0 := hW
  obtain ⟨p, q, hA, hV, _⟩ := hW0
  have hlen := (trodAll_len hA).2
  have ha : args.toList = [] := by
    have : Try.f3.params.toList = [] := by rw [params]
    rw [this] at hlen
    exact List.length_eq_zero_iff.1 hlen
  refine law_post (tb := 4) laidOut (by rw [params]; intro t ht; simp at ht) results Try.underlying4 rfl (fun ds hd => ?_) hW (walk W args ha)
  rw [params] at hd
  obtain rfl : ds = [] := List.length_eq_zero_iff.1 (by simpa using hd)
  rfl
end Go.Proofs.Ytmbikamebhoelaa.ExactShopOpen
namespace Go.Proofs.Ytmbikamebhoelaa
open Go ExactShopOpen
theorem exactShopOpen : Rows.FnExactShopOpenSaid :=
  OpenClaim.holds_of_wide 3 Try.f3 rfl rfl rfl rfl rfl rfl rfl ⟨rfl, rfl, rfl, rfl, rfl⟩ rfl rfl rfl rfl rfl (by kernel_rfl) Try.func3 (by kernel_rfl)
    (of_decide_eq_true (by kernel_rfl)) (by unfold Func.isWrapper; first | (rw [if_pos (by decide +kernel)]; kernel_rfl) | (rw [if_neg (by decide +kernel)]; exact ⟨rfl, rfl⟩))
    (fun os started H enc _ => lifted os started H enc)
end Go.Proofs.Ytmbikamebhoelaa
