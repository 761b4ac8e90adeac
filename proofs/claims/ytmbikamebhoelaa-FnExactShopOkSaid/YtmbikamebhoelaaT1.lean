/- What a law's argument reads as is a structure's data, within the machine's bounds. Printed by gen_t1.py. No condition. -/
import Derived.Test.YtmbikamebhoelaaV11
set_option linter.unusedVariables false
namespace Go.Proofs.Ytmbikamebhoelaa.Ai.Av
open Go

theorem FitAll.cons {s : Sh} {ss : List Sh} {ds : List D} (h : FitAll (s :: ss) ds) : ∃ d ds', ds = d :: ds' ∧ Fit s d ∧ FitAll ss ds' := by
  simp only [FitAll] at h; exact h
theorem FitAll.nil {ds : List D} (h : FitAll [] ds) : ds = [] := by simp only [FitAll] at h; exact h
theorem Fit.int {d : D} (h : Fit (.int .i64) d) : ∃ n, d = .int .i64 n ∧ i64ok n := by simp only [Fit] at h; exact h
theorem Fit.bool {d : D} (h : Fit .bool d) : ∃ n, d = .bool n := by simp only [Fit] at h; exact h
theorem Fit.str {d : D} (h : Fit .str d) : ∃ n, d = .str n ∧ strok n := by simp only [Fit] at h; exact h
theorem Fit.sl {α : Type} {w : Nat} {s : List Sh} {d : D} (e : α → List D) (p : α → Prop) (k : ∀ ds, FitAll s ds → ∃ x : α, e x = ds ∧ p x) (h : Fit (.sl w s) d) : ∃ xs : List α, d = .sl w (xs.map e) ∧ lok p xs := by
  simp only [Fit] at h
  obtain ⟨rows, rfl, hl, h⟩ := h
  have : ∃ xs : List α, xs.map e = rows ∧ ∀ x ∈ xs, p x := by
    clear hl
    induction rows with
    | nil => exact ⟨[], rfl, by simp⟩
    | cons r rows ih =>
      obtain ⟨x, hx, hp⟩ := k r (h r (by simp))
      obtain ⟨xs, hxs, hps⟩ := ih (fun r hr => h r (by simp [hr]))
      refine ⟨x :: xs, by simp [hx, hxs], fun y hy => ?_⟩
      simp only [List.mem_cons] at hy
      rcases hy with rfl | hy
      · exact hp
      · exact hps y hy
  obtain ⟨xs, rfl, hp⟩ := this
  exact ⟨xs, rfl, by simpa using hl, hp⟩
def shEnt : List Sh := [.str, .int .i64]
theorem fitEnt (ds : List D) (h : FitAll shEnt ds) : ∃ x : Ent, x.enc = ds ∧ x.wf := by
  obtain ⟨d0, _, rfl, h0, h⟩ := h.cons
  obtain ⟨d1, _, rfl, h1, h⟩ := h.cons
  obtain rfl := h.nil
  obtain ⟨name, rfl, w_name⟩ := h0.str
  obtain ⟨id, rfl, w_id⟩ := h1.int
  exact ⟨⟨name, id⟩, rfl, ⟨w_name, w_id⟩⟩
def shTObj : List Sh := [.int .i64, .int .i64, .str, .sl 2 shEnt]
theorem fitTObj (ds : List D) (h : FitAll shTObj ds) : ∃ x : TObj, x.enc = ds ∧ x.wf := by
  obtain ⟨d0, _, rfl, h0, h⟩ := h.cons
  obtain ⟨d1, _, rfl, h1, h⟩ := h.cons
  obtain ⟨d2, _, rfl, h2, h⟩ := h.cons
  obtain ⟨d3, _, rfl, h3, h⟩ := h.cons
  obtain rfl := h.nil
  obtain ⟨kind, rfl, w_kind⟩ := h0.int
  obtain ⟨ver, rfl, w_ver⟩ := h1.int
  obtain ⟨text, rfl, w_text⟩ := h2.str
  obtain ⟨kids, rfl, w_kids⟩ := Fit.sl Ent.enc Ent.wf fitEnt h3
  exact ⟨⟨kind, ver, text, kids⟩, rfl, ⟨w_kind, w_ver, w_text, w_kids⟩⟩
def shTree : List Sh := [.sl 4 shTObj]
theorem fitTree (ds : List D) (h : FitAll shTree ds) : ∃ x : Tree, x.enc = ds ∧ x.wf := by
  obtain ⟨d0, _, rfl, h0, h⟩ := h.cons
  obtain rfl := h.nil
  obtain ⟨objs, rfl, w_objs⟩ := Fit.sl TObj.enc TObj.wf fitTObj h0
  exact ⟨⟨objs⟩, rfl, w_objs⟩
def shTOp : List Sh := [.int .i64, .int .i64, .str, .int .i64, .str, .int .i64, .str]
theorem fitTOp (ds : List D) (h : FitAll shTOp ds) : ∃ x : TOp, x.enc = ds ∧ x.wf := by
  obtain ⟨d0, _, rfl, h0, h⟩ := h.cons
  obtain ⟨d1, _, rfl, h1, h⟩ := h.cons
  obtain ⟨d2, _, rfl, h2, h⟩ := h.cons
  obtain ⟨d3, _, rfl, h3, h⟩ := h.cons
  obtain ⟨d4, _, rfl, h4, h⟩ := h.cons
  obtain ⟨d5, _, rfl, h5, h⟩ := h.cons
  obtain ⟨d6, _, rfl, h6, h⟩ := h.cons
  obtain rfl := h.nil
  obtain ⟨kind, rfl, w_kind⟩ := h0.int
  obtain ⟨dir, rfl, w_dir⟩ := h1.int
  obtain ⟨name, rfl, w_name⟩ := h2.str
  obtain ⟨dir2, rfl, w_dir2⟩ := h3.int
  obtain ⟨name2, rfl, w_name2⟩ := h4.str
  obtain ⟨id, rfl, w_id⟩ := h5.int
  obtain ⟨text, rfl, w_text⟩ := h6.str
  exact ⟨⟨kind, dir, name, dir2, name2, id, text⟩, rfl, ⟨w_kind, w_dir, w_name, w_dir2, w_name2, w_id, w_text⟩⟩
theorem fitOps (ds : List D) (h : FitAll [.sl 7 shTOp] ds) : ∃ x : List TOp, opsEnc x = ds ∧ lok TOp.wf x := by
  obtain ⟨d0, _, rfl, h0, h⟩ := h.cons
  obtain rfl := h.nil
  obtain ⟨x, rfl, w⟩ := Fit.sl TOp.enc TOp.wf fitTOp h0
  exact ⟨x, rfl, w⟩
def shBase : List Sh := [.int .i64, .int .i64]
theorem fitBase (ds : List D) (h : FitAll shBase ds) : ∃ x : Base, x.enc = ds ∧ x.wf := by
  obtain ⟨d0, _, rfl, h0, h⟩ := h.cons
  obtain ⟨d1, _, rfl, h1, h⟩ := h.cons
  obtain rfl := h.nil
  obtain ⟨id, rfl, w_id⟩ := h0.int
  obtain ⟨ver, rfl, w_ver⟩ := h1.int
  exact ⟨⟨id, ver⟩, rfl, ⟨w_id, w_ver⟩⟩
def shLog : List Sh := [.int .i64, .int .i64, .sl 2 shBase, .sl 7 shTOp]
theorem fitLog (ds : List D) (h : FitAll shLog ds) : ∃ x : Log, x.enc = ds ∧ x.wf := by
  obtain ⟨d0, _, rfl, h0, h⟩ := h.cons
  obtain ⟨d1, _, rfl, h1, h⟩ := h.cons
  obtain ⟨d2, _, rfl, h2, h⟩ := h.cons
  obtain ⟨d3, _, rfl, h3, h⟩ := h.cons
  obtain rfl := h.nil
  obtain ⟨who, rfl, w_who⟩ := h0.int
  obtain ⟨seq, rfl, w_seq⟩ := h1.int
  obtain ⟨bases, rfl, w_bases⟩ := Fit.sl Base.enc Base.wf fitBase h2
  obtain ⟨list, rfl, w_list⟩ := Fit.sl TOp.enc TOp.wf fitTOp h3
  exact ⟨⟨who, seq, bases, list⟩, rfl, ⟨w_who, w_seq, w_bases, w_list⟩⟩
def shDone : List Sh := [.int .i64, .int .i64, .int .i64]
theorem fitDone (ds : List D) (h : FitAll shDone ds) : ∃ x : Done, x.enc = ds ∧ x.wf := by
  obtain ⟨d0, _, rfl, h0, h⟩ := h.cons
  obtain ⟨d1, _, rfl, h1, h⟩ := h.cons
  obtain ⟨d2, _, rfl, h2, h⟩ := h.cons
  obtain rfl := h.nil
  obtain ⟨who, rfl, w_who⟩ := h0.int
  obtain ⟨seq, rfl, w_seq⟩ := h1.int
  obtain ⟨code, rfl, w_code⟩ := h2.int
  exact ⟨⟨who, seq, code⟩, rfl, ⟨w_who, w_seq, w_code⟩⟩
def shShop : List Sh := [.sl 4 shTObj, .sl 3 shDone]
theorem fitShop (ds : List D) (h : FitAll shShop ds) : ∃ x : Shop, x.enc = ds ∧ x.wf := by
  obtain ⟨d0, _, rfl, h0, h⟩ := h.cons
  obtain ⟨d1, _, rfl, h1, h⟩ := h.cons
  obtain rfl := h.nil
  obtain ⟨tree_objs, rfl, w_tree_objs⟩ := Fit.sl TObj.enc TObj.wf fitTObj h0
  obtain ⟨dones, rfl, w_dones⟩ := Fit.sl Done.enc Done.wf fitDone h1
  exact ⟨⟨⟨tree_objs⟩, dones⟩, rfl, ⟨w_tree_objs, w_dones⟩⟩
def shKeep : List Sh := [.int .i64, .int .i64, .sl 4 shTObj, .bool, .sl 7 shTOp, .sl 7 shTOp, .sl 1 [.sl 7 shTOp]]
theorem fitKeep (ds : List D) (h : FitAll shKeep ds) : ∃ x : Keep, x.enc = ds ∧ x.wf := by
  obtain ⟨d0, _, rfl, h0, h⟩ := h.cons
  obtain ⟨d1, _, rfl, h1, h⟩ := h.cons
  obtain ⟨d2, _, rfl, h2, h⟩ := h.cons
  obtain ⟨d3, _, rfl, h3, h⟩ := h.cons
  obtain ⟨d4, _, rfl, h4, h⟩ := h.cons
  obtain ⟨d5, _, rfl, h5, h⟩ := h.cons
  obtain ⟨d6, _, rfl, h6, h⟩ := h.cons
  obtain rfl := h.nil
  obtain ⟨who, rfl, w_who⟩ := h0.int
  obtain ⟨seq, rfl, w_seq⟩ := h1.int
  obtain ⟨base_objs, rfl, w_base_objs⟩ := Fit.sl TObj.enc TObj.wf fitTObj h2
  obtain ⟨waits, rfl⟩ := h3.bool
  obtain ⟨sent, rfl, w_sent⟩ := Fit.sl TOp.enc TOp.wf fitTOp h4
  obtain ⟨list, rfl, w_list⟩ := Fit.sl TOp.enc TOp.wf fitTOp h5
  obtain ⟨shelf, rfl, w_shelf⟩ := Fit.sl opsEnc (lok TOp.wf) fitOps h6
  exact ⟨⟨who, seq, ⟨base_objs⟩, waits, sent, list, shelf⟩, rfl, ⟨w_who, w_seq, w_base_objs, w_sent, w_list, w_shelf⟩⟩
def shMsg : List Sh := [.int .i64, .int .i64, .int .i64, .int .i64, .int .i64, .sl 2 shBase, .sl 7 shTOp, .int .i64, .sl 4 shTObj]
theorem fitMsg (ds : List D) (h : FitAll shMsg ds) : ∃ x : Msg, x.enc = ds ∧ x.wf := by
  obtain ⟨d0, _, rfl, h0, h⟩ := h.cons
  obtain ⟨d1, _, rfl, h1, h⟩ := h.cons
  obtain ⟨d2, _, rfl, h2, h⟩ := h.cons
  obtain ⟨d3, _, rfl, h3, h⟩ := h.cons
  obtain ⟨d4, _, rfl, h4, h⟩ := h.cons
  obtain ⟨d5, _, rfl, h5, h⟩ := h.cons
  obtain ⟨d6, _, rfl, h6, h⟩ := h.cons
  obtain ⟨d7, _, rfl, h7, h⟩ := h.cons
  obtain ⟨d8, _, rfl, h8, h⟩ := h.cons
  obtain rfl := h.nil
  obtain ⟨kind, rfl, w_kind⟩ := h0.int
  obtain ⟨who, rfl, w_who⟩ := h1.int
  obtain ⟨seq, rfl, w_seq⟩ := h2.int
  obtain ⟨log_who, rfl, w_log_who⟩ := h3.int
  obtain ⟨log_seq, rfl, w_log_seq⟩ := h4.int
  obtain ⟨log_bases, rfl, w_log_bases⟩ := Fit.sl Base.enc Base.wf fitBase h5
  obtain ⟨log_list, rfl, w_log_list⟩ := Fit.sl TOp.enc TOp.wf fitTOp h6
  obtain ⟨code, rfl, w_code⟩ := h7.int
  obtain ⟨tree_objs, rfl, w_tree_objs⟩ := Fit.sl TObj.enc TObj.wf fitTObj h8
  exact ⟨⟨kind, who, seq, ⟨log_who, log_seq, log_bases, log_list⟩, code, ⟨tree_objs⟩⟩, rfl, ⟨w_kind, w_who, w_seq, ⟨w_log_who, w_log_seq, w_log_bases, w_log_list⟩, w_code, w_tree_objs⟩⟩
def shTold : List Sh := [.int .i64, .int .i64, .int .i64]
theorem fitTold (ds : List D) (h : FitAll shTold ds) : ∃ x : Told, x.enc = ds ∧ x.wf := by
  obtain ⟨d0, _, rfl, h0, h⟩ := h.cons
  obtain ⟨d1, _, rfl, h1, h⟩ := h.cons
  obtain ⟨d2, _, rfl, h2, h⟩ := h.cons
  obtain rfl := h.nil
  obtain ⟨who, rfl, w_who⟩ := h0.int
  obtain ⟨seq, rfl, w_seq⟩ := h1.int
  obtain ⟨code, rfl, w_code⟩ := h2.int
  exact ⟨⟨who, seq, code⟩, rfl, ⟨w_who, w_seq, w_code⟩⟩
def shTWorld : List Sh := [.sl 4 shTObj, .sl 3 shDone, .sl 7 shKeep, .sl 9 shMsg, .sl 4 shLog, .sl 3 shTold]
theorem fitTWorld (ds : List D) (h : FitAll shTWorld ds) : ∃ x : TWorld, x.enc = ds ∧ x.wf := by
  obtain ⟨d0, _, rfl, h0, h⟩ := h.cons
  obtain ⟨d1, _, rfl, h1, h⟩ := h.cons
  obtain ⟨d2, _, rfl, h2, h⟩ := h.cons
  obtain ⟨d3, _, rfl, h3, h⟩ := h.cons
  obtain ⟨d4, _, rfl, h4, h⟩ := h.cons
  obtain ⟨d5, _, rfl, h5, h⟩ := h.cons
  obtain rfl := h.nil
  obtain ⟨shop_tree_objs, rfl, w_shop_tree_objs⟩ := Fit.sl TObj.enc TObj.wf fitTObj h0
  obtain ⟨shop_dones, rfl, w_shop_dones⟩ := Fit.sl Done.enc Done.wf fitDone h1
  obtain ⟨keeps, rfl, w_keeps⟩ := Fit.sl Keep.enc Keep.wf fitKeep h2
  obtain ⟨net, rfl, w_net⟩ := Fit.sl Msg.enc Msg.wf fitMsg h3
  obtain ⟨past, rfl, w_past⟩ := Fit.sl Log.enc Log.wf fitLog h4
  obtain ⟨told, rfl, w_told⟩ := Fit.sl Told.enc Told.wf fitTold h5
  exact ⟨⟨⟨⟨shop_tree_objs⟩, shop_dones⟩, keeps, net, past, told⟩, rfl, ⟨⟨w_shop_tree_objs, w_shop_dones⟩, w_keeps, w_net, w_past, w_told⟩⟩
def shTEvent : List Sh := [.int .i64, .int .i64, .int .i64, .int .i64, .int .i64, .str, .int .i64, .str, .int .i64, .str]
theorem fitTEvent (ds : List D) (h : FitAll shTEvent ds) : ∃ x : TEvent, x.enc = ds ∧ x.wf := by
  obtain ⟨d0, _, rfl, h0, h⟩ := h.cons
  obtain ⟨d1, _, rfl, h1, h⟩ := h.cons
  obtain ⟨d2, _, rfl, h2, h⟩ := h.cons
  obtain ⟨d3, _, rfl, h3, h⟩ := h.cons
  obtain ⟨d4, _, rfl, h4, h⟩ := h.cons
  obtain ⟨d5, _, rfl, h5, h⟩ := h.cons
  obtain ⟨d6, _, rfl, h6, h⟩ := h.cons
  obtain ⟨d7, _, rfl, h7, h⟩ := h.cons
  obtain ⟨d8, _, rfl, h8, h⟩ := h.cons
  obtain ⟨d9, _, rfl, h9, h⟩ := h.cons
  obtain rfl := h.nil
  obtain ⟨kind, rfl, w_kind⟩ := h0.int
  obtain ⟨a, rfl, w_a⟩ := h1.int
  obtain ⟨b, rfl, w_b⟩ := h2.int
  obtain ⟨op_kind, rfl, w_op_kind⟩ := h3.int
  obtain ⟨op_dir, rfl, w_op_dir⟩ := h4.int
  obtain ⟨op_name, rfl, w_op_name⟩ := h5.str
  obtain ⟨op_dir2, rfl, w_op_dir2⟩ := h6.int
  obtain ⟨op_name2, rfl, w_op_name2⟩ := h7.str
  obtain ⟨op_id, rfl, w_op_id⟩ := h8.int
  obtain ⟨op_text, rfl, w_op_text⟩ := h9.str
  exact ⟨⟨kind, a, b, ⟨op_kind, op_dir, op_name, op_dir2, op_name2, op_id, op_text⟩⟩, rfl, ⟨w_kind, w_a, w_b, ⟨w_op_kind, w_op_dir, w_op_name, w_op_dir2, w_op_name2, w_op_id, w_op_text⟩⟩⟩

/-! ### A law's call, from its walk -/
theorem enterV {P : Program} (hm : P.follows .mixedOrders = true) {f : FuncId} (W : World) (args : Array Value) {ds : List D} (ha : RCells (cxW W) (absH W) ds (args.toList.map (absV W)))
    (h : VF P (fun _ _ _ => False) f ds [] (fun d _ => d = .bool true)) : Calls P f args W fun e W' => e = .returned (.bool true) ∧ World.Since W.heap.size W W' := by
  refine enter hm (X := fun _ _ _ => False) (fun _ _ _ h => h.elim) W args ((h (cxW W) (absH W) _ (hrW W) ha).mono fun v H' hk => ?_)
  obtain ⟨c', d, hv', k1, _, _, rfl⟩ := hk
  simpa only [RD] using k1
section
variable {H : Type} {enc : TypeId × Value → H} {P : Program} {W : World}
/-- One argument: a struct. -/
theorem arg_agg (h0 : 0 < W.heap.size) {t : TypeId} {sh : List Sh} (hs : shapeOf P 12 t = some sh) {v : Value} {d : DataW H} {p : List MemPlace} (hd : DataW.Trod enc P W 0 (fun _ => true) true t v d p) (cs : Array Value) (hv : v = .agg cs) :
    ∃ ds, RD (cxW W) (absH W) (.agg ds) (absV W v) ∧ FitAll sh ds := by
  obtain ⟨fuel, hx⟩ := hd
  subst hv
  have := read_shape h0 12 t sh hs fuel cs.toList _ hx
  obtain ⟨_, ds, k1, k2⟩ := this
  refine ⟨ds, ?_, k2⟩
  simp only [absV, RD]
  refine ⟨(cs.toList.map (absS W)), ?_, k1.im⟩
  congr 1
  apply Array.ext'; simp
end
end Go.Proofs.Ytmbikamebhoelaa.Ai.Av
