/- The structures as cells of data; sizes and bounds. Printed by gen_e0.py. No condition. -/
import Derived.Test.YtmbikamebhoelaaV5
import Derived.Test.YtmbikamebhoelaaM0
set_option linter.unusedVariables false
namespace Go.Proofs.Ytmbikamebhoelaa.Ai.Av
open Go

/-- A list's length and its elements' sizes. -/
def lsum {α : Type} (f : α → Nat) : List α → Nat
  | [] => 0
  | x :: xs => 1 + f x + lsum f xs
theorem lsum_nil {α : Type} (f : α → Nat) : lsum f [] = 0 := rfl
theorem lsum_cons {α : Type} (f : α → Nat) (x : α) (xs : List α) : lsum f (x :: xs) = 1 + f x + lsum f xs := rfl
theorem lsum_append {α : Type} (f : α → Nat) : ∀ xs ys : List α, lsum f (xs ++ ys) = lsum f xs + lsum f ys
  | [], ys => by simp [lsum]
  | x :: xs, ys => by simp only [List.cons_append, lsum, lsum_append f xs ys]; omega
theorem le_lsum {α : Type} (f : α → Nat) : ∀ xs : List α, xs.length ≤ lsum f xs
  | [] => by simp
  | x :: xs => by have := le_lsum f xs; simp only [List.length_cons, lsum]; omega
theorem mem_lsum {α : Type} (f : α → Nat) : ∀ {xs : List α} {x : α}, x ∈ xs → f x + xs.length ≤ lsum f xs
  | y :: xs, x, h => by
    simp only [List.mem_cons] at h
    rcases h with rfl | h
    · have := le_lsum f xs; simp only [List.length_cons, lsum]; omega
    · have := mem_lsum f h; simp only [List.length_cons, lsum]; omega
def i64ok (n : Int) : Prop := -9223372036854775808 ≤ n ∧ n ≤ 9223372036854775807
def strok (s : ByteArray) : Prop := s.size ≤ 9223372036854775807
def lok {α : Type} (p : α → Prop) (l : List α) : Prop := l.length ≤ 9223372036854775807 ∧ ∀ x ∈ l, p x

def Ent.enc (x : Ent) : List D := [.str x.name, .int .i64 x.id]
def Ent.tot (x : Ent) : Nat := x.name.size
def Ent.wf (x : Ent) : Prop := strok x.name ∧ i64ok x.id
theorem Ent.enc_len (x : Ent) : x.enc.length = 2 := rfl
def TObj.enc (x : TObj) : List D := [.int .i64 x.kind, .int .i64 x.ver, .str x.text, .sl 2 (x.kids.map Ent.enc)]
def TObj.tot (x : TObj) : Nat := x.text.size + lsum Ent.tot x.kids
def TObj.wf (x : TObj) : Prop := i64ok x.kind ∧ i64ok x.ver ∧ strok x.text ∧ lok Ent.wf x.kids
theorem TObj.enc_len (x : TObj) : x.enc.length = 4 := rfl
def Tree.enc (x : Tree) : List D := [.sl 4 (x.objs.map TObj.enc)]
def Tree.tot (x : Tree) : Nat := lsum TObj.tot x.objs
def Tree.wf (x : Tree) : Prop := lok TObj.wf x.objs
theorem Tree.enc_len (x : Tree) : x.enc.length = 1 := rfl
def TOp.enc (x : TOp) : List D := [.int .i64 x.kind, .int .i64 x.dir, .str x.name, .int .i64 x.dir2, .str x.name2, .int .i64 x.id, .str x.text]
def TOp.tot (x : TOp) : Nat := x.name.size + x.name2.size + x.text.size
def TOp.wf (x : TOp) : Prop := i64ok x.kind ∧ i64ok x.dir ∧ strok x.name ∧ i64ok x.dir2 ∧ strok x.name2 ∧ i64ok x.id ∧ strok x.text
theorem TOp.enc_len (x : TOp) : x.enc.length = 7 := rfl
def Base.enc (x : Base) : List D := [.int .i64 x.id, .int .i64 x.ver]
def Base.tot (x : Base) : Nat := 0
def Base.wf (x : Base) : Prop := i64ok x.id ∧ i64ok x.ver
theorem Base.enc_len (x : Base) : x.enc.length = 2 := rfl
def Log.enc (x : Log) : List D := [.int .i64 x.who, .int .i64 x.seq, .sl 2 (x.bases.map Base.enc), .sl 7 (x.list.map TOp.enc)]
def Log.tot (x : Log) : Nat := lsum Base.tot x.bases + lsum TOp.tot x.list
def Log.wf (x : Log) : Prop := i64ok x.who ∧ i64ok x.seq ∧ lok Base.wf x.bases ∧ lok TOp.wf x.list
theorem Log.enc_len (x : Log) : x.enc.length = 4 := rfl
def Done.enc (x : Done) : List D := [.int .i64 x.who, .int .i64 x.seq, .int .i64 x.code]
def Done.tot (x : Done) : Nat := 0
def Done.wf (x : Done) : Prop := i64ok x.who ∧ i64ok x.seq ∧ i64ok x.code
theorem Done.enc_len (x : Done) : x.enc.length = 3 := rfl
def Shop.enc (x : Shop) : List D := [.sl 4 (x.tree.objs.map TObj.enc), .sl 3 (x.dones.map Done.enc)]
def Shop.tot (x : Shop) : Nat := x.tree.tot + lsum Done.tot x.dones
def Shop.wf (x : Shop) : Prop := x.tree.wf ∧ lok Done.wf x.dones
theorem Shop.enc_len (x : Shop) : x.enc.length = 2 := rfl
def opsEnc (l : List TOp) : List D := [.sl 7 (l.map TOp.enc)]
def Keep.enc (x : Keep) : List D := [.int .i64 x.who, .int .i64 x.seq, .sl 4 (x.base.objs.map TObj.enc), .bool x.waits, .sl 7 (x.sent.map TOp.enc), .sl 7 (x.list.map TOp.enc), .sl 1 (x.shelf.map opsEnc)]
def Keep.tot (x : Keep) : Nat := x.base.tot + lsum TOp.tot x.sent + lsum TOp.tot x.list + lsum (lsum TOp.tot) x.shelf
def Keep.wf (x : Keep) : Prop := i64ok x.who ∧ i64ok x.seq ∧ x.base.wf ∧ lok TOp.wf x.sent ∧ lok TOp.wf x.list ∧ lok (lok TOp.wf) x.shelf
theorem Keep.enc_len (x : Keep) : x.enc.length = 7 := rfl
def Msg.enc (x : Msg) : List D := [.int .i64 x.kind, .int .i64 x.who, .int .i64 x.seq, .int .i64 x.log.who, .int .i64 x.log.seq, .sl 2 (x.log.bases.map Base.enc), .sl 7 (x.log.list.map TOp.enc), .int .i64 x.code, .sl 4 (x.tree.objs.map TObj.enc)]
def Msg.tot (x : Msg) : Nat := x.log.tot + x.tree.tot
def Msg.wf (x : Msg) : Prop := i64ok x.kind ∧ i64ok x.who ∧ i64ok x.seq ∧ x.log.wf ∧ i64ok x.code ∧ x.tree.wf
theorem Msg.enc_len (x : Msg) : x.enc.length = 9 := rfl
def Told.enc (x : Told) : List D := [.int .i64 x.who, .int .i64 x.seq, .int .i64 x.code]
def Told.tot (x : Told) : Nat := 0
def Told.wf (x : Told) : Prop := i64ok x.who ∧ i64ok x.seq ∧ i64ok x.code
theorem Told.enc_len (x : Told) : x.enc.length = 3 := rfl
def TWorld.enc (x : TWorld) : List D := [.sl 4 (x.shop.tree.objs.map TObj.enc), .sl 3 (x.shop.dones.map Done.enc), .sl 7 (x.keeps.map Keep.enc), .sl 9 (x.net.map Msg.enc), .sl 4 (x.past.map Log.enc), .sl 3 (x.told.map Told.enc)]
def TWorld.tot (x : TWorld) : Nat := x.shop.tot + lsum Keep.tot x.keeps + lsum Msg.tot x.net + lsum Log.tot x.past + lsum Told.tot x.told
def TWorld.wf (x : TWorld) : Prop := x.shop.wf ∧ lok Keep.wf x.keeps ∧ lok Msg.wf x.net ∧ lok Log.wf x.past ∧ lok Told.wf x.told
theorem TWorld.enc_len (x : TWorld) : x.enc.length = 6 := rfl
def TEvent.enc (x : TEvent) : List D := [.int .i64 x.kind, .int .i64 x.a, .int .i64 x.b, .int .i64 x.op.kind, .int .i64 x.op.dir, .str x.op.name, .int .i64 x.op.dir2, .str x.op.name2, .int .i64 x.op.id, .str x.op.text]
def TEvent.tot (x : TEvent) : Nat := x.op.tot
def TEvent.wf (x : TEvent) : Prop := i64ok x.kind ∧ i64ok x.a ∧ i64ok x.b ∧ x.op.wf
theorem TEvent.enc_len (x : TEvent) : x.enc.length = 10 := rfl
end Go.Proofs.Ytmbikamebhoelaa.Ai.Av
