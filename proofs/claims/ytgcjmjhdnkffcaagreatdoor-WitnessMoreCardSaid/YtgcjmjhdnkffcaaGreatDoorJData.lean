/- The data of this claim as Lean's own: answers, pairs, sessions, calls; and the plain functions of the reference (layers 7, 22, 23, 25, 28, 29). Nothing of Go stands here. -/
import Derived.Test.YtgcjmjhdnkffcaaGreatDoorJRefChk
import Derived.Test.YtgcjmjhdnkffcaaGreatDoorJKit
set_option linter.unusedVariables false
namespace Go.Proofs.YtgcjmjhdnkffcaaGreatDoor
open Go.RowKit
structure Ans where
  client : Int
  seq : Int
  err : Int
  found : Bool
  val : ByteArray
  rev : Int
def Ans.cells (a : Ans) : List Value := [.int .i64 a.client, .int .i64 a.seq, .int .i64 a.err, .bool a.found, .string a.val, .int .i64 a.rev]
def Ans.agg (a : Ans) : Value := .agg #[.int .i64 a.client, .int .i64 a.seq, .int .i64 a.err, .bool a.found, .string a.val, .int .i64 a.rev]
def Ans.zero : Ans := ⟨0, 0, 0, false, ⟨#[]⟩, 0⟩
structure Pair where
  key : ByteArray
  val : ByteArray
  rev : Int
def Pair.cells (p : Pair) : List Value := [.string p.key, .string p.val, .int .i64 p.rev]
structure Sess where
  client : Int
  seq : Int
  last : Ans
def Sess.cells (s : Sess) : List Value := [.int .i64 s.client, .int .i64 s.seq, .int .i64 s.last.client, .int .i64 s.last.seq, .int .i64 s.last.err, .bool s.last.found, .string s.last.val, .int .i64 s.last.rev]
structure Call where
  cmd : Cmd
  beg : Int
  fin : Int
  ans : Ans
def Call.cells (c : Call) : List Value := [.int .i64 c.cmd.kind, .int .i64 c.cmd.client, .int .i64 c.cmd.seq, .string c.cmd.key, .string c.cmd.val, .string c.cmd.old, .int .i64 c.cmd.node, .int .i64 c.beg, .int .i64 c.fin,
  .int .i64 c.ans.client, .int .i64 c.ans.seq, .int .i64 c.ans.err, .bool c.ans.found, .string c.ans.val, .int .i64 c.ans.rev]
theorem Cmd.cells_len (c : Cmd) : c.cells.length = 7 := rfl
theorem Ans.cells_len (c : Ans) : c.cells.length = 6 := rfl
theorem Pair.cells_len (c : Pair) : c.cells.length = 3 := rfl
theorem Sess.cells_len (c : Sess) : c.cells.length = 8 := rfl
theorem Call.cells_len (c : Call) : c.cells.length = 15 := rfl
theorem one_int {k : IntKind} {n : Int} : (Value.int k n).oneCell' = true := rfl
theorem Pair.cells_one (p : Pair) : ∀ u ∈ p.cells, u.oneCell' = true := by intro u hu; simp [Pair.cells] at hu; rcases hu with rfl | rfl | rfl <;> rfl
theorem Ans.cells_one (p : Ans) : ∀ u ∈ p.cells, u.oneCell' = true := by intro u hu; simp [Ans.cells] at hu; rcases hu with rfl | rfl | rfl | rfl | rfl | rfl <;> rfl
theorem Cmd.cells_one (p : Cmd) : ∀ u ∈ p.cells, u.oneCell' = true := by intro u hu; simp [Cmd.cells] at hu; rcases hu with rfl | rfl | rfl | rfl | rfl | rfl | rfl <;> rfl
theorem Sess.cells_one (p : Sess) : ∀ u ∈ p.cells, u.oneCell' = true := by intro u hu; simp [Sess.cells] at hu; rcases hu with rfl | rfl | rfl | rfl | rfl | rfl | rfl | rfl <;> rfl
theorem Call.cells_one (p : Call) : ∀ u ∈ p.cells, u.oneCell' = true := by intro u hu; simp [Call.cells] at hu; rcases hu with rfl | rfl | rfl | rfl | rfl | rfl | rfl | rfl | rfl | rfl | rfl | rfl | rfl | rfl | rfl <;> rfl
theorem take_foldl {α β : Type} (f : β → α → β) (a : β) (l : List α) (k : Nat) (x : α) (h : l[k]? = some x) : (l.take (k + 1)).foldl f a = f ((l.take k).foldl f a) x := by
  rw [List.take_add_one, h]; simp [List.foldl_append]
def blt (a b : ByteArray) : Bool := Op.bytesLess a.toList b.toList
def beq (a b : ByteArray) : Bool := a.toList == b.toList

theorem Sess.facts {w : World} {p : Addr} {s : Sess} (h : At w p s.cells) : w.cell? p = some (.int .i64 s.client) ∧ w.cell? ⟨p.block, p.off + 1, none⟩ = some (.int .i64 s.seq) ∧
    w.cell? ⟨p.block, p.off + 2, none⟩ = some (.int .i64 s.last.client) ∧ w.cell? ⟨p.block, p.off + 3, none⟩ = some (.int .i64 s.last.seq) ∧ w.cell? ⟨p.block, p.off + 4, none⟩ = some (.int .i64 s.last.err) ∧
    w.cell? ⟨p.block, p.off + 5, none⟩ = some (.bool s.last.found) ∧ w.cell? ⟨p.block, p.off + 6, none⟩ = some (.string s.last.val) ∧ w.cell? ⟨p.block, p.off + 7, none⟩ = some (.int .i64 s.last.rev) :=
  ⟨h.zero, h.at_ 1 rfl (by omega), h.at_ 2 rfl (by omega), h.at_ 3 rfl (by omega), h.at_ 4 rfl (by omega), h.at_ 5 rfl (by omega), h.at_ 6 rfl (by omega), h.at_ 7 rfl (by omega)⟩
theorem Pair.facts {w : World} {p : Addr} {s : Pair} (h : At w p s.cells) : w.cell? p = some (.string s.key) ∧ w.cell? ⟨p.block, p.off + 1, none⟩ = some (.string s.val) ∧ w.cell? ⟨p.block, p.off + 2, none⟩ = some (.int .i64 s.rev) :=
  ⟨h.zero, h.at_ 1 rfl (by omega), h.at_ 2 rfl (by omega)⟩
theorem Cmd.facts {w : World} {p : Addr} {s : Cmd} (h : At w p s.cells) : w.cell? p = some (.int .i64 s.kind) ∧ w.cell? ⟨p.block, p.off + 1, none⟩ = some (.int .i64 s.client) ∧ w.cell? ⟨p.block, p.off + 2, none⟩ = some (.int .i64 s.seq) ∧
    w.cell? ⟨p.block, p.off + 3, none⟩ = some (.string s.key) ∧ w.cell? ⟨p.block, p.off + 4, none⟩ = some (.string s.val) ∧ w.cell? ⟨p.block, p.off + 5, none⟩ = some (.string s.old) ∧ w.cell? ⟨p.block, p.off + 6, none⟩ = some (.int .i64 s.node) :=
  ⟨h.zero, h.at_ 1 rfl (by omega), h.at_ 2 rfl (by omega), h.at_ 3 rfl (by omega), h.at_ 4 rfl (by omega), h.at_ 5 rfl (by omega), h.at_ 6 rfl (by omega)⟩
theorem drop_at {α : Type} {l : List α} {k : Nat} {x : α} (h : l[k]? = some x) : l.drop k = x :: l.drop (k + 1) := by
  obtain ⟨h1, h2⟩ := List.getElem?_eq_some_iff.1 h
  rw [← h2]; exact List.drop_eq_getElem_cons h1
/-! ### layer 7, 22 -/
def hasB (v k : Int) : Bool := decide (1 ≤ k) && decide (k ≤ 8) && (v == 2 || (v == 1 && k != 5))
def lastOf (c : Int) : List Sess → Int × Ans
  | [] => (0, Ans.zero)
  | s :: l => if s.client = c then (s.seq, s.last) else lastOf c l
def withSStep (a : Ans) (st : List Sess × Bool) (x : Sess) : List Sess × Bool :=
  let st1 := if st.2 = false ∧ a.client ≤ x.client then (st.1 ++ [(⟨a.client, a.seq, a⟩ : Sess)], true) else st
  if x.client = a.client then st1 else (st1.1 ++ [x], st1.2)
def withS (l : List Sess) (a : Ans) : List Sess := let st := l.foldl (withSStep a) ([], false); if st.2 then st.1 else st.1 ++ [⟨a.client, a.seq, a⟩]
/-! ### layer 23, 25 -/
def withPStep (p : Pair) (st : List Pair × Bool) (x : Pair) : List Pair × Bool :=
  let st1 := if st.2 = false ∧ blt x.key p.key = false then (st.1 ++ [p], true) else st
  if beq x.key p.key then st1 else (st1.1 ++ [x], st1.2)
def withP (l : List Pair) (p : Pair) : List Pair := let st := l.foldl (withPStep p) ([], false); if st.2 then st.1 else st.1 ++ [p]
def withoutP (l : List Pair) (k : ByteArray) : List Pair := l.filter fun x => !beq x.key k
/-- The place of a key. -/
def placeP (k : ByteArray) : List Pair → Option Nat
  | [] => none
  | p :: l => if beq p.key k then some 0 else (placeP k l).map (· + 1)
def revsP (l : List Pair) (r : Int) : List Pair := l.map fun p => { p with rev := r }
structure St where
  schema : Int
  pairs : List Pair
  sess : List Sess
def nextRev (schema : Int) (old : Option Pair) : Int :=
  if schema = 2 then (match old with | some p => if p.rev < 4294967296 then p.rev + 1 else p.rev | none => 1) else 0
def doP (schema : Int) (l : List Pair) (c : Cmd) : List Pair × Ans :=
  let old := (placeP c.key l).bind (l[·]?)
  let ov : ByteArray := (old.map (·.val)).getD ⟨#[]⟩
  let next : Pair := ⟨c.key, c.val, nextRev schema old⟩
  if c.kind = 2 ∧ old = none ∧ 64 ≤ l.length then (l, ⟨c.client, c.seq, 11, false, ⟨#[]⟩, 0⟩)
  else if c.kind = 2 then (withP l next, ⟨c.client, c.seq, 0, old.isSome, ov, 0⟩)
  else if c.kind = 4 then (withoutP l c.key, ⟨c.client, c.seq, 0, old.isSome, ov, 0⟩)
  else if c.kind = 5 ∧ schema = 2 then
    (match old with
    | none => (l, ⟨c.client, c.seq, 10, false, ⟨#[]⟩, 0⟩)
    | some p => if beq p.val c.old then (withP l next, ⟨c.client, c.seq, 0, true, p.val, next.rev⟩) else (l, ⟨c.client, c.seq, 15, true, p.val, p.rev⟩))
  else if c.kind = 3 then (l, ⟨c.client, c.seq, 0, old.isSome, ov, 0⟩)
  else (l, ⟨c.client, c.seq, 8, false, ⟨#[]⟩, 0⟩)
def applyS (s : St) (c : Cmd) : St × Ans :=
  if ownB c.kind = false then (if c.kind = 6 ∧ s.schema = 1 then (⟨2, revsP s.pairs 1, s.sess⟩, Ans.zero) else (s, Ans.zero))
  else
    let q := lastOf c.client s.sess
    if 0 < q.1 ∧ c.seq = q.1 then (s, q.2)
    else if c.seq < q.1 then (s, ⟨c.client, c.seq, 15, false, ⟨#[]⟩, 0⟩)
    else if hasB s.schema c.kind = false then (s, ⟨c.client, c.seq, 14, false, ⟨#[]⟩, 0⟩)
    else let r := doP s.schema s.pairs c; (⟨s.schema, r.1, withS s.sess r.2⟩, r.2)
end Go.Proofs.YtgcjmjhdnkffcaaGreatDoor
