/- What '==' says of two commands and of two answers of this program. No condition. -/
import Derived.Test.YtgcjmjhdnkffcaaGreatDoorJData
import Derived.Laws.StructEq
set_option linter.unusedVariables false
set_option linter.unusedSimpArgs false
namespace Go.Proofs.YtgcjmjhdnkffcaaGreatDoor
open Go.RowKit
def eqC7 (k c s : Int) (x y z : ByteArray) (n k' c' s' : Int) (x' y' z' : ByteArray) (n' : Int) : Bool :=
  k == k' && c == c' && s == s' && x.toList == x'.toList && y.toList == y'.toList && z.toList == z'.toList && n == n'
def eqA6 (c s e : Int) (f : Bool) (v : ByteArray) (r c' s' e' : Int) (f' : Bool) (v' : ByteArray) (r' : Int) : Bool :=
  c == c' && s == s' && e == e' && f == f' && v.toList == v'.toList && r == r'
@[go_sem high] theorem eqC7_run (k c s : Int) (x y z : ByteArray) (n k' c' s' : Int) (x' y' z' : ByteArray) (n' : Int) (w : World) :
    (Op.equalIn 10000 25 (.agg #[.int .i64 k, .int .i64 c, .int .i64 s, .string x, .string y, .string z, .int .i64 n]) (.agg #[.int .i64 k', .int .i64 c', .int .i64 s', .string x', .string y', .string z', .int .i64 n'])).run Tryz.prog w = .ok (eqC7 k c s x y z n k' c' s' x' y' z' n') w := by
  have u3 := Tryz.underlying3
  have a3 := Tryz.isAgg3
  have z3 := Tryz.sizeOf3
  have u9 := Tryz.underlying9
  have a9 := Tryz.isAgg9
  have z9 := Tryz.sizeOf9
  have hS : Tryz.prog.underlying 25 = some (.struct (Tryz.prog.fieldsOf 25)) := by kernel_rfl
  have hp : Tryz.prog.stoodInHeld 25 = false := by kernel_rfl
  rw [show (10000 : Nat) = 9999 + 1 from rfl, run_equalIn_agg w 9999 25 _ _ hS hp]
  simp only [Program.fieldsOf, Tryz.underlying25]
  go_simp
  unfold eqC7
  by_cases h1 : k = k' <;> simp [h1]
  by_cases h2 : c = c' <;> simp [h2]
  by_cases h3 : s = s' <;> simp [h3]
  by_cases h4 : x.toList = x'.toList <;> simp [h4]
  by_cases h5 : y.toList = y'.toList <;> simp [h5]
  by_cases h6 : z.toList = z'.toList <;> simp [h6]
  all_goals try (by_cases h7 : n = n' <;> simp [h7])
@[go_sem high] theorem eqA6_run (c s e : Int) (f : Bool) (v : ByteArray) (r c' s' e' : Int) (f' : Bool) (v' : ByteArray) (r' : Int) (w : World) :
    (Op.equalIn 10000 28 (.agg #[.int .i64 c, .int .i64 s, .int .i64 e, .bool f, .string v, .int .i64 r]) (.agg #[.int .i64 c', .int .i64 s', .int .i64 e', .bool f', .string v', .int .i64 r'])).run Tryz.prog w = .ok (eqA6 c s e f v r c' s' e' f' v' r') w := by
  have u3 := Tryz.underlying3
  have a3 := Tryz.isAgg3
  have z3 := Tryz.sizeOf3
  have u4 := Tryz.underlying4
  have a4 := Tryz.isAgg4
  have z4 := Tryz.sizeOf4
  have u26 := Tryz.underlying26
  have a26 := Tryz.isAgg26
  have z26 := Tryz.sizeOf26
  have u9 := Tryz.underlying9
  have a9 := Tryz.isAgg9
  have z9 := Tryz.sizeOf9
  have hS : Tryz.prog.underlying 28 = some (.struct (Tryz.prog.fieldsOf 28)) := by kernel_rfl
  have hp : Tryz.prog.stoodInHeld 28 = false := by kernel_rfl
  rw [show (10000 : Nat) = 9999 + 1 from rfl, run_equalIn_agg w 9999 28 _ _ hS hp]
  simp only [Program.fieldsOf, Tryz.underlying28]
  go_simp
  unfold eqA6
  by_cases h1 : c = c' <;> simp [h1]
  by_cases h2 : s = s' <;> simp [h2]
  by_cases h3 : e = e' <;> simp [h3]
  cases f <;> cases f' <;> simp
  all_goals by_cases h5 : v.toList = v'.toList <;> simp [h5]
  all_goals try (by_cases h7 : r = r' <;> simp [h7])
theorem bytes_ext {x y : ByteArray} (h : (x.toList == y.toList) = true) : x = y := by
  have h2 := eq_of_beq h
  rw [ByteArray.toList_eq, ByteArray.toList_eq] at h2
  obtain ⟨⟨x⟩⟩ := x
  obtain ⟨⟨y⟩⟩ := y
  have h3 : x = y := h2
  rw [h3]
theorem eqC7_eq {a b : Cmd} (h : eqC7 a.kind a.client a.seq a.key a.val a.old a.node b.kind b.client b.seq b.key b.val b.old b.node = true) : a = b := by
  unfold eqC7 at h
  simp only [Bool.and_eq_true] at h
  obtain ⟨⟨⟨⟨⟨⟨h1, h2⟩, h3⟩, h4⟩, h5⟩, h6⟩, h7⟩ := h
  cases a; cases b
  simp only [Cmd.mk.injEq]
  exact ⟨by simpa using h1, by simpa using h2, by simpa using h3, bytes_ext h4, bytes_ext h5, bytes_ext h6, by simpa using h7⟩
theorem eqC7_self (a : Cmd) : eqC7 a.kind a.client a.seq a.key a.val a.old a.node a.kind a.client a.seq a.key a.val a.old a.node = true := by unfold eqC7; simp
theorem eqA6_eq {a b : Ans} (h : eqA6 a.client a.seq a.err a.found a.val a.rev b.client b.seq b.err b.found b.val b.rev = true) : a = b := by
  unfold eqA6 at h
  simp only [Bool.and_eq_true] at h
  obtain ⟨⟨⟨⟨⟨h1, h2⟩, h3⟩, h4⟩, h5⟩, h6⟩ := h
  cases a; cases b
  simp only [Ans.mk.injEq]
  exact ⟨by simpa using h1, by simpa using h2, by simpa using h3, by simpa using h4, bytes_ext h5, by simpa using h6⟩
theorem eqA6_self (a : Ans) : eqA6 a.client a.seq a.err a.found a.val a.rev a.client a.seq a.err a.found a.val a.rev = true := by unfold eqA6; simp
end Go.Proofs.YtgcjmjhdnkffcaaGreatDoor
