/- What '==' says of two sessions of this program's state. No condition. -/
import Derived.Test.YtgcjmjhdnkffcaaGreatDoorJEqS
import Derived.Test.YtgcjmjhdnkffcaaGreatDoorJRefRun
import Derived.BigQuiet
set_option linter.unusedVariables false
set_option linter.unusedSimpArgs false
namespace Go.Proofs.YtgcjmjhdnkffcaaGreatDoor
open Go.RowKit
def eqS8 (x y c s e : Int) (f : Bool) (v : ByteArray) (r x' y' c' s' e' : Int) (f' : Bool) (v' : ByteArray) (r' : Int) : Bool :=
  x == x' && y == y' && eqA6 c s e f v r c' s' e' f' v' r'
@[go_sem high] theorem eqS8_run (x y c s e : Int) (f : Bool) (v : ByteArray) (r x' y' c' s' e' : Int) (f' : Bool) (v' : ByteArray) (r' : Int) (w : World) :
    (Op.equalIn 10000 66 (.agg #[.int .i64 x, .int .i64 y, .int .i64 c, .int .i64 s, .int .i64 e, .bool f, .string v, .int .i64 r]) (.agg #[.int .i64 x', .int .i64 y', .int .i64 c', .int .i64 s', .int .i64 e', .bool f', .string v', .int .i64 r'])).run Tryz.prog w = .ok (eqS8 x y c s e f v r x' y' c' s' e' f' v' r') w := by
  have u3 := Tryz.underlying3
  have a3 := Tryz.isAgg3
  have z3 := Tryz.sizeOf3
  have u4 := Tryz.underlying4
  have a4 := Tryz.isAgg4
  have z4 := Tryz.sizeOf4
  have u26 := Tryz.underlying26
  have a26 := Tryz.isAgg26
  have z26 := Tryz.sizeOf26
  have u9 := Tryz.underlying9
  have a9 := Tryz.isAgg9
  have z9 := Tryz.sizeOf9
  have hS : Tryz.prog.underlying 66 = some (.struct (Tryz.prog.fieldsOf 66)) := by kernel_rfl
  have hp : Tryz.prog.stoodInHeld 66 = false := by kernel_rfl
  rw [show (10000 : Nat) = 9999 + 1 from rfl, run_equalIn_agg w 9999 66 _ _ hS hp]
  simp only [Program.fieldsOf, Tryz.underlying66]
  go_simp
  unfold eqS8 eqA6
  by_cases h1 : x = x' <;> simp [h1]
  by_cases h2 : y = y' <;> simp [h2]
  by_cases h3 : c = c' <;> simp [h3]
  by_cases h4 : s = s' <;> simp [h4]
  by_cases h5 : e = e' <;> simp [h5]
  cases f <;> cases f' <;> simp
  all_goals by_cases h6 : v.toList = v'.toList <;> simp [h6]
  all_goals try (by_cases h7 : r = r' <;> simp [h7])
theorem eqS8_eq {a b : Sess} (h : eqS8 a.client a.seq a.last.client a.last.seq a.last.err a.last.found a.last.val a.last.rev b.client b.seq b.last.client b.last.seq b.last.err b.last.found b.last.val b.last.rev = true) : a = b := by
  unfold eqS8 at h
  simp only [Bool.and_eq_true] at h
  obtain ⟨⟨h1, h2⟩, h3⟩ := h
  have := eqA6_eq h3
  cases a; cases b
  simp only [Sess.mk.injEq]
  exact ⟨by simpa using h1, by simpa using h2, this⟩
theorem eqS8_self (a : Sess) : eqS8 a.client a.seq a.last.client a.last.seq a.last.err a.last.found a.last.val a.last.rev a.client a.seq a.last.client a.last.seq a.last.err a.last.found a.last.val a.last.rev = true := by unfold eqS8; rw [eqA6_self]; simp
end Go.Proofs.YtgcjmjhdnkffcaaGreatDoor
/- slices.Equal of sessions, walked. No condition. -/
set_option linter.unusedVariables false
set_option linter.unusedSimpArgs false
namespace Go.Proofs.YtgcjmjhdnkffcaaGreatDoor
open Go.RowKit
def eqSS (a b : Sess) : Bool := eqS8 a.client a.seq a.last.client a.last.seq a.last.err a.last.found a.last.val a.last.rev b.client b.seq b.last.client b.last.seq b.last.err b.last.found b.last.val b.last.rev
def EqPost (w : World) (p : Prop) (e : Ending) (w' : World) : Prop := (∃ b : Bool, e = .returned (.bool b) ∧ (b = true ↔ p)) ∧ Only nob w w'
set_option maxRecDepth 100000 in
set_option maxHeartbeats 4000000 in
theorem sleq_any (X Y : Option Addr) (n m cn cm : Nat) (xs ys : List Sess) (w : World) (hn : n ≤ 1000) (hm : m ≤ 1000) (hx : SlOf Sess.cells 8 w X n xs) (hy : SlOf Sess.cells 8 w Y m ys) :
    Calls Tryz.prog 25 #[.slice X n cn, .slice Y m cm] w (EqPost w (xs = ys)) := by
  have hm1 : Tryz.prog.eqGuardType Tryz.prog.depth 66 = false := by kernel_rfl
  have hxl := hx.1
  have hyl := hy.1
  go_enter Tryz.func25, Tryz.ntmps25
  by_cases hnm : (n : Int) = (m : Int)
  · go_wp2
    go_loopw [13] (fun i wr => ∃ (k : Nat), k ≤ n ∧ i = .int .i64 k ∧ xs.take k = ys.take k ∧ Only nob w wr) (fun i _ => n - (intOf i).toNat)
    case atStart => exact ⟨0, by omega, rfl, by simp, by (repeat (first | with_reducible exact Only.refl _ _ | with_reducible assumption | with_reducible refine Only.drew ?_ | with_reducible refine Only.drewN ?_ _ | with_reducible refine Only.alloc ?_ _))⟩
    case round =>
      obtain ⟨k, hk, rfl, hF0, hO⟩ := hrel
      have HF := mk_hid hF0
      clear hF0
      by_cases hlt : k < n
      · obtain ⟨x, a, rfl, hp, hma, hxb, hat⟩ := (hx.none hO).get hlt
        obtain ⟨y, b, rfl, hq, hmb, hyb, hbt⟩ := (hy.none hO).get (show k < m from by omega)
        obtain ⟨f0, f1, f2, f3, f4, f5, f6, f7⟩ := Sess.facts hat
        obtain ⟨g0, g1, g2, g3, g4, g5, g6, g7⟩ := Sess.facts hbt
        have h1 : (k : Int) < (n : Int) := by omega
        have h2 : ¬ (k : Int) < 0 := by omega
        have h3 : (0 : Int) ≤ (k : Int) := by omega
        have h4 : (k : Int) < (m : Int) := by omega
        have HP := mk_hid hp
        have HQ := mk_hid hq
        clear hp hq hx hy hat hbt
        by_cases he : eqSS a b = true
        · have he' := he
          unfold eqSS at he'
          go_wp2
          go_quiet (fail)
          go_wp2
          go_roundw
          case rel => exact ⟨k + 1, by omega, by go_num, by rw [List.take_add_one, List.take_add_one, HF.out, HP.out, HQ.out, eqS8_eq he'], by (repeat (first | with_reducible exact Only.refl _ _ | with_reducible assumption | with_reducible refine Only.drew ?_ | with_reducible refine Only.drewN ?_ _ | with_reducible refine Only.alloc ?_ _))⟩
          case measure => simp [intOf]; omega
        · have he' : eqSS a b = false := by simpa using he
          unfold eqSS at he'
          go_wp2
          go_quiet (fail)
          go_wp2
          refine bodyPost_ret (v := .bool false) (by simp [results, Tryz.results25, go_sem, *]) rfl ⟨⟨false, rfl, by simp; intro e; subst e; rw [HP.out] at HQ; injection HQ.out with e; subst e; exact he (eqS8_self a)⟩, by (repeat (first | with_reducible exact Only.refl _ _ | with_reducible assumption | with_reducible refine Only.drew ?_ | with_reducible refine Only.drewN ?_ _ | with_reducible refine Only.alloc ?_ _))⟩
      · obtain rfl : k = n := by omega
        have h1 : ¬ (k : Int) < (k : Int) := by omega
        go_wp2
        refine bodyPost_ret (v := .bool true) (by simp [results, Tryz.results25, go_sem, *]) rfl ⟨⟨true, rfl, by simp; have := HF.out; rwa [← hxl, List.take_length, show xs.length = ys.length from by omega, List.take_length] at this⟩, by (repeat (first | with_reducible exact Only.refl _ _ | with_reducible assumption | with_reducible refine Only.drew ?_ | with_reducible refine Only.drewN ?_ _ | with_reducible refine Only.alloc ?_ _))⟩
  · have hd : decide ((n : Int) = (m : Int)) = false := by simpa using hnm
    go_wp2
    refine bodyPost_ret (v := .bool false) (by simp [results, Tryz.results25, go_sem, *]) rfl ⟨⟨false, rfl, by simp; intro e; subst e; omega⟩, by (repeat (first | with_reducible exact Only.refl _ _ | with_reducible assumption | with_reducible refine Only.drew ?_ | with_reducible refine Only.drewN ?_ _ | with_reducible refine Only.alloc ?_ _))⟩
end Go.Proofs.YtgcjmjhdnkffcaaGreatDoor
