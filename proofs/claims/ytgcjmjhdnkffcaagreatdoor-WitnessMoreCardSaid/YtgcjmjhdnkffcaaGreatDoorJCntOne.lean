/- What is wrong with an answered call (layer 43), walked where nothing is. No condition. -/
import Derived.Test.YtgcjmjhdnkffcaaGreatDoorJCntD
import Derived.BigQuiet
set_option linter.unusedVariables false
set_option linter.unusedSimpArgs false
namespace Go.Proofs.YtgcjmjhdnkffcaaGreatDoor
open Go.RowKit
structure OneOk (log : List Cmd) (s : Cnt) (c : Call) (p : Nat) : Prop where
  pl : plN s c.cmd.client c.cmd.seq = (p : Int) + 1
  cmd : log[p]? = some c.cmd
  ans : s.ans[p]? = some c.ans
set_option maxRecDepth 100000 in
set_option maxHeartbeats 4000000 in
theorem one_ok (cb pb : Nat) (A : Option Addr) (ca : Nat) (s : Cnt) (X : Option Addr) (len cap : Nat) (log : List Cmd) (c : Call) (p : Nat) (w : World) (h : CntAt w cb pb A ca s) (hl : SlOf Cmd.cells 7 w X len log) (hlen : len ≤ 1000) (hk : OneOk log s c p) :
    Calls Tryz.prog 14 #[.pointer (some ⟨cb, 0, none⟩), .slice X len cap, .agg c.cells.toArray] w fun e w' => e = .returned (.int .i64 0) ∧ Only nob w w' := by
  have hm1 : Tryz.prog.eqGuardType Tryz.prog.depth 25 = false := by kernel_rfl
  have hm2 : Tryz.prog.eqGuardType Tryz.prog.depth 28 = false := by kernel_rfl
  obtain ⟨k1, k2, k3⟩ := hk
  have hp : p < len := by have := (List.getElem?_eq_some_iff.1 k2).1; have := hl.1; omega
  have hp2 : p < s.ans.length := (List.getElem?_eq_some_iff.1 k3).1
  have HL := mk_hid hl
  have H := mk_hid h
  have K1 := mk_hid k1
  have K2 := mk_hid k2
  have K3 := mk_hid k3
  have hs := heap_lt h.cell
  clear h hl k1 k2 k3
  unfold Call.cells
  go_enter Tryz.func14, Tryz.ntmps14
  go_wp2_with (go_at_call 26; refine (place_any cb pb A ca s c _ (H.out.none (by (repeat (first | with_reducible exact Only.refl _ _ | with_reducible assumption | with_reducible refine Only.drew ?_ | with_reducible refine Only.drewN ?_ _ | with_reducible refine Only.alloc ?_ _))))).mono ?_; rw [K1.out]; rintro e w2 ⟨rfl, ho2⟩)
  obtain ⟨x, c1, rfl, e1, _, hxb, hat⟩ := (HL.out.none (Only.trans (by (repeat (first | with_reducible exact Only.refl _ _ | with_reducible assumption | with_reducible refine Only.drew ?_ | with_reducible refine Only.drewN ?_ _ | with_reducible refine Only.alloc ?_ _))) ho2)).get hp
  obtain rfl : c1 = c.cmd := by rw [K2.out] at e1; injection e1 with e1; exact e1.symm
  obtain ⟨y, c2, rfl, e2, _, hyb, hbt⟩ := (H.out.none (Only.trans (by (repeat (first | with_reducible exact Only.refl _ _ | with_reducible assumption | with_reducible refine Only.drew ?_ | with_reducible refine Only.drewN ?_ _ | with_reducible refine Only.alloc ?_ _))) ho2)).ans.get hp2
  obtain rfl : c2 = c.ans := by rw [K3.out] at e2; injection e2 with e2; exact e2.symm
  obtain ⟨f0, f1, f2, f3, f4, f5, f6⟩ := Cmd.facts hat
  obtain ⟨g0, g1, g2, g3, g4, g5⟩ := Ans.facts hbt
  obtain ⟨p0, q0⟩ := cells_all (H.out.none (Only.trans (by (repeat (first | with_reducible exact Only.refl _ _ | with_reducible assumption | with_reducible refine Only.drew ?_ | with_reducible refine Only.drewN ?_ _ | with_reducible refine Only.alloc ?_ _))) ho2)).cell
  have bx : w2.heap[w.heap.size]? = some (.cells #[.int .i64 c.cmd.kind, .int .i64 c.cmd.client, .int .i64 c.cmd.seq, .string c.cmd.key, .string c.cmd.val, .string c.cmd.old, .int .i64 c.cmd.node, .int .i64 c.beg, .int .i64 c.fin,
      .int .i64 c.ans.client, .int .i64 c.ans.seq, .int .i64 c.ans.err, .bool c.ans.found, .string c.ans.val, .int .i64 c.ans.rev] 30 (0, 0)) := ho2.heap (heap_new _ rfl) (fun h => h)
  obtain ⟨m0, n0⟩ := cells_all bx
  have i1 : (p : Int) < (len : Int) := by omega
  have i2 : (0 : Int) ≤ (p : Int) := by omega
  have i3 : (p : Int) < (s.ans.length : Int) := by omega
  have i4 : ¬ (p : Int) + 1 = 0 := by omega
  have hw : IntKind.i64.wrap ((p : Int) + 1 - 1) = (p : Int) := by rw [IntKind.wrap_i64]; omega
  have hw2 : IntKind.i64.wrap (p : Int) = (p : Int) := by rw [IntKind.wrap_i64]; omega
  have hq1 := eqC7_self c.cmd
  have hq2 := eqA6_self c.ans
  clear bx hat hbt e1 e2
  go_wp2
  go_quiet (fail)
  go_wp2
  go_quiet (fail)
  go_wp2
  exact bodyPost_ret (v := .int .i64 0) (by simp [results, Tryz.results14, go_sem, *]) rfl ⟨rfl, Only.trans (Only.trans (by (repeat (first | with_reducible exact Only.refl _ _ | with_reducible assumption | with_reducible refine Only.drew ?_ | with_reducible refine Only.drewN ?_ _ | with_reducible refine Only.alloc ?_ _))) ho2) (by (repeat (first | with_reducible exact Only.refl _ _ | with_reducible assumption | with_reducible refine Only.drew ?_ | with_reducible refine Only.drewN ?_ _ | with_reducible refine Only.alloc ?_ _)))⟩
end Go.Proofs.YtgcjmjhdnkffcaaGreatDoor
