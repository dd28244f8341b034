/- What is counted (layer 43), as it lies in memory; where a call counts; what is wrong with an answered call. No condition. -/
import Derived.Test.YtgcjmjhdnkffcaaGreatDoorJPgMach
import Derived.Test.YtgcjmjhdnkffcaaGreatDoorJRefCheck
import Derived.Test.YtgcjmjhdnkffcaaGreatDoorJKitD
import Derived.Sort.Walk7
import Derived.Shelf.SlSortCmp.QuietGrown
set_option linter.unusedVariables false
set_option linter.unusedSimpArgs false
namespace Go.Proofs.YtgcjmjhdnkffcaaGreatDoor
open Go.RowKit Go.Sort
structure Cnt where
  M : Mach
  ans : List Ans
  pl : List ((Int × Int) × Int)
abbrev iV (n : Int) : Value := .int .i64 n
structure CntAt (w : World) (cb pb : Nat) (A : Option Addr) (ca : Nat) (s : Cnt) : Prop where
  map : MapAt pairV iV w pb s.pl
  cell : w.heap[cb]? = some (.cells #[.map (some pb), .slice A s.ans.length ca] 59 (0, 0))
  ans : SlOf Ans.cells 6 w A s.ans.length s.ans
theorem CntAt.none {w w' : World} {cb pb : Nat} {A : Option Addr} {ca : Nat} {s : Cnt} (h : CntAt w cb pb A ca s) (ho : Only nob w w') : CntAt w' cb pb A ca s :=
  ⟨h.map.only ho (fun h => h), ho.heap h.cell (fun h => h), h.ans.none ho⟩
def plN (s : Cnt) (c q : Int) : Int := (lk (c, q) s.pl).getD 0
theorem zero_int (w : World) : (zeroValue 3).run Tryz.prog w = .ok (iV 0) w := by kernel_rfl
theorem look_pl {w : World} {pb : Nat} {s : Cnt} (h : MapAt pairV iV w pb s.pl) (c q : Int) : (Instr.lookup 57 (.map (some pb)) (.agg #[.int .i64 c, .int .i64 q]) false).run Tryz.prog w = .ok (.int .i64 (plN s c q)) w := by
  have := lookup_run keyOk_pair (show Tryz.prog.underlying 57 = some (.map 67 3) from Tryz.underlying57) h (zero_int w) (c, q) false
  simpa [plN, pairV] using this
set_option maxRecDepth 100000 in
set_option maxHeartbeats 4000000 in
theorem place_grown (cb pb : Nat) (A : Option Addr) (ca : Nat) (s : Cnt) (c : Call) (w : World) (h : CntAt w cb pb A ca s) :
    Calls Tryz.prog 26 #[.pointer (some ⟨cb, 0, none⟩), .agg c.cells.toArray] w fun e w' => e = .returned (.int .i64 (plN s c.cmd.client c.cmd.seq)) ∧ ∃ q os, w' = grow (w.drewN q) os := by
  obtain ⟨p0, q0⟩ := cells_all h.cell
  have hs := heap_lt h.cell
  have hL := mk_hid (fun W (ho : Only nob w W) => look_pl (h.none ho).map c.cmd.client c.cmd.seq)
  obtain ⟨r, hr⟩ : ∃ r, plN s c.cmd.client c.cmd.seq = r := ⟨_, rfl⟩
  rw [hr] at hL ⊢
  have HC := mk_hid h.cell
  clear h hr
  unfold Call.cells
  go_enter Tryz.func26, Tryz.ntmps26
  go_wp2
  refine wp_region_tail 12 (by kernel_rfl) (by kernel_rfl) ?_
  simp only [List.take_succ_cons, List.take_zero, List.drop_succ_cons, List.drop_zero]
  intro wd hwd
  have HWD := mk_hid hwd
  have hO : Only nob w wd := by subst hwd; (repeat (first | with_reducible exact Only.refl _ _ | with_reducible assumption | with_reducible refine Only.drew ?_ | with_reducible refine Only.drewN ?_ _ | with_reducible refine Only.alloc ?_ _ | (with_reducible refine Only.set ?_ (.inr ?_) _; rotate_left; first | exact Nat.le_refl _ | exact Nat.le_succ _ | assumption | omega | (dsimp only; omega))))
  have l1 := hL.out _ hO
  have k1 := hO.cell ((p0 0).trans rfl) (fun h => h)
  have b1 : wd.heap[w.heap.size]? = some (.cells c.cells.toArray 30 (0, 0)) := by subst hwd; exact (heap_new _ rfl).trans (by kernel_rfl)
  obtain ⟨m1, n1⟩ := cells_all b1
  clear hwd b1 p0 q0
  unfold Call.cells at m1
  repeat still_step
  refine still_done ?_
  go_wp2
  refine bodyPost_ret (v := .int .i64 r) (by simp [results, Tryz.results26, go_sem, *]) rfl ⟨rfl, 1, _, by rw [HWD.out, alloc_eq_grow]; rfl⟩
theorem only_grow (w : World) (q : Nat) (os : Array Obj) : Only nob w (grow (w.drewN q) os) :=
  ⟨rfl, rfl, rfl, by rw [size_grow]; exact Nat.le_add_right _ _, fun i hi _ => by unfold grow; exact Array.getElem?_append_left hi⟩
theorem place_any (cb pb : Nat) (A : Option Addr) (ca : Nat) (s : Cnt) (c : Call) (w : World) (h : CntAt w cb pb A ca s) :
    Calls Tryz.prog 26 #[.pointer (some ⟨cb, 0, none⟩), .agg c.cells.toArray] w fun e w' => e = .returned (.int .i64 (plN s c.cmd.client c.cmd.seq)) ∧ Only nob w w' :=
  (place_grown cb pb A ca s c w h).mono fun e w' hh => ⟨hh.1, by obtain ⟨q, os, rfl⟩ := hh.2; exact only_grow w q os⟩
end Go.Proofs.YtgcjmjhdnkffcaaGreatDoor
