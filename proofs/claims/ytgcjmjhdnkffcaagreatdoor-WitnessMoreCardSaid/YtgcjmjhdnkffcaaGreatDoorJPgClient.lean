/- The program's machine (layer 29: spec): a client's command. No condition. -/
import Derived.Test.YtgcjmjhdnkffcaaGreatDoorJPgFresh
set_option linter.unusedVariables false
set_option linter.unusedSimpArgs false
namespace Go.Proofs.YtgcjmjhdnkffcaaGreatDoor
open Go.RowKit
theorem fresh_any (mb kb : Nat) (M : Mach) (c : Cmd) (w : World) (h : MachAt w mb kb M) (ho : ownB c.kind = true) :
    Calls Tryz.prog 70 #[.pointer (some ⟨mb, 0, none⟩), c.agg] w (MPost w mb kb (freshP M c)) := by
  obtain ⟨kind, client, seq, key, val, old, node⟩ := c
  have hk : kind = 2 ∨ kind = 3 ∨ kind = 4 ∨ kind = 5 := by unfold ownB at ho; simp at ho; omega
  rcases hk with rfl | rfl | rfl | rfl
  · cases hs : (setP M ⟨2, client, seq, key, val, old, node⟩).2 with
    | false => exact fresh_full mb kb M client seq node key val old w h hs
    | true => exact fresh_put mb kb M client seq node key val old w h hs
  · exact fresh_get mb kb M client seq node key val old w h
  · exact fresh_del mb kb M client seq node key val old w h
  · exact fresh_cas mb kb M client seq node key val old w h
def setDone (d : Nat → Int × Ans) (k : Nat) (v : Int × Ans) : Nat → Int × Ans := fun i => if i = k then v else d i
def clientP (M : Mach) (c : Cmd) : Mach × Ans × Bool :=
  let k := c.client.toNat
  if c.seq = (M.done k).1 then (M, (M.done k).2, false)
  else if c.seq < (M.done k).1 then (M, ⟨c.client, c.seq, 15, false, ⟨#[]⟩, 0⟩, false)
  else if c.kind = 5 ∧ M.act = false then (M, ⟨c.client, c.seq, 14, false, ⟨#[]⟩, 0⟩, false)
  else ({ (freshP M c).1 with done := setDone M.done k (c.seq, (freshP M c).2) }, (freshP M c).2, true)
/-- What a function that turns the map and the machine leaves. -/
def CPost (w : World) (mb kb : Nat) (r : Mach × Ans × Bool) (e : Ending) (w' : World) : Prop := e = .returned (.tuple #[r.2.1.agg, .bool r.2.2]) ∧ MachAt w' mb kb r.1 ∧ Only (fun b => b = mb ∨ b = kb) w w'
theorem CPost.mk' {w w' : World} {mb kb : Nat} {r : Mach × Ans × Bool} {a : Ans} {b : Bool} {M' : Mach} (hr : r = (M', a, b)) (h : MachAt w' mb kb M') (ho : Only (fun b => b = mb ∨ b = kb) w w') : CPost w mb kb r (.returned (.tuple #[a.agg, .bool b])) w' := by
  subst hr; exact ⟨rfl, h, ho⟩
/-- A client's cells in the machine. -/
structure LastAt (w : World) (mb k : Nat) (q : Int) (a : Ans) : Prop where
  c0 : w.cell? ⟨mb, 2 + k * 7, none⟩ = some (.int .i64 q)
  c1 : w.cell? ⟨mb, 2 + k * 7 + 1, none⟩ = some (.int .i64 a.client)
  c2 : w.cell? ⟨mb, 2 + k * 7 + 2, none⟩ = some (.int .i64 a.seq)
  c3 : w.cell? ⟨mb, 2 + k * 7 + 3, none⟩ = some (.int .i64 a.err)
  c4 : w.cell? ⟨mb, 2 + k * 7 + 4, none⟩ = some (.bool a.found)
  c5 : w.cell? ⟨mb, 2 + k * 7 + 5, none⟩ = some (.string a.val)
  c6 : w.cell? ⟨mb, 2 + k * 7 + 6, none⟩ = some (.int .i64 a.rev)
  act : ∃ b, w.cell? ⟨mb, 1, none⟩ = some (.bool b)
theorem MachAt.last {w : World} {mb kb : Nat} {M : Mach} (h : MachAt w mb kb M) {k : Nat} (hk : k < 9) {q : Int} {a : Ans} (hq : M.done k = (q, a)) : LastAt w mb k q a :=
  ⟨h.cd k 0 _ hk (by rw [hq]; rfl), h.cd k 1 _ hk (by rw [hq]; rfl), h.cd k 2 _ hk (by rw [hq]; rfl), h.cd k 3 _ hk (by rw [hq]; rfl), h.cd k 4 _ hk (by rw [hq]; rfl), h.cd k 5 _ hk (by rw [hq]; rfl), h.cd k 6 _ hk (by rw [hq]; rfl), ⟨_, h.c1⟩⟩
set_option maxRecDepth 100000 in
set_option maxHeartbeats 4000000 in
theorem client_again (mb kb : Nat) (M : Mach) (kind seq node : Int) (key val old : ByteArray) (k : Nat) (q : Int) (a : Ans) (w : World) (h : MachAt w mb kb M) (h1 : 1 ≤ k) (h8 : k ≤ 8) (hq : M.done k = (q, a)) (hs : seq = q) :
    Calls Tryz.prog 60 #[.pointer (some ⟨mb, 0, none⟩), (⟨kind, (k : Int), seq, key, val, old, node⟩ : Cmd).agg] w (CPost w mb kb (clientP M ⟨kind, (k : Int), seq, key, val, old, node⟩)) := by
  have hm := heap_lt h.cells
  have hkb := h.map.lt
  subst hs
  have HS : Hid (clientP M ⟨kind, (k : Int), seq, key, val, old, node⟩ = (M, a, false)) := mk_hid (by unfold clientP; simp only [Int.toNat_natCast, hq]; rw [if_pos trivial])
  have HLA := mk_hid (fun W (ho : Only nob w W) => (h.nn ho).last (by omega) hq)
  have HAC := mk_hid (fun W (ho : Only nob w W) => (h.nn ho).c1)
  have b1 : (1 : Int) ≤ (k : Int) := by omega
  have b2 : (k : Int) < 9 := by omega
  have b3 : (0 : Int) ≤ (k : Int) := by omega
  have H := mk_hid h
  clear h hq
  unfold Cmd.agg
  go_enter Tryz.func60, Tryz.ntmps60
  go_wp2
  go_quiet (fail)
  go_wp2
  have e0 := fun o o' n o2 => (HLA.out ((((w.alloc o).alloc o').drewN n).alloc o2) (by (repeat (first | with_reducible exact Only.refl _ _ | with_reducible assumption | with_reducible refine Only.drew ?_ | with_reducible refine Only.drewN ?_ _ | with_reducible refine Only.alloc ?_ _)))).c0
  have e1 := fun o o' n o2 => (HLA.out ((((w.alloc o).alloc o').drewN n).alloc o2) (by (repeat (first | with_reducible exact Only.refl _ _ | with_reducible assumption | with_reducible refine Only.drew ?_ | with_reducible refine Only.drewN ?_ _ | with_reducible refine Only.alloc ?_ _)))).c1
  have e2 := fun o o' n o2 => (HLA.out ((((w.alloc o).alloc o').drewN n).alloc o2) (by (repeat (first | with_reducible exact Only.refl _ _ | with_reducible assumption | with_reducible refine Only.drew ?_ | with_reducible refine Only.drewN ?_ _ | with_reducible refine Only.alloc ?_ _)))).c2
  have e3 := fun o o' n o2 => (HLA.out ((((w.alloc o).alloc o').drewN n).alloc o2) (by (repeat (first | with_reducible exact Only.refl _ _ | with_reducible assumption | with_reducible refine Only.drew ?_ | with_reducible refine Only.drewN ?_ _ | with_reducible refine Only.alloc ?_ _)))).c3
  have e4 := fun o o' n o2 => (HLA.out ((((w.alloc o).alloc o').drewN n).alloc o2) (by (repeat (first | with_reducible exact Only.refl _ _ | with_reducible assumption | with_reducible refine Only.drew ?_ | with_reducible refine Only.drewN ?_ _ | with_reducible refine Only.alloc ?_ _)))).c4
  have e5 := fun o o' n o2 => (HLA.out ((((w.alloc o).alloc o').drewN n).alloc o2) (by (repeat (first | with_reducible exact Only.refl _ _ | with_reducible assumption | with_reducible refine Only.drew ?_ | with_reducible refine Only.drewN ?_ _ | with_reducible refine Only.alloc ?_ _)))).c5
  have e6 := fun o o' n o2 => (HLA.out ((((w.alloc o).alloc o').drewN n).alloc o2) (by (repeat (first | with_reducible exact Only.refl _ _ | with_reducible assumption | with_reducible refine Only.drew ?_ | with_reducible refine Only.drewN ?_ _ | with_reducible refine Only.alloc ?_ _)))).c6
  have e7 := fun o o' n o2 => HAC.out ((((w.alloc o).alloc o').drewN n).alloc o2) (by (repeat (first | with_reducible exact Only.refl _ _ | with_reducible assumption | with_reducible refine Only.drew ?_ | with_reducible refine Only.drewN ?_ _ | with_reducible refine Only.alloc ?_ _)))
  go_quiet (fail)
  go_wp2
  refine bodyPost_ret (v := .tuple #[(a : Ans).agg, .bool false]) (by simp [results, Tryz.results60, go_sem, Ans.agg, *]) rfl (CPost.mk' HS.out (H.out.nn (by (repeat (first | with_reducible exact Only.refl _ _ | with_reducible assumption | with_reducible refine Only.drew ?_ | with_reducible refine Only.drewN ?_ _ | with_reducible refine Only.alloc ?_ _ | (with_reducible refine Only.set ?_ (.inr ?_) _; rotate_left; first | exact Nat.le_refl _ | exact Nat.le_succ _ | assumption | omega | (dsimp only; omega)))))) (Only.up (by (repeat (first | with_reducible exact Only.refl _ _ | with_reducible assumption | with_reducible refine Only.drew ?_ | with_reducible refine Only.drewN ?_ _ | with_reducible refine Only.alloc ?_ _ | (with_reducible refine Only.set ?_ (.inr ?_) _; rotate_left; first | exact Nat.le_refl _ | exact Nat.le_succ _ | assumption | omega | (dsimp only; omega)))))))
set_option maxRecDepth 100000 in
set_option maxHeartbeats 4000000 in
theorem client_stale (mb kb : Nat) (M : Mach) (kind seq node : Int) (key val old : ByteArray) (k : Nat) (q : Int) (a : Ans) (w : World) (h : MachAt w mb kb M) (h1 : 1 ≤ k) (h8 : k ≤ 8) (hq : M.done k = (q, a)) (hs : seq < q) :
    Calls Tryz.prog 60 #[.pointer (some ⟨mb, 0, none⟩), (⟨kind, (k : Int), seq, key, val, old, node⟩ : Cmd).agg] w (CPost w mb kb (clientP M ⟨kind, (k : Int), seq, key, val, old, node⟩)) := by
  have hm := heap_lt h.cells
  have hkb := h.map.lt
  have hne : (seq == q) = false := by simp; omega
  have hlt : decide (seq < q) = true := by simpa using hs
  have HS : Hid (clientP M ⟨kind, (k : Int), seq, key, val, old, node⟩ = (M, ⟨(k : Int), seq, 15, false, ⟨#[]⟩, 0⟩, false)) := mk_hid (by unfold clientP; simp only [Int.toNat_natCast, hq]; rw [if_neg (by omega), if_pos hs])
  have HLA := mk_hid (fun W (ho : Only nob w W) => (h.nn ho).last (by omega) hq)
  have HAC := mk_hid (fun W (ho : Only nob w W) => (h.nn ho).c1)
  have b1 : (1 : Int) ≤ (k : Int) := by omega
  have b2 : (k : Int) < 9 := by omega
  have b3 : (0 : Int) ≤ (k : Int) := by omega
  have H := mk_hid h
  clear h hq
  unfold Cmd.agg
  go_enter Tryz.func60, Tryz.ntmps60
  go_wp2
  go_quiet (fail)
  go_wp2
  have e0 := fun o o' n o2 => (HLA.out ((((w.alloc o).alloc o').drewN n).alloc o2) (by (repeat (first | with_reducible exact Only.refl _ _ | with_reducible assumption | with_reducible refine Only.drew ?_ | with_reducible refine Only.drewN ?_ _ | with_reducible refine Only.alloc ?_ _)))).c0
  have e1 := fun o o' n o2 => (HLA.out ((((w.alloc o).alloc o').drewN n).alloc o2) (by (repeat (first | with_reducible exact Only.refl _ _ | with_reducible assumption | with_reducible refine Only.drew ?_ | with_reducible refine Only.drewN ?_ _ | with_reducible refine Only.alloc ?_ _)))).c1
  have e2 := fun o o' n o2 => (HLA.out ((((w.alloc o).alloc o').drewN n).alloc o2) (by (repeat (first | with_reducible exact Only.refl _ _ | with_reducible assumption | with_reducible refine Only.drew ?_ | with_reducible refine Only.drewN ?_ _ | with_reducible refine Only.alloc ?_ _)))).c2
  have e3 := fun o o' n o2 => (HLA.out ((((w.alloc o).alloc o').drewN n).alloc o2) (by (repeat (first | with_reducible exact Only.refl _ _ | with_reducible assumption | with_reducible refine Only.drew ?_ | with_reducible refine Only.drewN ?_ _ | with_reducible refine Only.alloc ?_ _)))).c3
  have e4 := fun o o' n o2 => (HLA.out ((((w.alloc o).alloc o').drewN n).alloc o2) (by (repeat (first | with_reducible exact Only.refl _ _ | with_reducible assumption | with_reducible refine Only.drew ?_ | with_reducible refine Only.drewN ?_ _ | with_reducible refine Only.alloc ?_ _)))).c4
  have e5 := fun o o' n o2 => (HLA.out ((((w.alloc o).alloc o').drewN n).alloc o2) (by (repeat (first | with_reducible exact Only.refl _ _ | with_reducible assumption | with_reducible refine Only.drew ?_ | with_reducible refine Only.drewN ?_ _ | with_reducible refine Only.alloc ?_ _)))).c5
  have e6 := fun o o' n o2 => (HLA.out ((((w.alloc o).alloc o').drewN n).alloc o2) (by (repeat (first | with_reducible exact Only.refl _ _ | with_reducible assumption | with_reducible refine Only.drew ?_ | with_reducible refine Only.drewN ?_ _ | with_reducible refine Only.alloc ?_ _)))).c6
  have e7 := fun o o' n o2 => HAC.out ((((w.alloc o).alloc o').drewN n).alloc o2) (by (repeat (first | with_reducible exact Only.refl _ _ | with_reducible assumption | with_reducible refine Only.drew ?_ | with_reducible refine Only.drewN ?_ _ | with_reducible refine Only.alloc ?_ _)))
  go_quiet (fail)
  go_wp2
  go_quiet (fail)
  go_wp2
  refine bodyPost_ret (v := .tuple #[(⟨(k : Int), seq, 15, false, ⟨#[]⟩, 0⟩ : Ans).agg, .bool false]) (by simp [results, Tryz.results60, go_sem, Ans.agg, *]) rfl (CPost.mk' HS.out (H.out.nn (by (repeat (first | with_reducible exact Only.refl _ _ | with_reducible assumption | with_reducible refine Only.drew ?_ | with_reducible refine Only.drewN ?_ _ | with_reducible refine Only.alloc ?_ _ | (with_reducible refine Only.set ?_ (.inr ?_) _; rotate_left; first | exact Nat.le_refl _ | exact Nat.le_succ _ | assumption | omega | (dsimp only; omega)))))) (Only.up (by (repeat (first | with_reducible exact Only.refl _ _ | with_reducible assumption | with_reducible refine Only.drew ?_ | with_reducible refine Only.drewN ?_ _ | with_reducible refine Only.alloc ?_ _ | (with_reducible refine Only.set ?_ (.inr ?_) _; rotate_left; first | exact Nat.le_refl _ | exact Nat.le_succ _ | assumption | omega | (dsimp only; omega)))))))
set_option maxRecDepth 100000 in
set_option maxHeartbeats 4000000 in
theorem client_inactive (mb kb : Nat) (M : Mach) (seq node : Int) (key val old : ByteArray) (k : Nat) (q : Int) (a : Ans) (w : World) (h : MachAt w mb kb M) (h1 : 1 ≤ k) (h8 : k ≤ 8) (hq : M.done k = (q, a)) (hs : q < seq) (hact : M.act = false) :
    Calls Tryz.prog 60 #[.pointer (some ⟨mb, 0, none⟩), (⟨5, (k : Int), seq, key, val, old, node⟩ : Cmd).agg] w (CPost w mb kb (clientP M ⟨5, (k : Int), seq, key, val, old, node⟩)) := by
  have hm := heap_lt h.cells
  have hkb := h.map.lt
  have hne : (seq == q) = false := by simp; omega
  have hlt : decide (seq < q) = false := by simp; omega
  have HS : Hid (clientP M ⟨5, (k : Int), seq, key, val, old, node⟩ = (M, ⟨(k : Int), seq, 14, false, ⟨#[]⟩, 0⟩, false)) := mk_hid (by unfold clientP; simp only [Int.toNat_natCast, hq]; rw [if_neg (by omega), if_neg (by omega), if_pos (by simp [hact])])
  have HLA := mk_hid (fun W (ho : Only nob w W) => (h.nn ho).last (by omega) hq)
  have HAC := mk_hid (fun W (ho : Only nob w W) => show W.cell? ⟨mb, 1, none⟩ = some (.bool false) from by rw [← hact]; exact (h.nn ho).c1)
  have b1 : (1 : Int) ≤ (k : Int) := by omega
  have b2 : (k : Int) < 9 := by omega
  have b3 : (0 : Int) ≤ (k : Int) := by omega
  have H := mk_hid h
  clear h hq hact
  unfold Cmd.agg
  go_enter Tryz.func60, Tryz.ntmps60
  go_wp2
  go_quiet (fail)
  go_wp2
  have e0 := fun o o' n o2 => (HLA.out ((((w.alloc o).alloc o').drewN n).alloc o2) (by (repeat (first | with_reducible exact Only.refl _ _ | with_reducible assumption | with_reducible refine Only.drew ?_ | with_reducible refine Only.drewN ?_ _ | with_reducible refine Only.alloc ?_ _)))).c0
  have e1 := fun o o' n o2 => (HLA.out ((((w.alloc o).alloc o').drewN n).alloc o2) (by (repeat (first | with_reducible exact Only.refl _ _ | with_reducible assumption | with_reducible refine Only.drew ?_ | with_reducible refine Only.drewN ?_ _ | with_reducible refine Only.alloc ?_ _)))).c1
  have e2 := fun o o' n o2 => (HLA.out ((((w.alloc o).alloc o').drewN n).alloc o2) (by (repeat (first | with_reducible exact Only.refl _ _ | with_reducible assumption | with_reducible refine Only.drew ?_ | with_reducible refine Only.drewN ?_ _ | with_reducible refine Only.alloc ?_ _)))).c2
  have e3 := fun o o' n o2 => (HLA.out ((((w.alloc o).alloc o').drewN n).alloc o2) (by (repeat (first | with_reducible exact Only.refl _ _ | with_reducible assumption | with_reducible refine Only.drew ?_ | with_reducible refine Only.drewN ?_ _ | with_reducible refine Only.alloc ?_ _)))).c3
  have e4 := fun o o' n o2 => (HLA.out ((((w.alloc o).alloc o').drewN n).alloc o2) (by (repeat (first | with_reducible exact Only.refl _ _ | with_reducible assumption | with_reducible refine Only.drew ?_ | with_reducible refine Only.drewN ?_ _ | with_reducible refine Only.alloc ?_ _)))).c4
  have e5 := fun o o' n o2 => (HLA.out ((((w.alloc o).alloc o').drewN n).alloc o2) (by (repeat (first | with_reducible exact Only.refl _ _ | with_reducible assumption | with_reducible refine Only.drew ?_ | with_reducible refine Only.drewN ?_ _ | with_reducible refine Only.alloc ?_ _)))).c5
  have e6 := fun o o' n o2 => (HLA.out ((((w.alloc o).alloc o').drewN n).alloc o2) (by (repeat (first | with_reducible exact Only.refl _ _ | with_reducible assumption | with_reducible refine Only.drew ?_ | with_reducible refine Only.drewN ?_ _ | with_reducible refine Only.alloc ?_ _)))).c6
  have e7 := fun o o' n o2 => HAC.out ((((w.alloc o).alloc o').drewN n).alloc o2) (by (repeat (first | with_reducible exact Only.refl _ _ | with_reducible assumption | with_reducible refine Only.drew ?_ | with_reducible refine Only.drewN ?_ _ | with_reducible refine Only.alloc ?_ _)))
  go_quiet (fail)
  go_wp2
  go_quiet (fail)
  go_wp2
  refine bodyPost_ret (v := .tuple #[(⟨(k : Int), seq, 14, false, ⟨#[]⟩, 0⟩ : Ans).agg, .bool false]) (by simp [results, Tryz.results60, go_sem, Ans.agg, *]) rfl (CPost.mk' HS.out (H.out.nn (by (repeat (first | with_reducible exact Only.refl _ _ | with_reducible assumption | with_reducible refine Only.drew ?_ | with_reducible refine Only.drewN ?_ _ | with_reducible refine Only.alloc ?_ _ | (with_reducible refine Only.set ?_ (.inr ?_) _; rotate_left; first | exact Nat.le_refl _ | exact Nat.le_succ _ | assumption | omega | (dsimp only; omega)))))) (Only.up (by (repeat (first | with_reducible exact Only.refl _ _ | with_reducible assumption | with_reducible refine Only.drew ?_ | with_reducible refine Only.drewN ?_ _ | with_reducible refine Only.alloc ?_ _ | (with_reducible refine Only.set ?_ (.inr ?_) _; rotate_left; first | exact Nat.le_refl _ | exact Nat.le_succ _ | assumption | omega | (dsimp only; omega)))))))
def put7 (w : World) (mb k : Nat) (q : Int) (a : Ans) : World :=
  ((((((w.setCell ⟨mb, 2 + k * 7, none⟩ (.int .i64 q)).setCell ⟨mb, 2 + k * 7 + 1, none⟩ (.int .i64 a.client)).setCell ⟨mb, 2 + k * 7 + 2, none⟩ (.int .i64 a.seq)).setCell ⟨mb, 2 + k * 7 + 3, none⟩ (.int .i64 a.err)).setCell ⟨mb, 2 + k * 7 + 4, none⟩ (.bool a.found)).setCell ⟨mb, 2 + k * 7 + 5, none⟩ (.string a.val)).setCell ⟨mb, 2 + k * 7 + 6, none⟩ (.int .i64 a.rev)
theorem put7_arr (kb : Nat) (M : Mach) (k : Nat) (hk : k < 9) (q : Int) (a : Ans) :
    (((((((machC kb M).toArray.setIfInBounds (2 + k * 7) (.int .i64 q)).setIfInBounds (2 + k * 7 + 1) (.int .i64 a.client)).setIfInBounds (2 + k * 7 + 2) (.int .i64 a.seq)).setIfInBounds (2 + k * 7 + 3) (.int .i64 a.err)).setIfInBounds (2 + k * 7 + 4) (.bool a.found)).setIfInBounds (2 + k * 7 + 5) (.string a.val)).setIfInBounds (2 + k * 7 + 6) (.int .i64 a.rev) = (machC kb { M with done := setDone M.done k (q, a) }).toArray := by
  simp only [List.setIfInBounds_toArray]
  refine congrArg List.toArray ?_
  rcases (show k = 0 ∨ k = 1 ∨ k = 2 ∨ k = 3 ∨ k = 4 ∨ k = 5 ∨ k = 6 ∨ k = 7 ∨ k = 8 from by omega) with rfl | rfl | rfl | rfl | rfl | rfl | rfl | rfl | rfl <;> rfl
theorem MachAt.put7 {w : World} {mb kb : Nat} {M : Mach} (h : MachAt w mb kb M) {k : Nat} (hk : k < 9) (q : Int) (a : Ans) : MachAt (put7 w mb k q a) mb kb { M with done := setDone M.done k (q, a) } := by
  have ho : Only (fun b => b = mb) w (YtgcjmjhdnkffcaaGreatDoor.put7 w mb k q a) := by
    unfold YtgcjmjhdnkffcaaGreatDoor.put7
    (repeat (first | with_reducible exact Only.refl _ _ | with_reducible refine Only.drew ?_ | with_reducible refine Only.drewN ?_ _ | with_reducible refine Only.alloc ?_ _ | (with_reducible refine Only.set ?_ (.inl ?_) _; rotate_left; exact rfl)))
  refine ⟨?_, h.map.only ho (fun e => h.ne e.symm), h.len, h.nod, h.rev⟩
  have := cells_set (cells_set (cells_set (cells_set (cells_set (cells_set (cells_set h.cells (2 + k * 7) (.int .i64 q)) (2 + k * 7 + 1) (.int .i64 a.client)) (2 + k * 7 + 2) (.int .i64 a.seq)) (2 + k * 7 + 3) (.int .i64 a.err)) (2 + k * 7 + 4) (.bool a.found)) (2 + k * 7 + 5) (.string a.val)) (2 + k * 7 + 6) (.int .i64 a.rev)
  rw [put7_arr kb M k hk q a] at this
  exact this
end Go.Proofs.YtgcjmjhdnkffcaaGreatDoor
