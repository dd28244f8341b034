/- The program's machine (layer 29: spec): compare and swap. No condition. -/
import Derived.Test.YtgcjmjhdnkffcaaGreatDoorJPgSet
set_option linter.unusedVariables false
set_option linter.unusedSimpArgs false
namespace Go.Proofs.YtgcjmjhdnkffcaaGreatDoor
open Go.RowKit
def ans0 (c : Cmd) : Ans := ⟨c.client, c.seq, 0, false, ⟨#[]⟩, 0⟩
def swapP (M : Mach) (c : Cmd) : Mach × Ans :=
  match lk c.key M.keys with
  | none => (M, ⟨c.client, c.seq, 10, false, ⟨#[]⟩, 0⟩)
  | some v => if beq v.1 c.old then ((setP M c).1, ⟨c.client, c.seq, 0, true, v.1, (oldOf (setP M c).1 c.key).2⟩) else (M, ⟨c.client, c.seq, 15, true, v.1, v.2⟩)
/-- What a function that turns the map alone leaves. -/
def MPost (w : World) (mb kb : Nat) (r : Mach × Ans) (e : Ending) (w' : World) : Prop := e = .returned r.2.agg ∧ MachAt w' mb kb r.1 ∧ Only (fun b => b = kb) w w'
theorem MPost.mk' {w w' : World} {mb kb : Nat} {r : Mach × Ans} {a : Ans} {M' : Mach} (hr : r = (M', a)) (h : MachAt w' mb kb M') (ho : Only (fun b => b = kb) w w') : MPost w mb kb r (.returned a.agg) w' := by
  subst hr; exact ⟨rfl, h, ho⟩
set_option maxRecDepth 100000 in
set_option maxHeartbeats 4000000 in
theorem swap_none (mb kb : Nat) (M : Mach) (c : Cmd) (w : World) (h : MachAt w mb kb M) (hl : lk c.key M.keys = none) :
    Calls Tryz.prog 91 #[.pointer (some ⟨mb, 0, none⟩), c.agg, (ans0 c).agg] w (MPost w mb kb (swapP M c)) := by
  have c0 := h.c0
  have hm := heap_lt h.cells
  have HL := mk_hid (fun w' (ho : Only nob w w') => show (Instr.lookup 80 (.map (some kb)) (.string c.key) true).run Tryz.prog w' = .ok (.tuple #[.agg #[.string ⟨#[]⟩, .int .i64 0], .bool false]) w' from by rw [look_ok (h.nn ho) c.key, hl]; rfl)
  have HS : Hid (swapP M c = (M, ⟨c.client, c.seq, 10, false, ⟨#[]⟩, 0⟩)) := mk_hid (by unfold swapP; rw [hl])
  have H := mk_hid h
  clear h hl
  unfold Cmd.agg Ans.agg ans0
  go_enter Tryz.func91, Tryz.ntmps91
  go_wp2
  have d1 := fun o o' o2 => (show Only nob w (((w.alloc o).alloc o').alloc o2) from by (repeat (first | with_reducible exact Only.refl _ _ | with_reducible assumption | with_reducible refine Only.drew ?_ | with_reducible refine Only.drewN ?_ _ | with_reducible refine Only.alloc ?_ _))).cell c0 (fun h => h)
  have d2 := fun o o' o2 o3 => (show Only nob w ((((w.alloc o).alloc o').alloc o2).alloc o3) from by (repeat (first | with_reducible exact Only.refl _ _ | with_reducible assumption | with_reducible refine Only.drew ?_ | with_reducible refine Only.drewN ?_ _ | with_reducible refine Only.alloc ?_ _))).cell c0 (fun h => h)
  have l1 := fun o o' o2 => HL.out _ (show Only nob w (((w.alloc o).alloc o').alloc o2).drew from by (repeat (first | with_reducible exact Only.refl _ _ | with_reducible assumption | with_reducible refine Only.drew ?_ | with_reducible refine Only.drewN ?_ _ | with_reducible refine Only.alloc ?_ _)))
  have l2 := fun o o' o2 o3 => HL.out _ (show Only nob w ((((w.alloc o).alloc o').alloc o2).alloc o3).drew from by (repeat (first | with_reducible exact Only.refl _ _ | with_reducible assumption | with_reducible refine Only.drew ?_ | with_reducible refine Only.drewN ?_ _ | with_reducible refine Only.alloc ?_ _)))
  go_region
  clear l1 l2 d1 d2
  go_wp2
  refine bodyPost_ret (v := (⟨c.client, c.seq, 10, false, ⟨#[]⟩, 0⟩ : Ans).agg) (by simp [results, Tryz.results91, go_sem, Ans.agg, *]) rfl (MPost.mk' HS.out (H.out.nn (by (repeat (first | with_reducible exact Only.refl _ _ | with_reducible assumption | with_reducible refine Only.drew ?_ | with_reducible refine Only.drewN ?_ _ | with_reducible refine Only.alloc ?_ _)))) ?_)
  refine Only.up ?_
  (repeat (first | with_reducible exact Only.refl _ _ | with_reducible assumption | with_reducible refine Only.drew ?_ | with_reducible refine Only.drewN ?_ _ | with_reducible refine Only.alloc ?_ _))
set_option maxRecDepth 100000 in
set_option maxHeartbeats 4000000 in
theorem swap_stale (mb kb : Nat) (M : Mach) (c : Cmd) (ov : ByteArray) (orv : Int) (w : World) (h : MachAt w mb kb M) (hl : lk c.key M.keys = some (ov, orv)) (hne : beq ov c.old = false) :
    Calls Tryz.prog 91 #[.pointer (some ⟨mb, 0, none⟩), c.agg, (ans0 c).agg] w (MPost w mb kb (swapP M c)) := by
  have c0 := h.c0
  have hm := heap_lt h.cells
  have HL := mk_hid (fun w' (ho : Only nob w w') => show (Instr.lookup 80 (.map (some kb)) (.string c.key) true).run Tryz.prog w' = .ok (.tuple #[.agg #[.string ov, .int .i64 orv], .bool true]) w' from by rw [look_ok (h.nn ho) c.key, hl]; rfl)
  have HV := mk_hid (fun w' (ho : Only nob w w') => show (Instr.lookup 80 (.map (some kb)) (.string c.key) false).run Tryz.prog w' = .ok (.agg #[.string ov, .int .i64 orv]) w' from by rw [look_val (h.nn ho) c.key, hl]; rfl)
  have HS : Hid (swapP M c = (M, ⟨c.client, c.seq, 15, true, ov, orv⟩)) := mk_hid (by unfold swapP; rw [hl]; simp only; rw [hne]; rfl)
  have hne' : (ov.toList == c.old.toList) = false := hne
  have H := mk_hid h
  clear h hl hne
  unfold Cmd.agg Ans.agg ans0
  go_enter Tryz.func91, Tryz.ntmps91
  go_wp2
  have d1 := fun o o' o2 => (show Only nob w (((w.alloc o).alloc o').alloc o2) from by (repeat (first | with_reducible exact Only.refl _ _ | with_reducible assumption | with_reducible refine Only.drew ?_ | with_reducible refine Only.drewN ?_ _ | with_reducible refine Only.alloc ?_ _))).cell c0 (fun h => h)
  have d2 := fun o o' o2 o3 => (show Only nob w ((((w.alloc o).alloc o').alloc o2).alloc o3) from by (repeat (first | with_reducible exact Only.refl _ _ | with_reducible assumption | with_reducible refine Only.drew ?_ | with_reducible refine Only.drewN ?_ _ | with_reducible refine Only.alloc ?_ _))).cell c0 (fun h => h)
  have l1 := fun o o' o2 => HL.out _ (show Only nob w (((w.alloc o).alloc o').alloc o2).drew from by (repeat (first | with_reducible exact Only.refl _ _ | with_reducible assumption | with_reducible refine Only.drew ?_ | with_reducible refine Only.drewN ?_ _ | with_reducible refine Only.alloc ?_ _)))
  have l2 := fun o o' o2 o3 => HL.out _ (show Only nob w ((((w.alloc o).alloc o').alloc o2).alloc o3).drew from by (repeat (first | with_reducible exact Only.refl _ _ | with_reducible assumption | with_reducible refine Only.drew ?_ | with_reducible refine Only.drewN ?_ _ | with_reducible refine Only.alloc ?_ _)))
  go_region
  clear l1 l2
  go_wp2
  have l3 := fun o o' o2 o3 => HV.out _ (show Only nob w ((((w.alloc o).alloc o').alloc o2).alloc o3).drew from by (repeat (first | with_reducible exact Only.refl _ _ | with_reducible assumption | with_reducible refine Only.drew ?_ | with_reducible refine Only.drewN ?_ _ | with_reducible refine Only.alloc ?_ _)))
  have l4 := fun o o' o2 o3 => HV.out _ (show Only nob w ((((w.alloc o).alloc o').alloc o2).alloc o3).drew.drew from by (repeat (first | with_reducible exact Only.refl _ _ | with_reducible assumption | with_reducible refine Only.drew ?_ | with_reducible refine Only.drewN ?_ _ | with_reducible refine Only.alloc ?_ _)))
  have ff := field_rev
  go_region
  clear l3 l4 d1 d2 ff
  go_wp2
  refine bodyPost_ret (v := (⟨c.client, c.seq, 15, true, ov, orv⟩ : Ans).agg) (by simp [results, Tryz.results91, go_sem, Ans.agg, *]) rfl (MPost.mk' HS.out (H.out.nn (by (repeat (first | with_reducible exact Only.refl _ _ | with_reducible assumption | with_reducible refine Only.drew ?_ | with_reducible refine Only.drewN ?_ _ | with_reducible refine Only.alloc ?_ _)))) ?_)
  refine Only.up ?_
  (repeat (first | with_reducible exact Only.refl _ _ | with_reducible assumption | with_reducible refine Only.drew ?_ | with_reducible refine Only.drewN ?_ _ | with_reducible refine Only.alloc ?_ _))
set_option maxRecDepth 100000 in
set_option maxHeartbeats 4000000 in
theorem swap_done (mb kb : Nat) (M : Mach) (c : Cmd) (ov : ByteArray) (orv : Int) (w : World) (h : MachAt w mb kb M) (hl : lk c.key M.keys = some (ov, orv)) (hne : beq ov c.old = true) :
    Calls Tryz.prog 91 #[.pointer (some ⟨mb, 0, none⟩), c.agg, (ans0 c).agg] w (MPost w mb kb (swapP M c)) := by
  have c0 := h.c0
  have hm := heap_lt h.cells
  have hk := h.map.lt
  have HL := mk_hid (fun w' (ho : Only nob w w') => show (Instr.lookup 80 (.map (some kb)) (.string c.key) true).run Tryz.prog w' = .ok (.tuple #[.agg #[.string ov, .int .i64 orv], .bool true]) w' from by rw [look_ok (h.nn ho) c.key, hl]; rfl)
  obtain ⟨nv, hnv⟩ : ∃ v, oldOf (setP M c).1 c.key = v := ⟨_, rfl⟩
  obtain ⟨nvv, nvr⟩ := nv
  have HS : Hid (swapP M c = ((setP M c).1, ⟨c.client, c.seq, 0, true, ov, nvr⟩)) := mk_hid (by unfold swapP; rw [hl]; simp only; rw [hne, hnv]; rfl)
  have hs2 : Hid ((setP M c).2 = true) := mk_hid (by unfold setP; rw [if_neg (by rw [hl]; simp)])
  have hne' : (ov.toList == c.old.toList) = true := hne
  have HNV := mk_hid (fun w' (h' : MachAt w' mb kb (setP M c).1) => show (Instr.lookup 80 (.map (some kb)) (.string c.key) false).run Tryz.prog w' = .ok (.agg #[.string nvv, .int .i64 nvr]) w' from by rw [look_val h' c.key, show (lk c.key (setP M c).1.keys).getD (⟨#[]⟩, 0) = (nvv, nvr) from hnv]; rfl)
  have H := mk_hid h
  have HM := mk_hid h.ne
  clear h hl hne hnv
  unfold Cmd.agg Ans.agg ans0
  go_enter Tryz.func91, Tryz.ntmps91
  go_wp2
  have d1 := fun o o' o2 => (show Only nob w (((w.alloc o).alloc o').alloc o2) from by (repeat (first | with_reducible exact Only.refl _ _ | with_reducible assumption | with_reducible refine Only.drew ?_ | with_reducible refine Only.drewN ?_ _ | with_reducible refine Only.alloc ?_ _))).cell c0 (fun h => h)
  have d2 := fun o o' o2 o3 => (show Only nob w ((((w.alloc o).alloc o').alloc o2).alloc o3) from by (repeat (first | with_reducible exact Only.refl _ _ | with_reducible assumption | with_reducible refine Only.drew ?_ | with_reducible refine Only.drewN ?_ _ | with_reducible refine Only.alloc ?_ _))).cell c0 (fun h => h)
  have l1 := fun o o' o2 => HL.out _ (show Only nob w (((w.alloc o).alloc o').alloc o2).drew from by (repeat (first | with_reducible exact Only.refl _ _ | with_reducible assumption | with_reducible refine Only.drew ?_ | with_reducible refine Only.drewN ?_ _ | with_reducible refine Only.alloc ?_ _)))
  have l2 := fun o o' o2 o3 => HL.out _ (show Only nob w ((((w.alloc o).alloc o').alloc o2).alloc o3).drew from by (repeat (first | with_reducible exact Only.refl _ _ | with_reducible assumption | with_reducible refine Only.drew ?_ | with_reducible refine Only.drewN ?_ _ | with_reducible refine Only.alloc ?_ _)))
  go_region
  clear l1 l2
  go_wp2_with (first | (go_at_call 92; refine (set_put mb kb M c _ (H.out.nn (by (repeat (first | with_reducible exact Only.refl _ _ | with_reducible assumption | with_reducible refine Only.drew ?_ | with_reducible refine Only.drewN ?_ _ | with_reducible refine Only.alloc ?_ _)))) hs2.out).mono ?_; rintro e w2 ⟨rfl, hM2, ho2⟩))
  clear d1 d2
  have hO0 : Only nob w ((((w.alloc (.cells #[.int .i64 c.kind, .int .i64 c.client, .int .i64 c.seq, .string c.key, .string c.val, .string c.old, .int .i64 c.node] 25)).alloc (.cells #[.int .i64 c.client, .int .i64 c.seq, .int .i64 0, .bool false, .string ⟨#[]⟩, .int .i64 0] 28)).alloc (.cells #[.int .i64 0, .int .i64 0, .int .i64 0, .bool false, .string ⟨#[]⟩, .int .i64 0] 28)).alloc (.cells #[.string ov, .int .i64 orv] 92)) := by (repeat (first | with_reducible exact Only.refl _ _ | with_reducible assumption | with_reducible refine Only.drew ?_ | with_reducible refine Only.drewN ?_ _ | with_reducible refine Only.alloc ?_ _))
  have b0 : w2.heap[w.heap.size]? = some (.cells #[.int .i64 c.kind, .int .i64 c.client, .int .i64 c.seq, .string c.key, .string c.val, .string c.old, .int .i64 c.node] 25 (0, 0)) := ho2.heap (heap_old _ (heap_old _ (heap_old _ (heap_new _ rfl)))) (by omega)
  have b1 : w2.heap[w.heap.size + 1]? = some (.cells #[.int .i64 c.client, .int .i64 c.seq, .int .i64 0, .bool false, .string ⟨#[]⟩, .int .i64 0] 28 (0, 0)) := ho2.heap (heap_old _ (heap_old _ (heap_new _ (by simp)))) (by omega)
  have b2 : w2.heap[w.heap.size + 1 + 1]? = some (.cells #[.int .i64 0, .int .i64 0, .int .i64 0, .bool false, .string ⟨#[]⟩, .int .i64 0] 28 (0, 0)) := ho2.heap (heap_old _ (heap_new _ (by simp))) (by omega)
  have b3 : w2.heap[w.heap.size + 1 + 1 + 1]? = some (.cells #[.string ov, .int .i64 orv] 92 (0, 0)) := ho2.heap (heap_new _ (by simp)) (by omega)
  obtain ⟨p0, q0⟩ := cells_all b0
  obtain ⟨p1, q1⟩ := cells_all b1
  obtain ⟨p2, q2⟩ := cells_all b2
  obtain ⟨p3, q3⟩ := cells_all b3
  have m0 := hM2.c0
  have hOnly : Only (fun b => b = kb) w w2 := ((hO0.drew).up).trans ho2
  have HN2 : Hid (∀ w', Only (fun b => b = w.heap.size + 1 ∨ b = w.heap.size + 1 + 1) w2 w' → MachAt w' mb kb (setP M c).1) := mk_hid (fun w' ho => hM2.only ho (by omega) (by omega))
  clear b0 b1 b2 b3 hM2 ho2
  have l5 := HNV.out _ (HN2.out w2.drew (by (repeat (first | with_reducible exact Only.refl _ _ | with_reducible refine Only.drew ?_ | with_reducible refine Only.drewN ?_ _ | (with_reducible refine Only.set ?_ (.inl ?_) _; rotate_left; first | exact .inr rfl | exact .inl rfl)))))
  have l6 := fun v => HNV.out _ (HN2.out (w2.setCell ⟨w.heap.size + 1, 3, none⟩ v).drew (by (repeat (first | with_reducible exact Only.refl _ _ | with_reducible refine Only.drew ?_ | with_reducible refine Only.drewN ?_ _ | (with_reducible refine Only.set ?_ (.inl ?_) _; rotate_left; first | exact .inr rfl | exact .inl rfl)))))
  have l7 := fun v => HNV.out _ (HN2.out (w2.setCell ⟨w.heap.size + 1, 4, none⟩ v).drew (by (repeat (first | with_reducible exact Only.refl _ _ | with_reducible refine Only.drew ?_ | with_reducible refine Only.drewN ?_ _ | (with_reducible refine Only.set ?_ (.inl ?_) _; rotate_left; first | exact .inr rfl | exact .inl rfl)))))
  have l8 := fun v v' => HNV.out _ (HN2.out ((w2.setCell ⟨w.heap.size + 1, 3, none⟩ v).setCell ⟨w.heap.size + 1, 4, none⟩ v').drew (by (repeat (first | with_reducible exact Only.refl _ _ | with_reducible refine Only.drew ?_ | with_reducible refine Only.drewN ?_ _ | (with_reducible refine Only.set ?_ (.inl ?_) _; rotate_left; first | exact .inr rfl | exact .inl rfl)))))
  have l9 := fun v v' => HNV.out _ (HN2.out ((w2.setCell ⟨w.heap.size + 1, 4, none⟩ v).setCell ⟨w.heap.size + 1, 3, none⟩ v').drew (by (repeat (first | with_reducible exact Only.refl _ _ | with_reducible refine Only.drew ?_ | with_reducible refine Only.drewN ?_ _ | (with_reducible refine Only.set ?_ (.inl ?_) _; rotate_left; first | exact .inr rfl | exact .inl rfl)))))
  have ff := field_rev
  go_region
  clear l5 l6 l7 l8 l9 ff
  go_wp2
  refine bodyPost_ret (v := (⟨c.client, c.seq, 0, true, ov, nvr⟩ : Ans).agg) (by simp [results, Tryz.results91, go_sem, Ans.agg, *]) rfl (MPost.mk' HS.out (HN2.out _ ?_) (hOnly.then (T := fun b => b = w.heap.size + 1 ∨ b = w.heap.size + 1 + 1) ?_ (fun i hi hh => by omega)))
  · (repeat (first | with_reducible exact Only.refl _ _ | with_reducible refine Only.drew ?_ | with_reducible refine Only.drewN ?_ _ | (with_reducible refine Only.set ?_ (.inl ?_) _; rotate_left; first | exact .inr rfl | exact .inl rfl)))
  · (repeat (first | with_reducible exact Only.refl _ _ | with_reducible refine Only.drew ?_ | with_reducible refine Only.drewN ?_ _ | (with_reducible refine Only.set ?_ (.inl ?_) _; rotate_left; first | exact .inr rfl | exact .inl rfl)))
theorem swap_any (mb kb : Nat) (M : Mach) (c : Cmd) (w : World) (h : MachAt w mb kb M) :
    Calls Tryz.prog 91 #[.pointer (some ⟨mb, 0, none⟩), c.agg, (ans0 c).agg] w (MPost w mb kb (swapP M c)) := by
  cases hl : lk c.key M.keys with
  | none => exact swap_none mb kb M c w h hl
  | some v =>
    obtain ⟨ov, orv⟩ := v
    cases hb : beq ov c.old with
    | false => exact swap_stale mb kb M c ov orv w h hl hb
    | true => exact swap_done mb kb M c ov orv w h hl hb
end Go.Proofs.YtgcjmjhdnkffcaaGreatDoor
