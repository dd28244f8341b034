/- The program's machine (layer 29: spec): a client's command that is new. No condition. -/
import Derived.Test.YtgcjmjhdnkffcaaGreatDoorJPgSwap
set_option linter.unusedVariables false
set_option linter.unusedSimpArgs false
namespace Go.Proofs.YtgcjmjhdnkffcaaGreatDoor
open Go.RowKit
def freshP (M : Mach) (c : Cmd) : Mach × Ans :=
  if c.kind = 5 then swapP M c
  else if c.kind = 2 then (if (setP M c).2 then ((setP M c).1, ⟨c.client, c.seq, 0, (lk c.key M.keys).isSome, (oldOf M c.key).1, 0⟩) else (M, ⟨c.client, c.seq, 11, false, ⟨#[]⟩, 0⟩))
  else if c.kind = 4 then ({ M with keys := del c.key M.keys }, ⟨c.client, c.seq, 0, (lk c.key M.keys).isSome, (oldOf M c.key).1, 0⟩)
  else (M, ⟨c.client, c.seq, 0, (lk c.key M.keys).isSome, (oldOf M c.key).1, 0⟩)
set_option maxRecDepth 100000 in
set_option maxHeartbeats 4000000 in
theorem fresh_cas (mb kb : Nat) (M : Mach) (client seq node : Int) (key val old : ByteArray) (w : World) (h : MachAt w mb kb M) :
    Calls Tryz.prog 70 #[.pointer (some ⟨mb, 0, none⟩), (⟨5, client, seq, key, val, old, node⟩ : Cmd).agg] w (MPost w mb kb (freshP M ⟨5, client, seq, key, val, old, node⟩)) := by
  have HS : Hid (freshP M ⟨5, client, seq, key, val, old, node⟩ = swapP M ⟨5, client, seq, key, val, old, node⟩) := mk_hid (by unfold freshP; rw [if_pos rfl])
  have H := mk_hid h
  have hk := h.map.lt
  have hm := heap_lt h.cells
  obtain ⟨⟨M', a'⟩, hr⟩ : ∃ r, swapP M ⟨5, client, seq, key, val, old, node⟩ = r := ⟨_, rfl⟩
  have HR := mk_hid hr
  clear h hr
  unfold Cmd.agg
  go_enter Tryz.func70, Tryz.ntmps70
  go_wp2_with (first | (go_at_call 91; refine (swap_any mb kb M ⟨5, client, seq, key, val, old, node⟩ _ (H.out.nn (by (repeat (first | with_reducible exact Only.refl _ _ | with_reducible assumption | with_reducible refine Only.drew ?_ | with_reducible refine Only.drewN ?_ _ | with_reducible refine Only.alloc ?_ _))))).mono ?_; rw [HR.out]; rintro e w2 ⟨rfl, hM2, ho2⟩; simp only [Ans.agg]; have b1 : w2.heap[w.heap.size + 1]? = some (.cells #[.int .i64 0, .int .i64 0, .int .i64 0, .bool false, .string ⟨#[]⟩, .int .i64 0] 28 (0, 0)) := ho2.heap (heap_old _ (heap_new _ (by simp))) (by omega); obtain ⟨p1, q1⟩ := cells_all b1))
  refine bodyPost_ret (v := a'.agg) (by simp [results, Tryz.results70, go_sem, Ans.agg, *]) rfl (MPost.mk' (HS.out.trans HR.out) (hM2.only (S := fun b => b = w.heap.size + 1) ?_ (by omega) (by omega)) (Only.then (T := fun b => b = w.heap.size + 1) (Only.trans (Only.up (by (repeat (first | with_reducible exact Only.refl _ _ | with_reducible assumption | with_reducible refine Only.drew ?_ | with_reducible refine Only.drewN ?_ _ | with_reducible refine Only.alloc ?_ _)))) ho2) ?_ (fun i hi hh => by omega)))
  · (repeat (first | with_reducible exact Only.refl _ _ | with_reducible refine Only.drew ?_ | with_reducible refine Only.drewN ?_ _ | with_reducible refine Only.alloc ?_ _ | (with_reducible refine Only.set ?_ (.inl ?_) _; rotate_left; exact rfl)))
  · (repeat (first | with_reducible exact Only.refl _ _ | with_reducible refine Only.drew ?_ | with_reducible refine Only.drewN ?_ _ | with_reducible refine Only.alloc ?_ _ | (with_reducible refine Only.set ?_ (.inl ?_) _; rotate_left; exact rfl)))
set_option maxRecDepth 100000 in
set_option maxHeartbeats 4000000 in
theorem fresh_get (mb kb : Nat) (M : Mach) (client seq node : Int) (key val old : ByteArray) (w : World) (h : MachAt w mb kb M) :
    Calls Tryz.prog 70 #[.pointer (some ⟨mb, 0, none⟩), (⟨3, client, seq, key, val, old, node⟩ : Cmd).agg] w (MPost w mb kb (freshP M ⟨3, client, seq, key, val, old, node⟩)) := by
  have c0 := h.c0
  have hk := h.map.lt
  have hm := heap_lt h.cells
  obtain ⟨v, hv⟩ : ∃ v, oldOf M key = v := ⟨_, rfl⟩
  obtain ⟨vv, vr⟩ := v
  obtain ⟨is, hi⟩ : ∃ b, (lk key M.keys).isSome = b := ⟨_, rfl⟩
  have HL := mk_hid (fun w' (ho : Only nob w w') => show (Instr.lookup 80 (.map (some kb)) (.string key) true).run Tryz.prog w' = .ok (.tuple #[.agg #[.string vv, .int .i64 vr], .bool is]) w' from by rw [look_ok (h.nn ho) key, hi]; rw [show (lk key M.keys).getD (⟨#[]⟩, 0) = (vv, vr) from hv]; rfl)
  have HS : Hid (freshP M ⟨3, client, seq, key, val, old, node⟩ = (M, ⟨client, seq, 0, is, vv, 0⟩)) := mk_hid (by unfold freshP; rw [if_neg (by simp), if_neg (by simp), if_neg (by simp)]; simp only; rw [hi, hv])
  have H := mk_hid h
  clear h hv hi
  unfold Cmd.agg
  go_enter Tryz.func70, Tryz.ntmps70
  go_wp2
  have d1 := fun o o' o2 => (show Only nob w (((w.alloc o).alloc o').alloc o2) from by (repeat (first | with_reducible exact Only.refl _ _ | with_reducible assumption | with_reducible refine Only.drew ?_ | with_reducible refine Only.drewN ?_ _ | with_reducible refine Only.alloc ?_ _))).cell c0 (fun h => h)
  have d2 := fun o o' o2 o3 => (show Only nob w ((((w.alloc o).alloc o').alloc o2).alloc o3) from by (repeat (first | with_reducible exact Only.refl _ _ | with_reducible assumption | with_reducible refine Only.drew ?_ | with_reducible refine Only.drewN ?_ _ | with_reducible refine Only.alloc ?_ _))).cell c0 (fun h => h)
  have l1 := fun o o' o2 => HL.out _ (show Only nob w (((w.alloc o).alloc o').alloc o2).drew from by (repeat (first | with_reducible exact Only.refl _ _ | with_reducible assumption | with_reducible refine Only.drew ?_ | with_reducible refine Only.drewN ?_ _ | with_reducible refine Only.alloc ?_ _)))
  have l2 := fun o o' o2 o3 => HL.out _ (show Only nob w ((((w.alloc o).alloc o').alloc o2).alloc o3).drew from by (repeat (first | with_reducible exact Only.refl _ _ | with_reducible assumption | with_reducible refine Only.drew ?_ | with_reducible refine Only.drewN ?_ _ | with_reducible refine Only.alloc ?_ _)))
  go_region
  clear l1 l2 d1 d2
  go_wp2
  go_region
  go_wp2
  refine bodyPost_ret (v := (⟨client, seq, 0, is, vv, 0⟩ : Ans).agg) (by simp [results, Tryz.results70, go_sem, Ans.agg, *]) rfl (MPost.mk' HS.out (H.out.nn (by (repeat (first | with_reducible exact Only.refl _ _ | with_reducible assumption | with_reducible refine Only.drew ?_ | with_reducible refine Only.drewN ?_ _ | with_reducible refine Only.alloc ?_ _)))) (Only.up ?_))
  (repeat (first | with_reducible exact Only.refl _ _ | with_reducible assumption | with_reducible refine Only.drew ?_ | with_reducible refine Only.drewN ?_ _ | with_reducible refine Only.alloc ?_ _))
set_option maxRecDepth 100000 in
set_option maxHeartbeats 4000000 in
theorem fresh_full (mb kb : Nat) (M : Mach) (client seq node : Int) (key val old : ByteArray) (w : World) (h : MachAt w mb kb M) (hs : (setP M ⟨2, client, seq, key, val, old, node⟩).2 = false) :
    Calls Tryz.prog 70 #[.pointer (some ⟨mb, 0, none⟩), (⟨2, client, seq, key, val, old, node⟩ : Cmd).agg] w (MPost w mb kb (freshP M ⟨2, client, seq, key, val, old, node⟩)) := by
  have c0 := h.c0
  have hk := h.map.lt
  have hm := heap_lt h.cells
  obtain ⟨v, hv⟩ : ∃ v, oldOf M key = v := ⟨_, rfl⟩
  obtain ⟨vv, vr⟩ := v
  obtain ⟨is, hi⟩ : ∃ b, (lk key M.keys).isSome = b := ⟨_, rfl⟩
  have HL := mk_hid (fun w' (ho : Only nob w w') => show (Instr.lookup 80 (.map (some kb)) (.string key) true).run Tryz.prog w' = .ok (.tuple #[.agg #[.string vv, .int .i64 vr], .bool is]) w' from by rw [look_ok (h.nn ho) key, hi]; rw [show (lk key M.keys).getD (⟨#[]⟩, 0) = (vv, vr) from hv]; rfl)
  have HS : Hid (freshP M ⟨2, client, seq, key, val, old, node⟩ = (M, ⟨client, seq, 11, false, ⟨#[]⟩, 0⟩)) := mk_hid (by unfold freshP; rw [if_neg (by simp), if_pos rfl, hs]; rfl)
  have H := mk_hid h
  have HF := mk_hid hs
  clear h hv hi hs
  unfold Cmd.agg
  go_enter Tryz.func70, Tryz.ntmps70
  go_wp2
  have d1 := fun o o' o2 => (show Only nob w (((w.alloc o).alloc o').alloc o2) from by (repeat (first | with_reducible exact Only.refl _ _ | with_reducible assumption | with_reducible refine Only.drew ?_ | with_reducible refine Only.drewN ?_ _ | with_reducible refine Only.alloc ?_ _))).cell c0 (fun h => h)
  have d2 := fun o o' o2 o3 => (show Only nob w ((((w.alloc o).alloc o').alloc o2).alloc o3) from by (repeat (first | with_reducible exact Only.refl _ _ | with_reducible assumption | with_reducible refine Only.drew ?_ | with_reducible refine Only.drewN ?_ _ | with_reducible refine Only.alloc ?_ _))).cell c0 (fun h => h)
  have l1 := fun o o' o2 => HL.out _ (show Only nob w (((w.alloc o).alloc o').alloc o2).drew from by (repeat (first | with_reducible exact Only.refl _ _ | with_reducible assumption | with_reducible refine Only.drew ?_ | with_reducible refine Only.drewN ?_ _ | with_reducible refine Only.alloc ?_ _)))
  have l2 := fun o o' o2 o3 => HL.out _ (show Only nob w ((((w.alloc o).alloc o').alloc o2).alloc o3).drew from by (repeat (first | with_reducible exact Only.refl _ _ | with_reducible assumption | with_reducible refine Only.drew ?_ | with_reducible refine Only.drewN ?_ _ | with_reducible refine Only.alloc ?_ _)))
  go_region
  clear l1 l2 d1 d2
  go_wp2_with (first | (go_at_call 92; refine (set_full mb kb M ⟨2, client, seq, key, val, old, node⟩ _ (H.out.nn (by (repeat (first | with_reducible exact Only.refl _ _ | with_reducible assumption | with_reducible refine Only.drew ?_ | with_reducible refine Only.drewN ?_ _ | with_reducible refine Only.alloc ?_ _)))) HF.out).mono ?_; rintro e w2 ⟨rfl, ho2⟩; have b1 : w2.heap[w.heap.size + 1]? = some (.cells #[.int .i64 0, .int .i64 0, .int .i64 0, .bool false, .string ⟨#[]⟩, .int .i64 0] 28 (0, 0)) := ho2.heap (heap_old _ (heap_old _ (heap_new _ (by simp)))) (fun h => h); have b2 : w2.heap[w.heap.size + 1 + 1]? = some (.cells #[.int .i64 client, .int .i64 seq, .int .i64 0, .bool false, .string ⟨#[]⟩, .int .i64 0] 28 (0, 0)) := ho2.heap (heap_old _ (heap_new _ (by simp))) (fun h => h); obtain ⟨p1, q1⟩ := cells_all b1; obtain ⟨p2, q2⟩ := cells_all b2; have hO2 := Only.trans (a := w) (by (repeat (first | with_reducible exact Only.refl _ _ | with_reducible assumption | with_reducible refine Only.drew ?_ | with_reducible refine Only.drewN ?_ _ | with_reducible refine Only.alloc ?_ _))) ho2; have hM2 := H.out.nn hO2))
  refine bodyPost_ret (v := (⟨client, seq, 11, false, ⟨#[]⟩, 0⟩ : Ans).agg) (by simp [results, Tryz.results70, go_sem, Ans.agg, *]) rfl (MPost.mk' HS.out (hM2.only (S := fun b => b = w.heap.size + 1 ∨ b = w.heap.size + 1 + 1) ?_ (by omega) (by omega)) (Only.then (T := fun b => b = w.heap.size + 1 ∨ b = w.heap.size + 1 + 1) hO2.up ?_ (fun i hi hh => by omega)))
  · (repeat (first | with_reducible exact Only.refl _ _ | with_reducible refine Only.drew ?_ | with_reducible refine Only.drewN ?_ _ | (with_reducible refine Only.set ?_ (.inl ?_) _; rotate_left; first | exact .inr rfl | exact .inl rfl)))
  · (repeat (first | with_reducible exact Only.refl _ _ | with_reducible refine Only.drew ?_ | with_reducible refine Only.drewN ?_ _ | (with_reducible refine Only.set ?_ (.inl ?_) _; rotate_left; first | exact .inr rfl | exact .inl rfl)))
set_option maxRecDepth 100000 in
set_option maxHeartbeats 4000000 in
theorem fresh_put (mb kb : Nat) (M : Mach) (client seq node : Int) (key val old : ByteArray) (w : World) (h : MachAt w mb kb M) (hs : (setP M ⟨2, client, seq, key, val, old, node⟩).2 = true) :
    Calls Tryz.prog 70 #[.pointer (some ⟨mb, 0, none⟩), (⟨2, client, seq, key, val, old, node⟩ : Cmd).agg] w (MPost w mb kb (freshP M ⟨2, client, seq, key, val, old, node⟩)) := by
  have c0 := h.c0
  have hk := h.map.lt
  have hm := heap_lt h.cells
  obtain ⟨v, hv⟩ : ∃ v, oldOf M key = v := ⟨_, rfl⟩
  obtain ⟨vv, vr⟩ := v
  obtain ⟨is, hi⟩ : ∃ b, (lk key M.keys).isSome = b := ⟨_, rfl⟩
  have HL := mk_hid (fun w' (ho : Only nob w w') => show (Instr.lookup 80 (.map (some kb)) (.string key) true).run Tryz.prog w' = .ok (.tuple #[.agg #[.string vv, .int .i64 vr], .bool is]) w' from by rw [look_ok (h.nn ho) key, hi]; rw [show (lk key M.keys).getD (⟨#[]⟩, 0) = (vv, vr) from hv]; rfl)
  have HS : Hid (freshP M ⟨2, client, seq, key, val, old, node⟩ = ((setP M ⟨2, client, seq, key, val, old, node⟩).1, ⟨client, seq, 0, is, vv, 0⟩)) := mk_hid (by unfold freshP; rw [if_neg (by simp), if_pos rfl, if_pos hs]; simp only; rw [hi, hv])
  have H := mk_hid h
  have HF := mk_hid hs
  clear h hv hi hs
  unfold Cmd.agg
  go_enter Tryz.func70, Tryz.ntmps70
  go_wp2
  have d1 := fun o o' o2 => (show Only nob w (((w.alloc o).alloc o').alloc o2) from by (repeat (first | with_reducible exact Only.refl _ _ | with_reducible assumption | with_reducible refine Only.drew ?_ | with_reducible refine Only.drewN ?_ _ | with_reducible refine Only.alloc ?_ _))).cell c0 (fun h => h)
  have d2 := fun o o' o2 o3 => (show Only nob w ((((w.alloc o).alloc o').alloc o2).alloc o3) from by (repeat (first | with_reducible exact Only.refl _ _ | with_reducible assumption | with_reducible refine Only.drew ?_ | with_reducible refine Only.drewN ?_ _ | with_reducible refine Only.alloc ?_ _))).cell c0 (fun h => h)
  have l1 := fun o o' o2 => HL.out _ (show Only nob w (((w.alloc o).alloc o').alloc o2).drew from by (repeat (first | with_reducible exact Only.refl _ _ | with_reducible assumption | with_reducible refine Only.drew ?_ | with_reducible refine Only.drewN ?_ _ | with_reducible refine Only.alloc ?_ _)))
  have l2 := fun o o' o2 o3 => HL.out _ (show Only nob w ((((w.alloc o).alloc o').alloc o2).alloc o3).drew from by (repeat (first | with_reducible exact Only.refl _ _ | with_reducible assumption | with_reducible refine Only.drew ?_ | with_reducible refine Only.drewN ?_ _ | with_reducible refine Only.alloc ?_ _)))
  go_region
  clear l1 l2 d1 d2
  go_wp2_with (first | (go_at_call 92; refine (set_put mb kb M ⟨2, client, seq, key, val, old, node⟩ _ (H.out.nn (by (repeat (first | with_reducible exact Only.refl _ _ | with_reducible assumption | with_reducible refine Only.drew ?_ | with_reducible refine Only.drewN ?_ _ | with_reducible refine Only.alloc ?_ _)))) HF.out).mono ?_; rintro e w2 ⟨rfl, hM2, ho2⟩; have b0 : w2.heap[w.heap.size]? = some (.cells #[.int .i64 2, .int .i64 client, .int .i64 seq, .string key, .string val, .string old, .int .i64 node] 25 (0, 0)) := ho2.heap (heap_old _ (heap_old _ (heap_old _ (heap_new _ rfl)))) (by omega); have b1 : w2.heap[w.heap.size + 1]? = some (.cells #[.int .i64 0, .int .i64 0, .int .i64 0, .bool false, .string ⟨#[]⟩, .int .i64 0] 28 (0, 0)) := ho2.heap (heap_old _ (heap_old _ (heap_new _ (by simp)))) (by omega); have b2 : w2.heap[w.heap.size + 1 + 1]? = some (.cells #[.int .i64 client, .int .i64 seq, .int .i64 0, .bool false, .string ⟨#[]⟩, .int .i64 0] 28 (0, 0)) := ho2.heap (heap_old _ (heap_new _ (by simp))) (by omega); have b3 : w2.heap[w.heap.size + 1 + 1 + 1]? = some (.cells #[.string vv, .int .i64 vr] 92 (0, 0)) := ho2.heap (heap_new _ (by simp)) (by omega); obtain ⟨p0, q0⟩ := cells_all b0; obtain ⟨p1, q1⟩ := cells_all b1; obtain ⟨p2, q2⟩ := cells_all b2; obtain ⟨p3, q3⟩ := cells_all b3; have hO2 := Only.trans (a := w) (Only.up (by (repeat (first | with_reducible exact Only.refl _ _ | with_reducible assumption | with_reducible refine Only.drew ?_ | with_reducible refine Only.drewN ?_ _ | with_reducible refine Only.alloc ?_ _)))) ho2; clear b0 b1 b2 b3))
  go_region
  go_wp2
  refine bodyPost_ret (v := (⟨client, seq, 0, is, vv, 0⟩ : Ans).agg) (by simp [results, Tryz.results70, go_sem, Ans.agg, *]) rfl (MPost.mk' HS.out (hM2.only (S := fun b => b = w.heap.size + 1 ∨ b = w.heap.size + 1 + 1) ?_ (by omega) (by omega)) (Only.then (T := fun b => b = w.heap.size + 1 ∨ b = w.heap.size + 1 + 1) hO2 ?_ (fun i hi hh => by omega)))
  · (repeat (first | with_reducible exact Only.refl _ _ | with_reducible refine Only.drew ?_ | with_reducible refine Only.drewN ?_ _ | (with_reducible refine Only.set ?_ (.inl ?_) _; rotate_left; first | exact .inr rfl | exact .inl rfl)))
  · (repeat (first | with_reducible exact Only.refl _ _ | with_reducible refine Only.drew ?_ | with_reducible refine Only.drewN ?_ _ | (with_reducible refine Only.set ?_ (.inl ?_) _; rotate_left; first | exact .inr rfl | exact .inl rfl)))
set_option maxRecDepth 100000 in
set_option maxHeartbeats 4000000 in
theorem fresh_del (mb kb : Nat) (M : Mach) (client seq node : Int) (key val old : ByteArray) (w : World) (h : MachAt w mb kb M) :
    Calls Tryz.prog 70 #[.pointer (some ⟨mb, 0, none⟩), (⟨4, client, seq, key, val, old, node⟩ : Cmd).agg] w (MPost w mb kb (freshP M ⟨4, client, seq, key, val, old, node⟩)) := by
  have c0 := h.c0
  have hk := h.map.lt
  have hm := heap_lt h.cells
  obtain ⟨v, hv⟩ : ∃ v, oldOf M key = v := ⟨_, rfl⟩
  obtain ⟨vv, vr⟩ := v
  obtain ⟨is, hi⟩ : ∃ b, (lk key M.keys).isSome = b := ⟨_, rfl⟩
  have HL := mk_hid (fun w' (ho : Only nob w w') => show (Instr.lookup 80 (.map (some kb)) (.string key) true).run Tryz.prog w' = .ok (.tuple #[.agg #[.string vv, .int .i64 vr], .bool is]) w' from by rw [look_ok (h.nn ho) key, hi]; rw [show (lk key M.keys).getD (⟨#[]⟩, 0) = (vv, vr) from hv]; rfl)
  have HS : Hid (freshP M ⟨4, client, seq, key, val, old, node⟩ = ({ M with keys := del key M.keys }, ⟨client, seq, 0, is, vv, 0⟩)) := mk_hid (by unfold freshP; rw [if_neg (by simp), if_neg (by simp), if_pos rfl]; simp only; rw [hi, hv])
  obtain ⟨es, clock, hes, hIs⟩ := h.map
  obtain ⟨es', clock', hIs', hU⟩ := delete_run keyOk_str (show Tryz.prog.underlying 80 = some (.map 9 92) from Tryz.underlying80) hIs key 0 #[80, 9] rfl
  have hsub := del_sub key M.keys
  have HF : Hid (∀ w', Only nob w w' → MachAt (putObj w' kb (.map es' clock')) mb kb { M with keys := del key M.keys }) := mk_hid (fun w' ho => (h.nn ho).put hIs' (Nat.le_trans hsub.length_le h.len) ((hsub.map _).nodup h.nod) (fun p hp => h.rev p (hsub.subset hp)))
  have HU : Hid (∀ w', Only nob w w' → (Builtin.delete_ #[80, 9] 0 #[.map (some kb), .string key]).run Tryz.prog w' = .ok (.tuple #[]) (putObj w' kb (.map es' clock'))) := mk_hid (fun w' ho => hU kb w' (ho.heap hes (fun h => h)))
  have H := mk_hid h
  clear h hv hi hes hIs hIs' hU hsub
  unfold Cmd.agg
  go_enter Tryz.func70, Tryz.ntmps70
  go_wp2
  have d1 := fun o o' o2 => (show Only nob w (((w.alloc o).alloc o').alloc o2) from by (repeat (first | with_reducible exact Only.refl _ _ | with_reducible assumption | with_reducible refine Only.drew ?_ | with_reducible refine Only.drewN ?_ _ | with_reducible refine Only.alloc ?_ _))).cell c0 (fun h => h)
  have d2 := fun o o' o2 o3 => (show Only nob w ((((w.alloc o).alloc o').alloc o2).alloc o3) from by (repeat (first | with_reducible exact Only.refl _ _ | with_reducible assumption | with_reducible refine Only.drew ?_ | with_reducible refine Only.drewN ?_ _ | with_reducible refine Only.alloc ?_ _))).cell c0 (fun h => h)
  have l1 := fun o o' o2 => HL.out _ (show Only nob w (((w.alloc o).alloc o').alloc o2).drew from by (repeat (first | with_reducible exact Only.refl _ _ | with_reducible assumption | with_reducible refine Only.drew ?_ | with_reducible refine Only.drewN ?_ _ | with_reducible refine Only.alloc ?_ _)))
  have l2 := fun o o' o2 o3 => HL.out _ (show Only nob w ((((w.alloc o).alloc o').alloc o2).alloc o3).drew from by (repeat (first | with_reducible exact Only.refl _ _ | with_reducible assumption | with_reducible refine Only.drew ?_ | with_reducible refine Only.drewN ?_ _ | with_reducible refine Only.alloc ?_ _)))
  go_region
  clear l1 l2 d1 d2
  go_wp2
  refine wp_region_tail 6 (by kernel_rfl) (by kernel_rfl) ?_
  simp only [List.take_succ_cons, List.take_zero, List.drop_succ_cons, List.drop_zero]
  intro wd hwd
  have hO : Only nob w wd := by subst hwd; (repeat (first | with_reducible exact Only.refl _ _ | with_reducible assumption | with_reducible refine Only.drew ?_ | with_reducible refine Only.drewN ?_ _ | with_reducible refine Only.alloc ?_ _))
  have hO' : Only nob ((((w.alloc (.cells #[.int .i64 4, .int .i64 client, .int .i64 seq, .string key, .string val, .string old, .int .i64 node] 25)).alloc (.cells #[.int .i64 0, .int .i64 0, .int .i64 0, .bool false, .string ⟨#[]⟩, .int .i64 0] 28)).alloc (.cells #[.int .i64 client, .int .i64 seq, .int .i64 0, .bool false, .string ⟨#[]⟩, .int .i64 0] 28)).alloc (.cells #[.string vv, .int .i64 vr] 92)) wd := by subst hwd; (repeat (first | with_reducible exact Only.refl _ _ | with_reducible assumption | with_reducible refine Only.drew ?_ | with_reducible refine Only.drewN ?_ _ | with_reducible refine Only.alloc ?_ _ | (with_reducible refine Only.set ?_ (.inr ?_) _; rotate_left; first | exact Nat.le_refl _ | exact Nat.le_succ _ | assumption | omega | (dsimp only; omega))))
  obtain ⟨wx, hx⟩ : ∃ wx, putObj wd kb (.map es' clock') = wx := ⟨_, rfl⟩
  have hu := HU.out wd hO
  have hMx := HF.out wd hO
  have hox : Only (fun b => b = kb) wd wx := by rw [← hx]; exact only_put (Only.refl _ _) _ _
  rw [hx] at hu hMx
  have k0 := hO.cell c0 (fun h => h)
  have a0 : wd.heap[w.heap.size]? = some (.cells #[.int .i64 4, .int .i64 client, .int .i64 seq, .string key, .string val, .string old, .int .i64 node] 25 (0, 0)) := hO'.heap (heap_old _ (heap_old _ (heap_old _ (heap_new _ rfl)))) (fun h => h)
  have a1 : wd.heap[w.heap.size + 1]? = some (.cells #[.int .i64 0, .int .i64 0, .int .i64 0, .bool false, .string ⟨#[]⟩, .int .i64 0] 28 (0, 0)) := hO'.heap (heap_old _ (heap_old _ (heap_new _ (by simp)))) (fun h => h)
  have a2 : wd.heap[w.heap.size + 1 + 1]? = some (.cells #[.int .i64 client, .int .i64 seq, .int .i64 0, .bool false, .string ⟨#[]⟩, .int .i64 0] 28 (0, 0)) := hO'.heap (heap_old _ (heap_new _ (by simp))) (fun h => h)
  have a3 : wd.heap[w.heap.size + 1 + 1 + 1]? = some (.cells #[.string vv, .int .i64 vr] 92 (0, 0)) := hO'.heap (heap_new _ (by simp)) (fun h => h)
  obtain ⟨p0, _⟩ := cells_all a0
  obtain ⟨p1, q1⟩ := cells_all (hox.heap a1 (by omega))
  obtain ⟨p2, q2⟩ := cells_all (hox.heap a2 (by omega))
  obtain ⟨p3, q3⟩ := cells_all (hox.heap a3 (by omega))
  have hO2 : Only (fun b => b = kb) w wx := hO.up.trans hox
  clear hwd hO hO' hx hox a0 a1 a2 a3 HU HF HL
  repeat still_step
  refine still_done ?_
  go_wp2
  go_region
  go_wp2
  refine bodyPost_ret (v := (⟨client, seq, 0, is, vv, 0⟩ : Ans).agg) (by simp [results, Tryz.results70, go_sem, Ans.agg, *]) rfl (MPost.mk' HS.out (hMx.only (S := fun b => b = w.heap.size + 1 ∨ b = w.heap.size + 1 + 1) ?_ (by omega) (by omega)) (Only.then (T := fun b => b = w.heap.size + 1 ∨ b = w.heap.size + 1 + 1) hO2 ?_ (fun i hi hh => by omega)))
  · (repeat (first | with_reducible exact Only.refl _ _ | with_reducible refine Only.drew ?_ | with_reducible refine Only.drewN ?_ _ | (with_reducible refine Only.set ?_ (.inl ?_) _; rotate_left; first | exact .inr rfl | exact .inl rfl)))
  · (repeat (first | with_reducible exact Only.refl _ _ | with_reducible refine Only.drew ?_ | with_reducible refine Only.drewN ?_ _ | (with_reducible refine Only.set ?_ (.inl ?_) _; rotate_left; first | exact .inr rfl | exact .inl rfl)))
end Go.Proofs.YtgcjmjhdnkffcaaGreatDoor
