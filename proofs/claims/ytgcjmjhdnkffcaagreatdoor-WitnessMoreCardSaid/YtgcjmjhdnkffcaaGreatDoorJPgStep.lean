/- The program's machine (layer 29: spec): a command. No condition but lengths of texts and the library's tables. -/
import Derived.Test.YtgcjmjhdnkffcaaGreatDoorJPgAct
set_option linter.unusedVariables false
set_option linter.unusedSimpArgs false
namespace Go.Proofs.YtgcjmjhdnkffcaaGreatDoor
open Go.RowKit
def stepP (M : Mach) (c : Cmd) : Mach × Ans × Bool :=
  if chk c ≠ 0 then (M, Ans.zero, false)
  else if ownB c.kind then clientP M c
  else if c.kind = 6 then (actP M, Ans.zero, false)
  else (M, Ans.zero, false)
theorem cpost_none {w w' : World} {mb kb : Nat} {M : Mach} {r : Mach × Ans × Bool} (hr : r = (M, Ans.zero, false)) (h : MachAt w' mb kb M) (ho : Only nob w w') : CPost w mb kb r (.returned (.tuple #[Ans.zero.agg, .bool false])) w' :=
  CPost.mk' hr h ho.up
theorem chk_client {c : Cmd} (h : chk c = 0) (ho : ownB c.kind = true) : 1 ≤ c.client ∧ c.client ≤ 8 ∧ 1 ≤ c.seq ∧ c.seq ≤ 4294967296 := by
  unfold chk chkOf at h
  split at h
  · cases h
  · split at h
    · cases h
    · split at h
      · cases h
      · rename_i hn
        simp [ho, inB] at hn
        omega
set_option maxRecDepth 100000 in
set_option maxHeartbeats 8000000 in
theorem step_bad (mb kb : Nat) (M : Mach) (c : Cmd) (w : World) (h : MachAt w mb kb M) (hT : Tabs w) (hk : c.key.size ≤ 1000) (hv : c.val.size ≤ 1000) (ho : c.old.size ≤ 1000) (hc : chk c ≠ 0) :
    Calls Tryz.prog 45 #[.pointer (some ⟨mb, 0, none⟩), c.agg] w (CPost w mb kb (stepP M c)) := by
  have hS : Hid (stepP M c = (M, Ans.zero, false)) := mk_hid (by unfold stepP; rw [if_pos hc])
  have hc' : (chk c != 0) = true := by simpa using hc
  have hm := heap_lt h.cells
  have HT := mk_hid (fun W (ho : Only nob w W) => hT.none ho)
  have H := mk_hid h
  clear h hT hc
  unfold Cmd.agg
  go_enter Tryz.func45, Tryz.ntmps45
  go_wp2_with (first | (go_at_call 59; refine (cmdchk_any c _ hk hv ho (HT.out _ (by (repeat (first | with_reducible exact Only.refl _ _ | with_reducible assumption | with_reducible refine Only.drew ?_ | with_reducible refine Only.drewN ?_ _ | with_reducible refine Only.alloc ?_ _))))).mono ?_; rintro e w2 ⟨rfl, ho2⟩; have b1 : w2.heap[w.heap.size + 1]? = some (.cells #[.int .i64 0, .int .i64 0, .int .i64 0, .bool false, .string ⟨#[]⟩, .int .i64 0] 28 (0, 0)) := ho2.heap (heap_new _ (by simp)) (fun h => h); obtain ⟨p1, q1⟩ := cells_all b1; have hO := Only.trans (a := w) (by (repeat (first | with_reducible exact Only.refl _ _ | with_reducible assumption | with_reducible refine Only.drew ?_ | with_reducible refine Only.drewN ?_ _ | with_reducible refine Only.alloc ?_ _))) ho2; clear b1))
  refine bodyPost_ret (v := .tuple #[Ans.zero.agg, .bool false]) (by simp [results, Tryz.results45, go_sem, Ans.agg, Ans.zero, *]) rfl (cpost_none hS.out (H.out.nn ?_) ?_)
  · (repeat (first | with_reducible exact Only.refl _ _ | with_reducible assumption | with_reducible refine Only.drew ?_ | with_reducible refine Only.drewN ?_ _ | with_reducible refine Only.alloc ?_ _ | (with_reducible refine Only.set ?_ (.inr ?_) _; rotate_left; first | exact Nat.le_refl _ | exact Nat.le_succ _ | assumption | omega | (dsimp only; omega))))
  · (repeat (first | with_reducible exact Only.refl _ _ | with_reducible assumption | with_reducible refine Only.drew ?_ | with_reducible refine Only.drewN ?_ _ | with_reducible refine Only.alloc ?_ _ | (with_reducible refine Only.set ?_ (.inr ?_) _; rotate_left; first | exact Nat.le_refl _ | exact Nat.le_succ _ | assumption | omega | (dsimp only; omega))))
set_option maxRecDepth 100000 in
set_option maxHeartbeats 8000000 in
theorem step_own (mb kb : Nat) (M : Mach) (c : Cmd) (w : World) (h : MachAt w mb kb M) (hT : Tabs w) (hk : c.key.size ≤ 1000) (hv : c.val.size ≤ 1000) (ho : c.old.size ≤ 1000) (hc : chk c = 0) (hown : ownB c.kind = true) :
    Calls Tryz.prog 45 #[.pointer (some ⟨mb, 0, none⟩), c.agg] w (CPost w mb kb (stepP M c)) := by
  have hS : Hid (stepP M c = clientP M c) := mk_hid (by unfold stepP; rw [if_neg (by simp [hc])]; simp [*])
  have HC := mk_hid hc
  have hm := heap_lt h.cells
  have hkb := h.map.lt
  have HT := mk_hid (fun W (ho : Only nob w W) => hT.none ho)
  have H := mk_hid h
  have HW := mk_hid hown
  have hcl := mk_hid (chk_client hc hown)
  obtain ⟨⟨M', a', f'⟩, hr⟩ : ∃ r, clientP M c = r := ⟨_, rfl⟩
  have HR := mk_hid hr
  clear h hT hc hown hr
  unfold Cmd.agg
  go_enter Tryz.func45, Tryz.ntmps45
  go_wp2_with (first | (go_at_call 59; refine (cmdchk_any c _ hk hv ho (HT.out _ (by (repeat (first | with_reducible exact Only.refl _ _ | with_reducible assumption | with_reducible refine Only.drew ?_ | with_reducible refine Only.drewN ?_ _ | with_reducible refine Only.alloc ?_ _))))).mono ?_; rw [HC.out]; rintro e w2 ⟨rfl, ho2⟩; have b0 : w2.heap[w.heap.size]? = some (.cells #[.int .i64 c.kind, .int .i64 c.client, .int .i64 c.seq, .string c.key, .string c.val, .string c.old, .int .i64 c.node] 25 (0, 0)) := ho2.heap (heap_old _ (heap_new _ rfl)) (fun h => h); have b1 : w2.heap[w.heap.size + 1]? = some (.cells #[.int .i64 0, .int .i64 0, .int .i64 0, .bool false, .string ⟨#[]⟩, .int .i64 0] 28 (0, 0)) := ho2.heap (heap_new _ (by simp)) (fun h => h); obtain ⟨p0, q0⟩ := cells_all b0; obtain ⟨p1, q1⟩ := cells_all b1; have hO := Only.trans (a := w) (by (repeat (first | with_reducible exact Only.refl _ _ | with_reducible assumption | with_reducible refine Only.drew ?_ | with_reducible refine Only.drewN ?_ _ | with_reducible refine Only.alloc ?_ _))) ho2) | (go_at_call 35; refine (owned2_any c _).mono ?_; rw [HW.out]; rintro e w3 ⟨rfl, ho3⟩; have e0 := ho3.heap b0 (fun h => h); have e1 := ho3.heap b1 (fun h => h); obtain ⟨r0, s0⟩ := cells_all e0; obtain ⟨r1, s1⟩ := cells_all e1; have hO3 := Only.trans hO ho3; clear b0 b1 p0 q0 p1 q1) | (go_at_call 60; refine (client_any mb kb M c _ (H.out.nn (by (repeat (first | with_reducible exact Only.refl _ _ | with_reducible assumption | with_reducible refine Only.drew ?_ | with_reducible refine Only.drewN ?_ _ | with_reducible refine Only.alloc ?_ _)))) hcl.out.1 hcl.out.2.1 HW.out).mono ?_; rw [HR.out]; rintro e w4 ⟨rfl, hM4, ho4⟩; simp only [Ans.agg]; have g1 := ho4.heap e1 (by omega); obtain ⟨t1, u1⟩ := cells_all g1; clear e0 e1 g1 r0 s0 r1 s1))
  refine bodyPost_ret (v := .tuple #[a'.agg, .bool f']) (by simp [results, Tryz.results45, go_sem, Ans.agg, Ans.zero, *]) rfl (CPost.mk' (hS.out.trans HR.out) (hM4.only (S := fun b => b = w.heap.size + 1) ?_ (by omega) (by omega)) ((hO3.up.trans ho4).then (T := fun b => b = w.heap.size + 1) ?_ (fun i hi hh => by omega)))
  · (repeat (first | with_reducible exact Only.refl _ _ | with_reducible refine Only.drew ?_ | with_reducible refine Only.drewN ?_ _ | with_reducible refine Only.alloc ?_ _ | (with_reducible refine Only.set ?_ (.inl ?_) _; rotate_left; exact rfl)))
  · (repeat (first | with_reducible exact Only.refl _ _ | with_reducible refine Only.drew ?_ | with_reducible refine Only.drewN ?_ _ | with_reducible refine Only.alloc ?_ _ | (with_reducible refine Only.set ?_ (.inl ?_) _; rotate_left; exact rfl)))
set_option maxRecDepth 100000 in
set_option maxHeartbeats 8000000 in
theorem step_act (mb kb : Nat) (M : Mach) (c : Cmd) (w : World) (h : MachAt w mb kb M) (hT : Tabs w) (hk : c.key.size ≤ 1000) (hv : c.val.size ≤ 1000) (ho : c.old.size ≤ 1000) (hc : chk c = 0) (hown : ownB c.kind = false) (h6 : c.kind = 6) :
    Calls Tryz.prog 45 #[.pointer (some ⟨mb, 0, none⟩), c.agg] w (CPost w mb kb (stepP M c)) := by
  have hS : Hid (stepP M c = (actP M, Ans.zero, false)) := mk_hid (by unfold stepP; rw [if_neg (by simp [hc]), if_neg (by simp [hown]), if_pos h6])
  have HC := mk_hid hc
  have hm := heap_lt h.cells
  have hkb := h.map.lt
  have HT := mk_hid (fun W (ho : Only nob w W) => hT.none ho)
  have H := mk_hid h
  have HW := mk_hid hown
  have h6' : (c.kind == 6) = true := by simpa using h6
  clear h hT hc hown h6
  unfold Cmd.agg
  go_enter Tryz.func45, Tryz.ntmps45
  go_wp2_with (first | (go_at_call 59; refine (cmdchk_any c _ hk hv ho (HT.out _ (by (repeat (first | with_reducible exact Only.refl _ _ | with_reducible assumption | with_reducible refine Only.drew ?_ | with_reducible refine Only.drewN ?_ _ | with_reducible refine Only.alloc ?_ _))))).mono ?_; rw [HC.out]; rintro e w2 ⟨rfl, ho2⟩; have b0 : w2.heap[w.heap.size]? = some (.cells #[.int .i64 c.kind, .int .i64 c.client, .int .i64 c.seq, .string c.key, .string c.val, .string c.old, .int .i64 c.node] 25 (0, 0)) := ho2.heap (heap_old _ (heap_new _ rfl)) (fun h => h); have b1 : w2.heap[w.heap.size + 1]? = some (.cells #[.int .i64 0, .int .i64 0, .int .i64 0, .bool false, .string ⟨#[]⟩, .int .i64 0] 28 (0, 0)) := ho2.heap (heap_new _ (by simp)) (fun h => h); obtain ⟨p0, q0⟩ := cells_all b0; obtain ⟨p1, q1⟩ := cells_all b1; have hO := Only.trans (a := w) (by (repeat (first | with_reducible exact Only.refl _ _ | with_reducible assumption | with_reducible refine Only.drew ?_ | with_reducible refine Only.drewN ?_ _ | with_reducible refine Only.alloc ?_ _))) ho2) | (go_at_call 35; refine (owned2_any c _).mono ?_; rw [HW.out]; rintro e w3 ⟨rfl, ho3⟩; have e0 := ho3.heap b0 (fun h => h); have e1 := ho3.heap b1 (fun h => h); obtain ⟨r0, s0⟩ := cells_all e0; obtain ⟨r1, s1⟩ := cells_all e1; have hO3 := Only.trans hO ho3; clear b0 b1 p0 q0 p1 q1) | (go_at_call 61; refine (act_any mb kb M _ (H.out.nn (by (repeat (first | with_reducible exact Only.refl _ _ | with_reducible assumption | with_reducible refine Only.drew ?_ | with_reducible refine Only.drewN ?_ _ | with_reducible refine Only.alloc ?_ _))))).mono ?_; rintro e w4 ⟨rfl, hM4, ho4⟩; have g1 := ho4.heap e1 (by omega); obtain ⟨t1, u1⟩ := cells_all g1; clear e0 e1 g1 r0 s0 r1 s1))
  refine bodyPost_ret (v := .tuple #[Ans.zero.agg, .bool false]) (by simp [results, Tryz.results45, go_sem, Ans.agg, Ans.zero, *]) rfl (CPost.mk' hS.out (hM4.only (S := fun b => b = w.heap.size + 1) ?_ (by omega) (by omega)) ((hO3.up.trans ho4).then (T := fun b => b = w.heap.size + 1) ?_ (fun i hi hh => by omega)))
  · (repeat (first | with_reducible exact Only.refl _ _ | with_reducible refine Only.drew ?_ | with_reducible refine Only.drewN ?_ _ | with_reducible refine Only.alloc ?_ _ | (with_reducible refine Only.set ?_ (.inl ?_) _; rotate_left; exact rfl)))
  · (repeat (first | with_reducible exact Only.refl _ _ | with_reducible refine Only.drew ?_ | with_reducible refine Only.drewN ?_ _ | with_reducible refine Only.alloc ?_ _ | (with_reducible refine Only.set ?_ (.inl ?_) _; rotate_left; exact rfl)))
set_option maxRecDepth 100000 in
set_option maxHeartbeats 8000000 in
theorem step_other (mb kb : Nat) (M : Mach) (c : Cmd) (w : World) (h : MachAt w mb kb M) (hT : Tabs w) (hk : c.key.size ≤ 1000) (hv : c.val.size ≤ 1000) (ho : c.old.size ≤ 1000) (hc : chk c = 0) (hown : ownB c.kind = false) (h6 : c.kind ≠ 6) :
    Calls Tryz.prog 45 #[.pointer (some ⟨mb, 0, none⟩), c.agg] w (CPost w mb kb (stepP M c)) := by
  have hS : Hid (stepP M c = (M, Ans.zero, false)) := mk_hid (by unfold stepP; rw [if_neg (by simp [hc])]; simp [*])
  have HC := mk_hid hc
  have hm := heap_lt h.cells
  have hkb := h.map.lt
  have HT := mk_hid (fun W (ho : Only nob w W) => hT.none ho)
  have H := mk_hid h
  have HW := mk_hid hown
  have h6' : (c.kind == 6) = false := by simpa using h6
  clear h hT hc hown h6
  unfold Cmd.agg
  go_enter Tryz.func45, Tryz.ntmps45
  go_wp2_with (first | (go_at_call 59; refine (cmdchk_any c _ hk hv ho (HT.out _ (by (repeat (first | with_reducible exact Only.refl _ _ | with_reducible assumption | with_reducible refine Only.drew ?_ | with_reducible refine Only.drewN ?_ _ | with_reducible refine Only.alloc ?_ _))))).mono ?_; rw [HC.out]; rintro e w2 ⟨rfl, ho2⟩; have b0 : w2.heap[w.heap.size]? = some (.cells #[.int .i64 c.kind, .int .i64 c.client, .int .i64 c.seq, .string c.key, .string c.val, .string c.old, .int .i64 c.node] 25 (0, 0)) := ho2.heap (heap_old _ (heap_new _ rfl)) (fun h => h); have b1 : w2.heap[w.heap.size + 1]? = some (.cells #[.int .i64 0, .int .i64 0, .int .i64 0, .bool false, .string ⟨#[]⟩, .int .i64 0] 28 (0, 0)) := ho2.heap (heap_new _ (by simp)) (fun h => h); obtain ⟨p0, q0⟩ := cells_all b0; obtain ⟨p1, q1⟩ := cells_all b1; have hO := Only.trans (a := w) (by (repeat (first | with_reducible exact Only.refl _ _ | with_reducible assumption | with_reducible refine Only.drew ?_ | with_reducible refine Only.drewN ?_ _ | with_reducible refine Only.alloc ?_ _))) ho2) | (go_at_call 35; refine (owned2_any c _).mono ?_; rw [HW.out]; rintro e w3 ⟨rfl, ho3⟩; have e0 := ho3.heap b0 (fun h => h); have e1 := ho3.heap b1 (fun h => h); obtain ⟨r0, s0⟩ := cells_all e0; obtain ⟨r1, s1⟩ := cells_all e1; have hO3 := Only.trans hO ho3; clear b0 b1 p0 q0 p1 q1))
  refine bodyPost_ret (v := .tuple #[Ans.zero.agg, .bool false]) (by simp [results, Tryz.results45, go_sem, Ans.agg, Ans.zero, *]) rfl (cpost_none hS.out (H.out.nn ?_) ?_)
  · (repeat (first | with_reducible exact Only.refl _ _ | with_reducible assumption | with_reducible refine Only.drew ?_ | with_reducible refine Only.drewN ?_ _ | with_reducible refine Only.alloc ?_ _ | (with_reducible refine Only.set ?_ (.inr ?_) _; rotate_left; first | exact Nat.le_refl _ | exact Nat.le_succ _ | assumption | omega | (dsimp only; omega))))
  · (repeat (first | with_reducible exact Only.refl _ _ | with_reducible assumption | with_reducible refine Only.drew ?_ | with_reducible refine Only.drewN ?_ _ | with_reducible refine Only.alloc ?_ _ | (with_reducible refine Only.set ?_ (.inr ?_) _; rotate_left; first | exact Nat.le_refl _ | exact Nat.le_succ _ | assumption | omega | (dsimp only; omega))))
theorem step_any (mb kb : Nat) (M : Mach) (c : Cmd) (w : World) (h : MachAt w mb kb M) (hT : Tabs w) (hk : c.key.size ≤ 1000) (hv : c.val.size ≤ 1000) (ho : c.old.size ≤ 1000) :
    Calls Tryz.prog 45 #[.pointer (some ⟨mb, 0, none⟩), c.agg] w (CPost w mb kb (stepP M c)) := by
  by_cases hc : chk c = 0
  · cases hw : ownB c.kind with
    | true => exact step_own mb kb M c w h hT hk hv ho hc hw
    | false =>
      by_cases h6 : c.kind = 6
      · exact step_act mb kb M c w h hT hk hv ho hc hw h6
      · exact step_other mb kb M c w h hT hk hv ho hc hw h6
  · exact step_bad mb kb M c w h hT hk hv ho hc
def doM (M : Mach) (c : Cmd) : Mach × Ans := ((stepP M c).1, (stepP M c).2.1)
set_option maxRecDepth 100000 in
theorem domach_any (mb kb : Nat) (M : Mach) (c : Cmd) (w : World) (h : MachAt w mb kb M) (hT : Tabs w) (hk : c.key.size ≤ 1000) (hv : c.val.size ≤ 1000) (ho : c.old.size ≤ 1000) :
    Calls Tryz.prog 24 #[.pointer (some ⟨mb, 0, none⟩), c.agg] w fun e w' => e = .returned (doM M c).2.agg ∧ MachAt w' mb kb (doM M c).1 ∧ Only (fun b => b = mb ∨ b = kb) w w' := by
  have hm := heap_lt h.cells
  have hkb := h.map.lt
  have HT := mk_hid (fun W (ho : Only nob w W) => hT.none ho)
  have H := mk_hid h
  obtain ⟨⟨M', a', f'⟩, hr⟩ : ∃ r, stepP M c = r := ⟨_, rfl⟩
  have HR := mk_hid hr
  have hd : Hid (doM M c = (M', a')) := mk_hid (by unfold doM; rw [hr])
  clear h hT hr
  unfold Cmd.agg
  go_enter Tryz.func24, Tryz.ntmps24
  go_wp2_with (first | (go_at_call 45; refine (step_any mb kb M c _ (H.out.nn (by (repeat (first | with_reducible exact Only.refl _ _ | with_reducible assumption | with_reducible refine Only.drew ?_ | with_reducible refine Only.drewN ?_ _ | with_reducible refine Only.alloc ?_ _)))) (HT.out _ (by (repeat (first | with_reducible exact Only.refl _ _ | with_reducible assumption | with_reducible refine Only.drew ?_ | with_reducible refine Only.drewN ?_ _ | with_reducible refine Only.alloc ?_ _)))) hk hv ho).mono ?_; rw [HR.out]; rintro e w4 ⟨rfl, hM4, ho4⟩; simp only [Ans.agg]; have g1 : w4.heap[w.heap.size + 1]? = some (.cells #[.int .i64 0, .int .i64 0, .int .i64 0, .bool false, .string ⟨#[]⟩, .int .i64 0] 28 (0, 0)) := ho4.heap (heap_new _ (by simp)) (by omega); obtain ⟨t1, u1⟩ := cells_all g1; have hO4 := Only.trans (a := w) (Only.up (S := fun b => b = mb ∨ b = kb) (by (repeat (first | with_reducible exact Only.refl _ _ | with_reducible assumption | with_reducible refine Only.drew ?_ | with_reducible refine Only.drewN ?_ _ | with_reducible refine Only.alloc ?_ _)))) ho4; have hs4 : w.heap.size + 1 < w4.heap.size := heap_lt g1; clear g1))
  refine bodyPost_ret (v := a'.agg) (by simp [results, Tryz.results24, go_sem, Ans.agg, Ans.zero, *]) rfl ?_
  rw [hd.out]
  refine ⟨rfl, hM4.only (S := fun b => b = w.heap.size + 1) ?_ (by omega) (by omega), hO4.then (T := fun b => b = w.heap.size + 1) ?_ (fun i hi hh => by omega)⟩
  · (repeat (first | with_reducible exact Only.refl _ _ | with_reducible refine Only.drew ?_ | with_reducible refine Only.drewN ?_ _ | with_reducible refine Only.alloc ?_ _ | (with_reducible refine Only.set ?_ (.inl ?_) _; rotate_left; exact rfl)))
  · (repeat (first | with_reducible exact Only.refl _ _ | with_reducible refine Only.drew ?_ | with_reducible refine Only.drewN ?_ _ | with_reducible refine Only.alloc ?_ _ | (with_reducible refine Only.set ?_ (.inl ?_) _; rotate_left; exact rfl)))
end Go.Proofs.YtgcjmjhdnkffcaaGreatDoor
