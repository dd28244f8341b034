/- The program's machine (layer 29: spec): a client's command that counts. No condition. -/
import Derived.Test.YtgcjmjhdnkffcaaGreatDoorJPgClient
set_option linter.unusedVariables false
set_option linter.unusedSimpArgs false
namespace Go.Proofs.YtgcjmjhdnkffcaaGreatDoor
open Go.RowKit
theorem setP_done (M : Mach) (c : Cmd) : (setP M c).1.done = M.done ∧ (setP M c).1.act = M.act := by unfold setP; split <;> exact ⟨rfl, rfl⟩
theorem freshP_done (M : Mach) (c : Cmd) : (freshP M c).1.done = M.done ∧ (freshP M c).1.act = M.act := by
  unfold freshP swapP
  have := setP_done M c
  split
  · split
    · exact ⟨rfl, rfl⟩
    · split
      · exact this
      · exact ⟨rfl, rfl⟩
  · split
    · split
      · exact this
      · exact ⟨rfl, rfl⟩
    · split <;> exact ⟨rfl, rfl⟩
set_option maxRecDepth 100000 in
set_option maxHeartbeats 8000000 in
theorem client_done (mb kb : Nat) (M : Mach) (kind seq node : Int) (key val old : ByteArray) (k : Nat) (q : Int) (a : Ans) (w : World) (h : MachAt w mb kb M) (h1 : 1 ≤ k) (h8 : k ≤ 8) (hq : M.done k = (q, a)) (hs : q < seq) (hown : ownB kind = true) (hgo : (kind == 5 && !M.act) = false) :
    Calls Tryz.prog 60 #[.pointer (some ⟨mb, 0, none⟩), (⟨kind, (k : Int), seq, key, val, old, node⟩ : Cmd).agg] w (CPost w mb kb (clientP M ⟨kind, (k : Int), seq, key, val, old, node⟩)) := by
  have hm := heap_lt h.cells
  have hkb := h.map.lt
  have hmk := h.ne
  obtain ⟨⟨M', a'⟩, hr⟩ : ∃ r, freshP M ⟨kind, (k : Int), seq, key, val, old, node⟩ = r := ⟨_, rfl⟩
  have hne : (seq == q) = false := by simp; omega
  have hlt : decide (seq < q) = false := by simp; omega
  have hng : ¬ (kind = 5 ∧ M.act = false) := fun e => by simp [e.1, e.2] at hgo
  have HS : Hid (clientP M ⟨kind, (k : Int), seq, key, val, old, node⟩ = ({ M' with done := setDone M.done k (seq, a') }, a', true)) := mk_hid (by unfold clientP; simp only [Int.toNat_natCast, hq, hr]; rw [if_neg (by omega), if_neg (by omega), if_neg hng])
  have hd' : Hid (M'.done = M.done) := mk_hid (by have := (freshP_done M ⟨kind, (k : Int), seq, key, val, old, node⟩).1; rw [hr] at this; exact this)
  have HQ := mk_hid hq
  have HR := mk_hid hr
  have HLA := mk_hid (fun W (ho : Only nob w W) => (h.nn ho).last (by omega) hq)
  obtain ⟨act, hact⟩ : ∃ b, M.act = b := ⟨_, rfl⟩
  rw [hact] at hgo
  have HAC := mk_hid (fun W (ho : Only nob w W) => show W.cell? ⟨mb, 1, none⟩ = some (.bool act) from by rw [← hact]; exact (h.nn ho).c1)
  have b1 : (1 : Int) ≤ (k : Int) := by omega
  have b2 : (k : Int) < 9 := by omega
  have b3 : (0 : Int) ≤ (k : Int) := by omega
  have H := mk_hid h
  clear h hq hr hact hng
  cases h5 : (kind == 5) with
  | false =>
    clear hgo
    unfold Cmd.agg
    go_enter Tryz.func60, Tryz.ntmps60
    go_wp2
    go_quiet (fail)
    go_wp2
    have e0 := fun o o' n o2 => (HLA.out ((((w.alloc o).alloc o').drewN n).alloc o2) (by (repeat (first | with_reducible exact Only.refl _ _ | with_reducible assumption | with_reducible refine Only.drew ?_ | with_reducible refine Only.drewN ?_ _ | with_reducible refine Only.alloc ?_ _)))).c0
    have e7 := fun o o' n o2 => HAC.out ((((w.alloc o).alloc o').drewN n).alloc o2) (by (repeat (first | with_reducible exact Only.refl _ _ | with_reducible assumption | with_reducible refine Only.drew ?_ | with_reducible refine Only.drewN ?_ _ | with_reducible refine Only.alloc ?_ _)))
    go_quiet (fail)
    go_wp2
    go_quiet (fail)
    go_wp2
    clear e0 e7
    have HK : ∀ w', Only (fun b => b ≠ w.heap.size) (w.alloc (.cells #[.int .i64 kind, .int .i64 (k : Int), .int .i64 seq, .string key, .string val, .string old, .int .i64 node] 25)) w' → w'.cell? ⟨w.heap.size, 0, none⟩ = some (.int .i64 kind) ∧ w'.cell? ⟨w.heap.size, 1, none⟩ = some (.int .i64 (k : Int)) ∧ w'.cell? ⟨w.heap.size, 2, none⟩ = some (.int .i64 seq) ∧ w'.cell? ⟨w.heap.size, 3, none⟩ = some (.string key) ∧ w'.cell? ⟨w.heap.size, 4, none⟩ = some (.string val) ∧ w'.cell? ⟨w.heap.size, 5, none⟩ = some (.string old) ∧ w'.cell? ⟨w.heap.size, 6, none⟩ = some (.int .i64 node) := fun w' hw => ⟨hw.cell ((cells_cell (heap_new _ rfl) 0).trans rfl) (fun h => h rfl), hw.cell ((cells_cell (heap_new _ rfl) 1).trans rfl) (fun h => h rfl), hw.cell ((cells_cell (heap_new _ rfl) 2).trans rfl) (fun h => h rfl), hw.cell ((cells_cell (heap_new _ rfl) 3).trans rfl) (fun h => h rfl), hw.cell ((cells_cell (heap_new _ rfl) 4).trans rfl) (fun h => h rfl), hw.cell ((cells_cell (heap_new _ rfl) 5).trans rfl) (fun h => h rfl), hw.cell ((cells_cell (heap_new _ rfl) 6).trans rfl) (fun h => h rfl)⟩
    go_region_held3 (fun w' => w'.cell? ⟨w.heap.size, 0, none⟩ = some (.int .i64 kind) ∧ w'.cell? ⟨w.heap.size, 1, none⟩ = some (.int .i64 (k : Int)) ∧ w'.cell? ⟨w.heap.size, 2, none⟩ = some (.int .i64 seq) ∧ w'.cell? ⟨w.heap.size, 3, none⟩ = some (.string key) ∧ w'.cell? ⟨w.heap.size, 4, none⟩ = some (.string val) ∧ w'.cell? ⟨w.heap.size, 5, none⟩ = some (.string old) ∧ w'.cell? ⟨w.heap.size, 6, none⟩ = some (.int .i64 node)) (first | exact HK _ (by (repeat (first | with_reducible exact Only.refl _ _ | with_reducible assumption | with_reducible refine Only.drew ?_ | with_reducible refine Only.drewN ?_ _ | with_reducible refine Only.alloc ?_ _ | (with_reducible refine Only.set ?_ (.inl ?_) _; rotate_left; (first | omega | (dsimp only; omega))))))) (first | (go_at_call 70; refine (fresh_any mb kb M ⟨kind, (k : Int), seq, key, val, old, node⟩ _ (H.out.nn (by (repeat (first | with_reducible exact Only.refl _ _ | with_reducible assumption | with_reducible refine Only.drew ?_ | with_reducible refine Only.drewN ?_ _ | with_reducible refine Only.alloc ?_ _)))) hown).mono ?_; rw [HR.out]; rintro e w2 ⟨rfl, hM2, ho2⟩; simp only [Ans.agg]; have hu := Only.trans (a := (w.alloc (.cells #[.int .i64 kind, .int .i64 (k : Int), .int .i64 seq, .string key, .string val, .string old, .int .i64 node] 25))) (by (repeat (first | with_reducible exact Only.refl _ _ | with_reducible assumption | with_reducible refine Only.drew ?_ | with_reducible refine Only.drewN ?_ _ | with_reducible refine Only.alloc ?_ _ | (with_reducible refine Only.set ?_ (.inl ?_) _; rotate_left; (first | omega | (dsimp only; omega)))))) (ho2.mono (T := fun b => b ≠ w.heap.size) (fun i _ e => by omega)); have hO2 := Only.trans (a := w) (Only.up (S := fun b => b = kb) (by (repeat (first | with_reducible exact Only.refl _ _ | with_reducible assumption | with_reducible refine Only.drew ?_ | with_reducible refine Only.drewN ?_ _ | with_reducible refine Only.alloc ?_ _)))) ho2; obtain ⟨g0, g1, g2, g3, g4, g5, g6, _⟩ := hM2.last (k := k) (by omega) (show M'.done k = (q, a) from by rw [hd'.out, HQ.out]); have gf := hM2.free; have b1' : w2.heap[w.heap.size + 1]? = some (.cells #[.int .i64 0, .int .i64 0, .int .i64 0, .bool false, .string ⟨#[]⟩, .int .i64 0] 28 (0, 0)) := (Only.trans (Only.up (S := fun b => b = kb) (show Only nob ((w.alloc (.cells #[.int .i64 kind, .int .i64 (k : Int), .int .i64 seq, .string key, .string val, .string old, .int .i64 node] 25)).alloc (.cells #[.int .i64 0, .int .i64 0, .int .i64 0, .bool false, .string ⟨#[]⟩, .int .i64 0] 28)) _ from by (repeat (first | with_reducible exact Only.refl _ _ | with_reducible assumption | with_reducible refine Only.drew ?_ | with_reducible refine Only.drewN ?_ _ | with_reducible refine Only.alloc ?_ _)))) ho2).heap (heap_new _ (by simp)) (by omega); obtain ⟨p1, q1⟩ := cells_all b1'; clear b1'; have HM2 := mk_hid hM2; clear hM2))
    go_wp2
    refine bodyPost_ret (v := .tuple #[a'.agg, .bool true]) (by simp [results, Tryz.results60, go_sem, Ans.agg, *]) rfl (CPost.mk' HS.out ?_ ((hO2.mono (T := fun b => b = mb ∨ b = kb) (fun i _ e => .inr e)).then (T := fun b => b = mb ∨ b = w.heap.size + 1) ?_ (fun i hi hh => by omega)))
    · have hx := HM2.out.put7 (show k < 9 from by omega) seq a'
      rw [hd'.out] at hx
      refine hx.only (S := fun b => b = w.heap.size + 1) ?_ (by omega) (by omega)
      unfold YtgcjmjhdnkffcaaGreatDoor.put7
      (repeat (first | with_reducible exact Only.refl _ _ | with_reducible refine Only.drew ?_ | with_reducible refine Only.drewN ?_ _ | with_reducible refine Only.alloc ?_ _ | (with_reducible refine Only.set ?_ (.inl ?_) _; rotate_left; exact rfl)))
    · (repeat (first | with_reducible exact Only.refl _ _ | with_reducible refine Only.drew ?_ | with_reducible refine Only.drewN ?_ _ | (with_reducible refine Only.set ?_ (.inl ?_) _; rotate_left; first | exact .inr rfl | exact .inl rfl)))
  | true =>
    rw [h5] at hgo
    obtain rfl : act = true := by simpa using hgo
    obtain rfl : kind = 5 := by simpa using h5
    clear hgo h5
    unfold Cmd.agg
    go_enter Tryz.func60, Tryz.ntmps60
    go_wp2
    go_quiet (fail)
    go_wp2
    have e0 := fun o o' n o2 => (HLA.out ((((w.alloc o).alloc o').drewN n).alloc o2) (by (repeat (first | with_reducible exact Only.refl _ _ | with_reducible assumption | with_reducible refine Only.drew ?_ | with_reducible refine Only.drewN ?_ _ | with_reducible refine Only.alloc ?_ _)))).c0
    have e7 := fun o o' n o2 => HAC.out ((((w.alloc o).alloc o').drewN n).alloc o2) (by (repeat (first | with_reducible exact Only.refl _ _ | with_reducible assumption | with_reducible refine Only.drew ?_ | with_reducible refine Only.drewN ?_ _ | with_reducible refine Only.alloc ?_ _)))
    go_quiet (fail)
    go_wp2
    go_quiet (fail)
    go_wp2
    clear e0 e7
    have HK : ∀ w', Only (fun b => b ≠ w.heap.size) (w.alloc (.cells #[.int .i64 5, .int .i64 (k : Int), .int .i64 seq, .string key, .string val, .string old, .int .i64 node] 25)) w' → w'.cell? ⟨w.heap.size, 0, none⟩ = some (.int .i64 5) ∧ w'.cell? ⟨w.heap.size, 1, none⟩ = some (.int .i64 (k : Int)) ∧ w'.cell? ⟨w.heap.size, 2, none⟩ = some (.int .i64 seq) ∧ w'.cell? ⟨w.heap.size, 3, none⟩ = some (.string key) ∧ w'.cell? ⟨w.heap.size, 4, none⟩ = some (.string val) ∧ w'.cell? ⟨w.heap.size, 5, none⟩ = some (.string old) ∧ w'.cell? ⟨w.heap.size, 6, none⟩ = some (.int .i64 node) := fun w' hw => ⟨hw.cell ((cells_cell (heap_new _ rfl) 0).trans rfl) (fun h => h rfl), hw.cell ((cells_cell (heap_new _ rfl) 1).trans rfl) (fun h => h rfl), hw.cell ((cells_cell (heap_new _ rfl) 2).trans rfl) (fun h => h rfl), hw.cell ((cells_cell (heap_new _ rfl) 3).trans rfl) (fun h => h rfl), hw.cell ((cells_cell (heap_new _ rfl) 4).trans rfl) (fun h => h rfl), hw.cell ((cells_cell (heap_new _ rfl) 5).trans rfl) (fun h => h rfl), hw.cell ((cells_cell (heap_new _ rfl) 6).trans rfl) (fun h => h rfl)⟩
    go_region_held3 (fun w' => w'.cell? ⟨w.heap.size, 0, none⟩ = some (.int .i64 5) ∧ w'.cell? ⟨w.heap.size, 1, none⟩ = some (.int .i64 (k : Int)) ∧ w'.cell? ⟨w.heap.size, 2, none⟩ = some (.int .i64 seq) ∧ w'.cell? ⟨w.heap.size, 3, none⟩ = some (.string key) ∧ w'.cell? ⟨w.heap.size, 4, none⟩ = some (.string val) ∧ w'.cell? ⟨w.heap.size, 5, none⟩ = some (.string old) ∧ w'.cell? ⟨w.heap.size, 6, none⟩ = some (.int .i64 node)) (first | exact HK _ (by (repeat (first | with_reducible exact Only.refl _ _ | with_reducible assumption | with_reducible refine Only.drew ?_ | with_reducible refine Only.drewN ?_ _ | with_reducible refine Only.alloc ?_ _ | (with_reducible refine Only.set ?_ (.inl ?_) _; rotate_left; (first | omega | (dsimp only; omega))))))) (first | (go_at_call 70; refine (fresh_any mb kb M ⟨5, (k : Int), seq, key, val, old, node⟩ _ (H.out.nn (by (repeat (first | with_reducible exact Only.refl _ _ | with_reducible assumption | with_reducible refine Only.drew ?_ | with_reducible refine Only.drewN ?_ _ | with_reducible refine Only.alloc ?_ _)))) hown).mono ?_; rw [HR.out]; rintro e w2 ⟨rfl, hM2, ho2⟩; simp only [Ans.agg]; have hu := Only.trans (a := (w.alloc (.cells #[.int .i64 5, .int .i64 (k : Int), .int .i64 seq, .string key, .string val, .string old, .int .i64 node] 25))) (by (repeat (first | with_reducible exact Only.refl _ _ | with_reducible assumption | with_reducible refine Only.drew ?_ | with_reducible refine Only.drewN ?_ _ | with_reducible refine Only.alloc ?_ _ | (with_reducible refine Only.set ?_ (.inl ?_) _; rotate_left; (first | omega | (dsimp only; omega)))))) (ho2.mono (T := fun b => b ≠ w.heap.size) (fun i _ e => by omega)); have hO2 := Only.trans (a := w) (Only.up (S := fun b => b = kb) (by (repeat (first | with_reducible exact Only.refl _ _ | with_reducible assumption | with_reducible refine Only.drew ?_ | with_reducible refine Only.drewN ?_ _ | with_reducible refine Only.alloc ?_ _)))) ho2; obtain ⟨g0, g1, g2, g3, g4, g5, g6, _⟩ := hM2.last (k := k) (by omega) (show M'.done k = (q, a) from by rw [hd'.out, HQ.out]); have gf := hM2.free; have b1' : w2.heap[w.heap.size + 1]? = some (.cells #[.int .i64 0, .int .i64 0, .int .i64 0, .bool false, .string ⟨#[]⟩, .int .i64 0] 28 (0, 0)) := (Only.trans (Only.up (S := fun b => b = kb) (show Only nob ((w.alloc (.cells #[.int .i64 5, .int .i64 (k : Int), .int .i64 seq, .string key, .string val, .string old, .int .i64 node] 25)).alloc (.cells #[.int .i64 0, .int .i64 0, .int .i64 0, .bool false, .string ⟨#[]⟩, .int .i64 0] 28)) _ from by (repeat (first | with_reducible exact Only.refl _ _ | with_reducible assumption | with_reducible refine Only.drew ?_ | with_reducible refine Only.drewN ?_ _ | with_reducible refine Only.alloc ?_ _)))) ho2).heap (heap_new _ (by simp)) (by omega); obtain ⟨p1, q1⟩ := cells_all b1'; clear b1'; have HM2 := mk_hid hM2; clear hM2))
    go_wp2
    refine bodyPost_ret (v := .tuple #[a'.agg, .bool true]) (by simp [results, Tryz.results60, go_sem, Ans.agg, *]) rfl (CPost.mk' HS.out ?_ ((hO2.mono (T := fun b => b = mb ∨ b = kb) (fun i _ e => .inr e)).then (T := fun b => b = mb ∨ b = w.heap.size + 1) ?_ (fun i hi hh => by omega)))
    · have hx := HM2.out.put7 (show k < 9 from by omega) seq a'
      rw [hd'.out] at hx
      refine hx.only (S := fun b => b = w.heap.size + 1) ?_ (by omega) (by omega)
      unfold YtgcjmjhdnkffcaaGreatDoor.put7
      (repeat (first | with_reducible exact Only.refl _ _ | with_reducible refine Only.drew ?_ | with_reducible refine Only.drewN ?_ _ | with_reducible refine Only.alloc ?_ _ | (with_reducible refine Only.set ?_ (.inl ?_) _; rotate_left; exact rfl)))
    · (repeat (first | with_reducible exact Only.refl _ _ | with_reducible refine Only.drew ?_ | with_reducible refine Only.drewN ?_ _ | (with_reducible refine Only.set ?_ (.inl ?_) _; rotate_left; first | exact .inr rfl | exact .inl rfl)))
theorem client_any (mb kb : Nat) (M : Mach) (c : Cmd) (w : World) (h : MachAt w mb kb M) (h1 : 1 ≤ c.client) (h8 : c.client ≤ 8) (hown : ownB c.kind = true) :
    Calls Tryz.prog 60 #[.pointer (some ⟨mb, 0, none⟩), c.agg] w (CPost w mb kb (clientP M c)) := by
  obtain ⟨kind, client, seq, key, val, old, node⟩ := c
  simp only at h1 h8 hown
  obtain ⟨k, rfl⟩ : ∃ k : Nat, client = (k : Int) := ⟨client.toNat, by omega⟩
  obtain ⟨⟨q, a⟩, hq⟩ : ∃ q, M.done k = q := ⟨_, rfl⟩
  by_cases e1 : seq = q
  · exact client_again mb kb M kind seq node key val old k q a w h (by omega) (by omega) hq e1
  by_cases e2 : seq < q
  · exact client_stale mb kb M kind seq node key val old k q a w h (by omega) (by omega) hq e2
  by_cases e3 : kind = 5 ∧ M.act = false
  · obtain ⟨rfl, ha⟩ := e3
    exact client_inactive mb kb M seq node key val old k q a w h (by omega) (by omega) hq (by omega) ha
  · refine client_done mb kb M kind seq node key val old k q a w h (by omega) (by omega) hq (by omega) hown ?_
    by_cases e5 : kind = 5
    · subst e5; cases ha : M.act with
      | true => rfl
      | false => exact absurd ⟨rfl, ha⟩ e3
    · simp [e5]
end Go.Proofs.YtgcjmjhdnkffcaaGreatDoor
