/- The program's machine (layer 29: spec): a value is put. No condition. -/
import Derived.Test.YtgcjmjhdnkffcaaGreatDoorJPgMach
import Derived.Deep.RegionHeld3
import Derived.Deep.RegionWith
import Derived.Outline
import Derived.Test.YtgcjmjhdnkffcaaGreatDoorJKitD
set_option linter.unusedVariables false
set_option linter.unusedSimpArgs false
namespace Go.Proofs.YtgcjmjhdnkffcaaGreatDoor
open Go.RowKit
def setP (M : Mach) (c : Cmd) : Mach × Bool :=
  if lk c.key M.keys = none ∧ M.keys.length = 64 then (M, false)
  else ({ M with keys := upd c.key (c.val, revP M.act ((lk c.key M.keys).getD (⟨#[]⟩, 0)).2) M.keys }, true)
theorem upd_mem {κ ν : Type} [DecidableEq κ] {k : κ} {v : ν} {p : κ × ν} : ∀ {l : List (κ × ν)}, p ∈ upd k v l → p = (k, v) ∨ p ∈ l := by
  intro l; induction l with
  | nil => intro h; simp [upd] at h; exact .inl h
  | cons q l ih =>
    obtain ⟨a, x⟩ := q
    intro h
    unfold upd at h
    split at h
    · rcases List.mem_cons.1 h with h | h
      · exact .inl h
      · exact .inr (List.mem_cons_of_mem _ h)
    · rcases List.mem_cons.1 h with h | h
      · exact .inr (by rw [h]; exact List.mem_cons_self)
      · rcases ih h with h | h
        · exact .inl h
        · exact .inr (List.mem_cons_of_mem _ h)
theorem lk_mem {κ ν : Type} [DecidableEq κ] {k : κ} {v : ν} : ∀ {l : List (κ × ν)}, lk k l = some v → (k, v) ∈ l := by
  intro l; induction l with
  | nil => intro h; simp [lk] at h
  | cons q l ih =>
    obtain ⟨a, x⟩ := q
    intro h
    unfold lk at h
    split at h
    · rename_i e; subst e; simp at h; subst h; exact List.mem_cons_self
    · exact List.mem_cons_of_mem _ (ih h)
theorem revP_ok (act : Bool) (old : Int) (h : 0 ≤ old) : 0 ≤ revP act old ∧ revP act old ≤ 4294967296 := by
  unfold revP; split
  · split <;> omega
  · omega
def oldOf (M : Mach) (k : ByteArray) : ByteArray × Int := (lk k M.keys).getD (⟨#[]⟩, 0)
theorem oldOf_rev {w : World} {mb kb : Nat} {M : Mach} (h : MachAt w mb kb M) (k : ByteArray) : 0 ≤ (oldOf M k).2 ∧ (oldOf M k).2 ≤ 4294967296 := by
  unfold oldOf
  cases hl : lk k M.keys with
  | none => simp
  | some v => exact h.rev _ (lk_mem hl)
set_option maxRecDepth 100000 in
set_option maxHeartbeats 4000000 in
theorem set_put (mb kb : Nat) (M : Mach) (c : Cmd) (w : World) (h : MachAt w mb kb M) (hs : (setP M c).2 = true) :
    Calls Tryz.prog 92 #[.pointer (some ⟨mb, 0, none⟩), c.agg] w fun e w' => e = .returned (.bool true) ∧ MachAt w' mb kb (setP M c).1 ∧ Only (fun b => b = kb) w w' := by
  have c0 := h.c0
  have hm := heap_lt h.cells
  have hrv := oldOf_rev h c.key
  obtain ⟨v, hv⟩ : ∃ v, oldOf M c.key = v := ⟨_, rfl⟩
  obtain ⟨vv, vr⟩ := v
  obtain ⟨is, hi⟩ : ∃ b, (lk c.key M.keys).isSome = b := ⟨_, rfl⟩
  have HL := mk_hid (fun w' (ho : Only nob w w') => show (Instr.lookup 80 (.map (some kb)) (.string c.key) true).run Tryz.prog w' = .ok (.tuple #[.agg #[.string vv, .int .i64 vr], .bool is]) w' from by rw [look_ok (h.nn ho) c.key, hi]; rw [show (lk c.key M.keys).getD (⟨#[]⟩, 0) = (vv, vr) from hv]; rfl)
  have HN := mk_hid (fun w' (ho : Only nob w w') => len_keys (h.nn ho))
  have hne : ¬ (lk c.key M.keys = none ∧ M.keys.length = 64) := fun e => by unfold setP at hs; rw [if_pos e] at hs; cases hs
  have hk2 : Hid ((setP M c).1 = { M with keys := upd c.key (c.val, revP M.act vr) M.keys }) := mk_hid (by unfold setP; rw [if_neg hne]; simp only; rw [show (lk c.key M.keys).getD (⟨#[]⟩, 0) = (vv, vr) from hv])
  have hle : (!is && ((M.keys.length : Int) == 64)) = false := by
    rw [← hi]
    cases hl : lk c.key M.keys with
    | none => simp; intro e; exact hne ⟨hl, by omega⟩
    | some v => simp
  have hrd : 0 ≤ vr ∧ vr ≤ 4294967296 := by rw [hv] at hrv; exact hrv
  obtain ⟨r1, r2⟩ := hrd
  obtain ⟨rv, hrv2⟩ : ∃ r, revP M.act vr = r := ⟨_, rfl⟩
  obtain ⟨es, clock, hes, hIs⟩ := h.map
  obtain ⟨es', clock', hIs', hU, _⟩ := update_run keyOk_str (show Tryz.prog.underlying 80 = some (.map 9 92) from Tryz.underlying80) hIs c.key (c.val, revP M.act vr)
  have hlen : (upd c.key (c.val, revP M.act vr) M.keys).length ≤ 64 := by
    rw [upd_length]
    cases hl : lk c.key M.keys with
    | none => have := h.len; simp; have : M.keys.length ≠ 64 := fun e => hne ⟨hl, e⟩; omega
    | some v => simpa using h.len
  have hrevs : ∀ p ∈ upd c.key (c.val, revP M.act vr) M.keys, 0 ≤ p.2.2 ∧ p.2.2 ≤ 4294967296 := fun p hp => by
    rcases upd_mem hp with rfl | hp
    · exact revP_ok _ _ r1
    · exact h.rev p hp
  have HF : Hid (∀ w', Only nob w w' → MachAt (putObj w' kb (.map es' clock')) mb kb (setP M c).1) := mk_hid (fun w' ho => by rw [hk2.out]; exact (h.nn ho).put hIs' hlen (nodup_upd _ _ _ h.nod) hrevs)
  have HU : Hid (∀ w', Only nob w w' → (Instr.mapUpdate 80 (.map (some kb)) (.string c.key) (.agg #[.string c.val, .int .i64 rv])).run Tryz.prog w' = .ok () (putObj w' kb (.map es' clock'))) := mk_hid (fun w' ho => by rw [← hrv2]; exact hU kb w' (ho.heap hes (fun h => h)))
  have H := mk_hid h
  have HR := mk_hid hrv2
  clear h hv hi hs hne hes hIs hIs' hU hlen hrevs hrv hrv2 hk2
  unfold Cmd.agg
  have hle2 : is = false → ((M.keys.length : Int) == 64) = false := fun e => by rw [e] at hle; simpa using hle
  clear hle
  cases is
  · have hle := hle2 rfl
    clear hle2
    go_enter Tryz.func92, Tryz.ntmps92
    go_wp2
    have l1 := fun o => HL.out _ (show Only nob w (w.alloc o).drew from by (repeat (first | with_reducible exact Only.refl _ _ | with_reducible assumption | with_reducible refine Only.drew ?_ | with_reducible refine Only.drewN ?_ _ | with_reducible refine Only.alloc ?_ _)))
    have l2 := fun o o' => HL.out _ (show Only nob w ((w.alloc o).alloc o').drew from by (repeat (first | with_reducible exact Only.refl _ _ | with_reducible assumption | with_reducible refine Only.drew ?_ | with_reducible refine Only.drewN ?_ _ | with_reducible refine Only.alloc ?_ _)))
    have n2 := fun o o' => HN.out _ (show Only nob w ((w.alloc o).alloc o').drew from by (repeat (first | with_reducible exact Only.refl _ _ | with_reducible assumption | with_reducible refine Only.drew ?_ | with_reducible refine Only.drewN ?_ _ | with_reducible refine Only.alloc ?_ _)))
    go_region
    go_wp2
    clear l1 l2 n2
    have HK : ∀ w', Only nob ((w.alloc (.cells #[.int .i64 c.kind, .int .i64 c.client, .int .i64 c.seq, .string c.key, .string c.val, .string c.old, .int .i64 c.node] 25)).alloc (.cells #[.string vv, .int .i64 vr] 92)) w' → w'.cell? ⟨mb, 0, none⟩ = some (.map (some kb)) ∧ w'.cell? ⟨w.heap.size, 3, none⟩ = some (.string c.key) ∧ w'.cell? ⟨w.heap.size, 4, none⟩ = some (.string c.val) ∧ w'.cell? ⟨w.heap.size + 1, 1, none⟩ = some (.int .i64 vr) ∧
        (Instr.mapUpdate 80 (.map (some kb)) (.string c.key) (.agg #[.string c.val, .int .i64 rv])).run Tryz.prog w' = .ok () (putObj w' kb (.map es' clock')) := fun w' hw =>
      ⟨hw.cell (((((Only.refl nob w).alloc _).alloc _)).cell c0 (fun h => h)) (fun h => h), hw.cell ((cells_cell (heap_old _ (heap_new _ rfl)) 3).trans rfl) (fun h => h), hw.cell ((cells_cell (heap_old _ (heap_new _ rfl)) 4).trans rfl) (fun h => h), hw.cell ((cells_cell (heap_new _ (by simp)) 1).trans rfl) (fun h => h), HU.out w' ((((Only.refl nob w).alloc _).alloc _).trans hw)⟩
    refine wp_region_tail 13 (by kernel_rfl) (by kernel_rfl) ?_
    simp only [List.take_succ_cons, List.take_zero, List.drop_succ_cons, List.drop_zero]
    intro wd hwd
    have hO : Only nob ((w.alloc (.cells #[.int .i64 c.kind, .int .i64 c.client, .int .i64 c.seq, .string c.key, .string c.val, .string c.old, .int .i64 c.node] 25)).alloc (.cells #[.string vv, .int .i64 vr] 92)) wd := by subst hwd; (repeat (first | with_reducible exact Only.refl _ _ | with_reducible assumption | with_reducible refine Only.drew ?_ | with_reducible refine Only.drewN ?_ _ | with_reducible refine Only.alloc ?_ _ | (with_reducible refine Only.set ?_ (.inr ?_) _; rotate_left; first | exact Nat.le_refl _ | exact Nat.le_succ _ | assumption | omega | (dsimp only; omega))))
    obtain ⟨k0, k1, k2, k3, k4⟩ := HK wd hO
    have hO1 : Only nob w wd := Only.trans (by (repeat (first | with_reducible exact Only.refl _ _ | with_reducible assumption | with_reducible refine Only.drew ?_ | with_reducible refine Only.drewN ?_ _ | with_reducible refine Only.alloc ?_ _))) hO
    clear hwd hO HK
    repeat still_step
    still_call ((rev_any mb kb M vr wd (H.out.nn hO1) r1 r2).mono (fun e w' hh => ⟨hh.1.trans (by rw [HR.out]), hh.2.symm⟩))
    still_step
    refine still_done ?_
    go_wp2
    go_ret
    exact ⟨rfl, HF.out wd hO1, only_put hO1 kb _⟩
  · clear hle2
    go_enter Tryz.func92, Tryz.ntmps92
    go_wp2
    have l1 := fun o => HL.out _ (show Only nob w (w.alloc o).drew from by (repeat (first | with_reducible exact Only.refl _ _ | with_reducible assumption | with_reducible refine Only.drew ?_ | with_reducible refine Only.drewN ?_ _ | with_reducible refine Only.alloc ?_ _)))
    have l2 := fun o o' => HL.out _ (show Only nob w ((w.alloc o).alloc o').drew from by (repeat (first | with_reducible exact Only.refl _ _ | with_reducible assumption | with_reducible refine Only.drew ?_ | with_reducible refine Only.drewN ?_ _ | with_reducible refine Only.alloc ?_ _)))
    have n2 := fun o o' => HN.out _ (show Only nob w ((w.alloc o).alloc o').drew from by (repeat (first | with_reducible exact Only.refl _ _ | with_reducible assumption | with_reducible refine Only.drew ?_ | with_reducible refine Only.drewN ?_ _ | with_reducible refine Only.alloc ?_ _)))
    go_region
    go_wp2
    clear l1 l2 n2
    have HK : ∀ w', Only nob ((w.alloc (.cells #[.int .i64 c.kind, .int .i64 c.client, .int .i64 c.seq, .string c.key, .string c.val, .string c.old, .int .i64 c.node] 25)).alloc (.cells #[.string vv, .int .i64 vr] 92)) w' → w'.cell? ⟨mb, 0, none⟩ = some (.map (some kb)) ∧ w'.cell? ⟨w.heap.size, 3, none⟩ = some (.string c.key) ∧ w'.cell? ⟨w.heap.size, 4, none⟩ = some (.string c.val) ∧ w'.cell? ⟨w.heap.size + 1, 1, none⟩ = some (.int .i64 vr) ∧
        (Instr.mapUpdate 80 (.map (some kb)) (.string c.key) (.agg #[.string c.val, .int .i64 rv])).run Tryz.prog w' = .ok () (putObj w' kb (.map es' clock')) := fun w' hw =>
      ⟨hw.cell (((((Only.refl nob w).alloc _).alloc _)).cell c0 (fun h => h)) (fun h => h), hw.cell ((cells_cell (heap_old _ (heap_new _ rfl)) 3).trans rfl) (fun h => h), hw.cell ((cells_cell (heap_old _ (heap_new _ rfl)) 4).trans rfl) (fun h => h), hw.cell ((cells_cell (heap_new _ (by simp)) 1).trans rfl) (fun h => h), HU.out w' ((((Only.refl nob w).alloc _).alloc _).trans hw)⟩
    refine wp_region_tail 13 (by kernel_rfl) (by kernel_rfl) ?_
    simp only [List.take_succ_cons, List.take_zero, List.drop_succ_cons, List.drop_zero]
    intro wd hwd
    have hO : Only nob ((w.alloc (.cells #[.int .i64 c.kind, .int .i64 c.client, .int .i64 c.seq, .string c.key, .string c.val, .string c.old, .int .i64 c.node] 25)).alloc (.cells #[.string vv, .int .i64 vr] 92)) wd := by subst hwd; (repeat (first | with_reducible exact Only.refl _ _ | with_reducible assumption | with_reducible refine Only.drew ?_ | with_reducible refine Only.drewN ?_ _ | with_reducible refine Only.alloc ?_ _ | (with_reducible refine Only.set ?_ (.inr ?_) _; rotate_left; first | exact Nat.le_refl _ | exact Nat.le_succ _ | assumption | omega | (dsimp only; omega))))
    obtain ⟨k0, k1, k2, k3, k4⟩ := HK wd hO
    have hO1 : Only nob w wd := Only.trans (by (repeat (first | with_reducible exact Only.refl _ _ | with_reducible assumption | with_reducible refine Only.drew ?_ | with_reducible refine Only.drewN ?_ _ | with_reducible refine Only.alloc ?_ _))) hO
    clear hwd hO HK
    repeat still_step
    still_call ((rev_any mb kb M vr wd (H.out.nn hO1) r1 r2).mono (fun e w' hh => ⟨hh.1.trans (by rw [HR.out]), hh.2.symm⟩))
    still_step
    refine still_done ?_
    go_wp2
    go_ret
    exact ⟨rfl, HF.out wd hO1, only_put hO1 kb _⟩
set_option maxRecDepth 100000 in
set_option maxHeartbeats 4000000 in
theorem set_full (mb kb : Nat) (M : Mach) (c : Cmd) (w : World) (h : MachAt w mb kb M) (hs : (setP M c).2 = false) :
    Calls Tryz.prog 92 #[.pointer (some ⟨mb, 0, none⟩), c.agg] w fun e w' => e = .returned (.bool false) ∧ Only nob w w' := by
  have c0 := h.c0
  have hm := heap_lt h.cells
  have hne : lk c.key M.keys = none ∧ M.keys.length = 64 := Classical.byContradiction fun hn => by unfold setP at hs; rw [if_neg hn] at hs; cases hs
  have HL := mk_hid (fun w' (ho : Only nob w w') => show (Instr.lookup 80 (.map (some kb)) (.string c.key) true).run Tryz.prog w' = .ok (.tuple #[.agg #[.string ⟨#[]⟩, .int .i64 0], .bool false]) w' from by rw [look_ok (h.nn ho) c.key, hne.1]; rfl)
  have HN := mk_hid (fun w' (ho : Only nob w w') => len_keys (h.nn ho))
  have hle : ((M.keys.length : Int) == 64) = true := by simp; omega
  clear h hs hne
  unfold Cmd.agg
  go_enter Tryz.func92, Tryz.ntmps92
  go_wp2
  have l1 := fun o => HL.out _ (show Only nob w (w.alloc o).drew from by (repeat (first | with_reducible exact Only.refl _ _ | with_reducible assumption | with_reducible refine Only.drew ?_ | with_reducible refine Only.drewN ?_ _ | with_reducible refine Only.alloc ?_ _)))
  have l2 := fun o o' => HL.out _ (show Only nob w ((w.alloc o).alloc o').drew from by (repeat (first | with_reducible exact Only.refl _ _ | with_reducible assumption | with_reducible refine Only.drew ?_ | with_reducible refine Only.drewN ?_ _ | with_reducible refine Only.alloc ?_ _)))
  have n2 := fun o o' => HN.out _ (show Only nob w ((w.alloc o).alloc o').drew from by (repeat (first | with_reducible exact Only.refl _ _ | with_reducible assumption | with_reducible refine Only.drew ?_ | with_reducible refine Only.drewN ?_ _ | with_reducible refine Only.alloc ?_ _)))
  go_region
  go_wp2
  go_ret
  exact ⟨rfl, by (repeat (first | with_reducible exact Only.refl _ _ | with_reducible assumption | with_reducible refine Only.drew ?_ | with_reducible refine Only.drewN ?_ _ | with_reducible refine Only.alloc ?_ _))⟩
end Go.Proofs.YtgcjmjhdnkffcaaGreatDoor
