/- The program's check of a witness (layer 43), walked where each answered call has its place and answer. No condition but length. -/
import Derived.Test.YtgcjmjhdnkffcaaGreatDoorJCntInv
import Derived.Test.YtgcjmjhdnkffcaaGreatDoorJCntOne
import Derived.Test.YtgcjmjhdnkffcaaGreatDoorJPgCount
set_option linter.unusedVariables false
set_option linter.unusedSimpArgs false
namespace Go.Proofs.YtgcjmjhdnkffcaaGreatDoor
open Go.RowKit Go.Sort
theorem cnt_at {w w1 : World} {s : Cnt} {v : Value} (h : CntI w w1 s v) : ∃ A ca, CntAt w1 (w.heap.size + 1) w.heap.size A ca s := by
  obtain ⟨A, c, rfl, hsl, _⟩ := own_sl Ans.cells_len h.own (by decide)
  exact ⟨A, c, h.map, h.cell, hsl⟩
set_option maxRecDepth 100000 in
set_option maxHeartbeats 4000000 in
theorem check_walk (X Y : Option Addr) (len cap n m : Nat) (log : List Cmd) (calls : List Call) (r : Int) (w : World) (hlen : len ≤ 1000) (hn : n ≤ 1000) (hl : SlOf Cmd.cells 7 w X len log) (hc : SlOf Call.cells 15 w Y n calls) (hT : Tabs w) (hsz : ∀ c ∈ log, c.key.size ≤ 1000 ∧ c.val.size ≤ 1000 ∧ c.old.size ≤ 1000)
    (hone : ∀ c ∈ calls, 0 < c.fin → ∃ p, OneOk log (cntP log) c p)
    (hr : ((∀ l : List Call, l.Perm (calls.filter fun x => !open_ x) → OrdOk (cntP log) l l.length) ∧ InvOk log calls (cntP log) ∧ r = 0) ∨ ((∀ l : List Call, l.Perm (calls.filter fun x => !open_ x) → ¬ OrdOk (cntP log) l l.length) ∧ r = 12)) :
    Calls Tryz.prog 8 #[.slice X len cap, .slice Y n m] w fun e w' => e = .returned (.int .i64 r) ∧ Only nob w w' := by
  have hcl := hc.1
  have HL := mk_hid hl
  have HC := mk_hid hc
  have HT := mk_hid hT
  have HSZ := mk_hid hsz
  have HONE := mk_hid hone
  have HR := mk_hid hr
  have HCL := mk_hid hcl
  clear hl hc hT hsz hone hr hcl
  obtain ⟨s, hs⟩ : ∃ s, cntP log = s := ⟨_, rfl⟩
  have HS := mk_hid hs
  clear hs
  go_enter Tryz.func8, Tryz.ntmps8
  go_wp2_with (go_at_call 12; (with_reducible refine (count_any X len cap log _ hlen HL.out HT.out HSZ.out).mono ?_); rintro e w1 ⟨rfl, v, hI⟩; have HAT := mk_hid (cnt_at hI); have ho1 := hI.only; clear hI)
  obtain ⟨A, ca, hat0⟩ := HAT.out
  rw [HS.out] at hat0
  have HA := mk_hid hat0
  clear hat0 HAT
  go_loopw [13] (fun i wr => ∃ (k : Nat), k ≤ n ∧ i = .int .i64 k ∧ Only nob w1 wr) (fun i _ => n - (intOf i).toNat)
  case atStart => exact ⟨0, by omega, rfl, by (repeat (first | with_reducible exact Only.refl _ _ | with_reducible assumption | with_reducible refine Only.drew ?_ | with_reducible refine Only.drewN ?_ _ | with_reducible refine Only.alloc ?_ _))⟩
  case round =>
    obtain ⟨k, hk, rfl, hO⟩ := hrel
    by_cases hlt : k < n
    · obtain ⟨y, cl, rfl, hq, hmem, hyb, hat⟩ := (HC.out.none (ho1.trans hO)).get hlt
      obtain ⟨f0, f1, f2, f3, f4, f5, f6, f7, f8, f9, f10, f11, f12, f13, f14⟩ := Call.facts hat
      have h1 : (k : Int) < (n : Int) := by omega
      have h2 : ¬ (k : Int) < 0 := by omega
      have h3 : (0 : Int) ≤ (k : Int) := by omega
      clear hq hat
      have hA1 := fun W => answered_any cl W
      unfold Call.agg Call.cells at hA1
      obtain ⟨b, hb⟩ : ∃ b, decide (0 < cl.fin) = b := ⟨_, rfl⟩
      rw [hb] at hA1
      have HA1 := mk_hid hA1
      have HB := mk_hid hb
      clear hA1 hb
      cases b
      · go_wp2_with (go_at_call 13; (with_reducible refine (HA1.out _).mono ?_); rintro e w2 ⟨rfl, ho2⟩; have hO2 := Only.trans (a := wr) (by (repeat (first | with_reducible exact Only.refl _ _ | with_reducible assumption | with_reducible refine Only.drew ?_ | with_reducible refine Only.drewN ?_ _ | with_reducible refine Only.alloc ?_ _ | (with_reducible refine Only.set ?_ (.inr ?_) _; rotate_left; first | exact Nat.le_refl _ | exact Nat.le_succ _ | assumption | omega | (dsimp only; omega))))) ho2)
        go_roundw
        case rel => exact ⟨k + 1, by omega, by go_num, hO.trans hO2⟩
        case measure => simp [intOf]; omega
      · have hpo := HONE.out cl hmem (of_decide_eq_true HB.out)
        rw [HS.out] at hpo
        obtain ⟨p, hp⟩ := hpo
        have h1k := fun W (h : Only nob w1 W) => one_ok (w.heap.size + 1) w.heap.size A ca s _ len cap log cl p W (HA.out.none h) (HL.out.none (ho1.trans h)) hlen hp
        unfold Call.cells at h1k
        have H1K := mk_hid h1k
        clear h1k hp
        go_wp2_with (first
          | (go_at_call 13; (with_reducible refine (HA1.out _).mono ?_); rintro e w2 ⟨rfl, ho2⟩; have hO2 := Only.trans (a := wr) (by (repeat (first | with_reducible exact Only.refl _ _ | with_reducible assumption | with_reducible refine Only.drew ?_ | with_reducible refine Only.drewN ?_ _ | with_reducible refine Only.alloc ?_ _ | (with_reducible refine Only.set ?_ (.inr ?_) _; rotate_left; first | exact Nat.le_refl _ | exact Nat.le_succ _ | assumption | omega | (dsimp only; omega))))) ho2; have b2 : w2.heap[wr.heap.size]? = some (.cells #[.int .i64 cl.cmd.kind, .int .i64 cl.cmd.client, .int .i64 cl.cmd.seq, .string cl.cmd.key, .string cl.cmd.val, .string cl.cmd.old, .int .i64 cl.cmd.node, .int .i64 cl.beg, .int .i64 cl.fin, .int .i64 cl.ans.client, .int .i64 cl.ans.seq, .int .i64 cl.ans.err, .bool cl.ans.found, .string cl.ans.val, .int .i64 cl.ans.rev] 30 (0, 0)) := ho2.heap ((heap_new _ rfl).trans (by kernel_rfl)) (fun h => h); obtain ⟨m2, n2⟩ := cells_all b2; clear b2)
          | (go_at_call 14; (with_reducible refine (H1K.out _ (hO.trans hO2)).mono ?_); rintro e w3 ⟨rfl, ho3⟩; have hO3 := hO2.trans ho3))
        go_roundw
        case rel => exact ⟨k + 1, by omega, by go_num, hO.trans hO3⟩
        case measure => simp [intOf]; omega
    · obtain rfl : k = n := by omega
      have h1 : ¬ (k : Int) < (k : Int) := by omega
      have hoo := ho1.trans hO
      have hr2 := HR.out
      rw [HS.out] at hr2
      have hfl := List.length_filter_le (fun x => !open_ x) calls
      rcases hr2 with ⟨hord, hinv, rfl⟩ | ⟨hord, rfl⟩
      · have HORD := mk_hid hord
        have HINV := mk_hid hinv
        clear hord hinv
        go_wp2_with (first
          | (go_at_call 16; (with_reducible refine (ends_any Y k m calls _ hn (HC.out.none hoo)).mono ?_); rintro e w2 ⟨⟨l, B, c, hpm, hlc, rfl, hsl⟩, ho2⟩; have HSL := mk_hid hsl; have HPM := mk_hid hpm; have hpl : l.length ≤ 1000 := (by rw [hpm.length_eq]; have := HCL.out; omega); clear hsl hpm)
          | (go_at_call 15; (with_reducible refine (orders_any (w.heap.size + 1) w.heap.size A ca s B l.length c l _ (HA.out.none (hO.trans ho2)) HSL.out hpl hlc).mono ?_); rintro e w3 ⟨⟨b, rfl, hb⟩, ho3⟩; obtain rfl : b = true := hb.2 (HORD.out l HPM.out); clear hb)
          | (go_at_call 17; (with_reducible refine (invoked_ok (w.heap.size + 1) w.heap.size A ca s X Y len cap k m log calls _ (HA.out.none (hO.trans (ho2.trans ho3))) (HL.out.none (hoo.trans (ho2.trans ho3))) (HC.out.none (hoo.trans (ho2.trans ho3))) hlen hn HINV.out).mono ?_); rintro e w4 ⟨rfl, ho4⟩))
        exact bodyPost_ret (v := .int .i64 0) (by simp [results, Tryz.results8, go_sem, *]) rfl ⟨rfl, hoo.trans (ho2.trans (ho3.trans ho4))⟩
      · have HORD := mk_hid hord
        clear hord
        go_wp2_with (first
          | (go_at_call 16; (with_reducible refine (ends_any Y k m calls _ hn (HC.out.none hoo)).mono ?_); rintro e w2 ⟨⟨l, B, c, hpm, hlc, rfl, hsl⟩, ho2⟩; have HSL := mk_hid hsl; have HPM := mk_hid hpm; have hpl : l.length ≤ 1000 := (by rw [hpm.length_eq]; have := HCL.out; omega); clear hsl hpm)
          | (go_at_call 15; (with_reducible refine (orders_any (w.heap.size + 1) w.heap.size A ca s B l.length c l _ (HA.out.none (hO.trans ho2)) HSL.out hpl hlc).mono ?_); rintro e w3 ⟨⟨b, rfl, hb⟩, ho3⟩; obtain rfl : b = false := (by cases b; rfl; exact absurd (hb.1 rfl) (HORD.out l HPM.out)); clear hb))
        exact bodyPost_ret (v := .int .i64 12) (by simp [results, Tryz.results8, go_sem, *]) rfl ⟨rfl, hoo.trans (ho2.trans ho3)⟩
end Go.Proofs.YtgcjmjhdnkffcaaGreatDoor
