/- The law's two fixed calls (layer 43: awake), walked. No condition but the library's tables. -/
import Derived.Test.YtgcjmjhdnkffcaaGreatDoorJPgCheck
import Derived.Test.YtgcjmjhdnkffcaaGreatDoorJSimA
import Derived.Test.YtgcjmjhdnkffcaaGreatDoorJKitD
import Derived.Test.YtgcjmjhdnkffcaaGreatDoorJRefLarge
import Derived.Deep.CutRange
set_option linter.unusedVariables false
set_option linter.unusedSimpArgs false
namespace Go.Proofs.YtgcjmjhdnkffcaaGreatDoor
open Go.RowKit Go.Sort
theorem chk_put : chk putC = 0 := by kernel_rfl
theorem chk_get : chk getC = 0 := by kernel_rfl
theorem sl_row {α : Type} {enc : α → List Value} {size : Nat} {W : World} {k : Nat} {t : TypeId} {cs : Array Value} (ps : List α) (hsz : ∀ p, (enc p).length = size) (h : W.heap[k]? = some (.cells cs t (0, 0))) (he : cs = (ps.flatMap enc).toArray) : SlOf enc size W (some ⟨k, 0, none⟩) ps.length ps := by
  subst he
  refine ⟨rfl, fun hn => ⟨_, rfl, heap_lt h, fun j p hj i u hu => ?_⟩⟩
  rw [add_add']
  exact at_box h _ u (flat_get hsz ps j p hj i u hu)
theorem putC_sz : ∀ c ∈ [putC], c.key.size ≤ 1000 ∧ c.val.size ≤ 1000 ∧ c.old.size ≤ 1000 := by
  intro c hc; obtain rfl := List.mem_singleton.1 hc; decide
theorem getC_sz : ∀ c ∈ [getC, putC], c.key.size ≤ 1000 ∧ c.val.size ≤ 1000 ∧ c.old.size ≤ 1000 := by
  intro c hc
  rcases List.mem_cons.1 hc with rfl | hc
  · decide
  · obtain rfl := List.mem_singleton.1 hc; decide
set_option maxRecDepth 100000 in
set_option maxHeartbeats 4000000 in
theorem awake_any (w : World) (hT : Tabs w) : Calls Tryz.prog 7 #[] w fun e w' => e = .returned (.bool true) ∧ Only nob w w' := by
  have HT := mk_hid (fun W (ho : Only nob w W) => hT.none ho)
  have H1 := mk_hid (aw_one chk_put)
  clear hT
  go_enter Tryz.func7, Tryz.ntmps7
  have H2 := mk_hid (aw_said chk_put chk_get)
  go_wp2_with (first
    | (go_at_call 8; (with_reducible refine (check_walk (some ⟨w.heap.size + 1 + 1 + 1 + 1, 0, none⟩) (some ⟨w.heap.size + 1 + 1 + 1 + 1 + 1, 0, none⟩) 1 1 1 1 [putC] [callA] 0 _ (by decide) (by decide) (sl_row [putC] Cmd.cells_len (heap_old _ (heap_new _ (by simp))) rfl) (sl_row [callA] Call.cells_len (heap_new _ (by simp)) rfl) (HT.out _ (by (repeat (first | with_reducible exact Only.refl _ _ | with_reducible assumption | with_reducible refine Only.drew ?_ | with_reducible refine Only.drewN ?_ _ | with_reducible refine Only.alloc ?_ _)))) putC_sz (wit_one H1.out.said) (.inl ⟨wit_ord H1.out, wit_inv H1.out, rfl⟩)).mono ?_); rintro e w2 ⟨rfl, ho2⟩; have hO2 := Only.trans (a := w) (by (repeat (first | with_reducible exact Only.refl _ _ | with_reducible assumption | with_reducible refine Only.drew ?_ | with_reducible refine Only.drewN ?_ _ | with_reducible refine Only.alloc ?_ _))) ho2; have b0 : w2.heap[w.heap.size]? = some (.cells #[.int .i64 2, .int .i64 1, .int .i64 1, .string ⟨#[97]⟩, .string ⟨#[49]⟩, .string ⟨#[]⟩, .int .i64 0] 25 (0, 0)) := ho2.heap (heap_old _ (heap_old _ (heap_old _ (heap_old _ (heap_old _ (heap_new _ rfl)))))) (fun h => h); obtain ⟨p0, q0⟩ := cells_all b0; have b1 : w2.heap[w.heap.size + 1]? = some (.cells #[.int .i64 3, .int .i64 2, .int .i64 1, .string ⟨#[97]⟩, .string ⟨#[]⟩, .string ⟨#[]⟩, .int .i64 0] 25 (0, 0)) := ho2.heap (heap_old _ (heap_old _ (heap_old _ (heap_old _ (heap_new _ (by simp)))))) (fun h => h); obtain ⟨p1, q1⟩ := cells_all b1; have b2 : w2.heap[w.heap.size + 1 + 1]? = some (.cells #[.int .i64 2, .int .i64 1, .int .i64 1, .string ⟨#[97]⟩, .string ⟨#[49]⟩, .string ⟨#[]⟩, .int .i64 0, .int .i64 1, .int .i64 2, .int .i64 1, .int .i64 1, .int .i64 0, .bool false, .string ⟨#[]⟩, .int .i64 0] 30 (0, 0)) := ho2.heap (heap_old _ (heap_old _ (heap_old _ (heap_new _ (by simp))))) (fun h => h); obtain ⟨p2, q2⟩ := cells_all b2; have b3 : w2.heap[w.heap.size + 1 + 1 + 1]? = some (.cells #[.int .i64 3, .int .i64 2, .int .i64 1, .string ⟨#[97]⟩, .string ⟨#[]⟩, .string ⟨#[]⟩, .int .i64 0, .int .i64 3, .int .i64 4, .int .i64 2, .int .i64 1, .int .i64 0, .bool false, .string ⟨#[]⟩, .int .i64 0] 30 (0, 0)) := ho2.heap (heap_old _ (heap_old _ (heap_new _ (by simp)))) (fun h => h); obtain ⟨p3, q3⟩ := cells_all b3; have s2 := heap_lt b2; have s3 := heap_lt b3; clear b0 b1 b2 b3 ho2)
    | (go_at_call 8; (with_reducible refine (check_walk (some ⟨w2.heap.size, 0, none⟩) (some ⟨w2.heap.size + 1, 0, none⟩) 2 2 2 2 [getC, putC] [callA, callB] 12 _ (by decide) (by decide) (sl_row [getC, putC] Cmd.cells_len (heap_old _ (heap_new _ rfl)) rfl) (sl_row [callA, callB] Call.cells_len (heap_new _ (by simp)) rfl) (HT.out _ (hO2.trans (by (repeat (first | with_reducible exact Only.refl _ _ | with_reducible assumption | with_reducible refine Only.drew ?_ | with_reducible refine Only.drewN ?_ _ | with_reducible refine Only.alloc ?_ _))))) getC_sz (wit_one H2.out) (.inr ⟨fun l hl => aw_late chk_put chk_get l hl, rfl⟩)).mono ?_); rintro e w3 ⟨rfl, ho3⟩; have hO3 := hO2.trans (Only.trans (by (repeat (first | with_reducible exact Only.refl _ _ | with_reducible assumption | with_reducible refine Only.drew ?_ | with_reducible refine Only.drewN ?_ _ | with_reducible refine Only.alloc ?_ _))) ho3); clear ho3))
  exact bodyPost_ret (v := .bool true) (by simp [results, Tryz.results7, go_sem, *]) rfl ⟨rfl, hO3⟩
end Go.Proofs.YtgcjmjhdnkffcaaGreatDoor
/- The law (layer 43: WitnessMore), walked: it answers true, whatever comes in. Condition: the library's two tables are as its text lays them. -/
set_option linter.unusedVariables false
set_option linter.unusedSimpArgs false
namespace Go.Proofs.YtgcjmjhdnkffcaaGreatDoor
open Go.RowKit Go.Sort
def Call.shut (c : Call) : Call := ⟨c.cmd, c.beg, 0, c.ans⟩
def nopC : Cmd := ⟨1, 0, 0, ⟨#[]⟩, ⟨#[]⟩, ⟨#[]⟩, 0⟩
def actC : Cmd := ⟨6, 0, 0, ⟨#[]⟩, ⟨#[]⟩, ⟨#[]⟩, 0⟩
theorem infoCmd : (Tryz.prog.info? 25).map (fun i => (i.zero, i.size, i.bytes)) = some (some (.agg #[.int .i64 0, .int .i64 0, .int .i64 0, .string ⟨#[]⟩, .string ⟨#[]⟩, .string ⟨#[]⟩, .int .i64 0]), 7, 80) := by kernel_rfl
theorem made2 {w : World} {o : Obj} {e : TypeId} {size : Nat} : ((w.alloc o).alloc (.cells #[] e)).ownsRow w.heap.size e size (.slice (some ⟨w.heap.size + 1, 0, none⟩) 0 0) 0 [] := by
  have h := World.ownsRow_made (base := w.heap.size) (e := e) (size := size) (w.alloc o) #[] 0 (by simp) (Nat.zero_le _) (by simp)
  rwa [show (w.alloc o).heap.size = w.heap.size + 1 by simp] at h
def MoreCut (w5 : World) (n : Nat) (L : List Call) (v : Value) (wx : World) : Prop := ∃ A k, v = .slice A (n + 1) k ∧ SlOf Call.cells 15 wx A (n + 1) L ∧ Only nob w5 wx
set_option maxRecDepth 100000 in
set_option maxHeartbeats 8000000 in
theorem law_any (X Y : Option Addr) (len cap n m : Nat) (log : List Cmd) (calls : List Call) (c : Call) (w : World) (hlen : len ≤ 9223372036854775807) (hn : n ≤ 9223372036854775807) (hcap : len ≤ cap) (hl : SlOf Cmd.cells 7 w X len log) (hc : SlOf Call.cells 15 w Y n calls) (hT : Tabs w) :
    Calls Tryz.prog 3 #[.slice X len cap, .slice Y n m, .agg c.cells.toArray] w fun e w' => e = .returned (.bool true) ∧ Only nob w w' := by
  have HL := mk_hid (fun W (ho : Only nob w W) => hl.none ho)
  have HC := mk_hid (fun W (ho : Only nob w W) => hc.none ho)
  have HT := mk_hid (fun W (ho : Only nob w W) => hT.none ho)
  have HA := mk_hid (fun W (ho : Only nob w W) => awake_any W (hT.none ho))
  clear hl hc hT
  by_cases h30 : (30 : Int) < (len : Int)
  · unfold Call.cells
    go_enter Tryz.func3, Tryz.ntmps3
    go_wp2_with (first
      | (go_at_call 4; (with_reducible refine (large28_any X len cap log _ hlen (HL.out _ (by (repeat (first | with_reducible exact Only.refl _ _ | with_reducible assumption | with_reducible refine Only.drew ?_ | with_reducible refine Only.drewN ?_ _ | with_reducible refine Only.alloc ?_ _))))).mono ?_); rintro e w1 ⟨⟨b, rfl, hb⟩, ho1⟩; have hO1 := Only.trans (a := w) (by (repeat (first | with_reducible exact Only.refl _ _ | with_reducible assumption | with_reducible refine Only.drew ?_ | with_reducible refine Only.drewN ?_ _ | with_reducible refine Only.alloc ?_ _))) ho1; clear ho1 hb; cases b)
      | (go_at_call 7; (with_reducible refine (HA.out _ (by first | assumption | (repeat (first | with_reducible exact Only.refl _ _ | with_reducible assumption | with_reducible refine Only.drew ?_ | with_reducible refine Only.drewN ?_ _ | with_reducible refine Only.alloc ?_ _)))).mono ?_); rintro e w9 ⟨rfl, ho9⟩))
    all_goals exact bodyPost_ret (v := .bool true) (by simp [results, Tryz.results3, go_sem, *]) rfl ⟨rfl, hO1.trans ho9⟩
  · unfold Call.cells
    go_enter Tryz.func3, Tryz.ntmps3
    go_wp2_with (first
      | (go_at_call 4; (with_reducible refine (large28_any X len cap log _ hlen (HL.out _ (by (repeat (first | with_reducible exact Only.refl _ _ | with_reducible assumption | with_reducible refine Only.drew ?_ | with_reducible refine Only.drewN ?_ _ | with_reducible refine Only.alloc ?_ _))))).mono ?_); rintro e w1 ⟨⟨b, rfl, hb⟩, ho1⟩; have B1 : w1.heap[w.heap.size]? = some (.cells #[.int .i64 c.cmd.kind, .int .i64 c.cmd.client, .int .i64 c.cmd.seq, .string c.cmd.key, .string c.cmd.val, .string c.cmd.old, .int .i64 c.cmd.node, .int .i64 c.beg, .int .i64 c.fin, .int .i64 c.ans.client, .int .i64 c.ans.seq, .int .i64 c.ans.err, .bool c.ans.found, .string c.ans.val, .int .i64 c.ans.rev] 30 (0, 0)) := ho1.heap (heap_new _ rfl) (fun h => h); have hO1 := Only.trans (a := w) (by (repeat (first | with_reducible exact Only.refl _ _ | with_reducible assumption | with_reducible refine Only.drew ?_ | with_reducible refine Only.drewN ?_ _ | with_reducible refine Only.alloc ?_ _))) ho1; clear ho1; cases b <;> (try (have HB := mk_hid (hb rfl))) <;> clear hb)
      | (go_at_call 5; (with_reducible refine (large43_any Y n m calls _ hn (HC.out _ (by (repeat (first | with_reducible exact Only.refl _ _ | with_reducible assumption | with_reducible refine Only.drew ?_ | with_reducible refine Only.drewN ?_ _ | with_reducible refine Only.alloc ?_ _))))).mono ?_); rintro e w2 ⟨⟨b2, rfl, hb2⟩, ho2⟩; have B2 := ho2.heap B1 (fun h => h); have hO2 := Only.trans (a := w) hO1 ho2; clear ho2 B1 hO1; obtain ⟨p2, q2⟩ := cells_all B2; have s2 := heap_lt B2; cases b2 <;> (try (have HB2 := mk_hid (hb2 rfl))) <;> clear hb2)
      | (go_at_call 5; (with_reducible refine (large43_any (some ⟨w2.heap.size, 0, none⟩) 1 1 [c] _ (by decide) (sl_row [c] Call.cells_len (heap_new _ rfl) rfl)).mono ?_); rintro e w3 ⟨⟨b3, rfl, hb3⟩, ho3⟩; have B3 := ho3.heap (heap_old _ B2) (fun h => h); have hO3 := Only.trans (a := w) (hO2.trans (by (repeat (first | with_reducible exact Only.refl _ _ | with_reducible assumption | with_reducible refine Only.drew ?_ | with_reducible refine Only.drewN ?_ _ | with_reducible refine Only.alloc ?_ _)))) ho3; clear ho3 B2 p2 q2 s2 hO2; cases b3)
      | (go_at_call 6; have hsz : ∀ x ∈ log, x.key.size ≤ 1000 ∧ x.val.size ≤ 1000 ∧ x.old.size ≤ 1000 := fun x hx => (by have h := HB.out.2 x hx; unfold Cmd.small at h; omega); have hlb : len ≤ 60 := HB.out.1; have hnb : n ≤ 40 := HB2.out.1; (with_reducible refine (refcheck_any X Y len cap n m log calls _ hlb hcap (Nat.le_trans hnb (by decide)) (HL.out _ hO3) (HC.out _ hO3) hsz).mono ?_); rintro e w4 ⟨⟨k, rfl, hk⟩, ho4⟩; have B4 := ho4.heap B3 (fun h => h); have hO4 := Only.trans (a := w) hO3 ho4; clear ho4 B3 hO3; obtain ⟨p4, q4⟩ := cells_all B4; have s4 := heap_lt B4; by_cases hk0 : k = 0 <;> (try (have hkb : (k != 0) = true := by simpa using hk0)) <;> (try (have hkb : (k != 0) = false := by simpa using hk0)))
      | (go_at_call 7; (with_reducible refine (HA.out _ (by first | assumption | (repeat (first | with_reducible exact Only.refl _ _ | with_reducible assumption | with_reducible refine Only.drew ?_ | with_reducible refine Only.drewN ?_ _ | with_reducible refine Only.alloc ?_ _)))).mono ?_); rintro e w9 ⟨rfl, ho9⟩))
    rotate_left
    all_goals (first | exact bodyPost_ret (v := .bool true) (by simp [results, Tryz.results3, go_sem, *]) rfl ⟨rfl, Only.trans (by assumption) ho9⟩ | skip)
    · have hw0 := mk_hid (hk hk0)
      clear hk p4 q4
      subst hk0
      obtain ⟨w5, hw5⟩ : ∃ W, w4.setCell ⟨w.heap.size, 8, none⟩ (.int .i64 0) = W := ⟨_, rfl⟩
      have B5 : w5.heap[w.heap.size]? = some (.cells #[.int .i64 c.cmd.kind, .int .i64 c.cmd.client, .int .i64 c.cmd.seq, .string c.cmd.key, .string c.cmd.val, .string c.cmd.old, .int .i64 c.cmd.node, .int .i64 c.beg, .int .i64 0, .int .i64 c.ans.client, .int .i64 c.ans.seq, .int .i64 c.ans.err, .bool c.ans.found, .string c.ans.val, .int .i64 c.ans.rev] 30 (0, 0)) := by rw [← hw5]; exact cells_set B4 8 _
      have hO5 : Only nob w w5 := by rw [← hw5]; exact hO4.set (.inr (Nat.le_refl _)) _
      rw [hw5]
      clear hw5 B4 hO4 s4
      obtain ⟨p5, q5⟩ := cells_all B5
      have s5 := heap_lt B5
      go_cut [7] from 34 to 39 (fun v7 wx => MoreCut w5 n (calls ++ [c.shut]) v7 wx)
      case first =>
        go_region_law (first
          | (refine step_append_sl (n := 0) (xs := []) (base := w5.heap.size) rfl (.tmp 34) (.tmp 35) Y n m calls rfl Tryz.underlying23 infoCall rfl (by decide) (by decide) (by first | exact World.ownsRow_made _ #[] 0 (by first | exact Nat.le_refl _ | simp) (Nat.zero_le _) (by simp) | exact (World.ownsRow_made _ #[] 0 (by first | exact Nat.le_refl _ | simp) (Nat.zero_le _) (by simp)).alloc _ | exact made2) (by first | (simp; done) | (simp; omega)) (by omega) Call.cells_len Call.cells_one (HC.out _ (hO5.trans (by (repeat (first | with_reducible exact Only.refl _ _ | with_reducible assumption | with_reducible refine Only.drew ?_ | with_reducible refine Only.drewN ?_ _ | with_reducible refine Only.alloc ?_ _))))) rfl rfl ?_; intro v1 w6 g1 g2 g3; have hO6 : Only nob w5 w6 := only_grown (by (repeat (first | with_reducible exact Only.refl _ _ | with_reducible assumption | with_reducible refine Only.drew ?_ | with_reducible refine Only.drewN ?_ _ | with_reducible refine Only.alloc ?_ _))) g2 (fun k hk => .inl (by first | exact Nat.le_of_eq (Option.some.inj (show some w5.heap.size = some k from hk)) | exact Nat.le_trans (Nat.le_succ _) (Nat.le_of_eq (Option.some.inj (show some (w5.heap.size + 1) = some k from hk))))); have B6 := hO6.heap B5 (fun h => h); obtain ⟨p6, q6⟩ := cells_all B6; have s6 := heap_lt B6)
          | (refine step_append_sl (n := 0 + n) (base := w5.heap.size) rfl (.tmp 36) (.tmp 38) _ 1 1 [c.shut] rfl Tryz.underlying23 infoCall rfl (by decide) (by decide) (by first | exact g1 | exact g1.alloc _) (by have := hO6.size; first | exact this | (simp; omega)) (by omega) Call.cells_len Call.cells_one (sl_row [c.shut] Call.cells_len (by first | exact heap_new _ rfl | exact (Only.of_grown (S := fun i => i = w5.heap.size) g2 (fun k hk => (Option.some.inj (show some w5.heap.size = some k from hk)).symm)).heap (heap_new _ (by simp)) (by omega) | exact (Only.of_grown (S := fun i => i = w5.heap.size + 1) g2 (fun k hk => (Option.some.inj (show some (w5.heap.size + 1) = some k from hk)).symm)).heap (heap_old _ (heap_new _ rfl)) (by omega)) rfl) rfl rfl ?_; intro v2 w7 k1 k2 k3; have hO7 : Only nob w5 w7 := only_grown (by first | exact hO6 | exact hO6.alloc _) k2 (fun k hk => .inl (own_ge g1 k hk))))
        all_goals
          go_wp2
          go_meet
          case rel =>
            have e7 : w7.ownsRow w5.heap.size 30 15 v2 (n + 1) ((calls ++ [c.shut]).flatMap Call.cells) := by simpa using k1
            obtain ⟨A, k, rfl, hs, _⟩ := own_sl Call.cells_len e7 (by decide)
            exact ⟨A, k, rfl, hs, hO7⟩
      case rest =>
        obtain ⟨A7, k7, rfl, hs7, ho7⟩ := hcut
        have hOc := hO5.trans ho7
        have H7 := mk_hid hs7
        clear hs7 ho7 p5 q5 s5 B5 hO5
        have W1 := mk_hid (wit_more hw0.out c.shut rfl)
        have W2 := mk_hid (wit_behind hw0.out nopC rfl)
        have W3 := mk_hid (wit_more (wit_behind W2.out actC rfl) c.shut rfl)
        have hsz2 : ∀ x ∈ log ++ [nopC], x.key.size ≤ 1000 ∧ x.val.size ≤ 1000 ∧ x.old.size ≤ 1000 := fun x hx => by
          rcases List.mem_append.1 hx with hx | hx
          · exact hsz x hx
          · rw [List.mem_singleton.1 hx]; decide
        have hsz3 : ∀ x ∈ log ++ [nopC] ++ [actC], x.key.size ≤ 1000 ∧ x.val.size ≤ 1000 ∧ x.old.size ≤ 1000 := fun x hx => by
          rcases List.mem_append.1 hx with hx | hx
          · exact hsz2 x hx
          · rw [List.mem_singleton.1 hx]; decide
        go_wp2_with (first
          | (at_builtin; refine append_sl (n := 0) (xs := []) (base := wc.heap.size) rfl (.tmp 40) (.tmp 41) X len cap log rfl Tryz.underlying22 infoCmd rfl (by decide) (by decide) (World.ownsRow_made wc #[] 0 (Nat.le_refl _) (Nat.zero_le _) (by simp)) (by simp) (by omega) Cmd.cells_len Cmd.cells_one (HL.out _ (hOc.trans (by (repeat (first | with_reducible exact Only.refl _ _ | with_reducible assumption | with_reducible refine Only.drew ?_ | with_reducible refine Only.drewN ?_ _ | with_reducible refine Only.alloc ?_ _))))) rfl rfl ?_; intro v1 w8 g1 g2 g3; have p8 : Only nob wc w8 := only_grown (by (repeat (first | with_reducible exact Only.refl _ _ | with_reducible assumption | with_reducible refine Only.drew ?_ | with_reducible refine Only.drewN ?_ _ | with_reducible refine Only.alloc ?_ _))) g2 (fun k hk => .inl (Nat.le_of_eq (Option.some.inj (show some wc.heap.size = some k from hk)))))
          | (at_builtin; refine append_sl (n := 0 + len) (base := wc.heap.size) rfl (.tmp 42) (.tmp 44) _ 1 1 [nopC] rfl Tryz.underlying22 infoCmd rfl (by decide) (by decide) (g1.alloc _) (by have := p8.size; simp; omega) (by omega) Cmd.cells_len Cmd.cells_one (sl_row [nopC] Cmd.cells_len (heap_new _ rfl) rfl) rfl rfl ?_; intro v2 w10 k1 k2 k3; have p10 : Only nob wc w10 := only_grown (p8.alloc _) k2 (fun k hk => .inl (own_ge g1 k hk)); have e8 : w10.ownsRow wc.heap.size 25 7 v2 (len + 1) ((log ++ [nopC]).flatMap Cmd.cells) := (by simpa using k1); obtain ⟨A8, k8, rfl, hs8, hf8⟩ := own_sl Cmd.cells_len e8 (by decide); have H8 := mk_hid hs8; clear hs8 hf8 e8 k1 k2 k3 g1 g2 g3)
          | (at_builtin; refine append_sl (n := 0) (xs := []) (base := w10.heap.size) rfl (.tmp 46) (.tmp 47) A8 (len + 1) k8 (log ++ [nopC]) rfl Tryz.underlying22 infoCmd rfl (by decide) (by decide) (World.ownsRow_made w10 #[] 0 (Nat.le_refl _) (Nat.zero_le _) (by simp)) (by simp) (by omega) Cmd.cells_len Cmd.cells_one (H8.out.none (by (repeat (first | with_reducible exact Only.refl _ _ | with_reducible assumption | with_reducible refine Only.drew ?_ | with_reducible refine Only.drewN ?_ _ | with_reducible refine Only.alloc ?_ _)))) rfl rfl ?_; intro v3 w11 g1 g2 g3; have p11 : Only nob w10 w11 := only_grown (by (repeat (first | with_reducible exact Only.refl _ _ | with_reducible assumption | with_reducible refine Only.drew ?_ | with_reducible refine Only.drewN ?_ _ | with_reducible refine Only.alloc ?_ _))) g2 (fun k hk => .inl (Nat.le_of_eq (Option.some.inj (show some w10.heap.size = some k from hk)))))
          | (at_builtin; refine append_sl (n := 0 + (len + 1)) (base := w10.heap.size) rfl (.tmp 48) (.tmp 50) _ 1 1 [actC] rfl Tryz.underlying22 infoCmd rfl (by decide) (by decide) (g1.alloc _) (by have := p11.size; simp; omega) (by omega) Cmd.cells_len Cmd.cells_one (sl_row [actC] Cmd.cells_len (heap_new _ rfl) rfl) rfl rfl ?_; intro v4 w12 k1 k2 k3; have p12 : Only nob w10 w12 := only_grown (p11.alloc _) k2 (fun k hk => .inl (own_ge g1 k hk)); have e9 : w12.ownsRow w10.heap.size 25 7 v4 (len + 1 + 1) ((log ++ [nopC] ++ [actC]).flatMap Cmd.cells) := (by simpa using k1); obtain ⟨A9, k9, rfl, hs9, hf9⟩ := own_sl Cmd.cells_len e9 (by decide); have H9 := mk_hid hs9; clear hs9 hf9 e9 k1 k2 k3 g1 g2 g3)
          | (go_at_call 8; (with_reducible refine (check_walk X A7 len cap (n + 1) k7 log (calls ++ [c.shut]) 0 _ (by omega) (by omega) (HL.out _ (hOc.trans (p10.trans p12))) (H7.out.none (p10.trans p12)) (HT.out _ (hOc.trans (p10.trans p12))) hsz (wit_one W1.out.said) (.inl ⟨wit_ord W1.out, wit_inv W1.out, rfl⟩)).mono ?_); rintro e w14 ⟨rfl, o14⟩)
          | (go_at_call 8; (with_reducible refine (check_walk A8 Y (len + 1) k8 n m (log ++ [nopC]) calls 0 _ (by omega) (by omega) (H8.out.none (p12.trans o14)) (HC.out _ (hOc.trans (p10.trans (p12.trans o14)))) (HT.out _ (hOc.trans (p10.trans (p12.trans o14)))) hsz2 (wit_one W2.out.said) (.inl ⟨wit_ord W2.out, wit_inv W2.out, rfl⟩)).mono ?_); rintro e w15 ⟨rfl, o15⟩)
          | (go_at_call 8; (with_reducible refine (check_walk A9 A7 (len + 1 + 1) k9 (n + 1) k7 (log ++ [nopC] ++ [actC]) (calls ++ [c.shut]) 0 _ (by omega) (by omega) (H9.out.none (o14.trans o15)) (H7.out.none (p10.trans (p12.trans (o14.trans o15)))) (HT.out _ (hOc.trans (p10.trans (p12.trans (o14.trans o15))))) hsz3 (wit_one W3.out.said) (.inl ⟨wit_ord W3.out, wit_inv W3.out, rfl⟩)).mono ?_); rintro e w16 ⟨rfl, o16⟩)
          | (go_at_call 7; (with_reducible refine (HA.out _ (hOc.trans (p10.trans (p12.trans (o14.trans (o15.trans o16)))))).mono ?_); rintro e w17 ⟨rfl, o17⟩))
        exact bodyPost_ret (v := .bool true) (by simp [results, Tryz.results3, go_sem, *]) rfl ⟨rfl, hOc.trans (p10.trans (p12.trans (o14.trans (o15.trans (o16.trans o17)))))⟩
end Go.Proofs.YtgcjmjhdnkffcaaGreatDoor
