/- The clock of layer 35, walked: each of its functions, and what 'awake' comes to. No condition but the bounds that stand in each theorem. -/
import Derived.Test.YtihhnfcfailhmaaRows
import Derived.WalkKit
import Derived.BigQuiet
import Derived.Deep.QuietTactic
namespace Go.Proofs.Ytihhnfcfailhmaa
open Go.RowKit

/-- Of the blocks that were there nothing has turned but what S names. -/
structure Only (S : Nat → Prop) (w w' : World) : Prop where
  os : w'.os = w.os
  tape : w'.tape = w.tape
  output : w'.output = w.output
  size : w.heap.size ≤ w'.heap.size
  block : ∀ i, i < w.heap.size → ¬ S i → w'.heap[i]? = w.heap[i]?

def Clk (w : World) (b : Nat) (p k : Int) : Prop := w.heap[b]? = some (.cells #[.int .i64 p, .int .i64 k] 33 (0, 0))

theorem more_any (k : Int) (w : World) (h0 : 0 ≤ k) (h1 : k ≤ 100) : Calls Try.prog 11 #[.int .i64 k] w fun e w' => e = .returned (.int .i64 (k + 1)) ∧ w = w' := by
  go_enter Try.func11, Try.ntmps11
  go_wp2
  go_ret
  exact ⟨rfl, rfl⟩
theorem none_any (k : Int) (w : World) : Calls Try.prog 12 #[.int .i64 k] w fun e w' => e = .returned (.int .i64 0) ∧ w = w' := by
  go_enter Try.func12, Try.ntmps12
  go_wp2
  go_ret
  exact ⟨rfl, rfl⟩

theorem clk_cells {w : World} {b : Nat} {p k : Int} (h : Clk w b p k) : w.cell? ⟨b, 0, none⟩ = some (.int .i64 p) ∧ w.cell? ⟨b, 1, none⟩ = some (.int .i64 k) ∧ w.frozen? ⟨b, 1, none⟩ = false := by
  unfold Clk at h
  simp [World.cell?, World.frozen?, h]
theorem clk_set {w : World} {b : Nat} {p k : Int} (h : Clk w b p k) (v : Int) : Clk (w.setCell ⟨b, 1, none⟩ (.int .i64 v)) b p v := by
  unfold Clk at *
  simp [World.setCell, Array.getElem?_modify, h]
theorem Only.drewN {S : Nat → Prop} {w w' : World} (h : Only S w w') (n : Nat) : Only S w (w'.drewN n) := ⟨h.os, h.tape, h.output, h.size, h.block⟩
theorem Only.refl (S : Nat → Prop) (w : World) : Only S w w := ⟨rfl, rfl, rfl, Nat.le_refl _, fun _ _ _ => rfl⟩
theorem Only.trans {S : Nat → Prop} {a b c : World} (h : Only S a b) (k : Only S b c) : Only S a c :=
  ⟨k.os.trans h.os, k.tape.trans h.tape, k.output.trans h.output, Nat.le_trans h.size k.size, fun i hi hs => (k.block i (Nat.lt_of_lt_of_le hi h.size) hs).trans (h.block i hi hs)⟩
theorem Clk.drewN {w : World} {b : Nat} {p k : Int} (h : Clk w b p k) (n : Nat) : Clk (w.drewN n) b p k := h
theorem Clk.lt {w : World} {b : Nat} {p k : Int} (h : Clk w b p k) : b < w.heap.size := (Array.getElem?_eq_some_iff.1 h).1
theorem Clk.other {w w' : World} {b c : Nat} {p k : Int} (h : Clk w b p k) (ho : Only (· = c) w w') (hne : b ≠ c) : Clk w' b p k := (ho.block b h.lt hne).trans h
theorem Clk.below {w w' : World} {b : Nat} {p k : Int} (h : Clk w b p k) (hb : Below w.heap.size w w') : Clk w' b p k := (hb.block b h.lt).trans h
theorem below_only {B b : Nat} {w w1 w2 : World} (h : Below B w w1) (hs : B ≤ w1.heap.size) (hb : B ≤ b) (ho : Only (· = b) w1 w2) : Below B w w2 :=
  h.trans ⟨ho.os, ho.tape, ho.output, ho.size, fun i hi => ho.block i (by omega) (by omega)⟩
theorem pw_drewN {B : Nat} {w W : World} (h : Below B w W) (n : Nat) : Below B w (W.drewN n) := ⟨h.os, h.tape, h.output, h.size, h.block⟩
theorem only_set (w : World) (b : Nat) (v : Value) : Only (· = b) w (w.setCell ⟨b, 1, none⟩ v) :=
  ⟨rfl, rfl, rfl, by simp [World.setCell], fun i _ hi => Below.heap_setCell _ _ _ _ hi⟩

theorem change_more (b : Nat) (p k : Int) (w : World) (h : Clk w b p k) (h0 : 0 ≤ k) (h1 : k ≤ 100) :
    Calls Try.prog 10 #[.pointer (some ⟨b, 0, none⟩), .func (.func 11) #[] #[]] w fun e w' => e = .returned (.tuple #[]) ∧ w' = w.setCell ⟨b, 1, none⟩ (.int .i64 (k + 1)) := by
  obtain ⟨c0, c1, c2⟩ := clk_cells h
  clear h
  go_enter Try.func10, Try.ntmps10
  go_wp2
  go_end0
  exact ⟨rfl, rfl⟩
theorem change_none (b : Nat) (p k : Int) (w : World) (h : Clk w b p k) :
    Calls Try.prog 10 #[.pointer (some ⟨b, 0, none⟩), .func (.func 12) #[] #[]] w fun e w' => e = .returned (.tuple #[]) ∧ w' = w.setCell ⟨b, 1, none⟩ (.int .i64 0) := by
  obtain ⟨c0, c1, c2⟩ := clk_cells h
  clear h
  go_enter Try.func10, Try.ntmps10
  go_wp2
  go_end0
  exact ⟨rfl, rfl⟩

theorem wind_any (b : Nat) (p k : Int) (w : World) (h : Clk w b p k) :
    Calls Try.prog 9 #[.pointer (some ⟨b, 0, none⟩)] w fun e w' => e = .returned (.tuple #[]) ∧ Clk w' b p 0 ∧ Only (· = b) w w' := by
  go_enter Try.func9, Try.ntmps9
  go_wp2_with fail
  refine (change_none b p k _ h).mono ?_
  rintro e w' ⟨rfl, rfl⟩
  go_wp2
  go_end0
  exact ⟨rfl, clk_set h _, only_set _ _ _⟩
theorem wind_nil (w : World) : Calls Try.prog 9 #[.pointer none] w fun e w' => e = .returned (.tuple #[]) ∧ w = w' := by
  go_enter Try.func9, Try.ntmps9
  go_wp2
  go_end0
  go_wp2
  go_end0
  exact ⟨rfl, rfl⟩
theorem left_any (b : Nat) (p k : Int) (w : World) (h : Clk w b p k) (h0 : 0 ≤ k) (h1 : k ≤ 100) (h2 : 0 ≤ p) (h3 : p ≤ 100) :
    Calls Try.prog 8 #[.pointer (some ⟨b, 0, none⟩)] w fun e w' => e = .returned (.int .i64 (p - k)) ∧ ∃ n, w' = w.drewN n := by
  obtain ⟨c0, c1, c2⟩ := clk_cells h
  clear h
  go_enter Try.func8, Try.ntmps8
  go_wp2
  go_quiet (fail)
  go_wp2
  go_ret
  exact ⟨rfl, _, rfl⟩
theorem left_nil (w : World) : Calls Try.prog 8 #[.pointer none] w fun e w' => e = .returned (.int .i64 0) ∧ w = w' := by
  go_enter Try.func8, Try.ntmps8
  go_wp2
  go_ret
  exact ⟨rfl, rfl⟩
theorem new_any (n : Int) (w : World) (h : 1 ≤ n) (h1 : n ≤ 9) :
    Calls Try.prog 6 #[.int .i64 n] w fun e w' => e = .returned (.pointer (some ⟨w.heap.size, 0, none⟩)) ∧ w' = w.alloc (.cells #[.int .i64 (8 + 2 * n), .int .i64 0] 33) := by
  go_enter Try.func6, Try.ntmps6
  go_wp2
  go_ret
  exact ⟨rfl, rfl⟩
theorem new_nil (n : Int) (w : World) (h : n < 1 ∨ 9 < n) :
    Calls Try.prog 6 #[.int .i64 n] w fun e w' => e = .returned (.pointer none) ∧ w = w' := by
  rcases h with h | h
  · go_enter Try.func6, Try.ntmps6
    go_wp2
    go_ret
    exact ⟨rfl, rfl⟩
  · by_cases h' : n < 1
    · omega
    · go_enter Try.func6, Try.ntmps6
      go_wp2
      go_ret
      exact ⟨rfl, rfl⟩
theorem tick_no (b : Nat) (p k : Int) (w : World) (h : Clk w b p k) (h0 : 0 ≤ k) (h1 : k ≤ 100) (hk : k + 1 < p) :
    Calls Try.prog 7 #[.pointer (some ⟨b, 0, none⟩)] w fun e w' => e = .returned (.bool false) ∧ Clk w' b p (k + 1) ∧ Only (· = b) w w' := by
  have hs := clk_set h (k + 1)
  obtain ⟨c0, c1, c2⟩ := clk_cells hs
  have ho := only_set w b (.int .i64 (k + 1))
  go_enter Try.func7, Try.ntmps7
  go_wp2_with fail
  refine (change_more b p k _ h h0 h1).mono ?_
  rintro e w' ⟨rfl, rfl⟩
  generalize (w.setCell ⟨b, 1, none⟩ (.int .i64 (k + 1))) = W at *
  clear h
  go_wp2
  go_quiet (fail)
  go_wp2
  go_ret
  exact ⟨rfl, hs.drewN _, ho.drewN _⟩
theorem tick_yes (b : Nat) (p k : Int) (w : World) (h : Clk w b p k) (h0 : 0 ≤ k) (h1 : k ≤ 100) (hk : p ≤ k + 1) :
    Calls Try.prog 7 #[.pointer (some ⟨b, 0, none⟩)] w fun e w' => e = .returned (.bool true) ∧ Clk w' b p 0 ∧ Only (· = b) w w' := by
  have hs := clk_set h (k + 1)
  obtain ⟨c0, c1, c2⟩ := clk_cells hs
  have ho := only_set w b (.int .i64 (k + 1))
  go_enter Try.func7, Try.ntmps7
  go_wp2_with fail
  refine (change_more b p k _ h h0 h1).mono ?_
  rintro e w' ⟨rfl, rfl⟩
  generalize (w.setCell ⟨b, 1, none⟩ (.int .i64 (k + 1))) = W at *
  clear h
  go_wp2
  go_quiet (fail)
  go_wp2_with fail
  refine (wind_any b p (k + 1) _ (hs.drewN _)).mono ?_
  rintro e w' ⟨rfl, hc, ho'⟩
  go_wp2
  go_ret
  exact ⟨rfl, hc, (ho.drewN _).trans ho'⟩
theorem tick_nil (w : World) : Calls Try.prog 7 #[.pointer none] w fun e w' => e = .returned (.bool false) ∧ ∃ n, w' = w.drewN n := by
  go_enter Try.func7, Try.ntmps7
  go_wp2
  go_end0
  go_wp2
  go_quiet (fail)
  go_wp2
  go_ret
  exact ⟨rfl, _, rfl⟩
set_option maxHeartbeats 400000 in
theorem awake_any (w : World) : Calls Try.prog 5 #[] w fun e w' => e = .returned (.bool true) ∧ Below w.heap.size w w' := by
  go_enter Try.func5, Try.ntmps5
  go_wp2_with (go_at_call 6; refine (new_any 1 _ (by omega) (by omega)).mono ?_; rintro e w' ⟨rfl, rfl⟩)
  go_loopw [2] (fun i wr => ∃ k : Nat, k ≤ 9 ∧ i = .int .i64 k ∧ Clk wr w.heap.size 10 k ∧ Below w.heap.size w wr ∧ w.heap.size ≤ wr.heap.size) (fun i _ => 9 - (intOf i).toNat)
  case atStart => exact ⟨0, by omega, rfl, heap_alloc_new w _, (Below.refl _ _).alloc (Nat.le_refl _) _, by simp⟩
  case round =>
    obtain ⟨k, hk, rfl, hc, hb, hz⟩ := hrel
    by_cases hlt : k < 9
    · go_wp2_with (go_at_call 7; refine (tick_no w.heap.size 10 k _ hc (by omega) (by omega) (by omega)).mono ?_; rintro e w' ⟨rfl, hc', ho⟩)
      go_roundw
      case rel => exact ⟨k + 1, by omega, by go_num, by simpa using hc', below_only hb hz (Nat.le_refl _) ho, Nat.le_trans hz ho.size⟩
      case measure => simp [intOf]; omega
    · obtain rfl : k = 9 := by omega
      go_wp2_with fail
      refine (left_any w.heap.size 10 _ _ hc (by omega) (by omega) (by omega) (by omega)).mono ?_
      rintro e w' ⟨rfl, n, rfl⟩
      go_wp2_with fail
      refine (tick_yes w.heap.size 10 _ _ (hc.drewN n) (by omega) (by omega) (by omega)).mono ?_
      rintro e w' ⟨rfl, hc', ho⟩
      go_wp2_with fail
      refine (left_any w.heap.size 10 _ _ hc' (by omega) (by omega) (by omega) (by omega)).mono ?_
      rintro e w' ⟨rfl, n, rfl⟩
      go_wp2
      go_ret
      exact ⟨rfl, pw_drewN (below_only (pw_drewN hb _) hz (Nat.le_refl _) ho) _⟩

theorem mk_hid {p : Prop} (h : p) : Hid p := h
theorem Only.cell {b : Nat} {w w' : World} (h : Only (· = b) w w') {p : Addr} {v : Value} (hc : w.cell? p = some v) (hne : p.block ≠ b) : w'.cell? p = some v :=
  (World.cell?_of_block (w := w) (h.block p.block (World.block_lt_of_cell? w p hc) hne)).trans hc
/-- A slice of bools that came in: its cells. -/
def IsBools (w : World) (a : Option Addr) (len : Nat) (B : Nat → Bool) : Prop :=
  len = 0 ∨ ∃ x : Addr, a = some x ∧ x.block < w.heap.size ∧ ∀ i, i < len → w.cell? (x.add i) = some (.bool (B i))
theorem rings_long (n : Int) (a : Option Addr) (len cap : Nat) (w : World) (h : 200 < len) :
    Calls Try.prog 3 #[.int .i64 n, .slice a len cap] w fun e w' => e = .returned (.bool true) ∧ Below w.heap.size w w' := by
  have hl : (200 : Int) < (len : Int) := by omega
  go_enter Try.func3, Try.ntmps3
  go_wp2_with (go_at_call 5; refine (awake_any _).mono ?_; rintro e w' ⟨rfl, hb⟩)
  go_ret
  exact ⟨rfl, hb⟩
theorem rings_nil (n : Int) (a : Option Addr) (len cap : Nat) (w : World) (h : len ≤ 200) (hn : n < 1 ∨ 9 < n) :
    Calls Try.prog 3 #[.int .i64 n, .slice a len cap] w fun e w' => e = .returned (.bool true) ∧ Below w.heap.size w w' := by
  have hl : ¬ (200 : Int) < (len : Int) := by omega
  have hd : decide ((200 : Int) < (len : Int)) = false := by simpa using hl
  rcases hn with hn | hn
  all_goals
    first | have hn' : ¬ n < 1 := (by omega) | skip
    go_enter Try.func3, Try.ntmps3
    go_wp2_with fail
    refine (new_nil n _ (by omega)).mono ?_
    rintro e w' ⟨rfl, rfl⟩
    go_wp2_with fail
    refine (tick_nil _).mono ?_
    rintro e w' ⟨rfl, k, rfl⟩
    go_wp2_with fail
    refine (left_nil _).mono ?_
    rintro e w' ⟨rfl, rfl⟩
    go_wp2_with fail
    refine (awake_any _).mono ?_
    rintro e w' ⟨rfl, hb⟩
    go_wp2
    go_ret
    exact ⟨rfl, (pw_drewN (Below.refl _ _) _).trans hb⟩
set_option maxHeartbeats 1000000 in
theorem rings_any (m : Nat) (a : Option Addr) (len cap : Nat) (B : Nat → Bool) (w : World) (h : len ≤ 200) (h1 : 1 ≤ m) (h9 : m ≤ 9) (hB : IsBools w a len B) :
    Calls Try.prog 3 #[.int .i64 (m : Int), .slice a len cap] w fun e w' => e = .returned (.bool true) ∧ Below w.heap.size w w' := by
  have hl : ¬ (200 : Int) < (len : Int) := by omega
  have g1 : ¬ (m : Int) < 1 := by omega
  have g9 : ¬ (9 : Int) < (m : Int) := by omega
  go_enter Try.func3, Try.ntmps3
  go_wp2_with (go_at_call 6; refine (new_any _ _ (by omega) (by omega)).mono ?_; rintro e w' ⟨rfl, rfl⟩)
  go_loopw [6, 7] (fun n i wr => ∃ k j : Nat, k ≤ len ∧ i = .int .i64 k ∧ n = .int .i64 j ∧ (j : Int) < 8 + 2 * m ∧ Clk wr w.heap.size (8 + 2 * m) j ∧ Below w.heap.size w wr ∧ w.heap.size ≤ wr.heap.size) (fun _ i _ => len - (intOf i).toNat)
  case atStart => exact ⟨0, 0, by omega, rfl, rfl, by omega, heap_alloc_new w _, (Below.refl _ _).alloc (Nat.le_refl _) _, by simp⟩
  case round =>
    obtain ⟨k, j, hk, rfl, rfl, hj, hc, hb, hz⟩ := hrel
    by_cases hlt : k < len
    · obtain ⟨x, rfl, hx, hcell⟩ : ∃ x : Addr, a = some x ∧ x.block < w.heap.size ∧ ∀ i, i < len → w.cell? (x.add i) = some (.bool (B i)) := by
        rcases hB with h0 | h0
        · omega
        · exact h0
      have hck : wr.cell? (x.add k) = some (.bool (B k)) := (hb.cell (p := x.add k) (by unfold Addr.add; split <;> exact hx)).trans (hcell k hlt)
      have hx' : ¬ (k : Int) < 0 := by omega
      have hlk : (k : Int) < (len : Int) := by omega
      cases hBk : B k
      · rw [hBk] at hck
        clear hBk hcell hB
        by_cases hr : (j : Int) + 1 < 8 + 2 * m
        · have t1 : ((j : Int) + 1 == 8 + 2 * (m : Int)) = false := by simp; omega
          go_wp2_with fail
          refine (tick_no w.heap.size (8 + 2 * m) j _ hc (by omega) (by omega) (by omega)).mono ?_
          rintro e w' ⟨rfl, hc', ho⟩
          go_wp2_with fail
          refine (left_any w.heap.size (8 + 2 * m) _ _ hc' (by omega) (by omega) (by omega) (by omega)).mono ?_
          rintro e w' ⟨rfl, n, rfl⟩
          go_wp2
          go_roundw
          case rel => exact ⟨k + 1, j + 1, by omega, by go_num, by go_num, by omega, by simpa using hc'.drewN _, pw_drewN (below_only hb hz (Nat.le_refl _) ho) _, Nat.le_trans hz ho.size⟩
          case measure => simp [intOf]; omega
        · have t1 : ((j : Int) + 1 == 8 + 2 * (m : Int)) = true := by simp; omega
          go_wp2_with fail
          refine (tick_yes w.heap.size (8 + 2 * m) j _ hc (by omega) (by omega) (by omega)).mono ?_
          rintro e w' ⟨rfl, hc', ho⟩
          go_wp2_with fail
          refine (left_any w.heap.size (8 + 2 * m) _ _ hc' (by omega) (by omega) (by omega) (by omega)).mono ?_
          rintro e w' ⟨rfl, n, rfl⟩
          go_wp2
          go_roundw
          case rel => exact ⟨k + 1, 0, by omega, by go_num, by go_num, by omega, by simpa using hc'.drewN _, pw_drewN (below_only hb hz (Nat.le_refl _) ho) _, Nat.le_trans hz ho.size⟩
          case measure => simp [intOf]; omega
      · rw [hBk] at hck
        clear hBk hcell hB
        go_wp2_with fail
        refine (wind_any w.heap.size (8 + 2 * m) j _ hc).mono ?_
        rintro e w' ⟨rfl, hc', ho⟩
        go_wp2
        go_roundw
        case rel => exact ⟨k + 1, 0, by omega, by go_num, by go_num, by omega, by simpa using hc', below_only hb hz (Nat.le_refl _) ho, Nat.le_trans hz ho.size⟩
        case measure => simp [intOf]; omega
    · obtain rfl : k = len := by omega
      go_wp2_with (go_at_call 5; refine (awake_any _).mono ?_; rintro e w' ⟨rfl, hb'⟩)
      go_ret
      exact ⟨rfl, hb.trans (hb'.mono hz)⟩

end Go.Proofs.Ytihhnfcfailhmaa
