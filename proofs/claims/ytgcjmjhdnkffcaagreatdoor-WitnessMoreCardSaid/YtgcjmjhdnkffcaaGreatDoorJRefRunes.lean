/- The reference's texts (layer 5), walked: the runes of a text as the model decodes them; no condition but lengths. -/
import Derived.Test.YtgcjmjhdnkffcaaGreatDoorRows
import Derived.Test.YtgcjmjhdnkffcaaGreatDoorJKit
import Derived.Lib.DecodeN
set_option linter.unusedVariables false
namespace Go.Proofs.YtgcjmjhdnkffcaaGreatDoor
open Go.RowKit
/-- A byte of a string, 0 beyond the end. -/
def by_ (s : ByteArray) (i : Nat) : Nat := (s.get! i).toNat
theorem by_lt (s : ByteArray) (i : Nat) : by_ s i < 256 := (s.get! i).toNat_lt
theorem get_by (s : ByteArray) (i : Nat) (h : i < s.size) : (s[i]'h).toNat = by_ s i := by
  unfold by_
  congr 1
  simp [ByteArray.get!, getElem!_pos, h]
  rfl
theorem run_byte {P : Program} (s : ByteArray) (i : Nat) (T : TypeId) (hT : P.underlying T = some .string) (h : i < s.size) (w : World) : (Instr.index T (.string s) (.int .i64 (i : Int))).run P w = .ok (.int .u8 (by_ s i : Nat)) w := by
  have h1 := run_index_string (P := P) w T s .i64 (i : Int) hT
  rw [h1]
  rw [dif_pos ⟨by omega, by omega⟩]
  simp [get_by s i h]
/-- The rune at a place, and how many bytes it has, as the model decodes; (0, 0): no rune's byte. -/
def rs (s : ByteArray) (i : Nat) : Int × Int := if Utf8.decode s i = (65533, 1) then (0, 0) else ((Utf8.decode s i).2, (Utf8.decode s i).1)
theorem decode_by (s : ByteArray) (i : Nat) : Utf8.decode s i = Lib.decodeN (s.size - i) (by_ s i) (by_ s (i + 1)) (by_ s (i + 2)) (by_ s (i + 3)) := Lib.decode_at s i
def rsN (n b0 b1 b2 b3 : Nat) : Int × Int := if Lib.decodeN n b0 b1 b2 b3 = (65533, 1) then (0, 0) else ((Lib.decodeN n b0 b1 b2 b3).2, (Lib.decodeN n b0 b1 b2 b3).1)
theorem rs_eq (s : ByteArray) (i : Nat) : rs s i = rsN (s.size - i) (by_ s i) (by_ s (i + 1)) (by_ s (i + 2)) (by_ s (i + 3)) := by unfold rs rsN; rw [decode_by]
theorem rsN_bad {n b0 b1 b2 b3 : Nat} (h : Lib.decodeN n b0 b1 b2 b3 = (65533, 1)) : rsN n b0 b1 b2 b3 = (0, 0) := by unfold rsN; rw [if_pos h]
theorem rsN_good {n b0 b1 b2 b3 r m : Nat} (h : Lib.decodeN n b0 b1 b2 b3 = (r, m)) (hn : ¬ (r = 65533 ∧ m = 1)) : rsN n b0 b1 b2 b3 = ((m : Int), (r : Int)) := by
  unfold rsN; rw [h, if_neg (fun e => hn (by simpa using e))]
theorem rsN_one {n b0 b1 b2 b3 : Nat} (h : b0 < 128) : rsN n b0 b1 b2 b3 = (1, (b0 : Int)) := by
  rw [rsN_good (r := b0) (m := 1) (by unfold Lib.decodeN; rw [if_pos h]) (by omega)]; rfl
theorem rsN_low {n b0 b1 b2 b3 : Nat} (h : 128 ≤ b0) (h0 : b0 < 256) (h1 : b0 < 194 ∨ 244 < b0) (hb1 : b1 < 256) (hb2 : b2 < 256) (hb3 : b3 < 256) : rsN n b0 b1 b2 b3 = (0, 0) := by
  refine rsN_bad ?_
  unfold Lib.decodeN
  rw [if_neg (by omega)]
  by_cases c1 : b0 / 32 = 6 ∧ (1 < n ∧ b1 / 64 = 2)
  · rw [if_pos c1, if_neg (by omega)]
  · rw [if_neg c1, if_neg (by omega)]
    by_cases c3 : b0 / 8 = 30 ∧ (1 < n ∧ b1 / 64 = 2) ∧ (2 < n ∧ b2 / 64 = 2) ∧ (3 < n ∧ b3 / 64 = 2)
    · rw [if_pos c3, if_neg (by omega)]
    · rw [if_neg c3]
theorem rsN_two_bad {n b0 b1 b2 b3 : Nat} (h : 194 ≤ b0) (h0 : b0 ≤ 223) (hb : ¬ (2 ≤ n ∧ 128 ≤ b1 ∧ b1 ≤ 191)) (hb1 : b1 < 256) : rsN n b0 b1 b2 b3 = (0, 0) := by
  refine rsN_bad ?_
  unfold Lib.decodeN
  rw [if_neg (by omega), if_neg (by omega), if_neg (by omega), if_neg (by omega)]
theorem rsN_two {n b0 b1 b2 b3 : Nat} (h : 194 ≤ b0) (h0 : b0 ≤ 223) (hn : 2 ≤ n) (h1 : 128 ≤ b1) (h2 : b1 ≤ 191) : rsN n b0 b1 b2 b3 = (2, 64 * ((b0 : Int) - 192) + b1 - 128) := by
  rw [rsN_good (r := b0 % 32 * 64 + b1 % 64) (m := 2) (by unfold Lib.decodeN; rw [if_neg (by omega), if_pos (by omega), if_pos (by omega)]) (by omega)]
  refine Prod.ext rfl ?_
  show ((b0 % 32 * 64 + b1 % 64 : Nat) : Int) = _
  omega
theorem rsN_three_bad {n b0 b1 b2 b3 : Nat} (h : 224 ≤ b0) (h0 : b0 ≤ 239) (hb : ¬ (3 ≤ n ∧ (128 ≤ b1 ∧ b1 ≤ 191) ∧ (128 ≤ b2 ∧ b2 ≤ 191))) (hb1 : b1 < 256) (hb2 : b2 < 256) : rsN n b0 b1 b2 b3 = (0, 0) := by
  refine rsN_bad ?_
  unfold Lib.decodeN
  rw [if_neg (by omega), if_neg (by omega), if_neg (by omega), if_neg (by omega)]
theorem rsN_three_out {n b0 b1 b2 b3 : Nat} (h : 224 ≤ b0) (h0 : b0 ≤ 239) (hn : 3 ≤ n) (h1 : 128 ≤ b1 ∧ b1 ≤ 191) (h2 : 128 ≤ b2 ∧ b2 ≤ 191)
    (hv : 64 * (64 * ((b0 : Int) - 224) + b1 - 128) + b2 - 128 < 2048 ∨ (55296 ≤ 64 * (64 * ((b0 : Int) - 224) + b1 - 128) + b2 - 128 ∧ 64 * (64 * ((b0 : Int) - 224) + b1 - 128) + b2 - 128 ≤ 57343)) : rsN n b0 b1 b2 b3 = (0, 0) := by
  refine rsN_bad ?_
  unfold Lib.decodeN
  rw [if_neg (by omega), if_neg (by omega), if_pos (by omega), if_neg (by omega)]
theorem rsN_three {n b0 b1 b2 b3 : Nat} (h : 224 ≤ b0) (h0 : b0 ≤ 239) (hn : 3 ≤ n) (h1 : 128 ≤ b1 ∧ b1 ≤ 191) (h2 : 128 ≤ b2 ∧ b2 ≤ 191)
    (hv : ¬ (64 * (64 * ((b0 : Int) - 224) + b1 - 128) + b2 - 128 < 2048 ∨ (55296 ≤ 64 * (64 * ((b0 : Int) - 224) + b1 - 128) + b2 - 128 ∧ 64 * (64 * ((b0 : Int) - 224) + b1 - 128) + b2 - 128 ≤ 57343))) :
    rsN n b0 b1 b2 b3 = (3, 64 * (64 * ((b0 : Int) - 224) + b1 - 128) + b2 - 128) := by
  rw [rsN_good (r := b0 % 16 * 4096 + b1 % 64 * 64 + b2 % 64) (m := 3) (by unfold Lib.decodeN; rw [if_neg (by omega), if_neg (by omega), if_pos (by omega), if_pos (by omega)]) (by omega)]
  refine Prod.ext rfl ?_
  show ((b0 % 16 * 4096 + b1 % 64 * 64 + b2 % 64 : Nat) : Int) = _
  omega
theorem rsN_four_bad {n b0 b1 b2 b3 : Nat} (h : 240 ≤ b0) (h0 : b0 ≤ 244) (hb : ¬ (4 ≤ n ∧ (128 ≤ b1 ∧ b1 ≤ 191) ∧ (128 ≤ b2 ∧ b2 ≤ 191) ∧ (128 ≤ b3 ∧ b3 ≤ 191))) (hb1 : b1 < 256) (hb2 : b2 < 256) (hb3 : b3 < 256) : rsN n b0 b1 b2 b3 = (0, 0) := by
  refine rsN_bad ?_
  unfold Lib.decodeN
  rw [if_neg (by omega), if_neg (by omega), if_neg (by omega), if_neg (by omega)]
theorem rsN_four_out {n b0 b1 b2 b3 : Nat} (h : 240 ≤ b0) (h0 : b0 ≤ 244) (hn : 4 ≤ n) (h1 : 128 ≤ b1 ∧ b1 ≤ 191) (h2 : 128 ≤ b2 ∧ b2 ≤ 191) (h3 : 128 ≤ b3 ∧ b3 ≤ 191)
    (hv : 64 * (64 * (64 * ((b0 : Int) - 240) + b1 - 128) + b2 - 128) + b3 - 128 < 65536 ∨ 1114111 < 64 * (64 * (64 * ((b0 : Int) - 240) + b1 - 128) + b2 - 128) + b3 - 128) : rsN n b0 b1 b2 b3 = (0, 0) := by
  refine rsN_bad ?_
  unfold Lib.decodeN
  rw [if_neg (by omega), if_neg (by omega), if_neg (by omega), if_pos (by omega), if_neg (by omega)]
theorem rsN_four {n b0 b1 b2 b3 : Nat} (h : 240 ≤ b0) (h0 : b0 ≤ 244) (hn : 4 ≤ n) (h1 : 128 ≤ b1 ∧ b1 ≤ 191) (h2 : 128 ≤ b2 ∧ b2 ≤ 191) (h3 : 128 ≤ b3 ∧ b3 ≤ 191)
    (hv : ¬ (64 * (64 * (64 * ((b0 : Int) - 240) + b1 - 128) + b2 - 128) + b3 - 128 < 65536 ∨ 1114111 < 64 * (64 * (64 * ((b0 : Int) - 240) + b1 - 128) + b2 - 128) + b3 - 128)) :
    rsN n b0 b1 b2 b3 = (4, 64 * (64 * (64 * ((b0 : Int) - 240) + b1 - 128) + b2 - 128) + b3 - 128) := by
  rw [rsN_good (r := b0 % 8 * 262144 + b1 % 64 * 4096 + b2 % 64 * 64 + b3 % 64) (m := 4) (by unfold Lib.decodeN; rw [if_neg (by omega), if_neg (by omega), if_neg (by omega), if_pos (by omega), if_pos (by omega)]) (by omega)]
  refine Prod.ext rfl ?_
  show ((b0 % 8 * 262144 + b1 % 64 * 4096 + b2 % 64 * 64 + b3 % 64 : Nat) : Int) = _
  omega
theorem tup2 {a b : Int} {p : Int × Int} (h : p = (a, b)) : Ending.returned (.tuple #[.int .i64 a, .int .i64 b]) = .returned (.tuple #[.int .i64 p.1, .int .i64 p.2]) := by rw [h]

set_option maxRecDepth 100000 in
set_option maxHeartbeats 2000000 in
theorem size_any (s : ByteArray) (i : Nat) (w : World) (hs : s.size ≤ 1000) (hi : i < s.size) :
    Calls Tryz.prog 50 #[.string s, .int .i64 i] w fun e w' => e = .returned (.tuple #[.int .i64 (rs s i).1, .int .i64 (rs s i).2]) ∧ w = w' := by
  rw [rs_eq]
  have hI : ∀ W, (Instr.index 9 (.string s) (.int .i64 (i : Int))).run Tryz.prog W = .ok (.int .u8 (by_ s i : Nat)) W := fun W => run_byte s i 9 Tryz.underlying9 hi W
  have hJ : ∀ j : Nat, i + j < s.size → ∀ W, (Instr.index 9 (.string s) (.int .i64 ((i : Int) + (j : Int)))).run Tryz.prog W = .ok (.int .u8 (by_ s (i + j) : Nat)) W := fun j hj W => by
    have := run_byte (P := Tryz.prog) s (i + j) 9 Tryz.underlying9 hj W
    simpa using this
  have g0 := by_lt s i
  have g1 := by_lt s (i + 1)
  have g2 := by_lt s (i + 2)
  have g3 := by_lt s (i + 3)
  have HJ1 : i + 1 < s.size → ∀ W, (Instr.index 9 (.string s) (.int .i64 ((i : Int) + 1))).run Tryz.prog W = .ok (.int .u8 (by_ s (i + 1) : Nat)) W := fun h => hJ 1 h
  have HJ2 : i + 2 < s.size → ∀ W, (Instr.index 9 (.string s) (.int .i64 ((i : Int) + 2))).run Tryz.prog W = .ok (.int .u8 (by_ s (i + 2) : Nat)) W := fun h => hJ 2 h
  have HJ3 : i + 3 < s.size → ∀ W, (Instr.index 9 (.string s) (.int .i64 ((i : Int) + 3))).run Tryz.prog W = .ok (.int .u8 (by_ s (i + 3) : Nat)) W := fun h => hJ 3 h
  clear hJ
  have K1 := mk_hid HJ1
  have K2 := mk_hid HJ2
  have K3 := mk_hid HJ3
  clear HJ1 HJ2 HJ3
  generalize by_ s i = b0 at *
  generalize by_ s (i + 1) = b1 at *
  generalize by_ s (i + 2) = b2 at *
  generalize by_ s (i + 3) = b3 at *
  have hi' : (i : Int) < (s.size : Int) := by omega
  have hi0 : ¬ (i : Int) < 0 := by omega
  by_cases c1 : b0 < 128
  · have c1' : (b0 : Int) < 128 := by omega
    go_enter Tryz.func50, Tryz.ntmps50
    go_wp2
    go_ret2
    exact ⟨tup2 (rsN_one c1), rfl⟩
  have c1' : ¬ (b0 : Int) < 128 := by omega
  by_cases c2 : b0 < 194 ∨ 244 < b0
  · have hr := mk_hid (rsN_low (n := s.size - i) (by omega) g0 c2 g1 g2 g3)
    rcases c2 with c2 | c2
    · have c3 : ¬ (194 : Int) ≤ (b0 : Int) := by omega
      have c4 : ¬ (224 : Int) ≤ (b0 : Int) := by omega
      have c5 : ¬ (240 : Int) ≤ (b0 : Int) := by omega
      go_enter Tryz.func50, Tryz.ntmps50
      go_wp2
      go_ret2
      exact ⟨tup2 hr.out, rfl⟩
    · have c3 : ¬ (b0 : Int) ≤ 223 := by omega
      have c4 : ¬ (b0 : Int) ≤ 239 := by omega
      have c5 : ¬ (b0 : Int) ≤ 244 := by omega
      go_enter Tryz.func50, Tryz.ntmps50
      go_wp2
      go_ret2
      exact ⟨tup2 hr.out, rfl⟩
  have d194 : (194 : Int) ≤ (b0 : Int) := by omega
  have d244 : (b0 : Int) ≤ 244 := by omega
  by_cases c3 : b0 ≤ 223
  · have c3' : (b0 : Int) ≤ 223 := by omega
    by_cases hb : 2 ≤ s.size - i ∧ 128 ≤ b1 ∧ b1 ≤ 191
    · have hr := mk_hid (rsN_two (b2 := b2) (b3 := b3) (by omega) c3 hb.1 hb.2.1 hb.2.2)
      have k1 := K1.out (by omega)
      have e1 : ¬ (s.size : Int) < (i : Int) + 2 := by omega
      have e2 : (128 : Int) ≤ (b1 : Int) := by omega
      have e3 : (b1 : Int) ≤ 191 := by omega
      clear hb
      go_enter Tryz.func50, Tryz.ntmps50
      go_wp2
      refine wp_loop_rounds 2 ?_
      rw [rounds_succ]
      go_wp2
      rw [rounds_succ]
      go_wp2
      go_ret2
      exact ⟨tup2 hr.out, rfl⟩
    · have hr := mk_hid (rsN_two_bad (b2 := b2) (b3 := b3) (by omega) c3 hb g1)
      by_cases e1 : (s.size : Int) < (i : Int) + 2
      · go_enter Tryz.func50, Tryz.ntmps50
        go_wp2
        go_ret2
        exact ⟨tup2 hr.out, rfl⟩
      · have k1 := K1.out (by omega)
        have e2 : (b1 : Int) < 128 ∨ 191 < (b1 : Int) := by omega
        clear hb
        rcases e2 with e2 | e2
        all_goals
          go_enter Tryz.func50, Tryz.ntmps50
          go_wp2
          refine wp_loop_rounds 2 ?_
          rw [rounds_succ]
          go_wp2
          go_ret2
          exact ⟨tup2 hr.out, rfl⟩
  have d224 : (224 : Int) ≤ (b0 : Int) := by omega
  have d223 : ¬ (b0 : Int) ≤ 223 := by omega
  by_cases c4 : b0 ≤ 239
  · have c4' : (b0 : Int) ≤ 239 := by omega
    by_cases e1 : (s.size : Int) < (i : Int) + 3
    · have hr := mk_hid (rsN_three_bad (b3 := b3) (n := s.size - i) (b1 := b1) (b2 := b2) (by omega) c4 (by omega) g1 g2)
      go_enter Tryz.func50, Tryz.ntmps50
      go_wp2
      go_ret2
      exact ⟨tup2 hr.out, rfl⟩
    have k1 := K1.out (by omega)
    have k2 := K2.out (by omega)
    by_cases f1 : (b1 : Int) < 128 ∨ 191 < (b1 : Int)
    · have hr := mk_hid (rsN_three_bad (b3 := b3) (n := s.size - i) (b1 := b1) (b2 := b2) (by omega) c4 (by omega) g1 g2)
      rcases f1 with f1 | f1
      all_goals
        go_enter Tryz.func50, Tryz.ntmps50
        go_wp2
        refine wp_loop_rounds 3 ?_
        rw [rounds_succ]
        go_wp2
        go_ret2
        exact ⟨tup2 hr.out, rfl⟩
    have p1 : (128 : Int) ≤ (b1 : Int) := by omega
    have q1 : (b1 : Int) ≤ 191 := by omega
    clear f1
    by_cases f2 : (b2 : Int) < 128 ∨ 191 < (b2 : Int)
    · have hr := mk_hid (rsN_three_bad (b3 := b3) (n := s.size - i) (b1 := b1) (b2 := b2) (by omega) c4 (by omega) g1 g2)
      rcases f2 with f2 | f2
      all_goals
        go_enter Tryz.func50, Tryz.ntmps50
        go_wp2
        refine wp_loop_rounds 3 ?_
        rw [rounds_succ]
        go_wp2
        rw [rounds_succ]
        go_wp2
        go_ret2
        exact ⟨tup2 hr.out, rfl⟩
    have p2 : (128 : Int) ≤ (b2 : Int) := by omega
    have q2 : (b2 : Int) ≤ 191 := by omega
    clear f2
    by_cases v1 : 64 * (64 * ((b0 : Int) - 224) + (b1 : Int) - 128) + (b2 : Int) - 128 < 2048
    · have hr := mk_hid (rsN_three_out (b0 := b0) (b1 := b1) (b2 := b2) (b3 := b3) (n := s.size - i) (by omega) c4 (by omega) ⟨by omega, by omega⟩ ⟨by omega, by omega⟩ (.inl v1))
      go_enter Tryz.func50, Tryz.ntmps50
      go_wp2
      refine wp_loop_rounds 3 ?_
      rw [rounds_succ]
      go_wp2
      rw [rounds_succ]
      go_wp2
      rw [rounds_succ]
      go_wp2
      go_ret2
      exact ⟨tup2 hr.out, rfl⟩
    have v2 : ¬ (1114111 < 64 * (64 * ((b0 : Int) - 224) + (b1 : Int) - 128) + (b2 : Int) - 128) := by omega
    by_cases v3 : 55296 ≤ 64 * (64 * ((b0 : Int) - 224) + (b1 : Int) - 128) + (b2 : Int) - 128
    · by_cases v4 : 64 * (64 * ((b0 : Int) - 224) + (b1 : Int) - 128) + (b2 : Int) - 128 ≤ 57343
      · have hr := mk_hid (rsN_three_out (b0 := b0) (b1 := b1) (b2 := b2) (b3 := b3) (n := s.size - i) (by omega) c4 (by omega) ⟨by omega, by omega⟩ ⟨by omega, by omega⟩ (.inr ⟨v3, v4⟩))
        go_enter Tryz.func50, Tryz.ntmps50
        go_wp2
        refine wp_loop_rounds 3 ?_
        rw [rounds_succ]
        go_wp2
        rw [rounds_succ]
        go_wp2
        rw [rounds_succ]
        go_wp2
        go_ret2
        exact ⟨tup2 hr.out, rfl⟩
      · have hr := mk_hid (rsN_three (b0 := b0) (b1 := b1) (b2 := b2) (b3 := b3) (n := s.size - i) (by omega) c4 (by omega) ⟨by omega, by omega⟩ ⟨by omega, by omega⟩ (by omega))
        go_enter Tryz.func50, Tryz.ntmps50
        go_wp2
        refine wp_loop_rounds 3 ?_
        rw [rounds_succ]
        go_wp2
        rw [rounds_succ]
        go_wp2
        rw [rounds_succ]
        go_wp2
        go_ret2
        exact ⟨tup2 hr.out, rfl⟩
    · have hr := mk_hid (rsN_three (b0 := b0) (b1 := b1) (b2 := b2) (b3 := b3) (n := s.size - i) (by omega) c4 (by omega) ⟨by omega, by omega⟩ ⟨by omega, by omega⟩ (by omega))
      go_enter Tryz.func50, Tryz.ntmps50
      go_wp2
      refine wp_loop_rounds 3 ?_
      rw [rounds_succ]
      go_wp2
      rw [rounds_succ]
      go_wp2
      rw [rounds_succ]
      go_wp2
      go_ret2
      exact ⟨tup2 hr.out, rfl⟩
  · have c4' : ¬ (b0 : Int) ≤ 239 := by omega
    have d240 : (240 : Int) ≤ (b0 : Int) := by omega
    by_cases e1 : (s.size : Int) < (i : Int) + 4
    · have hr := mk_hid (rsN_four_bad (b0 := b0) (n := s.size - i) (b1 := b1) (b2 := b2) (b3 := b3) (by omega) (by omega) (by omega) g1 g2 g3)
      go_enter Tryz.func50, Tryz.ntmps50
      go_wp2
      go_ret2
      exact ⟨tup2 hr.out, rfl⟩
    have k1 := K1.out (by omega)
    have k2 := K2.out (by omega)
    have k3 := K3.out (by omega)
    by_cases f1 : (b1 : Int) < 128 ∨ 191 < (b1 : Int)
    · have hr := mk_hid (rsN_four_bad (b0 := b0) (n := s.size - i) (b1 := b1) (b2 := b2) (b3 := b3) (by omega) (by omega) (by omega) g1 g2 g3)
      rcases f1 with f1 | f1
      all_goals
        go_enter Tryz.func50, Tryz.ntmps50
        go_wp2
        refine wp_loop_rounds 4 ?_
        rw [rounds_succ]
        go_wp2
        go_ret2
        exact ⟨tup2 hr.out, rfl⟩
    have p1 : (128 : Int) ≤ (b1 : Int) := by omega
    have q1 : (b1 : Int) ≤ 191 := by omega
    clear f1
    by_cases f2 : (b2 : Int) < 128 ∨ 191 < (b2 : Int)
    · have hr := mk_hid (rsN_four_bad (b0 := b0) (n := s.size - i) (b1 := b1) (b2 := b2) (b3 := b3) (by omega) (by omega) (by omega) g1 g2 g3)
      rcases f2 with f2 | f2
      all_goals
        go_enter Tryz.func50, Tryz.ntmps50
        go_wp2
        refine wp_loop_rounds 4 ?_
        rw [rounds_succ]
        go_wp2
        rw [rounds_succ]
        go_wp2
        go_ret2
        exact ⟨tup2 hr.out, rfl⟩
    have p2 : (128 : Int) ≤ (b2 : Int) := by omega
    have q2 : (b2 : Int) ≤ 191 := by omega
    clear f2
    by_cases f3 : (b3 : Int) < 128 ∨ 191 < (b3 : Int)
    · have hr := mk_hid (rsN_four_bad (b0 := b0) (n := s.size - i) (b1 := b1) (b2 := b2) (b3 := b3) (by omega) (by omega) (by omega) g1 g2 g3)
      rcases f3 with f3 | f3
      all_goals
        go_enter Tryz.func50, Tryz.ntmps50
        go_wp2
        refine wp_loop_rounds 4 ?_
        rw [rounds_succ]
        go_wp2
        rw [rounds_succ]
        go_wp2
        rw [rounds_succ]
        go_wp2
        go_ret2
        exact ⟨tup2 hr.out, rfl⟩
    have p3 : (128 : Int) ≤ (b3 : Int) := by omega
    have q3 : (b3 : Int) ≤ 191 := by omega
    clear f3
    by_cases v1 : 64 * (64 * (64 * ((b0 : Int) - 240) + (b1 : Int) - 128) + (b2 : Int) - 128) + (b3 : Int) - 128 < 65536
    · have hr := mk_hid (rsN_four_out (b0 := b0) (b1 := b1) (b2 := b2) (b3 := b3) (n := s.size - i) (by omega) (by omega) (by omega) ⟨by omega, by omega⟩ ⟨by omega, by omega⟩ ⟨by omega, by omega⟩ (.inl v1))
      go_enter Tryz.func50, Tryz.ntmps50
      go_wp2
      refine wp_loop_rounds 4 ?_
      rw [rounds_succ]
      go_wp2
      rw [rounds_succ]
      go_wp2
      rw [rounds_succ]
      go_wp2
      rw [rounds_succ]
      go_wp2
      go_ret2
      exact ⟨tup2 hr.out, rfl⟩
    by_cases v2 : 1114111 < 64 * (64 * (64 * ((b0 : Int) - 240) + (b1 : Int) - 128) + (b2 : Int) - 128) + (b3 : Int) - 128
    · have hr := mk_hid (rsN_four_out (b0 := b0) (b1 := b1) (b2 := b2) (b3 := b3) (n := s.size - i) (by omega) (by omega) (by omega) ⟨by omega, by omega⟩ ⟨by omega, by omega⟩ ⟨by omega, by omega⟩ (.inr v2))
      go_enter Tryz.func50, Tryz.ntmps50
      go_wp2
      refine wp_loop_rounds 4 ?_
      rw [rounds_succ]
      go_wp2
      rw [rounds_succ]
      go_wp2
      rw [rounds_succ]
      go_wp2
      rw [rounds_succ]
      go_wp2
      go_ret2
      exact ⟨tup2 hr.out, rfl⟩
    have v3 : ¬ (64 * (64 * (64 * ((b0 : Int) - 240) + (b1 : Int) - 128) + (b2 : Int) - 128) + (b3 : Int) - 128 ≤ 57343) := by omega
    have hr := mk_hid (rsN_four (b0 := b0) (b1 := b1) (b2 := b2) (b3 := b3) (n := s.size - i) (by omega) (by omega) (by omega) ⟨by omega, by omega⟩ ⟨by omega, by omega⟩ ⟨by omega, by omega⟩ (by omega))
    go_enter Tryz.func50, Tryz.ntmps50
    go_wp2
    refine wp_loop_rounds 4 ?_
    rw [rounds_succ]
    go_wp2
    rw [rounds_succ]
    go_wp2
    rw [rounds_succ]
    go_wp2
    rw [rounds_succ]
    go_wp2
    go_ret2
    exact ⟨tup2 hr.out, rfl⟩
end Go.Proofs.YtgcjmjhdnkffcaaGreatDoor
