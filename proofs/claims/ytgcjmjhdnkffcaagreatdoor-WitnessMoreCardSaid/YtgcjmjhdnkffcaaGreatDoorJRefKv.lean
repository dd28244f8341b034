/- The reference's sessions and pairs (layers 7, 22, 23, 25), walked; no condition but lengths. -/
import Derived.Test.YtgcjmjhdnkffcaaGreatDoorJData
import Derived.RegionTactic
set_option linter.unusedVariables false
namespace Go.Proofs.YtgcjmjhdnkffcaaGreatDoor
open Go.RowKit
theorem refhas_any (v k : Int) (w : World) : Calls Tryz.prog 21 #[.int .i64 v, .int .i64 k] w fun e w' => e = .returned (.bool (hasB v k)) ∧ w = w' := by
  generalize hpost : (fun (e : Ending) w' => e = .returned (.bool (hasB v k)) ∧ w = w') = post
  go_enter Tryz.func21, Tryz.ntmps21
  go_wp2
  all_goals
    subst hpost
    refine ⟨ret_bool ?_, rfl⟩
    simp [hasB, *]
    try omega
    try simp_all
    try omega
set_option maxHeartbeats 1000000 in
theorem reflast_any (A : Option Addr) (len cap : Nat) (l : List Sess) (c : Int) (w : World) (h : len ≤ 1000) (hl : SlOf Sess.cells 8 w A len l) :
    Calls Tryz.prog 20 #[.slice A len cap, .int .i64 c] w fun e w' => e = .returned (.tuple #[.int .i64 (lastOf c l).1, (lastOf c l).2.agg]) ∧ Only nob w w' := by
  go_enter Tryz.func20, Tryz.ntmps20
  go_wp2
  go_loopw [6] (fun i wr => ∃ k : Nat, k ≤ len ∧ i = .int .i64 k ∧ lastOf c l = lastOf c (l.drop k) ∧ wr = w.alloc (.cells #[.int .i64 0, .int .i64 0, .int .i64 0, .bool false, .string ⟨#[]⟩, .int .i64 0] 28)) (fun i _ => len - (intOf i).toNat)
  case atStart => exact ⟨0, by omega, rfl, rfl, rfl⟩
  case round =>
    obtain ⟨k, hk, rfl, hF, rfl⟩ := hrel
    have HF := mk_hid hF
    clear hF
    by_cases hlt : k < len
    · obtain ⟨x, s, rfl, hp, hmem, hxb, hat⟩ := (hl.none ((Only.refl _ _).alloc (.cells #[.int .i64 0, .int .i64 0, .int .i64 0, .bool false, .string ⟨#[]⟩, .int .i64 0] 28))).get hlt
      have hd : Hid (l.drop k = s :: l.drop (k + 1)) := mk_hid (drop_at hp)
      obtain ⟨f0, f1, f2, f3, f4, f5, f6, f7⟩ := Sess.facts hat
      have h1 : (k : Int) < (len : Int) := by omega
      have h2 : ¬ (k : Int) < 0 := by omega
      clear hat hp hl
      by_cases hc : s.client = c
      · have hc' : (s.client == c) = true := by simpa using hc
        have hE : Hid (lastOf c l = (s.seq, s.last)) := mk_hid (by rw [HF.out, hd.out]; unfold lastOf; rw [if_pos hc])
        clear hc
        go_wp2
        go_region
        go_wp2
        refine bodyPost_ret (v := .tuple #[.int .i64 s.seq, s.last.agg]) (by simp [results, Tryz.results20, go_sem, Ans.agg]) rfl ⟨by rw [hE.out], ?_⟩
        (repeat (first | with_reducible exact Only.refl _ _ | with_reducible assumption | with_reducible refine Only.drew ?_ | with_reducible refine Only.drewN ?_ _ | with_reducible refine Only.alloc ?_ _))
      · have hc' : (s.client == c) = false := by simpa using hc
        have hE : Hid (lastOf c l = lastOf c (l.drop (k + 1))) := mk_hid (by rw [HF.out, hd.out, lastOf, if_neg hc])
        clear hc
        go_wp2
        go_roundw
        case rel => exact ⟨k + 1, by omega, by go_num, hE.out, by first | rfl | trivial⟩
        case measure => simp [intOf]; omega
    · obtain rfl : k = len := by omega
      have hE : Hid (lastOf c l = (0, Ans.zero)) := mk_hid (by rw [HF.out, List.drop_of_length_le (by have := hl.1; omega)]; rfl)
      go_wp2
      refine bodyPost_ret (v := .tuple #[.int .i64 0, Ans.zero.agg]) (by simp [results, Tryz.results20, go_sem, Ans.agg, Ans.zero]) rfl ⟨by rw [hE.out], ?_⟩
      (repeat (first | with_reducible exact Only.refl _ _ | with_reducible assumption | with_reducible refine Only.drew ?_ | with_reducible refine Only.drewN ?_ _ | with_reducible refine Only.alloc ?_ _))
def placeI : Option Nat → Int | some i => i | none => -1
set_option maxHeartbeats 1000000 in
theorem refplace_any (A : Option Addr) (len cap : Nat) (l : List Pair) (key : ByteArray) (w : World) (h : len ≤ 1000) (hl : SlOf Pair.cells 3 w A len l) :
    Calls Tryz.prog 53 #[.slice A len cap, .string key] w fun e w' => e = .returned (.int .i64 (placeI (placeP key l))) ∧ w = w' := by
  go_enter Tryz.func53, Tryz.ntmps53
  go_wp2
  go_loop [5] (fun i => ∃ k : Nat, k ≤ len ∧ i = .int .i64 k ∧ placeP key l = (placeP key (l.drop k)).map (· + k)) (fun i => len - (intOf i).toNat)
  case atStart => exact ⟨0, by omega, rfl, by simp⟩
  case round =>
    obtain ⟨k, hk, rfl, hF⟩ := hrel
    have HF := mk_hid hF
    clear hF
    by_cases hlt : k < len
    · obtain ⟨x, s, rfl, hp, hmem, hxb, hat⟩ := hl.get hlt
      have hd : Hid (l.drop k = s :: l.drop (k + 1)) := mk_hid (drop_at hp)
      obtain ⟨f0, f1, f2⟩ := Pair.facts hat
      have h1 : (k : Int) < (len : Int) := by omega
      have h2 : ¬ (k : Int) < 0 := by omega
      clear hat hp hl
      cases hc : beq s.key key
      · have hc' : (s.key.toList == key.toList) = false := hc
        have hE : Hid (placeP key l = (placeP key (l.drop (k + 1))).map (· + (k + 1))) := mk_hid (by
          rw [HF.out, hd.out, placeP, hc]; simp [Option.map_map, Function.comp_def, Nat.add_assoc, Nat.add_comm 1 k])
        clear hc
        go_wp2
        go_round
        case rel => exact ⟨k + 1, by omega, by go_num, hE.out⟩
        case measure => simp [intOf]; omega
      · have hc' : (s.key.toList == key.toList) = true := hc
        have hE : Hid (placeP key l = some k) := mk_hid (by rw [HF.out, hd.out, placeP, hc]; simp)
        clear hc
        go_wp2
        go_ret
        exact ⟨by rw [hE.out]; rfl, rfl⟩
    · obtain rfl : k = len := by omega
      have hE : Hid (placeP key l = none) := mk_hid (by rw [HF.out, List.drop_of_length_le (by have := hl.1; omega)]; rfl)
      go_wp2
      go_ret
      exact ⟨by rw [hE.out]; rfl, rfl⟩
end Go.Proofs.YtgcjmjhdnkffcaaGreatDoor
