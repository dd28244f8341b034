/- Which inputs the law leaves alone (layers 28, 43), walked: what is known where the answer is no. -/
import Derived.Test.YtgcjmjhdnkffcaaGreatDoorJData
set_option linter.unusedVariables false
set_option linter.unusedSimpArgs false
namespace Go.Proofs.YtgcjmjhdnkffcaaGreatDoor
open Go.RowKit
def Cmd.small (c : Cmd) : Prop := c.key.size ≤ 200 ∧ c.val.size ≤ 200 ∧ c.old.size ≤ 200
def LargePost (w : World) (p : Prop) (e : Ending) (w' : World) : Prop := (∃ b, e = .returned (.bool b) ∧ (b = false → p)) ∧ Only nob w w'
set_option maxHeartbeats 2000000 in
theorem large28_any (X : Option Addr) (len cap : Nat) (l : List Cmd) (w : World) (hmax : len ≤ 9223372036854775807) (hl : SlOf Cmd.cells 7 w X len l) :
    Calls Tryz.prog 4 #[.slice X len cap] w (LargePost w (len ≤ 60 ∧ ∀ c ∈ l, c.small)) := by
  go_enter Tryz.func4, Tryz.ntmps4
  go_wp2
  go_loopw [3] (fun i wr => ∃ (k : Nat), k ≤ len ∧ k ≤ 60 ∧ i = .int .i64 k ∧ (∀ j c, j < k → l[j]? = some c → c.small) ∧ wr = w) (fun i _ => len - (intOf i).toNat)
  case atStart => exact ⟨0, by omega, by omega, rfl, by omega, rfl⟩
  case round =>
    obtain ⟨k, hk, hk2, rfl, hF0, rfl⟩ := hrel
    have HF := mk_hid hF0
    have hll := hl.1
    clear hF0
    by_cases hlt : k < len
    · by_cases hlt2 : k < 60
      · obtain ⟨x, cm, rfl, hp, hmem, hxb, hat⟩ := hl.get hlt
        obtain ⟨f0, f1, f2, f3, f4, f5, f6⟩ := Cmd.facts hat
        have h1 : (k : Int) < (len : Int) := by omega
        have h2 : ¬ (k : Int) < 0 := by omega
        have h3 : (0 : Int) ≤ (k : Int) := by omega
        have h4 : (k : Int) < 60 := by omega
        have HP := mk_hid hp
        clear hp hl hat
        by_cases c1 : 200 < cm.key.size
        · have c1' : (200 : Int) < (cm.key.size : Int) := by omega
          go_wp2
          exact bodyPost_ret (v := .bool true) (by simp [results, Tryz.results4, go_sem, *]) rfl ⟨⟨true, rfl, fun h => by cases h⟩, Only.refl _ _⟩
        · have c1' : ¬ (200 : Int) < (cm.key.size : Int) := by omega
          by_cases c2 : 200 < cm.val.size
          · have c2' : (200 : Int) < (cm.val.size : Int) := by omega
            go_wp2
            exact bodyPost_ret (v := .bool true) (by simp [results, Tryz.results4, go_sem, *]) rfl ⟨⟨true, rfl, fun h => by cases h⟩, Only.refl _ _⟩
          · have c2' : ¬ (200 : Int) < (cm.val.size : Int) := by omega
            by_cases c3 : 200 < cm.old.size
            · have c3' : (200 : Int) < (cm.old.size : Int) := by omega
              go_wp2
              exact bodyPost_ret (v := .bool true) (by simp [results, Tryz.results4, go_sem, *]) rfl ⟨⟨true, rfl, fun h => by cases h⟩, Only.refl _ _⟩
            · have c3' : ¬ (200 : Int) < (cm.old.size : Int) := by omega
              have hS : Hid cm.small := mk_hid ⟨by omega, by omega, by omega⟩
              clear c1 c2 c3
              go_wp2
              go_roundw
              case rel =>
                refine ⟨k + 1, by omega, by omega, by go_num, fun j c hj hc => ?_, by first | rfl | trivial⟩
                rcases Nat.lt_succ_iff_lt_or_eq.1 hj with h | rfl
                · exact HF.out j c h hc
                · have := HP.out; rw [this] at hc; cases hc; exact hS.out
              case measure => simp [intOf]; omega
      · obtain rfl : k = 60 := by omega
        have h1 : ((60 : Nat) : Int) < (len : Int) := by omega
        have h5 : (60 : Int) < (len : Int) := by omega
        go_wp2
        exact bodyPost_ret (v := .bool true) (by simp [results, Tryz.results4, go_sem, *]) rfl ⟨⟨true, rfl, fun h => by cases h⟩, Only.refl _ _⟩
    · obtain rfl : k = len := by omega
      have h5 : ¬ (60 : Int) < (k : Int) := by omega
      have hA : Hid (k ≤ 60 ∧ ∀ c ∈ l, c.small) := mk_hid ⟨hk2, fun c hc => by
        obtain ⟨j, hj⟩ := List.mem_iff_getElem?.1 hc
        exact HF.out j c (by have := (List.getElem?_eq_some_iff.1 hj).1; omega) hj⟩
      go_wp2
      exact bodyPost_ret (v := .bool false) (by simp [results, Tryz.results4, go_sem, *]) rfl ⟨⟨false, rfl, fun _ => by first | exact hA.out | exact hA.out.2⟩, Only.refl _ _⟩
theorem Call.facts {w : World} {p : Addr} {s : Call} (h : At w p s.cells) : w.cell? p = some (.int .i64 s.cmd.kind) ∧ w.cell? ⟨p.block, p.off + 1, none⟩ = some (.int .i64 s.cmd.client) ∧ w.cell? ⟨p.block, p.off + 2, none⟩ = some (.int .i64 s.cmd.seq) ∧
    w.cell? ⟨p.block, p.off + 3, none⟩ = some (.string s.cmd.key) ∧ w.cell? ⟨p.block, p.off + 4, none⟩ = some (.string s.cmd.val) ∧ w.cell? ⟨p.block, p.off + 5, none⟩ = some (.string s.cmd.old) ∧ w.cell? ⟨p.block, p.off + 6, none⟩ = some (.int .i64 s.cmd.node) ∧
    w.cell? ⟨p.block, p.off + 7, none⟩ = some (.int .i64 s.beg) ∧ w.cell? ⟨p.block, p.off + 8, none⟩ = some (.int .i64 s.fin) ∧ w.cell? ⟨p.block, p.off + 9, none⟩ = some (.int .i64 s.ans.client) ∧ w.cell? ⟨p.block, p.off + 10, none⟩ = some (.int .i64 s.ans.seq) ∧
    w.cell? ⟨p.block, p.off + 11, none⟩ = some (.int .i64 s.ans.err) ∧ w.cell? ⟨p.block, p.off + 12, none⟩ = some (.bool s.ans.found) ∧ w.cell? ⟨p.block, p.off + 13, none⟩ = some (.string s.ans.val) ∧ w.cell? ⟨p.block, p.off + 14, none⟩ = some (.int .i64 s.ans.rev) :=
  ⟨h.zero, h.at_ 1 rfl (by omega), h.at_ 2 rfl (by omega), h.at_ 3 rfl (by omega), h.at_ 4 rfl (by omega), h.at_ 5 rfl (by omega), h.at_ 6 rfl (by omega), h.at_ 7 rfl (by omega), h.at_ 8 rfl (by omega), h.at_ 9 rfl (by omega), h.at_ 10 rfl (by omega), h.at_ 11 rfl (by omega), h.at_ 12 rfl (by omega), h.at_ 13 rfl (by omega), h.at_ 14 rfl (by omega)⟩
def Call.small (c : Call) : Prop := c.cmd.small ∧ c.ans.val.size ≤ 200
set_option maxRecDepth 100000 in
set_option maxHeartbeats 2000000 in
theorem large43_any (X : Option Addr) (len cap : Nat) (l : List Call) (w : World) (hmax : len ≤ 9223372036854775807) (hl : SlOf Call.cells 15 w X len l) :
    Calls Tryz.prog 5 #[.slice X len cap] w (LargePost w (len ≤ 40 ∧ ∀ c ∈ l, c.small)) := by
  go_enter Tryz.func5, Tryz.ntmps5
  go_wp2
  go_loopw [3] (fun i wr => ∃ (k : Nat), k ≤ len ∧ k ≤ 40 ∧ i = .int .i64 k ∧ (∀ j c, j < k → l[j]? = some c → c.small) ∧ Only nob w wr) (fun i _ => len - (intOf i).toNat)
  case atStart => exact ⟨0, by omega, by omega, rfl, by omega, Only.refl _ _⟩
  case round =>
    obtain ⟨k, hk, hk2, rfl, hF0, hO⟩ := hrel
    have HF := mk_hid hF0
    have hll := hl.1
    clear hF0
    by_cases hlt : k < len
    · by_cases hlt2 : k < 40
      · obtain ⟨x, cm, rfl, hp, hmem, hxb, hat⟩ := (hl.none hO).get hlt
        obtain ⟨f0, f1, f2, f3, f4, f5, f6, f7, f8, f9, f10, f11, f12, f13, f14⟩ := Call.facts hat
        have g13 := fun (o1 : Obj) => Only.cell ((Only.refl nob wr).alloc o1) f13 (fun h => h)
        have h1 : (k : Int) < (len : Int) := by omega
        have h2 : ¬ (k : Int) < 0 := by omega
        have h3 : (0 : Int) ≤ (k : Int) := by omega
        have h4 : (k : Int) < 40 := by omega
        have HP := mk_hid hp
        clear hp hl hat
        by_cases c1 : 200 < cm.cmd.key.size
        · have c1' : (200 : Int) < (cm.cmd.key.size : Int) := by omega
          go_wp2
          exact bodyPost_ret (v := .bool true) (by simp [results, Tryz.results5, go_sem, *]) rfl ⟨⟨true, rfl, fun h => by cases h⟩, hO.trans (by (repeat (first | with_reducible exact Only.refl _ _ | with_reducible assumption | with_reducible refine Only.drew ?_ | with_reducible refine Only.drewN ?_ _ | with_reducible refine Only.alloc ?_ _)))⟩
        · have c1' : ¬ (200 : Int) < (cm.cmd.key.size : Int) := by omega
          by_cases c2 : 200 < cm.cmd.val.size
          · have c2' : (200 : Int) < (cm.cmd.val.size : Int) := by omega
            go_wp2
            exact bodyPost_ret (v := .bool true) (by simp [results, Tryz.results5, go_sem, *]) rfl ⟨⟨true, rfl, fun h => by cases h⟩, hO.trans (by (repeat (first | with_reducible exact Only.refl _ _ | with_reducible assumption | with_reducible refine Only.drew ?_ | with_reducible refine Only.drewN ?_ _ | with_reducible refine Only.alloc ?_ _)))⟩
          · have c2' : ¬ (200 : Int) < (cm.cmd.val.size : Int) := by omega
            by_cases c3 : 200 < cm.cmd.old.size
            · have c3' : (200 : Int) < (cm.cmd.old.size : Int) := by omega
              go_wp2
              exact bodyPost_ret (v := .bool true) (by simp [results, Tryz.results5, go_sem, *]) rfl ⟨⟨true, rfl, fun h => by cases h⟩, hO.trans (by (repeat (first | with_reducible exact Only.refl _ _ | with_reducible assumption | with_reducible refine Only.drew ?_ | with_reducible refine Only.drewN ?_ _ | with_reducible refine Only.alloc ?_ _)))⟩
            · have c3' : ¬ (200 : Int) < (cm.cmd.old.size : Int) := by omega
              by_cases c4 : 200 < cm.ans.val.size
              · have c4' : (200 : Int) < (cm.ans.val.size : Int) := by omega
                go_wp2
                exact bodyPost_ret (v := .bool true) (by simp [results, Tryz.results5, go_sem, *]) rfl ⟨⟨true, rfl, fun h => by cases h⟩, hO.trans (by (repeat (first | with_reducible exact Only.refl _ _ | with_reducible assumption | with_reducible refine Only.drew ?_ | with_reducible refine Only.drewN ?_ _ | with_reducible refine Only.alloc ?_ _)))⟩
              · have c4' : ¬ (200 : Int) < (cm.ans.val.size : Int) := by omega
                have hS : Hid cm.small := mk_hid ⟨⟨by omega, by omega, by omega⟩, by omega⟩
                clear c1 c2 c3 c4
                go_wp2
                go_roundw
                case rel =>
                  refine ⟨k + 1, by omega, by omega, by go_num, fun j c hj hc => ?_, hO.trans (by (repeat (first | with_reducible exact Only.refl _ _ | with_reducible assumption | with_reducible refine Only.drew ?_ | with_reducible refine Only.drewN ?_ _ | with_reducible refine Only.alloc ?_ _)))⟩
                  rcases Nat.lt_succ_iff_lt_or_eq.1 hj with h | rfl
                  · exact HF.out j c h hc
                  · have := HP.out; rw [this] at hc; cases hc; exact hS.out
                case measure => simp [intOf]; omega
      · obtain rfl : k = 40 := by omega
        have h1 : ((40 : Nat) : Int) < (len : Int) := by omega
        have h5 : (40 : Int) < (len : Int) := by omega
        go_wp2
        exact bodyPost_ret (v := .bool true) (by simp [results, Tryz.results5, go_sem, *]) rfl ⟨⟨true, rfl, fun h => by cases h⟩, hO⟩
    · obtain rfl : k = len := by omega
      have h5 : ¬ (40 : Int) < (k : Int) := by omega
      have hA : Hid (k ≤ 40 ∧ ∀ c ∈ l, c.small) := mk_hid ⟨hk2, fun c hc => by
        obtain ⟨j, hj⟩ := List.mem_iff_getElem?.1 hc
        exact HF.out j c (by have := (List.getElem?_eq_some_iff.1 hj).1; omega) hj⟩
      go_wp2
      exact bodyPost_ret (v := .bool false) (by simp [results, Tryz.results5, go_sem, *]) rfl ⟨⟨false, rfl, fun _ => by first | exact hA.out | exact hA.out.2⟩, hO⟩
end Go.Proofs.YtgcjmjhdnkffcaaGreatDoor
