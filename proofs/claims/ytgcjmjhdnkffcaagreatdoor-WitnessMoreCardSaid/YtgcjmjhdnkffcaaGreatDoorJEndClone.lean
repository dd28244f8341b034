/- slices.Clone at the calls of this program. No condition but length. -/
import Derived.Test.YtgcjmjhdnkffcaaGreatDoorJEndIdx
import Derived.Test.YtgcjmjhdnkffcaaGreatDoorJKitD
import Derived.Shelf.SlicesE.Clone
set_option linter.unusedVariables false
set_option linter.unusedSimpArgs false
namespace Go.Proofs.YtgcjmjhdnkffcaaGreatDoor
open Go.Shelf Go.RowKit Go.Lib Go.Sort
theorem infoCall : (Tryz.prog.info? 30).map (fun i => (i.zero, i.size, i.bytes)) = some (some (.agg #[.int .i64 0, .int .i64 0, .int .i64 0, .string ⟨#[]⟩, .string ⟨#[]⟩, .string ⟨#[]⟩, .int .i64 0, .int .i64 0, .int .i64 0, .int .i64 0, .int .i64 0, .int .i64 0, .bool false, .string ⟨#[]⟩, .int .i64 0]), 15, 152) := by kernel_rfl
def ClonePost (w : World) (n : Nat) (L : List Call) (e : Ending) (w' : World) : Prop := (∃ v, e = .returned v ∧ w'.ownsRow w.heap.size 30 15 v n (L.flatMap Call.cells)) ∧ Only nob w w'
set_option maxRecDepth 100000 in
set_option maxHeartbeats 4000000 in
theorem clone_any (A : Option Addr) (n c : Nat) (L : List Call) (w : World) (hn : n ≤ 1000) (hL : SlOf Call.cells 15 w A n L) :
    Calls Tryz.prog 30 #[.slice A n c] w (ClonePost w n L) := by
  have q22 : ∀ (w : World) (a : Option Addr) (n c n' c' : Nat), (binOp .eql 23 (.slice a n c) (.slice none n' c')).run Tryz.prog w = .ok (.bool a.isNone) w := fun w a n c n' c' => Lib.run_eql_slice_nil w _ _ a n c n' c' Tryz.underlying23
  have hll := hL.1
  have HL := mk_hid hL
  obtain ⟨i0, hi, hzz⟩ := Option.map_eq_some_iff.1 infoCall
  simp only [Prod.mk.injEq] at hzz
  obtain ⟨hz0, hz1, hz2⟩ := hzz
  have HI := mk_hid hi
  have HZ := mk_hid (And.intro hz0 (And.intro hz1 hz2))
  clear hL hi hz0 hz1 hz2
  go_enter Tryz.func30, Tryz.ntmps30
  cases A with
  | none =>
    have hn0 : n = 0 := by
      rcases Nat.eq_zero_or_pos n with h | h
      · exact h
      · obtain ⟨x, hx, _⟩ := HL.out.2 h; cases hx
    subst hn0
    go_wp2
    refine bodyPost_ret (v := .slice none 0 0) (by simp [results, Tryz.results30, go_sem, *]) rfl ⟨⟨_, rfl, ?_⟩, by (repeat (first | with_reducible exact Only.refl _ _ | with_reducible assumption | with_reducible refine Only.drew ?_ | with_reducible refine Only.drewN ?_ _ | with_reducible refine Only.alloc ?_ _))⟩
    obtain rfl : L = [] := by cases L; rfl; simp at hll
    exact own_nil _ _ _ _
  | some x =>
    go_wp2_with (at_builtin; refine wpList_append_own _ rfl _ _ 23 rfl w.heap.size 30 i0 _ 15 152 Tryz.underlying23 HI.out HZ.out.1 HZ.out.2.1 HZ.out.2.2 rfl (by decide) _ _ _ rfl (World.ownsRow_made w #[] 0 (Nat.le_refl _) (Nat.zero_le _) (by simp)) x n c (L.flatMap Call.cells) rfl ?qc1 ?qc2 ?qc3 ?qc4 ?qc5 ?qc6 ?_)
    case qc1 => rw [flat_len Call.cells_len, hll]
    case qc2 => exact fun j u hj => Lib.cell?_alloc_some _ (HL.out.at_flat Call.cells_len j u hj)
    case qc3 => intro u hu; obtain ⟨p, _, hp⟩ := List.mem_flatMap.1 hu; exact Call.cells_one p u hp
    case qc4 => rw [Nat.zero_add]; simp only [maxLen]; omega
    case qc5 => rw [Nat.zero_add]; omega
    case qc6 => simp
    intro v' w1 hown hgrow hnil
    go_wp2
    refine bodyPost_ret (v := v') (by simp [results, Tryz.results30, go_sem, *]) rfl ⟨⟨v', rfl, by simpa using hown⟩, ?_⟩
    exact Only.of_below (((Below.refl _ w).alloc (Nat.le_refl _) _).grown hgrow (by simp) (by intro k hk; simp [Value.ownBlock] at hk; omega))
end Go.Proofs.YtgcjmjhdnkffcaaGreatDoor
