/- The reference's place of a command (layer 29), walked; no condition but lengths. -/
import Derived.Test.YtgcjmjhdnkffcaaGreatDoorJRefRun
import Derived.BigQuiet
import Derived.Deep.QuietTactic
set_option linter.unusedVariables false
set_option linter.unusedSimpArgs false
namespace Go.Proofs.YtgcjmjhdnkffcaaGreatDoor
open Go.RowKit
/-- Does the command at i count, as the client's seq? -/
def countsAt (l : List Cmd) (client seq : Int) (i : Nat) : Bool :=
  match l[i]? with
  | none => false
  | some c => decide (c.client = client) && decide (c.seq = seq) && decide (chk c = 0) && ownB c.kind && decide ((lastOf client (runS (l.take i)).1.sess).1 < seq) && hasB (runS (l.take i)).1.schema c.kind
def placeC (l : List Cmd) (client seq : Int) : Nat := match (List.range l.length).find? (countsAt l client seq) with | some i => i + 1 | none => 0
theorem SlOf.take {α : Type} {enc : α → List Value} {size : Nat} {w : World} {A : Option Addr} {n : Nat} {ps : List α} (h : SlOf enc size w A n ps) {k : Nat} (hk : k ≤ n) : SlOf enc size w A k (ps.take k) := by
  refine ⟨by rw [List.length_take, h.1]; omega, fun h0 => ?_⟩
  obtain ⟨x, rfl, hx, hc⟩ := h.2 (by omega)
  refine ⟨x, rfl, hx, fun j p hj => hc j p ?_⟩
  rw [List.getElem?_take] at hj
  split at hj
  · exact hj
  · cases hj
theorem find_range (f : Nat → Bool) (n : Nat) : ∀ k, k ≤ n → (∀ j, j < k → f j = false) → ((List.range n).find? f = none ∧ k = n) ∨ (k < n ∧ (f k = true → (List.range n).find? f = some k)) := by
  intro k hk h
  by_cases hkn : k = n
  · subst hkn
    exact .inl ⟨List.find?_eq_none.2 (fun x hx => by rw [h x (List.mem_range.1 hx)]; simp), rfl⟩
  · refine .inr ⟨by omega, fun hf => ?_⟩
    rw [List.find?_range_eq_some]
    exact ⟨hf, List.mem_range.2 (by omega), fun j hj => by rw [h j hj]; rfl⟩
theorem placeC_none {l : List Cmd} {client seq : Int} (h : ∀ j, j < l.length → countsAt l client seq j = false) : placeC l client seq = 0 := by
  unfold placeC
  rcases find_range (countsAt l client seq) l.length l.length (Nat.le_refl _) h with ⟨e, _⟩ | ⟨e, _⟩
  · rw [e]
  · omega
theorem placeC_some {l : List Cmd} {client seq : Int} {k : Nat} (hk : k < l.length) (h : ∀ j, j < k → countsAt l client seq j = false) (hc : countsAt l client seq k = true) : placeC l client seq = k + 1 := by
  unfold placeC
  rcases find_range (countsAt l client seq) l.length k (by omega) h with ⟨_, e⟩ | ⟨_, e⟩
  · omega
  · rw [e hc]
theorem less_succ {f : Nat → Bool} {k : Nat} (h : ∀ j, j < k → f j = false) (hk : f k = false) : ∀ j, j < k + 1 → f j = false := by
  intro j hj
  rcases Nat.lt_succ_iff_lt_or_eq.1 hj with h1 | rfl
  · exact h j h1
  · exact hk
set_option maxRecDepth 100000 in
set_option maxHeartbeats 4000000 in
theorem refplaceC_any (X : Option Addr) (len cap : Nat) (l : List Cmd) (client seq : Int) (w : World) (h : len ≤ 60) (hcap : len ≤ cap) (hl : SlOf Cmd.cells 7 w X len l) (hsz : ∀ c ∈ l, c.key.size ≤ 1000 ∧ c.val.size ≤ 1000 ∧ c.old.size ≤ 1000) :
    Calls Tryz.prog 10 #[.slice X len cap, .int .i64 client, .int .i64 seq] w fun e w' => e = .returned (.int .i64 (placeC l client seq)) ∧ Only nob w w' := by
  go_enter Tryz.func10, Tryz.ntmps10
  go_wp2
  go_loopw [7] (fun i wr => ∃ (k : Nat), k ≤ len ∧ i = .int .i64 k ∧ (∀ j, j < k → countsAt l client seq j = false) ∧ Only nob w wr) (fun i _ => len - (intOf i).toNat)
  case atStart => exact ⟨0, by omega, rfl, by omega, Only.refl _ _⟩
  case round =>
    obtain ⟨k, hk, rfl, hF0, hO⟩ := hrel
    have hll := hl.1
    by_cases hlt : k < len
    · have hl1 := hl.none hO
      obtain ⟨x, cm, rfl, hp, hmem, hxb, hat⟩ := hl1.get hlt
      obtain ⟨f0, f1, f2, f3, f4, f5, f6⟩ := Cmd.facts hat
      obtain ⟨z1, z2, z3⟩ := hsz cm hmem
      have h1 : (k : Int) < (len : Int) := by omega
      have h2 : ¬ (k : Int) < 0 := by omega
      have h3 : (0 : Int) ≤ (k : Int) := by omega
      have HAT : Hid (∀ w1, Only nob wr w1 → At w1 (x.add (k * 7)) cm.cells) := mk_hid (fun w1 ho => hat.only ho (fun hs => hs))
      have HF := mk_hid hF0
      have HL := mk_hid hl1
      have hCA : Hid (countsAt l client seq k = (decide (cm.client = client) && decide (cm.seq = seq) && decide (chk cm = 0) && ownB cm.kind && decide ((lastOf client (runS (l.take k)).1.sess).1 < seq) && hasB (runS (l.take k)).1.schema cm.kind)) := mk_hid (by unfold countsAt; rw [hp])
      clear hp hl hF0 hl1 hat
      by_cases c1 : cm.client = client
      · have c1' : (cm.client != client) = false := by simpa using c1
        by_cases c2 : cm.seq = seq
        · have c2' : (cm.seq != seq) = false := by simpa using c2
          have HC1 := mk_hid c1
          have HC2 := mk_hid c2
          clear c1 c2
          by_cases c3 : chk cm = 0
          · have c3' : (chk cm != 0) = false := by simpa using c3
            have HC3 := mk_hid c3
            clear c3
            cases c4 : ownB cm.kind with
            | true =>
              have HC4 := mk_hid c4
              clear c4
              have hT := HL.out.take hk
              have hrg := runS_good (l.take k)
              rcases hr : runS (l.take k) with ⟨s, ans⟩
              rw [hr] at hrg
              have HR := mk_hid hr
              have hsl : s.sess.length ≤ 900 := by have := hrg.sess; rw [List.length_take] at this; simp at this; omega
              rcases hq : lastOf client s.sess with ⟨q, qa⟩
              have HQ := mk_hid hq
              clear hr hq
              have HH := mk_hid (rfl : hasB s.schema cm.kind = hasB s.schema cm.kind)
              by_cases c5 : q < seq
              · cases c6 : hasB s.schema cm.kind with
                | true =>
                  have HC6 := mk_hid c6
                  have hT' : Hid (countsAt l client seq k = true) := mk_hid (by rw [hCA.out, HC1.out, HC2.out, HC3.out, HC4.out, HR.out]; simp [HQ.out, c5, c6])
                  clear c6
                  have hE := mk_hid (placeC_some (by omega) HF.out hT'.out)
                  go_wp2_with (first
                    | (go_at_call 18; refine (refchk_any cm _ z1 z2 z3).mono ?_; rintro e w1 ⟨rfl, ho⟩; obtain ⟨f0, f1, f2, f3, f4, f5, f6⟩ := Cmd.facts (HAT.out w1 ho))
                    | (go_at_call 11; refine (owned_any _ _).mono ?_; rw [HC4.out]; rintro e w' ⟨rfl, rfl⟩)
                    | (go_at_call 9; refine (refrun_any (some x) k cap (l.take k) _ (by omega) (hT.none ho) (fun c hc => hsz c (List.take_subset _ _ hc))).mono ?_; rw [HR.out]; rintro e w2 ⟨⟨A, c, B, d, G, g, rfl, hsA, hsB, hsG⟩, ho2⟩)
                    | (go_at_call 20; refine (reflast_any B _ _ s.sess _ _ (by omega) (hsB.none (by (repeat (first | with_reducible exact Only.refl _ _ | with_reducible assumption | with_reducible refine Only.drew ?_ | with_reducible refine Only.drewN ?_ _ | with_reducible refine Only.alloc ?_ _))))).mono ?_; rw [HQ.out]; rintro e w3 ⟨rfl, ho3⟩; obtain ⟨k1, K1⟩ := cells_all1 (ho3.heap (heap_new w2.heap.size rfl) (fun h => h)); have hw3 : Only nob wr w3 := ho.trans (ho2.trans (Only.trans (by (repeat (first | with_reducible exact Only.refl _ _ | with_reducible assumption | with_reducible refine Only.drew ?_ | with_reducible refine Only.drewN ?_ _ | with_reducible refine Only.alloc ?_ _))) ho3)); have F0 : ∀ o, (w3.alloc o).cell? (x.add (k * 7)) = some (.int .i64 cm.kind) := (fun o => (Cmd.facts (HAT.out (w3.alloc o) (hw3.alloc o))).1); simp only [Ans.agg]))
                  go_quiet (first | (go_at_call 21; exact Calls.quiet_of_same ((refhas_any _ _ _).mono (fun e w' hh => ⟨hh.1.trans (by rw [HC6.out]), hh.2.symm⟩))))
                  go_wp2
                  refine bodyPost_ret (v := .int .i64 (k + 1)) (by simp [results, Tryz.results10, go_sem, *]) rfl ⟨by rw [hE.out]; simp, hO.trans (by (repeat (first | with_reducible exact Only.refl _ _ | with_reducible assumption | with_reducible refine Only.drew ?_ | with_reducible refine Only.drewN ?_ _ | with_reducible refine Only.alloc ?_ _)))⟩
                | false =>
                  have HC6 := mk_hid c6
                  have hF' : Hid (countsAt l client seq k = false) := mk_hid (by rw [hCA.out, HR.out]; simp [c6])
                  clear c6
                  go_wp2_with (first
                    | (go_at_call 18; refine (refchk_any cm _ z1 z2 z3).mono ?_; rintro e w1 ⟨rfl, ho⟩; obtain ⟨f0, f1, f2, f3, f4, f5, f6⟩ := Cmd.facts (HAT.out w1 ho))
                    | (go_at_call 11; refine (owned_any _ _).mono ?_; rw [HC4.out]; rintro e w' ⟨rfl, rfl⟩)
                    | (go_at_call 9; refine (refrun_any (some x) k cap (l.take k) _ (by omega) (hT.none ho) (fun c hc => hsz c (List.take_subset _ _ hc))).mono ?_; rw [HR.out]; rintro e w2 ⟨⟨A, c, B, d, G, g, rfl, hsA, hsB, hsG⟩, ho2⟩)
                    | (go_at_call 20; refine (reflast_any B _ _ s.sess _ _ (by omega) (hsB.none (by (repeat (first | with_reducible exact Only.refl _ _ | with_reducible assumption | with_reducible refine Only.drew ?_ | with_reducible refine Only.drewN ?_ _ | with_reducible refine Only.alloc ?_ _))))).mono ?_; rw [HQ.out]; rintro e w3 ⟨rfl, ho3⟩; obtain ⟨k1, K1⟩ := cells_all1 (ho3.heap (heap_new w2.heap.size rfl) (fun h => h)); have hw3 : Only nob wr w3 := ho.trans (ho2.trans (Only.trans (by (repeat (first | with_reducible exact Only.refl _ _ | with_reducible assumption | with_reducible refine Only.drew ?_ | with_reducible refine Only.drewN ?_ _ | with_reducible refine Only.alloc ?_ _))) ho3)); have F0 : ∀ o, (w3.alloc o).cell? (x.add (k * 7)) = some (.int .i64 cm.kind) := (fun o => (Cmd.facts (HAT.out (w3.alloc o) (hw3.alloc o))).1); simp only [Ans.agg]))
                  go_quiet (first | (go_at_call 21; exact Calls.quiet_of_same ((refhas_any _ _ _).mono (fun e w' hh => ⟨hh.1.trans (by rw [HC6.out]), hh.2.symm⟩))))
                  go_wp2
                  go_roundw
                  case rel => exact ⟨k + 1, by omega, by go_num, less_succ HF.out hF'.out, hO.trans (by (repeat (first | with_reducible exact Only.refl _ _ | with_reducible assumption | with_reducible refine Only.drew ?_ | with_reducible refine Only.drewN ?_ _ | with_reducible refine Only.alloc ?_ _)))⟩
                  case measure => simp [intOf]; omega
              · have hF' : Hid (countsAt l client seq k = false) := mk_hid (by rw [hCA.out, HR.out]; simp [HQ.out, c5])
                have c5' : decide (q < seq) = false := by simpa using c5
                clear c5
                go_wp2_with (first
                  | (go_at_call 18; refine (refchk_any cm _ z1 z2 z3).mono ?_; rintro e w1 ⟨rfl, ho⟩; obtain ⟨f0, f1, f2, f3, f4, f5, f6⟩ := Cmd.facts (HAT.out w1 ho))
                  | (go_at_call 11; refine (owned_any _ _).mono ?_; rw [HC4.out]; rintro e w' ⟨rfl, rfl⟩)
                  | (go_at_call 9; refine (refrun_any (some x) k cap (l.take k) _ (by omega) (hT.none ho) (fun c hc => hsz c (List.take_subset _ _ hc))).mono ?_; rw [HR.out]; rintro e w2 ⟨⟨A, c, B, d, G, g, rfl, hsA, hsB, hsG⟩, ho2⟩)
                  | (go_at_call 20; refine (reflast_any B _ _ s.sess _ _ (by omega) (hsB.none (by (repeat (first | with_reducible exact Only.refl _ _ | with_reducible assumption | with_reducible refine Only.drew ?_ | with_reducible refine Only.drewN ?_ _ | with_reducible refine Only.alloc ?_ _))))).mono ?_; rw [HQ.out]; rintro e w3 ⟨rfl, ho3⟩; obtain ⟨k1, K1⟩ := cells_all1 (ho3.heap (heap_new w2.heap.size rfl) (fun h => h)); have hw3 : Only nob wr w3 := ho.trans (ho2.trans (Only.trans (by (repeat (first | with_reducible exact Only.refl _ _ | with_reducible assumption | with_reducible refine Only.drew ?_ | with_reducible refine Only.drewN ?_ _ | with_reducible refine Only.alloc ?_ _))) ho3)); have F0 : ∀ o, (w3.alloc o).cell? (x.add (k * 7)) = some (.int .i64 cm.kind) := (fun o => (Cmd.facts (HAT.out (w3.alloc o) (hw3.alloc o))).1); simp only [Ans.agg]))
                go_quiet (fail)
                go_wp2
                go_roundw
                case rel => exact ⟨k + 1, by omega, by go_num, less_succ HF.out hF'.out, hO.trans (by (repeat (first | with_reducible exact Only.refl _ _ | with_reducible assumption | with_reducible refine Only.drew ?_ | with_reducible refine Only.drewN ?_ _ | with_reducible refine Only.alloc ?_ _)))⟩
                case measure => simp [intOf]; omega
            | false =>
              have HC4 := mk_hid c4
              have hF' : Hid (countsAt l client seq k = false) := mk_hid (by rw [hCA.out]; simp [c4])
              clear c4
              go_wp2_with (first
                | (go_at_call 18; refine (refchk_any cm _ z1 z2 z3).mono ?_; rintro e w1 ⟨rfl, ho⟩; obtain ⟨f0, f1, f2, f3, f4, f5, f6⟩ := Cmd.facts (HAT.out w1 ho))
                | (go_at_call 11; refine (owned_any _ _).mono ?_; rw [HC4.out]; rintro e w' ⟨rfl, rfl⟩))
              go_roundw
              case rel => exact ⟨k + 1, by omega, by go_num, less_succ HF.out hF'.out, hO.trans ho⟩
              case measure => simp [intOf]; omega
          · have c3' : (chk cm != 0) = true := by simpa using c3
            have hF' : Hid (countsAt l client seq k = false) := mk_hid (by rw [hCA.out]; simp [c3])
            clear c3
            go_wp2_with (go_at_call 18; refine (refchk_any cm _ z1 z2 z3).mono ?_; rintro e w1 ⟨rfl, ho⟩)
            go_roundw
            case rel => exact ⟨k + 1, by omega, by go_num, less_succ HF.out hF'.out, hO.trans ho⟩
            case measure => simp [intOf]; omega
        · have c2' : (cm.seq != seq) = true := by simpa using c2
          have hF' : Hid (countsAt l client seq k = false) := mk_hid (by rw [hCA.out]; simp [c2])
          clear c1 c2
          go_wp2
          go_roundw
          case rel => exact ⟨k + 1, by omega, by go_num, less_succ HF.out hF'.out, hO⟩
          case measure => simp [intOf]; omega
      · have c1' : (cm.client != client) = true := by simpa using c1
        have hF' : Hid (countsAt l client seq k = false) := mk_hid (by rw [hCA.out]; simp [c1])
        clear c1
        go_wp2
        go_roundw
        case rel => exact ⟨k + 1, by omega, by go_num, less_succ HF.out hF'.out, hO⟩
        case measure => simp [intOf]; omega
    · obtain rfl : k = len := by omega
      have hE := mk_hid (placeC_none (l := l) (client := client) (seq := seq) (by rw [hll]; exact hF0))
      clear hF0
      go_wp2
      refine bodyPost_ret (v := .int .i64 0) (by simp [results, Tryz.results10, go_sem, *]) rfl ⟨by rw [hE.out]; rfl, hO⟩
end Go.Proofs.YtgcjmjhdnkffcaaGreatDoor
