/- The reference's check of a witness (layer 43), walked: what is known where the answer is 0. -/
import Derived.Test.YtgcjmjhdnkffcaaGreatDoorJRefPlace
import Derived.Test.YtgcjmjhdnkffcaaGreatDoorJRefLarge
import Derived.Test.YtgcjmjhdnkffcaaGreatDoorJEqS
import Derived.Deep.CutRange
import Derived.Deep.RegionHeld3
import Derived.BigQuiet
set_option linter.unusedVariables false
set_option linter.unusedSimpArgs false
namespace Go.Proofs.YtgcjmjhdnkffcaaGreatDoor
open Go.RowKit
/-- An ended call has its place, and log and answers say there what the call says. -/
def Said (log : List Cmd) (c : Call) : Prop :=
  0 < c.fin → ∃ p, placeC log c.cmd.client c.cmd.seq = p + 1 ∧ log[p]? = some c.cmd ∧ (runS log).2[p]? = some c.ans
def Ordered (log : List Cmd) (a b : Call) : Prop := 0 < a.fin → 0 < b.fin → a.fin < b.beg → placeC log a.cmd.client a.cmd.seq < placeC log b.cmd.client b.cmd.seq
def Invoked (log : List Cmd) (calls : List Call) (i : Nat) (c : Cmd) : Prop := ownB c.kind = true → placeC log c.client c.seq = i + 1 → ∃ k ∈ calls, k.cmd = c
structure Witness (log : List Cmd) (calls : List Call) : Prop where
  said : ∀ c ∈ calls, Said log c
  order : ∀ (i j : Nat) (a b : Call), i ≠ j → calls[i]? = some a → calls[j]? = some b → Ordered log a b
  invoked : ∀ (i : Nat) (c : Cmd), log[i]? = some c → Invoked log calls i c
def ChkPost (w : World) (p : Prop) (e : Ending) (w' : World) : Prop := (∃ k : Int, e = .returned (.int .i64 k) ∧ (k = 0 → p)) ∧ Only nob w w'
theorem placeC_le (log : List Cmd) (c s : Int) : placeC log c s ≤ log.length := by
  unfold placeC
  split
  · rename_i i hi
    have := List.mem_range.1 (List.mem_of_find?_eq_some hi); omega
  · omega
theorem Ans.facts {w : World} {p : Addr} {s : Ans} (h : At w p s.cells) : w.cell? p = some (.int .i64 s.client) ∧ w.cell? ⟨p.block, p.off + 1, none⟩ = some (.int .i64 s.seq) ∧
    w.cell? ⟨p.block, p.off + 2, none⟩ = some (.int .i64 s.err) ∧ w.cell? ⟨p.block, p.off + 3, none⟩ = some (.bool s.found) ∧ w.cell? ⟨p.block, p.off + 4, none⟩ = some (.string s.val) ∧ w.cell? ⟨p.block, p.off + 5, none⟩ = some (.int .i64 s.rev) :=
  ⟨h.zero, h.at_ 1 rfl (by omega), h.at_ 2 rfl (by omega), h.at_ 3 rfl (by omega), h.at_ 4 rfl (by omega), h.at_ 5 rfl (by omega)⟩
set_option maxRecDepth 100000 in
set_option maxHeartbeats 4000000 in
theorem refcheck_any (X Y : Option Addr) (len cap n m : Nat) (log : List Cmd) (calls : List Call) (w : World) (h : len ≤ 60) (hcap : len ≤ cap) (hn : n ≤ 1000) (hl : SlOf Cmd.cells 7 w X len log) (hc : SlOf Call.cells 15 w Y n calls) (hsz : ∀ c ∈ log, c.key.size ≤ 1000 ∧ c.val.size ≤ 1000 ∧ c.old.size ≤ 1000) :
    Calls Tryz.prog 6 #[.slice X len cap, .slice Y n m] w (ChkPost w (Witness log calls)) := by
  have hm1 : Tryz.prog.eqGuardType Tryz.prog.depth 25 = false := by kernel_rfl
  have hm2 : Tryz.prog.eqGuardType Tryz.prog.depth 28 = false := by kernel_rfl
  have hll := hl.1
  rcases hr : runS log with ⟨s, ans⟩
  have hal : ans.length = len := by have := runStep_ans log run0; rw [show log.foldl runStep run0 = (s, ans) from hr] at this; simpa [run0, hll] using this
  have HR := mk_hid hr
  clear hr
  go_enter Tryz.func6, Tryz.ntmps6
  go_wp2_with (go_at_call 9; refine (refrun_any X len cap log _ h (hl.none (by (repeat (first | with_reducible exact Only.refl _ _ | with_reducible assumption | with_reducible refine Only.drew ?_ | with_reducible refine Only.drewN ?_ _ | with_reducible refine Only.alloc ?_ _)))) hsz).mono ?_; rw [HR.out]; rintro e w1 ⟨⟨A, c, B, d, G, g, rfl, hsA, hsB, hsG⟩, ho1⟩)
  go_loopw [7] (fun i wr => ∃ (k : Nat), k ≤ n ∧ i = .int .i64 k ∧ (∀ j c, j < k → calls[j]? = some c → Said log c) ∧ Only nob w1 wr) (fun i _ => n - (intOf i).toNat)
  case atStart => exact ⟨0, by omega, rfl, by omega, by (repeat (first | with_reducible exact Only.refl _ _ | with_reducible assumption | with_reducible refine Only.drew ?_ | with_reducible refine Only.drewN ?_ _ | with_reducible refine Only.alloc ?_ _))⟩
  case round =>
    obtain ⟨k, hk, rfl, hF0, hO⟩ := hrel
    have HF := mk_hid hF0
    have hcl := hc.1
    clear hF0
    by_cases hlt : k < n
    · obtain ⟨y, cl, rfl, hp, hmem, hyb, hat⟩ := (hc.none (ho1.trans hO)).get hlt
      obtain ⟨f0, f1, f2, f3, f4, f5, f6, f7, f8, f9, f10, f11, f12, f13, f14⟩ := Call.facts hat
      have h1 : (k : Int) < (n : Int) := by omega
      have h2 : ¬ (k : Int) < 0 := by omega
      have h3 : (0 : Int) ≤ (k : Int) := by omega
      have HP := mk_hid hp
      have HAT : Hid (∀ w2, Only nob wr w2 → At w2 (y.add (k * 15)) cl.cells) := mk_hid (fun w2 ho => hat.only ho (fun hs => hs))
      have HC := mk_hid hc
      clear hp hc hat
      by_cases c1 : cl.fin ≤ 0
      · have hS : Hid (Said log cl) := mk_hid (fun h => by omega)
        go_wp2
        go_roundw
        case rel =>
          refine ⟨k + 1, by omega, by go_num, fun j c hj hc => ?_, hO⟩
          rcases Nat.lt_succ_iff_lt_or_eq.1 hj with h | rfl
          · exact HF.out j c h hc
          · have := HP.out; rw [this] at hc; cases hc; exact hS.out
        case measure => simp [intOf]; omega
      · go_wp2
        have HK : ∀ w', Only nob wr w' → w'.cell? ⟨(y.add (k * 15)).block, (y.add (k * 15)).off + 1, none⟩ = some (.int .i64 cl.cmd.client) ∧ w'.cell? ⟨(y.add (k * 15)).block, (y.add (k * 15)).off + 2, none⟩ = some (.int .i64 cl.cmd.seq) :=
          fun w' hw => ⟨hw.cell f1 (fun h => h), hw.cell f2 (fun h => h)⟩
        go_region_held3 (fun w' => w'.cell? ⟨(y.add (k * 15)).block, (y.add (k * 15)).off + 1, none⟩ = some (.int .i64 cl.cmd.client) ∧ w'.cell? ⟨(y.add (k * 15)).block, (y.add (k * 15)).off + 2, none⟩ = some (.int .i64 cl.cmd.seq))
          (first | exact HK _ (by (repeat (first | with_reducible exact Only.refl _ _ | with_reducible assumption | with_reducible refine Only.drew ?_ | with_reducible refine Only.drewN ?_ _ | with_reducible refine Only.alloc ?_ _ | (with_reducible refine Only.set ?_ (.inr ?_) _; rotate_left; first | exact Nat.le_refl _ | exact Nat.le_succ _ | assumption | omega | (dsimp only; omega))))))
          (first | (go_at_call 10; refine (refplaceC_any X len cap log _ _ _ h hcap (hl.none (ho1.trans (hO.trans (by (repeat (first | with_reducible exact Only.refl _ _ | with_reducible assumption | with_reducible refine Only.drew ?_ | with_reducible refine Only.drewN ?_ _ | with_reducible refine Only.alloc ?_ _)))))) hsz).mono ?_; rintro e w2 ⟨rfl, ho2⟩; have hu := Only.trans (a := wr) (by (repeat (first | with_reducible exact Only.refl _ _ | with_reducible assumption | with_reducible refine Only.drew ?_ | with_reducible refine Only.drewN ?_ _ | with_reducible refine Only.alloc ?_ _))) ho2))
        generalize hpl : placeC log cl.cmd.client cl.cmd.seq = pl
        have HPL := mk_hid hpl
        clear hpl
        by_cases c2 : pl = 0
        · subst c2
          go_wp2
          exact bodyPost_ret (v := .int .i64 10) (by simp [results, Tryz.results6, go_sem, *]) rfl ⟨⟨10, rfl, fun h => absurd h (by decide)⟩, ho1.trans (hO.trans (Only.trans hu (by (repeat (first | with_reducible exact Only.refl _ _ | with_reducible assumption | with_reducible refine Only.drew ?_ | with_reducible refine Only.drewN ?_ _ | with_reducible refine Only.alloc ?_ _)))))⟩
        · obtain ⟨p, rfl⟩ : ∃ p, pl = p + 1 := ⟨pl - 1, by omega⟩
          have hple := placeC_le log cl.cmd.client cl.cmd.seq
          rw [HPL.out] at hple
          obtain ⟨x, cm, rfl, hp2, hmem2, hxb, hat2⟩ := (hl.none (ho1.trans (hO.trans hu))).get (show p < len by omega)
          obtain ⟨e0, e1, e2, e3, e4, e5, e6⟩ := Cmd.facts hat2
          obtain ⟨z, an, rfl, hp3, hmem3, hzb, hat3⟩ := (hsG.none (hO.trans hu)).get (show p < ans.length by omega)
          obtain ⟨a0, a1, a2, a3, a4, a5⟩ := Ans.facts hat3
          obtain ⟨f0, f1, f2, f3, f4, f5, f6, f7, f8, f9, f10, f11, f12, f13, f14⟩ := Call.facts (HAT.out _ hu)
          have g1 : (p : Int) < (len : Int) := by omega
          have g2 : (0 : Int) ≤ (p : Int) := by omega
          have g3 : (p : Int) < (ans.length : Int) := by omega
          have g4 : ¬ (p : Int) + 1 = 0 := by omega
          have HP2 := mk_hid hp2
          have HP3 := mk_hid hp3
          have hw : IntKind.i64.wrap ((p : Int) + 1 - 1) = (p : Int) := by rw [IntKind.wrap_i64]; omega
          have hw2 : IntKind.i64.wrap (p : Int) = (p : Int) := by rw [IntKind.wrap_i64]; omega
          clear hp2 hat2 hp3 hat3 hl c2
          cases hq1 : eqC7 cm.kind cm.client cm.seq cm.key cm.val cm.old cm.node cl.cmd.kind cl.cmd.client cl.cmd.seq cl.cmd.key cl.cmd.val cl.cmd.old cl.cmd.node with
          | false =>
            go_wp2
            go_quiet (fail)
            go_wp2
            exact bodyPost_ret (v := .int .i64 3) (by simp [results, Tryz.results6, go_sem, *]) rfl ⟨⟨3, rfl, fun h => absurd h (by decide)⟩, ho1.trans (hO.trans (Only.trans hu (by (repeat (first | with_reducible exact Only.refl _ _ | with_reducible assumption | with_reducible refine Only.drew ?_ | with_reducible refine Only.drewN ?_ _ | with_reducible refine Only.alloc ?_ _)))))⟩
          | true =>
            cases hq2 : eqA6 an.client an.seq an.err an.found an.val an.rev cl.ans.client cl.ans.seq cl.ans.err cl.ans.found cl.ans.val cl.ans.rev with
            | false =>
              go_wp2
              go_quiet (fail)
              go_wp2
              exact bodyPost_ret (v := .int .i64 3) (by simp [results, Tryz.results6, go_sem, *]) rfl ⟨⟨3, rfl, fun h => absurd h (by decide)⟩, ho1.trans (hO.trans (Only.trans hu (by (repeat (first | with_reducible exact Only.refl _ _ | with_reducible assumption | with_reducible refine Only.drew ?_ | with_reducible refine Only.drewN ?_ _ | with_reducible refine Only.alloc ?_ _)))))⟩
            | true =>
              have hS : Hid (Said log cl) := mk_hid (fun _ => ⟨p, HPL.out, by rw [HP2.out, eqC7_eq hq1], by rw [HR.out, HP3.out, eqA6_eq hq2]⟩)
              go_wp2
              go_quiet (fail)
              go_wp2
              go_roundw
              case rel =>
                refine ⟨k + 1, by omega, by go_num, fun j c hj hc => ?_, hO.trans (Only.trans hu (by (repeat (first | with_reducible exact Only.refl _ _ | with_reducible assumption | with_reducible refine Only.drew ?_ | with_reducible refine Only.drewN ?_ _ | with_reducible refine Only.alloc ?_ _))))⟩
                rcases Nat.lt_succ_iff_lt_or_eq.1 hj with h | rfl
                · exact HF.out j c h hc
                · have := HP.out; rw [this] at hc; cases hc; exact hS.out
              case measure => simp [intOf]; omega
    · obtain rfl : k = n := by omega
      have HS : Hid (∀ c ∈ calls, Said log c) := mk_hid (fun c hm => by
        obtain ⟨j, hj⟩ := List.mem_iff_getElem?.1 hm
        exact HF.out j c (by have := (List.getElem?_eq_some_iff.1 hj).1; omega) hj)
      clear HF
      have hO1 := ho1.trans hO
      go_wp2
      go_loopw [9] (fun i wr => ∃ (k2 : Nat), k2 ≤ k ∧ i = .int .i64 k2 ∧ (∀ (i j : Nat) (a b : Call), i < k2 → i ≠ j → calls[i]? = some a → calls[j]? = some b → Ordered log a b) ∧ Only nob w wr) (fun i _ => k - (intOf i).toNat)
      case atStart => exact ⟨0, by omega, rfl, by omega, hO1⟩
      case round =>
        obtain ⟨k2, hk2, rfl, hG0, hO2⟩ := hrel
        have HG := mk_hid hG0
        clear hG0
        by_cases hlt2 : k2 < k
        · obtain ⟨y, ca, rfl, hp, hmem, hyb, hat⟩ := (hc.none hO2).get hlt2
          have h1 : (k2 : Int) < (k : Int) := by omega
          have h2 : ¬ (k2 : Int) < 0 := by omega
          have h3 : (0 : Int) ≤ (k2 : Int) := by omega
          have HP := mk_hid hp
          have HAT : Hid (∀ w2, Only nob w w2 → ∀ j b, calls[j]? = some b → j < k → At w2 (y.add (j * 15)) b.cells) := mk_hid (fun w2 ho j b hj hjk => by
            obtain ⟨y2, cb, e1, e2, _, _, e3⟩ := (hc.none ho).get hjk
            cases e1; rw [hj] at e2; cases e2; exact e3)
          clear hp hat
          go_wp2
          go_loopw [10] (fun i wr => ∃ (k3 : Nat), k3 ≤ k ∧ i = .int .i64 k3 ∧ (∀ (j : Nat) (b : Call), j < k3 → k2 ≠ j → calls[j]? = some b → Ordered log ca b) ∧ Only nob w wr) (fun i _ => k - (intOf i).toNat)
          case atStart => exact ⟨0, by omega, rfl, by omega, hO2⟩
          case round =>
            obtain ⟨k3, hk3, rfl, hH0, hO3⟩ := hrel
            have HH := mk_hid hH0
            clear hH0
            by_cases hlt3 : k3 < k
            · obtain ⟨cb, hpb⟩ : ∃ cb, calls[k3]? = some cb := ⟨calls[k3]'(by have := hc.1; omega), List.getElem?_eq_getElem _⟩
              have HPB := mk_hid hpb
              clear hpb
              obtain ⟨f0, f1, f2, f3, f4, f5, f6, f7, f8, f9, f10, f11, f12, f13, f14⟩ := Call.facts (HAT.out _ hO3 k2 ca HP.out hlt2)
              obtain ⟨d0, d1, d2, d3, d4, d5, d6, d7, d8, d9, d10, d11, d12, d13, d14⟩ := Call.facts (HAT.out _ hO3 k3 cb HPB.out hlt3)
              have g1 : (k3 : Int) < (k : Int) := by omega
              have g2 : ¬ (k3 : Int) < 0 := by omega
              have g3 : (0 : Int) ≤ (k3 : Int) := by omega
              by_cases c1 : k2 = k3
              · subst c1
                have hS : Hid (k2 ≠ k2 → Ordered log ca cb) := mk_hid (fun h => absurd rfl h)
                go_wp2
                go_quiet (fail)
                go_wp2
                go_roundw
                case rel =>
                  refine ⟨k2 + 1, by omega, by go_num, fun j b hj hij hb => ?_, hO3.trans (by (repeat (first | with_reducible exact Only.refl _ _ | with_reducible assumption | with_reducible refine Only.drew ?_ | with_reducible refine Only.drewN ?_ _ | with_reducible refine Only.alloc ?_ _)))⟩
                  rcases Nat.lt_succ_iff_lt_or_eq.1 hj with h | rfl
                  · exact HH.out j b h hij hb
                  · have := HPB.out; rw [this] at hb; cases hb; exact hS.out hij
                case measure => simp [intOf]; omega
              · have c1' : ((k2 : Int) == (k3 : Int)) = false := by simp; omega
                by_cases c2 : ca.fin ≤ 0
                · have c2' : decide (ca.fin ≤ 0) = true := by simpa using c2
                  have hS : Hid (k2 ≠ k3 → Ordered log ca cb) := mk_hid (fun _ h => by omega)
                  go_wp2
                  go_quiet (fail)
                  go_wp2
                  go_roundw
                  case rel =>
                    refine ⟨k3 + 1, by omega, by go_num, fun j b hj hij hb => ?_, hO3.trans (by (repeat (first | with_reducible exact Only.refl _ _ | with_reducible assumption | with_reducible refine Only.drew ?_ | with_reducible refine Only.drewN ?_ _ | with_reducible refine Only.alloc ?_ _)))⟩
                    rcases Nat.lt_succ_iff_lt_or_eq.1 hj with h | rfl
                    · exact HH.out j b h hij hb
                    · have := HPB.out; rw [this] at hb; cases hb; exact hS.out hij
                  case measure => simp [intOf]; omega
                · have c2' : decide (ca.fin ≤ 0) = false := by simpa using c2
                  by_cases c3 : cb.fin ≤ 0
                  · have c3' : decide (cb.fin ≤ 0) = true := by simpa using c3
                    have hS : Hid (k2 ≠ k3 → Ordered log ca cb) := mk_hid (fun _ _ h => by omega)
                    go_wp2
                    go_quiet (fail)
                    go_wp2
                    go_roundw
                    case rel =>
                      refine ⟨k3 + 1, by omega, by go_num, fun j b hj hij hb => ?_, hO3.trans (by (repeat (first | with_reducible exact Only.refl _ _ | with_reducible assumption | with_reducible refine Only.drew ?_ | with_reducible refine Only.drewN ?_ _ | with_reducible refine Only.alloc ?_ _)))⟩
                      rcases Nat.lt_succ_iff_lt_or_eq.1 hj with h | rfl
                      · exact HH.out j b h hij hb
                      · have := HPB.out; rw [this] at hb; cases hb; exact hS.out hij
                    case measure => simp [intOf]; omega
                  · have c3' : decide (cb.fin ≤ 0) = false := by simpa using c3
                    by_cases c4 : cb.beg ≤ ca.fin
                    · have c4' : decide (cb.beg ≤ ca.fin) = true := by simpa using c4
                      have hS : Hid (k2 ≠ k3 → Ordered log ca cb) := mk_hid (fun _ _ _ h => by omega)
                      go_wp2
                      go_quiet (fail)
                      go_wp2
                      go_roundw
                      case rel =>
                        refine ⟨k3 + 1, by omega, by go_num, fun j b hj hij hb => ?_, hO3.trans (by (repeat (first | with_reducible exact Only.refl _ _ | with_reducible assumption | with_reducible refine Only.drew ?_ | with_reducible refine Only.drewN ?_ _ | with_reducible refine Only.alloc ?_ _)))⟩
                        rcases Nat.lt_succ_iff_lt_or_eq.1 hj with h | rfl
                        · exact HH.out j b h hij hb
                        · have := HPB.out; rw [this] at hb; cases hb; exact hS.out hij
                      case measure => simp [intOf]; omega
                    · have c4' : decide (cb.beg ≤ ca.fin) = false := by simpa using c4
                      go_wp2
                      go_quiet (fail)
                      go_wp2
                      obtain ⟨pa, hpa⟩ : ∃ pa, placeC log ca.cmd.client ca.cmd.seq = pa := ⟨_, rfl⟩
                      obtain ⟨pb, hpb⟩ : ∃ pb, placeC log cb.cmd.client cb.cmd.seq = pb := ⟨_, rfl⟩
                      have HPA := mk_hid hpa
                      have HPB2 := mk_hid hpb
                      clear hpa hpb
                      have HK : ∀ w', Only nob wr w' → w'.cell? ⟨(y.add (k2 * 15)).block, (y.add (k2 * 15)).off + 1, none⟩ = some (.int .i64 ca.cmd.client) ∧ w'.cell? ⟨(y.add (k2 * 15)).block, (y.add (k2 * 15)).off + 2, none⟩ = some (.int .i64 ca.cmd.seq) ∧ w'.cell? ⟨(y.add (k3 * 15)).block, (y.add (k3 * 15)).off + 1, none⟩ = some (.int .i64 cb.cmd.client) ∧ w'.cell? ⟨(y.add (k3 * 15)).block, (y.add (k3 * 15)).off + 2, none⟩ = some (.int .i64 cb.cmd.seq) := fun w' hw => ⟨hw.cell f1 (fun h => h), hw.cell f2 (fun h => h), hw.cell d1 (fun h => h), hw.cell d2 (fun h => h)⟩
                      go_region_held3 (fun w' => w'.cell? ⟨(y.add (k2 * 15)).block, (y.add (k2 * 15)).off + 1, none⟩ = some (.int .i64 ca.cmd.client) ∧ w'.cell? ⟨(y.add (k2 * 15)).block, (y.add (k2 * 15)).off + 2, none⟩ = some (.int .i64 ca.cmd.seq) ∧ w'.cell? ⟨(y.add (k3 * 15)).block, (y.add (k3 * 15)).off + 1, none⟩ = some (.int .i64 cb.cmd.client) ∧ w'.cell? ⟨(y.add (k3 * 15)).block, (y.add (k3 * 15)).off + 2, none⟩ = some (.int .i64 cb.cmd.seq))
                        (first | exact HK _ (by (repeat (first | with_reducible exact Only.refl _ _ | with_reducible assumption | with_reducible refine Only.drew ?_ | with_reducible refine Only.drewN ?_ _ | with_reducible refine Only.alloc ?_ _ | (with_reducible refine Only.set ?_ (.inr ?_) _; rotate_left; first | exact Nat.le_refl _ | exact Nat.le_succ _ | assumption | omega | (dsimp only; omega))))))
                        (first | (go_at_call_of 10 (ca.cmd.seq); refine (refplaceC_any X len cap log ca.cmd.client ca.cmd.seq _ h hcap (hl.none (hO3.trans (by (repeat (first | with_reducible exact Only.refl _ _ | with_reducible assumption | with_reducible refine Only.drew ?_ | with_reducible refine Only.drewN ?_ _ | with_reducible refine Only.alloc ?_ _))))) hsz).mono ?_; rw [HPA.out]; rintro e w2 ⟨rfl, ho2⟩; have hu := Only.trans (a := wr) (by (repeat (first | with_reducible exact Only.refl _ _ | with_reducible assumption | with_reducible refine Only.drew ?_ | with_reducible refine Only.drewN ?_ _ | with_reducible refine Only.alloc ?_ _))) ho2) | (go_at_call_of 10 (cb.cmd.seq); refine (refplaceC_any X len cap log cb.cmd.client cb.cmd.seq _ h hcap (hl.none (hO3.trans (by (repeat (first | with_reducible exact Only.refl _ _ | with_reducible assumption | with_reducible refine Only.drew ?_ | with_reducible refine Only.drewN ?_ _ | with_reducible refine Only.alloc ?_ _))))) hsz).mono ?_; rw [HPB2.out]; rintro e w3 ⟨rfl, ho2⟩; have hu := Only.trans (a := wr) (by (repeat (first | with_reducible exact Only.refl _ _ | with_reducible assumption | with_reducible refine Only.drew ?_ | with_reducible refine Only.drewN ?_ _ | with_reducible refine Only.alloc ?_ _))) ho2))
                      by_cases c5 : (pb : Int) ≤ (pa : Int)
                      · go_wp2
                        exact bodyPost_ret (v := .int .i64 12) (by simp [results, Tryz.results6, go_sem, *]) rfl ⟨⟨12, rfl, fun h => absurd h (by decide)⟩, hO3.trans (by (repeat (first | with_reducible exact Only.refl _ _ | with_reducible assumption | with_reducible refine Only.drew ?_ | with_reducible refine Only.drewN ?_ _ | with_reducible refine Only.alloc ?_ _)))⟩
                      · have hS : Hid (k2 ≠ k3 → Ordered log ca cb) := mk_hid (fun _ _ _ _ => by rw [HPA.out, HPB2.out]; omega)
                        go_wp2
                        go_roundw
                        case rel =>
                          refine ⟨k3 + 1, by omega, by go_num, fun j b hj hij hb => ?_, hO3.trans (by (repeat (first | with_reducible exact Only.refl _ _ | with_reducible assumption | with_reducible refine Only.drew ?_ | with_reducible refine Only.drewN ?_ _ | with_reducible refine Only.alloc ?_ _)))⟩
                          rcases Nat.lt_succ_iff_lt_or_eq.1 hj with h | rfl
                          · exact HH.out j b h hij hb
                          · have := HPB.out; rw [this] at hb; cases hb; exact hS.out hij
                        case measure => simp [intOf]; omega
            · obtain rfl : k3 = k := by omega
              have g1 : ¬ (k3 : Int) < (k3 : Int) := by omega
              go_wp2
              go_roundw
              case rel =>
                refine ⟨k2 + 1, by omega, by go_num, fun i j a b hi hij ha hb => ?_, hO3⟩
                rcases Nat.lt_succ_iff_lt_or_eq.1 hi with h | rfl
                · exact HG.out i j a b h hij ha hb
                · have := HP.out; rw [this] at ha; cases ha; exact HH.out j b (by have := (List.getElem?_eq_some_iff.1 hb).1; have := hc.1; omega) hij hb
              case measure => simp [intOf]; omega
        · obtain rfl : k2 = k := by omega
          have HO : Hid (∀ (i j : Nat) (a b : Call), i ≠ j → calls[i]? = some a → calls[j]? = some b → Ordered log a b) := mk_hid (fun i j a b hij ha hb => HG.out i j a b (by have := (List.getElem?_eq_some_iff.1 ha).1; have := hc.1; omega) hij ha hb)
          clear HG
          have g1 : ¬ (k2 : Int) < (k2 : Int) := by omega
          go_wp2
          go_loopw [11] (fun i wr => ∃ (q : Nat), q ≤ len ∧ i = .int .i64 q ∧ (∀ (i : Nat) (c : Cmd), i < q → log[i]? = some c → Invoked log calls i c) ∧ Only nob w wr) (fun i _ => len - (intOf i).toNat)
          case atStart => exact ⟨0, by omega, rfl, by omega, hO2⟩
          case round =>
            obtain ⟨q, hq, rfl, hJ0, hO4⟩ := hrel
            have HJ := mk_hid hJ0
            clear hJ0
            by_cases hltq : q < len
            · obtain ⟨x, cm, rfl, hp, hmem, hxb, hat⟩ := (hl.none hO4).get hltq
              have HAT : Hid (∀ w2, Only nob wr w2 → At w2 (x.add (q * 7)) cm.cells) := mk_hid (fun w2 ho => hat.only ho (fun hs => hs))
              obtain ⟨f0, f1, f2, f3, f4, f5, f6⟩ := Cmd.facts hat
              have h1 : (q : Int) < (len : Int) := by omega
              have h2 : ¬ (q : Int) < 0 := by omega
              have h3 : (0 : Int) ≤ (q : Int) := by omega
              have HP := mk_hid hp
              clear hp hat
              have hw : IntKind.i64.wrap ((q : Int) + 1) = (q : Int) + 1 := by rw [IntKind.wrap_i64]; omega
              cases c1 : ownB cm.kind with
              | false =>
                have HC1 := mk_hid c1
                have hS : Hid (Invoked log calls q cm) := mk_hid (fun h => by rw [c1] at h; cases h)
                clear c1
                go_wp2
                go_quiet (first | (go_at_call 11; exact Calls.quiet_of_same ((owned_any _ _).mono (fun e w' hh => ⟨hh.1.trans (by rw [HC1.out]), hh.2.symm⟩))))
                go_wp2
                go_roundw
                case rel =>
                  refine ⟨q + 1, by omega, by go_num, fun i c hi hc2 => ?_, hO4.trans (by (repeat (first | with_reducible exact Only.refl _ _ | with_reducible assumption | with_reducible refine Only.drew ?_ | with_reducible refine Only.drewN ?_ _ | with_reducible refine Only.alloc ?_ _)))⟩
                  rcases Nat.lt_succ_iff_lt_or_eq.1 hi with h | rfl
                  · exact HJ.out i c h hc2
                  · have := HP.out; rw [this] at hc2; cases hc2; exact hS.out
                case measure => simp [intOf]; omega
              | true =>
                have HC1 := mk_hid c1
                clear c1
                obtain ⟨pq, hpq⟩ : ∃ pq, placeC log cm.client cm.seq = pq := ⟨_, rfl⟩
                have HPQ := mk_hid hpq
                clear hpq
                have HK : ∀ w', Only nob wr w' → w'.cell? (x.add (q * 7)) = some (.int .i64 cm.kind) ∧ w'.cell? ⟨(x.add (q * 7)).block, (x.add (q * 7)).off + 1, none⟩ = some (.int .i64 cm.client) ∧ w'.cell? ⟨(x.add (q * 7)).block, (x.add (q * 7)).off + 2, none⟩ = some (.int .i64 cm.seq) := fun w' hw => ⟨hw.cell f0 (fun h => h), hw.cell f1 (fun h => h), hw.cell f2 (fun h => h)⟩
                have HX : Hid (∀ w', Only nob w w' → SlOf Cmd.cells 7 w' (some x) len log) := mk_hid (fun w' hw => hl.none hw)
                go_wp2
                go_region_held3 (fun w' => w'.cell? (x.add (q * 7)) = some (.int .i64 cm.kind) ∧ w'.cell? ⟨(x.add (q * 7)).block, (x.add (q * 7)).off + 1, none⟩ = some (.int .i64 cm.client) ∧ w'.cell? ⟨(x.add (q * 7)).block, (x.add (q * 7)).off + 2, none⟩ = some (.int .i64 cm.seq)) (first | exact HK _ (by (repeat (first | with_reducible exact Only.refl _ _ | with_reducible assumption | with_reducible refine Only.drew ?_ | with_reducible refine Only.drewN ?_ _ | with_reducible refine Only.alloc ?_ _ | (with_reducible refine Only.set ?_ (.inr ?_) _; rotate_left; first | exact Nat.le_refl _ | exact Nat.le_succ _ | assumption | omega | (dsimp only; omega)))))) (first | (go_at_call 11; refine (owned_any _ _).mono ?_; rw [HC1.out]; rintro e w' ⟨rfl, rfl⟩) | (go_at_call 10; refine (refplaceC_any (some x) len cap log cm.client cm.seq _ h hcap (HX.out _ (hO4.trans (by (repeat (first | with_reducible exact Only.refl _ _ | with_reducible assumption | with_reducible refine Only.drew ?_ | with_reducible refine Only.drewN ?_ _ | with_reducible refine Only.alloc ?_ _))))) hsz).mono ?_; rw [HPQ.out]; rintro e w2 ⟨rfl, ho2⟩; have hu := Only.trans (a := wr) (by (repeat (first | with_reducible exact Only.refl _ _ | with_reducible assumption | with_reducible refine Only.drew ?_ | with_reducible refine Only.drewN ?_ _ | with_reducible refine Only.alloc ?_ _))) ho2))
                have HU : Hid (Only nob w w2) := mk_hid (hO4.trans hu)
                by_cases c2 : pq = q + 1
                · have c2' : ((pq : Int) != (q : Int) + 1) = false := by simp; omega
                  clear c2
                  rw [c2']
                  go_wp2
                  go_loopw [12, 13] (fun v i wr => ∃ (t : Nat) (db : Bool), t ≤ k2 ∧ i = .int .i64 t ∧ v = .bool db ∧ (db = true → ∃ c ∈ calls, c.cmd = cm) ∧ Only nob w wr) (fun _ i _ => k2 - (intOf i).toNat)
                  case atStart => exact ⟨0, false, by omega, rfl, rfl, (fun h => by cases h), hO4.trans (by (repeat (first | with_reducible exact Only.refl _ _ | with_reducible assumption | with_reducible refine Only.drew ?_ | with_reducible refine Only.drewN ?_ _ | with_reducible refine Only.alloc ?_ _)))⟩
                  case round =>
                    obtain ⟨t, db, ht, rfl, rfl, hdb, hO5⟩ := hrel
                    have HDB := mk_hid hdb
                    clear hdb
                    by_cases hltt : t < k2
                    · have g4 : (t : Int) < (k2 : Int) := by omega
                      have g5 : ¬ (t : Int) < 0 := by omega
                      have g6 : (0 : Int) ≤ (t : Int) := by omega
                      cases db with
                      | true =>
                        go_wp2
                        go_quiet (fail)
                        go_wp2
                        go_roundw
                        case rel => exact ⟨t + 1, true, by omega, by go_num, rfl, (fun _ => HDB.out (by first | trivial | rfl)), hO5.trans (by (repeat (first | with_reducible exact Only.refl _ _ | with_reducible assumption | with_reducible refine Only.drew ?_ | with_reducible refine Only.drewN ?_ _ | with_reducible refine Only.alloc ?_ _)))⟩
                        case measure => simp [intOf]; omega
                      | false =>
                        obtain ⟨y, cl, rfl, hpc, hmemc, hyb, hatc⟩ := (hc.none hO5).get hltt
                        obtain ⟨d0, d1, d2, d3, d4, d5, d6, d7, d8, d9, d10, d11, d12, d13, d14⟩ := Call.facts hatc
                        obtain ⟨e0, e1, e2, e3, e4, e5, e6⟩ : _ ∧ _ ∧ _ ∧ _ ∧ _ ∧ _ ∧ _ := by
                          obtain ⟨x2, c2, h1, h2, _, _, h3⟩ := (HX.out _ hO5 |>.get hltq)
                          cases h1; rw [HP.out] at h2; cases h2
                          exact Cmd.facts h3
                        clear hpc hatc
                        cases hq3 : eqC7 cl.cmd.kind cl.cmd.client cl.cmd.seq cl.cmd.key cl.cmd.val cl.cmd.old cl.cmd.node cm.kind cm.client cm.seq cm.key cm.val cm.old cm.node with
                        | true =>
                          have HE : Hid (∃ c ∈ calls, c.cmd = cm) := mk_hid ⟨cl, hmemc, eqC7_eq hq3⟩
                          go_wp2
                          go_quiet (fail)
                          go_wp2
                          go_roundw
                          case rel => exact ⟨t + 1, true, by omega, by go_num, rfl, fun _ => HE.out, hO5.trans (by (repeat (first | with_reducible exact Only.refl _ _ | with_reducible assumption | with_reducible refine Only.drew ?_ | with_reducible refine Only.drewN ?_ _ | with_reducible refine Only.alloc ?_ _)))⟩
                          case measure => simp [intOf]; omega
                        | false =>
                          go_wp2
                          go_quiet (fail)
                          go_wp2
                          go_roundw
                          case rel => exact ⟨t + 1, false, by omega, by go_num, rfl, (fun h => by cases h), hO5.trans (by (repeat (first | with_reducible exact Only.refl _ _ | with_reducible assumption | with_reducible refine Only.drew ?_ | with_reducible refine Only.drewN ?_ _ | with_reducible refine Only.alloc ?_ _)))⟩
                          case measure => simp [intOf]; omega
                    · obtain rfl : t = k2 := by omega
                      have g4 : ¬ (t : Int) < (t : Int) := by omega
                      cases db with
                      | true =>
                        have hS : Hid (Invoked log calls q cm) := mk_hid (fun _ _ => HDB.out (by first | trivial | rfl))
                        go_wp2
                        go_roundw
                        case rel =>
                          refine ⟨q + 1, by omega, by go_num, fun i c hi hc2 => ?_, hO5.trans (by (repeat (first | with_reducible exact Only.refl _ _ | with_reducible assumption | with_reducible refine Only.drew ?_ | with_reducible refine Only.drewN ?_ _ | with_reducible refine Only.alloc ?_ _)))⟩
                          rcases Nat.lt_succ_iff_lt_or_eq.1 hi with h | rfl
                          · exact HJ.out i c h hc2
                          · have := HP.out; rw [this] at hc2; cases hc2; exact hS.out
                        case measure => simp [intOf]; omega
                      | false =>
                        go_wp2
                        exact bodyPost_ret (v := .int .i64 5) (by simp [results, Tryz.results6, go_sem, *]) rfl ⟨⟨5, rfl, fun h => absurd h (by decide)⟩, hO5⟩
                · have c2' : ((pq : Int) != (q : Int) + 1) = true := by simp; omega
                  have hS : Hid (Invoked log calls q cm) := mk_hid (fun _ h => absurd (HPQ.out.symm.trans h) c2)
                  clear c2
                  go_wp2
                  go_roundw
                  case rel =>
                    refine ⟨q + 1, by omega, by go_num, fun i c hi hc2 => ?_, hO4.trans (by (repeat (first | with_reducible exact Only.refl _ _ | with_reducible assumption | with_reducible refine Only.drew ?_ | with_reducible refine Only.drewN ?_ _ | with_reducible refine Only.alloc ?_ _)))⟩
                    rcases Nat.lt_succ_iff_lt_or_eq.1 hi with h | rfl
                    · exact HJ.out i c h hc2
                    · have := HP.out; rw [this] at hc2; cases hc2; exact hS.out
                  case measure => simp [intOf]; omega
            · obtain rfl : q = len := by omega
              have HW : Hid (Witness log calls) := mk_hid ⟨HS.out, HO.out, fun i c hi => HJ.out i c (by have := (List.getElem?_eq_some_iff.1 hi).1; omega) hi⟩
              have g2 : ¬ (q : Int) < (q : Int) := by omega
              go_wp2
              exact bodyPost_ret (v := .int .i64 0) (by simp [results, Tryz.results6, go_sem, *]) rfl ⟨⟨0, rfl, fun _ => HW.out⟩, hO4⟩
end Go.Proofs.YtgcjmjhdnkffcaaGreatDoor
