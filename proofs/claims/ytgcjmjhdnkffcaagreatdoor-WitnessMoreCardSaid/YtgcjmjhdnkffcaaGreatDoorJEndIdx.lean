/- How answered calls are ordered (layer 43): cmp.Compare and the closure over it. No condition. -/
import Derived.Test.YtgcjmjhdnkffcaaGreatDoorJStbA
import Derived.Test.YtgcjmjhdnkffcaaGreatDoorJRefLarge
set_option linter.unusedVariables false
set_option linter.unusedSimpArgs false
namespace Go.Proofs.YtgcjmjhdnkffcaaGreatDoor
open Go.Shelf Go.RowKit Go.Lib Go.Sort
def cmpI (a b : Int) : Int := if a < b then -1 else if b < a then 1 else 0
theorem isNaN_any (a : Int) (w : World) : Calls Tryz.prog 48 #[.int .i64 a] w fun e w' => e = .returned (.bool false) ∧ w' = w := by
  go_enter Tryz.func48, Tryz.ntmps48
  go_wp2
  go_ret
  exact ⟨rfl, rfl⟩
set_option maxHeartbeats 1000000 in
theorem compare_any (a b : Int) (w : World) : Calls Tryz.prog 34 #[.int .i64 a, .int .i64 b] w fun e w' => e = .returned (.int .i64 (cmpI a b)) ∧ w' = w := by
  unfold cmpI
  go_enter Tryz.func34, Tryz.ntmps34
  by_cases h1 : a < b
  · have h2 : ¬ b < a := by omega
    go_wp2_with (go_at_call 48; refine (isNaN_any _ _).mono ?_; rintro e w2 ⟨rfl, rfl⟩)
    go_ret
    exact ⟨rfl, rfl⟩
  · by_cases h2 : b < a
    · go_wp2_with (go_at_call 48; refine (isNaN_any _ _).mono ?_; rintro e w2 ⟨rfl, rfl⟩)
      go_ret
      exact ⟨rfl, rfl⟩
    · go_wp2_with (go_at_call 48; refine (isNaN_any _ _).mono ?_; rintro e w2 ⟨rfl, rfl⟩)
      go_ret
      exact ⟨rfl, rfl⟩
set_option maxHeartbeats 1000000 in
set_option maxRecDepth 100000 in
theorem endcmp_any (x y : Call) (w : World) : Calls Tryz.prog 33 #[.agg x.cells.toArray, .agg y.cells.toArray] w fun e w' => e = .returned (.int .i64 (cmpI x.fin y.fin)) ∧ ∃ q os', w' = grow (w.drewN q) os' := by
  obtain ⟨r, hr⟩ : ∃ r, cmpI x.fin y.fin = r := ⟨_, rfl⟩
  have HR := mk_hid hr
  rw [hr]
  clear hr
  unfold Call.cells
  go_enter Tryz.func33, Tryz.ntmps33
  go_wp2_with (go_at_call 34; refine (compare_any _ _ _).mono ?_; rw [HR.out]; rintro e w2 ⟨rfl, rfl⟩)
  go_ret
  refine ⟨rfl, 0, _, by rw [alloc_eq_grow, alloc_eq_grow, grow_grow]; rfl⟩
end Go.Proofs.YtgcjmjhdnkffcaaGreatDoor
/- slices.IndexFunc, slices.ContainsFunc at the calls of this program. Asked of the function: its contract in whatever world. -/
set_option linter.unusedVariables false
set_option linter.unusedSimpArgs false
namespace Go.Proofs.YtgcjmjhdnkffcaaGreatDoor
open Go.Shelf Go.RowKit Go.Lib Go.Sort
def Call.agg (c : Call) : Value := .agg c.cells.toArray
/-- What is asked of a predicate: in each world with w's blocks as they were it says p, and turns nothing. -/
def PredK (w : World) (g : Nat) (lb : Array Value) (p : Call → Bool) (L : List Call) : Prop := ∀ W, Only nob w W → ∀ x ∈ L, Calls Tryz.prog g (#[x.agg] ++ lb) W fun e w' => e = .returned (.bool (p x)) ∧ Only nob W w'
def IdxPost (w : World) (p : Call → Bool) (L : List Call) (e : Ending) (w' : World) : Prop :=
  ((e = .returned (.int .i64 (-1)) ∧ ∀ x ∈ L, p x = false) ∨ ∃ k, k < L.length ∧ e = .returned (.int .i64 (k : Int)) ∧ (∀ j x, j < k → L[j]? = some x → p x = false) ∧ ∃ x, L[k]? = some x ∧ p x = true) ∧ Only nob w w'
set_option maxRecDepth 100000 in
set_option maxHeartbeats 4000000 in
theorem idx_any (g : Nat) (lb : Array Value) (p : Call → Bool) (A : Option Addr) (n c : Nat) (L : List Call) (w : World) (eg : ∀ args w, (callFunc g args).run Tryz.prog w = .ok (.enter g args) w) (hn : n ≤ 1000) (hL : SlOf Call.cells 15 w A n L) (hp : PredK w g lb p L) :
    Calls Tryz.prog 46 #[.slice A n c, .func (.func g) #[] lb] w (IdxPost w p L) := by
  have hll := hL.1
  have HL := mk_hid hL
  have HP := mk_hid hp
  clear hL hp
  go_enter Tryz.func46, Tryz.ntmps46
  go_wp2
  go_loopw [8] (fun i wr => ∃ (k : Nat), k ≤ n ∧ i = .int .i64 k ∧ (∀ j x, j < k → L[j]? = some x → p x = false) ∧ Only nob w wr) (fun i _ => n - (intOf i).toNat)
  case atStart => exact ⟨0, by omega, rfl, by omega, by (repeat (first | with_reducible exact Only.refl _ _ | with_reducible assumption | with_reducible refine Only.drew ?_ | with_reducible refine Only.drewN ?_ _ | with_reducible refine Only.alloc ?_ _))⟩
  case round =>
    obtain ⟨k, hk, rfl, hF0, hO⟩ := hrel
    have HF := mk_hid hF0
    clear hF0
    by_cases hlt : k < n
    · obtain ⟨y, cl, rfl, hq, hmem, hyb, hat⟩ := (HL.out.none hO).get hlt
      obtain ⟨f0, f1, f2, f3, f4, f5, f6, f7, f8, f9, f10, f11, f12, f13, f14⟩ := Call.facts hat
      have h1 : (k : Int) < (n : Int) := by omega
      have h2 : ¬ (k : Int) < 0 := by omega
      have h3 : (0 : Int) ≤ (k : Int) := by omega
      have HQ := mk_hid hq
      have hc := HP.out wr hO cl hmem
      unfold Call.agg Call.cells at hc
      clear hq hat
      cases hv : p cl with
      | true =>
        rw [hv] at hc
        have HV := mk_hid hv
        clear hv
        go_wp2_with (go_at_fn g; refine hc.mono ?_; rintro e w2 ⟨rfl, ho2⟩)
        refine bodyPost_ret (v := .int .i64 k) (by simp [results, Tryz.results46, go_sem, *]) rfl ⟨.inr ⟨k, by omega, rfl, HF.out, cl, HQ.out, HV.out⟩, hO.trans ho2⟩
      | false =>
        rw [hv] at hc
        have HV := mk_hid hv
        clear hv
        go_wp2_with (go_at_fn g; refine hc.mono ?_; rintro e w2 ⟨rfl, ho2⟩)
        go_roundw
        case rel =>
          refine ⟨k + 1, by omega, by go_num, fun j x hj hx => ?_, hO.trans ho2⟩
          rcases Nat.lt_succ_iff_lt_or_eq.1 hj with h | rfl
          · exact HF.out j x h hx
          · have := HQ.out; rw [this] at hx; cases hx; exact HV.out
        case measure => simp [intOf]; omega
    · obtain rfl : k = n := by omega
      have h1 : ¬ (k : Int) < (k : Int) := by omega
      go_wp2
      refine bodyPost_ret (v := .int .i64 (-1)) (by simp [results, Tryz.results46, go_sem, *]) rfl ⟨.inl ⟨rfl, fun x hx => ?_⟩, hO⟩
      obtain ⟨j, hj⟩ := List.mem_iff_getElem?.1 hx
      exact HF.out j x (by have := (List.getElem?_eq_some_iff.1 hj).1; omega) hj
set_option maxRecDepth 100000 in
theorem contains_any (g : Nat) (lb : Array Value) (p : Call → Bool) (A : Option Addr) (n c : Nat) (L : List Call) (w : World) (eg : ∀ args w, (callFunc g args).run Tryz.prog w = .ok (.enter g args) w) (hn : n ≤ 1000) (hL : SlOf Call.cells 15 w A n L) (hp : PredK w g lb p L) :
    Calls Tryz.prog 28 #[.slice A n c, .func (.func g) #[] lb] w fun e w' => e = .returned (.bool (L.any p)) ∧ Only nob w w' := by
  have HL := mk_hid hL
  have HP := mk_hid hp
  clear hL hp
  obtain ⟨b, hb⟩ : ∃ b, L.any p = b := ⟨_, rfl⟩
  have HB := mk_hid hb
  rw [hb]
  clear hb
  go_enter Tryz.func28, Tryz.ntmps28
  cases b
  · have hall : ∀ x ∈ L, p x = false := by simpa using HB.out
    have HA := mk_hid hall
    clear hall
    go_wp2_with (go_at_call 46; refine (idx_any g lb p A n c L _ eg hn HL.out HP.out).mono ?_; rintro e w2 ⟨⟨rfl, h⟩ | ⟨k, hk, rfl, _, x, hx, hpx⟩, ho2⟩; rotate_left; exact absurd (HA.out x (List.mem_of_getElem? hx)) (by rw [hpx]; simp))
    refine bodyPost_ret (v := .bool false) (by simp [results, Tryz.results28, go_sem, *]) rfl ⟨rfl, ho2⟩
  · have hex : ∃ x ∈ L, p x = true := by simpa using HB.out
    have HA := mk_hid hex
    clear hex
    go_wp2_with (go_at_call 46; refine (idx_any g lb p A n c L _ eg hn HL.out HP.out).mono ?_; rintro e w2 ⟨⟨rfl, h⟩ | ⟨k, hk, rfl, _, x, hx, hpx⟩, ho2⟩; (obtain ⟨x, hx, hpx⟩ := HA.out; exact absurd (h x hx) (by rw [hpx]; simp)); have h3 : (0 : Int) ≤ (k : Int) := by omega)
    refine bodyPost_ret (v := .bool true) (by simp [results, Tryz.results28, go_sem, *]) rfl ⟨rfl, ho2⟩
end Go.Proofs.YtgcjmjhdnkffcaaGreatDoor
