/- slices.DeleteFunc at the calls of this program, walked. Asked of the function: it says p in whatever world. -/
import Derived.Test.YtgcjmjhdnkffcaaGreatDoorJEndDelP
import Derived.Test.YtgcjmjhdnkffcaaGreatDoorJPgMach
set_option linter.unusedVariables false
set_option linter.unusedSimpArgs false
namespace Go.Proofs.YtgcjmjhdnkffcaaGreatDoor
open Go.Shelf Go.RowKit Go.Lib Go.Sort
/-- The row in the middle of DeleteFunc: i kept ones ahead, from j on as it was. -/
structure DelI (w wr : World) (g : Nat) (p : Call → Bool) (L : List Call) (i j : Nat) (dk : Array Call) : Prop where
  lt : i < j
  le : j ≤ L.length
  size : dk.size = L.length
  only : Only (fun b => b = g) w wr
  row : HoldsK Call.cells 15 wr g 0 dk
  glt : g < wr.heap.size
  kept : dk.toList.take i = (L.take j).filter (fun x => !p x)
  rest : ∀ t, j ≤ t → dk.toList[t]? = L[t]?
theorem DelI.skip {w wr w' : World} {g : Nat} {p : Call → Bool} {L : List Call} {i j : Nat} {dk : Array Call} (h : DelI w wr g p L i j dk) {x : Call} (hx : L[j]? = some x) (hp : p x = true) (ho : Only nob wr w') : DelI w w' g p L i (j + 1) dk :=
  ⟨by have := h.lt; omega, by have := (List.getElem?_eq_some_iff.1 hx).1; omega, h.size, h.only.trans ho.up, holds_only h.row ho h.glt (fun h => h), by have := ho.size; have := h.glt; omega,
    by rw [h.kept, List.take_add_one, hx, List.filter_append]; simp [hp], fun t ht => h.rest t (by omega)⟩
theorem DelI.keep {w wr w' : World} {g : Nat} {p : Call → Bool} {L : List Call} {i j : Nat} {dk : Array Call} (h : DelI w wr g p L i j dk) {x : Call} (hx : L[j]? = some x) (hp : p x = false) (ho : Only nob wr w') : DelI w (w'.setCells g (i * 15) x.cells) g p L (i + 1) (j + 1) (dk.setIfInBounds i x) := by
  have hj := (List.getElem?_eq_some_iff.1 hx).1
  have hi : i < dk.size := by have := h.lt; have := h.size; omega
  refine ⟨by have := h.lt; omega, by omega, by simp [h.size], Only.setCells (S := fun b => b = g) (g := g) rfl _ _ _ (h.only.trans ho.up), holds_set (holds_only h.row ho h.glt (fun h => h)) i x hi, by rw [size_setCells]; have := ho.size; have := h.glt; omega, ?_, fun t ht => ?_⟩
  · rw [List.take_add_one (l := L), hx, List.filter_append, ← h.kept]
    simp only [Array.toList_setIfInBounds, Option.toList_some, List.filter_cons, hp, Bool.not_false, if_true, List.filter_nil]
    rw [List.take_add_one, List.take_set_of_le (Nat.le_refl _)]
    congr 1
    rw [List.getElem?_set_self (by simpa using hi)]
    rfl
  · rw [Array.toList_setIfInBounds, List.getElem?_set_ne (by have := h.lt; omega)]
    exact h.rest t (by omega)
def DelPost (w : World) (g cap : Nat) (p : Call → Bool) (L : List Call) (e : Ending) (w' : World) : Prop :=
  e = .returned (.slice (some ⟨g, 0, none⟩) (L.filter (fun x => !p x)).length cap) ∧ HoldsK Call.cells 15 w' g 0 (L.filter (fun x => !p x)).toArray ∧ Only (fun b => b = g) w w'
set_option maxRecDepth 100000 in
set_option maxHeartbeats 4000000 in
theorem del_any (f : Nat) (lb : Array Value) (p : Call → Bool) (g n cap : Nat) (L : List Call) (w : World) (eg : ∀ args w, (callFunc f args).run Tryz.prog w = .ok (.enter f args) w) (hn : n ≤ 1000) (hcap : n ≤ cap) (hcb : cap ≤ maxLen) (hll : L.length = n)
    (hL : HoldsK Call.cells 15 w g 0 L.toArray) (hg : g < w.heap.size) (hp : ∀ W, PredK W f lb p L) :
    Calls Tryz.prog 29 #[.slice (some ⟨g, 0, none⟩) n cap, .func (.func f) #[] lb] w (DelPost w g cap p L) := by
  have hsl : SlOf Call.cells 15 w (some ⟨g, 0, none⟩) n L := by
    refine ⟨hll, fun _ => ⟨_, rfl, hg, fun j q hq => ?_⟩⟩
    have hj := (List.getElem?_eq_some_iff.1 hq).1
    have h := holds_at hL j (by simpa using hj)
    rw [get_eq L j hj, (List.getElem?_eq_some_iff.1 hq).2] at h
    rw [Addr.add_lit, Nat.zero_add]
    exact h
  have HSL := mk_hid hsl
  have HP := mk_hid hp
  have HH := mk_hid hL
  have HLL := mk_hid hll
  clear hsl hp hL hll
  go_enter Tryz.func29, Tryz.ntmps29
  by_cases hex : ∃ x ∈ L, p x = true
  · have HEX := mk_hid hex
    clear hex
    go_wp2_with (go_at_call 46; refine (idx_any f lb p _ n cap L _ eg hn HSL.out (HP.out _)).mono ?_; rintro e w2 ⟨⟨rfl, h⟩ | ⟨k, hk, rfl, hbe, x, hx, hpx⟩, ho2⟩; (obtain ⟨x, hx, hpx⟩ := HEX.out; exact absurd (h x hx) (by rw [hpx]; simp)); have hI0 : Hid (DelI w w2 g p L k (k + 1) L.toArray) := mk_hid ⟨by omega, by omega, by simp, ho2.up, holds_only HH.out ho2 hg (fun h => h), (by have := ho2.size; omega), (by rw [List.take_add_one, hx, List.filter_append]; simp [hpx]; rw [List.filter_eq_self.2]; intro y hy; obtain ⟨t, ht, rfl⟩ := List.mem_take_iff_getElem.1 hy; simpa using hbe t _ (by omega) (List.getElem?_eq_getElem (by omega))), fun t ht => by simp⟩; have hne1 : ((k : Int) == -1) = false := beq_eq_false_iff_ne.2 (by omega); have hkl : k + 1 ≤ n := (by have := HLL.out; omega); clear hbe hx hpx)
    go_loopg [5, 6, 7] n (fun kx s5 s6 _ wr => ∃ (i j : Nat) (dk : Array Call), s5 = .int .i64 i ∧ s6 = .int .i64 j ∧ n - j ≤ kx ∧ Hid (DelI w wr g p L i j dk))
    case atStart => exact ⟨k, k + 1, L.toArray, rfl, by go_num, by omega, hI0⟩
    case round =>
      clear hI0 hne1 hkl hk
      obtain ⟨i, j, dk, rfl, rfl, hkx, HI⟩ := hrel
      have hij := HI.out.lt
      have hjl : j ≤ n := by have := HI.out.le; have := HLL.out; omega
      by_cases hlt : j < n
      · obtain ⟨x, hx⟩ : ∃ x, L[j]? = some x := ⟨_, List.getElem?_eq_getElem (by have := HLL.out; omega)⟩
        have hjd : j < dk.size := by have := HI.out.size; have := HLL.out; omega
        have hid : i < dk.size := by omega
        have hdj : dk[j]! = x := by
          have h := HI.out.rest j (Nat.le_refl _)
          rw [hx, List.getElem?_eq_getElem (by simpa using hjd)] at h
          rw [getElem!_pos dk j hjd]
          simpa using h
        have hatj := holds_at HI.out.row j hjd
        rw [hdj] at hatj
        have hati := holds_at HI.out.row i hid
        have hfr : ∀ c, c < 15 → wr.frozen? ⟨g, i * 15 + c, none⟩ = false := fun c hc => holds_free HI.out.row i c hid hc
        have hglt := HI.out.glt
        have h1 : (j : Int) < (n : Int) := by omega
        have h2 : (0 : Int) ≤ (j : Int) := by omega
        have h3 : (i : Int) < (n : Int) := by omega
        have h4 : (0 : Int) ≤ (i : Int) := by omega
        have hmem : x ∈ L := List.mem_of_getElem? hx
        have HX := mk_hid hx
        clear hx hdj
        have HFI := mk_hid (Call.facts hati)
        have HFR := mk_hid hfr
        obtain ⟨f0, f1, f2, f3, f4, f5, f6, f7, f8, f9, f10, f11, f12, f13, f14⟩ := Call.facts hatj
        dsimp only at f0 f1 f2 f3 f4 f5 f6 f7 f8 f9 f10 f11 f12 f13 f14
        clear hati hatj hfr
        cases hv : p x with
        | false =>
          have HV := mk_hid hv
          have hc := fun W => HP.out W W (Only.refl _ _) x hmem
          unfold Call.agg Call.cells at hc
          rw [hv] at hc
          have HC := mk_hid hc
          clear hv hc HFI HFR
          go_wp2_with (go_at_fn f; refine (HC.out _).mono ?_; rintro e w3 ⟨rfl, ho3⟩; have hO3 := Only.trans (a := wr) (by (repeat (first | with_reducible exact Only.refl _ _ | with_reducible assumption | with_reducible refine Only.drew ?_ | with_reducible refine Only.drewN ?_ _ | with_reducible refine Only.alloc ?_ _ | (with_reducible refine Only.set ?_ (.inr ?_) _; rotate_left; first | exact Nat.le_refl _ | exact Nat.le_succ _ | assumption | omega | (dsimp only; omega))))) ho3; have b3 : w3.heap[wr.heap.size]? = some (.cells #[.int .i64 x.cmd.kind, .int .i64 x.cmd.client, .int .i64 x.cmd.seq, .string x.cmd.key, .string x.cmd.val, .string x.cmd.old, .int .i64 x.cmd.node, .int .i64 x.beg, .int .i64 x.fin, .int .i64 x.ans.client, .int .i64 x.ans.seq, .int .i64 x.ans.err, .bool x.ans.found, .string x.ans.val, .int .i64 x.ans.rev] 30 (0, 0)) := ho3.heap ((heap_new _ rfl).trans (by kernel_rfl)) (fun h => h); obtain ⟨m3, n3⟩ := cells_all b3; have row3 := holds_only HI.out.row hO3 hglt (fun h => h); obtain ⟨g0, g1, g2, g3, g4, g5, g6, g7, g8, g9, g10, g11, g12, g13, g14⟩ := Call.facts (holds_at row3 i hid); dsimp only at g0 g1 g2 g3 g4 g5 g6 g7 g8 g9 g10 g11 g12 g13 g14; have z0 : w3.frozen? ⟨g, i * 15, none⟩ = false := holds_free row3 i 0 hid (by decide); have z1 := holds_free row3 i 1 hid (by decide); have z2 := holds_free row3 i 2 hid (by decide); have z3 := holds_free row3 i 3 hid (by decide); have z4 := holds_free row3 i 4 hid (by decide); have z5 := holds_free row3 i 5 hid (by decide); have z6 := holds_free row3 i 6 hid (by decide); have z7 := holds_free row3 i 7 hid (by decide); have z8 := holds_free row3 i 8 hid (by decide); have z9 := holds_free row3 i 9 hid (by decide); have z10 := holds_free row3 i 10 hid (by decide); have z11 := holds_free row3 i 11 hid (by decide); have z12 := holds_free row3 i 12 hid (by decide); have z13 := holds_free row3 i 13 hid (by decide); have z14 := holds_free row3 i 14 hid (by decide))
          go_roundg (n - (j + 1))
          case measure => omega
          case rel => exact ⟨i + 1, j + 1, dk.setIfInBounds i x, by go_num, by go_num, Nat.le_refl _, mk_hid (HI.out.keep HX.out HV.out hO3)⟩
        | true =>
          have HV := mk_hid hv
          have hc := fun W => HP.out W W (Only.refl _ _) x hmem
          unfold Call.agg Call.cells at hc
          rw [hv] at hc
          have HC := mk_hid hc
          clear hv hc HFI HFR
          go_wp2_with (go_at_fn f; refine (HC.out _).mono ?_; rintro e w3 ⟨rfl, ho3⟩; have hO3 := Only.trans (a := wr) (by (repeat (first | with_reducible exact Only.refl _ _ | with_reducible assumption | with_reducible refine Only.drew ?_ | with_reducible refine Only.drewN ?_ _ | with_reducible refine Only.alloc ?_ _ | (with_reducible refine Only.set ?_ (.inr ?_) _; rotate_left; first | exact Nat.le_refl _ | exact Nat.le_succ _ | assumption | omega | (dsimp only; omega))))) ho3)
          go_roundg (n - (j + 1))
          case measure => omega
          case rel => exact ⟨i, j + 1, dk, rfl, by go_num, Nat.le_refl _, mk_hid (HI.out.skip HX.out HV.out hO3)⟩
      · obtain rfl : j = n := by omega
        have h1 : ¬ (j : Int) < (j : Int) := by omega
        have hid : i < dk.size := by have := HI.out.size; have := HLL.out; omega
        have hds : dk.size = j := by rw [HI.out.size, HLL.out]
        have hcl := fun ty => clear_row HI.out.row i j (cap - i) hid hds ty
        have hHD := mk_hid (holds_head HI.out.row i (by omega) (zerosN (j - i)))
        have hlen : Hid (i = (L.filter (fun x => !p x)).length) := mk_hid (by
          have h := congrArg List.length HI.out.kept
          rw [List.length_take, List.take_of_length_le (by rw [HLL.out]; exact Nat.le_refl _)] at h
          rw [← h]; simp; omega)
        have hkept : Hid (dk.toList.take i = L.filter (fun x => !p x)) := mk_hid (by rw [HI.out.kept, List.take_of_length_le (by rw [HLL.out]; exact Nat.le_refl _)])
        have h3 : ¬ (j : Int) < (i : Int) := by omega
        have h4 : (i : Int) ≤ (j : Int) := by omega
        have h5 : (0 : Int) ≤ (i : Int) := by omega
        have h6 : (i : Int) ≤ (cap : Int) := by omega
        have h7 : i ≤ j := by omega
        have h8 : j ≤ cap := by omega
        go_wp2
        refine bodyPost_ret (v := .slice (some ⟨g, 0, none⟩) i cap) (by simp [results, Tryz.results29, go_sem, *]) rfl ?_
        unfold DelPost
        exact ⟨by rw [← hlen.out], by rw [← hkept.out]; exact hHD.out, Only.setCells (S := fun b => b = g) (g := g) rfl _ _ _ HI.out.only⟩
  · have hall : ∀ x ∈ L, p x = false := by simpa using hex
    have hf : Hid (L.filter (fun x => !p x) = L) := mk_hid (List.filter_eq_self.2 (fun x hx => by rw [hall x hx]; rfl))
    have HA := mk_hid hall
    clear hex hall
    go_wp2_with (go_at_call 46; refine (idx_any f lb p _ n cap L _ eg hn HSL.out (HP.out _)).mono ?_; rintro e w2 ⟨⟨rfl, h⟩ | ⟨k, hk, rfl, _, x, hx, hpx⟩, ho2⟩; rotate_left; exact absurd (HA.out x (List.mem_of_getElem? hx)) (by rw [hpx]; simp))
    refine bodyPost_ret (v := .slice (some ⟨g, 0, none⟩) n cap) (by simp [results, Tryz.results29, go_sem, *]) rfl ?_
    unfold DelPost
    rw [hf.out, HLL.out]
    exact ⟨rfl, holds_only HH.out ho2 hg (fun h => h), ho2.up⟩
end Go.Proofs.YtgcjmjhdnkffcaaGreatDoor
