/- Answered calls in the order in which they ended (layer 43): the answered ones, in some order. No condition but length. -/
import Derived.Test.YtgcjmjhdnkffcaaGreatDoorJEndDel
set_option linter.unusedVariables false
set_option linter.unusedSimpArgs false
namespace Go.Proofs.YtgcjmjhdnkffcaaGreatDoor
open Go.Shelf Go.RowKit Go.Lib Go.Sort
theorem sortW : SortW Tryz.prog 15 where
  mixed := by kernel_rfl
  t0 := Tryz.underlying0
  a0 := Tryz.isAgg0
  z0 := Tryz.sizeOf0
  v0 := Tryz.zeroValue0
  t3 := Tryz.underlying3
  a3 := Tryz.isAgg3
  z3 := Tryz.sizeOf3
  v3 := Tryz.zeroValue3
  t4 := Tryz.underlying4
  a4 := Tryz.isAgg4
  z4 := Tryz.sizeOf4
  v4 := Tryz.zeroValue4
  tS := Tryz.underlying23
  aS := Tryz.isAgg23
  zS := Tryz.sizeOf23
  vS := Tryz.zeroValue23
  tF := Tryz.underlying73
  aF := Tryz.isAgg73
  zF := Tryz.sizeOf73
  vF := Tryz.zeroValue73
  tU := Tryz.underlying113
  aU := Tryz.isAgg113
  zU := Tryz.sizeOf113
  vU := Tryz.zeroValue113
  aE := Tryz.isAgg30
  zE := Tryz.sizeOf30
  fX := Tryz.func93
  fR := Tryz.func71
  fM := Tryz.func63
  fS := Tryz.func47
  fT := Tryz.func32
  fI := Tryz.func62
theorem answered_any (c : Call) (w : World) : Calls Tryz.prog 13 #[c.agg] w fun e w' => e = .returned (.bool (decide (0 < c.fin))) ∧ Only nob w w' := by
  unfold Call.agg Call.cells
  go_enter Tryz.func13, Tryz.ntmps13
  go_wp2
  go_ret
  exact ⟨rfl, by (repeat (first | with_reducible exact Only.refl _ _ | with_reducible assumption | with_reducible refine Only.drew ?_ | with_reducible refine Only.drewN ?_ _ | with_reducible refine Only.alloc ?_ _))⟩
def open_ (c : Call) : Bool := !decide (0 < c.fin)
theorem endopen_any (w : World) (L : List Call) : PredK w 31 #[] open_ L := by
  intro W _ c _
  unfold open_
  obtain ⟨b, hb⟩ : ∃ b, decide (0 < c.fin) = b := ⟨_, rfl⟩
  have HB := mk_hid hb
  rw [hb]
  clear hb
  show Calls Tryz.prog 31 #[c.agg] W _
  unfold Call.agg Call.cells
  go_enter Tryz.func31, Tryz.ntmps31
  go_wp2_with (go_at_call 13; refine (answered_any c _).mono ?_; rw [HB.out]; rintro e w2 ⟨rfl, ho2⟩)
  go_ret
  exact ⟨rfl, Only.trans (by (repeat (first | with_reducible exact Only.refl _ _ | with_reducible assumption | with_reducible refine Only.drew ?_ | with_reducible refine Only.drewN ?_ _ | with_reducible refine Only.alloc ?_ _))) ho2⟩
end Go.Proofs.YtgcjmjhdnkffcaaGreatDoor
/- ends (layer 43), walked: the answered calls, in some order, in memory of its own. No condition but length. -/
set_option linter.unusedVariables false
set_option linter.unusedSimpArgs false
namespace Go.Proofs.YtgcjmjhdnkffcaaGreatDoor
open Go.Shelf Go.RowKit Go.Lib Go.Sort
theorem swk_only {w W : World} {g : Nat} {d : Array Call} (h : SWK Call.cells 15 w g 0 d W) : Only (fun b => b = g) w W := by
  have hle := h.le
  obtain ⟨n, os, rfl⟩ := h
  refine ⟨rfl, rfl, rfl, hle, fun i hi hne => ?_⟩
  unfold sortWorldK grow putRowK putRow mapBlock
  show ((w.heap.modify g _) ++ os)[i]? = w.heap[i]?
  rw [Array.getElem?_append_left (by simpa using hi), Array.getElem?_modify, if_neg (fun e => hne e.symm)]
theorem holds_sl {w : World} {g cap : Nat} {d : Array Call} (h : HoldsK Call.cells 15 w g 0 d) (hg : g < w.heap.size) : SlOf Call.cells 15 w (some ⟨g, 0, none⟩) d.size d.toList := by
  refine ⟨by simp, fun _ => ⟨_, rfl, hg, fun j q hq => ?_⟩⟩
  have hj := (List.getElem?_eq_some_iff.1 hq).1
  have h2 := holds_at h j (by simpa using hj)
  rw [show d[j]! = q from by rw [getElem!_pos d j (by simpa using hj)]; simpa using (List.getElem?_eq_some_iff.1 hq).2] at h2
  rw [Addr.add_lit, Nat.zero_add]
  exact h2
theorem own_holds {w : World} {base g n cap : Nat} {L : List Call} (h : w.ownsRow base 30 15 (.slice (some ⟨g, 0, none⟩) n cap) n (L.flatMap Call.cells)) : HoldsK Call.cells 15 w g 0 L.toArray ∧ g < w.heap.size ∧ n ≤ cap ∧ cap ≤ maxLen ∧ base ≤ g ∧ L.length = n := by
  have hn : L.length = n := by have := h.1; rw [flat_len Call.cells_len] at this; omega
  rcases h.2 with ⟨h2, _⟩ | ⟨g', cap', cur, h2, hb, hh, hc, hm, hsz, htk⟩
  · cases h2
  · simp only [Value.slice.injEq, Option.some.injEq, Addr.mk.injEq] at h2
    obtain ⟨⟨rfl, _, _⟩, _, rfl⟩ := h2
    refine ⟨fun t ht => ?_, heap_lt hh, hc, hm, hb, hn⟩
    have ht2 : t < L.length * 15 := by simpa using ht
    rw [get_flatK _ _ _ t (by simpa using ht2)]
    have hq : t / 15 < L.length := by omega
    refine ⟨?_, cells_free hh _⟩
    rw [cells_cell hh, Nat.zero_add, get_eq L (t / 15) hq]
    have h1 := flat_get Call.cells_len L (t / 15) L[t / 15] (List.getElem?_eq_getElem hq) (t % 15) ((L[t / 15]).cells[t % 15]!) (by
      have hl : t % 15 < (L[t / 15]).cells.length := by rw [Call.cells_len]; omega
      rw [getElem!_pos (L[t / 15]).cells (t % 15) hl]; exact List.getElem?_eq_getElem hl)
    rw [show t / 15 * 15 + t % 15 = t from by omega, ← htk, List.getElem?_take] at h1
    rw [if_pos (by omega)] at h1
    rw [← Array.getElem?_toList]
    exact h1
def EndsPost (w : World) (L : List Call) (e : Ending) (w' : World) : Prop :=
  (∃ (l : List Call) (B : Option Addr) (c : Nat), l.Perm (L.filter fun x => !open_ x) ∧ l.length ≤ c ∧ e = .returned (.slice B l.length c) ∧ SlOf Call.cells 15 w' B l.length l) ∧ Only nob w w'
set_option maxRecDepth 100000 in
set_option maxHeartbeats 1000000 in
theorem del_nil (f : Nat) (lb : Array Value) (w : World) (eg : ∀ args w, (callFunc f args).run Tryz.prog w = .ok (.enter f args) w) : Calls Tryz.prog 29 #[.slice none 0 0, .func (.func f) #[] lb] w fun e w' => e = .returned (.slice none 0 0) ∧ Only nob w w' := by
  go_enter Tryz.func29, Tryz.ntmps29
  go_wp2_with (go_at_call 46; refine (idx_any f lb (fun _ => false) none 0 0 [] _ eg (by omega) (SlOf.nil _ _ _ _) (fun W _ x hx => by cases hx)).mono ?_; rintro e w2 ⟨⟨rfl, h⟩ | ⟨k, hk, _⟩, ho2⟩; rotate_left; exact absurd hk (by simp))
  refine bodyPost_ret (v := .slice none 0 0) (by simp [results, Tryz.results29, go_sem, *]) rfl ⟨rfl, ho2⟩
set_option maxRecDepth 100000 in
set_option maxHeartbeats 4000000 in
theorem insertion_nil (fv : Value) (w : World) : Calls Tryz.prog 62 #[.slice none 0 0, .int .i64 0, .int .i64 0, fv] w fun e w' => e = .returned (.tuple #[]) ∧ Only nob w w' := by
  go_enter Tryz.func62, Tryz.ntmps62
  go_wp2
  refine wp_loop_rounds 1 ?_
  rw [rounds_succ]
  go_wp2
  all_goals first | (exfalso; omega) | (go_end0; exact ⟨rfl, by (repeat (first | with_reducible exact Only.refl _ _ | with_reducible assumption | with_reducible refine Only.drew ?_ | with_reducible refine Only.drewN ?_ _ | with_reducible refine Only.alloc ?_ _))⟩)
set_option maxRecDepth 100000 in
set_option maxHeartbeats 4000000 in
theorem stable_nil (fv : Value) (w : World) : Calls Tryz.prog 32 #[.slice none 0 0, fv] w fun e w' => e = .returned (.tuple #[]) ∧ Only nob w w' := by
  have hs : ∀ W, Calls Tryz.prog 47 #[.slice none 0 0, .int .i64 0, fv] W fun e w' => e = .returned (.tuple #[]) ∧ Only nob W w' := fun W => by
    go_enter Tryz.func47, Tryz.ntmps47
    go_wp2
    refine wp_loop_rounds 1 ?_
    rw [rounds_succ]
    go_wp2_with (go_at_call 62; refine (insertion_nil _ _).mono ?_; rintro e w1 ⟨rfl, ho1⟩)
    refine wp_loop_rounds 1 ?_
    rw [rounds_succ]
    go_wp2
    all_goals first | (exfalso; omega) | (go_end0; exact ⟨rfl, by (repeat (first | with_reducible exact Only.refl _ _ | with_reducible assumption | with_reducible refine Only.drew ?_ | with_reducible refine Only.drewN ?_ _ | with_reducible refine Only.alloc ?_ _))⟩)
  go_enter Tryz.func32, Tryz.ntmps32
  go_wp2_with (go_at_call 47; refine (hs _).mono ?_; rintro e w1 ⟨rfl, ho1⟩)
  go_end0
  exact ⟨rfl, ho1⟩
end Go.Proofs.YtgcjmjhdnkffcaaGreatDoor
/- ends (layer 43), walked. No condition but length. -/
set_option linter.unusedVariables false
set_option linter.unusedSimpArgs false
namespace Go.Proofs.YtgcjmjhdnkffcaaGreatDoor
open Go.Shelf Go.RowKit Go.Lib Go.Sort
theorem sorted_calls (g cap N : Nat) (d : Array Call) (w : World) (hN : d.size = N) (h : HoldsK Call.cells 15 w g 0 d) (hg : g < w.heap.size) (hsz : d.size ≤ 1000) :
    Calls Tryz.prog 32 #[.slice (some ⟨g, 0, none⟩) N cap, .func (.func 33) #[] #[]] w fun e w' => e = .returned (.tuple #[]) ∧ (∃ d' : Array Call, d'.size = d.size ∧ d'.toList.Perm d.toList ∧ HoldsK Call.cells 15 w' g 0 d') ∧ Only (fun b => b = g) w w' := by
  subst hN
  have R : RowK Call.cells 15 w g 0 d := ⟨Call.cells_len, Call.cells_one, h, hg⟩
  refine (sortStable_any sortW (fun x y => cmpI x.fin y.fin) 33 #[] d.size d w (enters_of Tryz.func33 (by kernel_rfl) rfl) (fun m os dk _ x y => ?_) rfl R rfl (SWK.start h) (by omega)).mono ?_
  · exact endcmp_any x y _
  · rintro e w' ⟨rfl, d', hp, S⟩
    refine ⟨rfl, ⟨d', hp.1, ?_, S.holds hg h hp.1⟩, swk_only S⟩
    have hp2 := hp.2.2
    have e1 : (d'.extract 0 d.size) = d' := by rw [← hp.1]; simp
    have e2 : (d.extract 0 d.size) = d := by simp
    rw [e1, e2] at hp2
    exact hp2
set_option maxRecDepth 100000 in
set_option maxHeartbeats 4000000 in
theorem ends_any (A : Option Addr) (n c : Nat) (L : List Call) (w : World) (hn : n ≤ 1000) (hL : SlOf Call.cells 15 w A n L) :
    Calls Tryz.prog 16 #[.slice A n c] w (EndsPost w L) := by
  have e1 : ∀ args w, (callFunc 31 args).run Tryz.prog w = .ok (.enter 31 args) w := enters_of Tryz.func31 (by kernel_rfl) rfl
  have hdl : ∀ (W : World) (g cap : Nat), HoldsK Call.cells 15 W g 0 L.toArray ∧ g < W.heap.size ∧ n ≤ cap ∧ cap ≤ maxLen ∧ w.heap.size ≤ g ∧ L.length = n → Calls Tryz.prog 29 #[.slice (some ⟨g, 0, none⟩) n cap, .func (.func 31) #[] #[]] W (DelPost W g cap open_ L) :=
    fun W g cap h => del_any 31 #[] open_ g n cap L W e1 hn h.2.2.1 h.2.2.2.1 hL.1 h.1 h.2.1 (fun W => endopen_any W L)
  have hlf := List.length_filter_le (fun x => !open_ x) L
  unfold DelPost at hdl
  unfold EndsPost
  obtain ⟨D, hD⟩ : ∃ D, L.filter (fun x => !open_ x) = D := ⟨_, rfl⟩
  rw [hD] at hdl hlf
  rw [hD]
  have hst : ∀ (W : World) (g cap : Nat), HoldsK Call.cells 15 W g 0 D.toArray → g < W.heap.size → Calls Tryz.prog 32 #[.slice (some ⟨g, 0, none⟩) D.length cap, .func (.func 33) #[] #[]] W fun e w' => e = .returned (.tuple #[]) ∧ (∃ d' : Array Call, d'.size = D.length ∧ d'.toList.Perm D ∧ HoldsK Call.cells 15 w' g 0 d') ∧ Only (fun b => b = g) W w' :=
    fun W g cap h hg => by
      have := sorted_calls g cap D.length D.toArray W (by simp) h hg (by have := hL.1; simp; omega)
      simpa using this
  have HDL := mk_hid hdl
  have HST := mk_hid hst
  have HL := mk_hid hL
  have HD := mk_hid hD
  clear hL hdl hst hD hlf
  go_enter Tryz.func16, Tryz.ntmps16
  go_wp2_with (first
    | (go_at_call 30; (with_reducible refine (clone_any A n c L _ hn HL.out).mono ?_); rintro e w1 ⟨⟨v, rfl, hown⟩, ho1⟩; rcases hown.2 with ⟨rfl, hn0⟩ | ⟨g, cap, cur, rfl, hb, hh, hr⟩ <;> (try have HOW := mk_hid (own_holds hown)) <;> clear hown)
    | (go_at_call 29; (with_reducible refine (del_nil 31 #[] _ e1).mono ?_); rintro e w2 ⟨rfl, ho2⟩)
    | (go_at_call 29; (with_reducible refine (HDL.out _ g cap HOW.out).mono ?_); rintro e w2 ⟨rfl, hrow, ho2⟩; have HR2 := mk_hid hrow; clear hrow)
    | (go_at_call 32; (with_reducible refine (stable_nil _ _).mono ?_); rintro e w3 ⟨rfl, ho3⟩)
    | (go_at_call 32; (with_reducible refine (HST.out _ g cap HR2.out (by have := HOW.out.2.1; have := ho2.size; omega)).mono ?_); rintro e w3 ⟨rfl, ⟨d3, hs3, hp3, hrow3⟩, ho3⟩; have HS3 := mk_hid (And.intro hs3 (And.intro hp3 hrow3)); clear hs3 hp3 hrow3))
  · refine bodyPost_ret (v := .slice none 0 0) (by simp [results, Tryz.results16, go_sem, *]) rfl ⟨⟨[], none, 0, ?_, by simp, rfl, SlOf.nil _ _ _ _⟩, ho1.trans (ho2.trans ho3)⟩
    have hl0 : L = [] := by have := HL.out.1; rw [hn0] at this; exact List.eq_nil_of_length_eq_zero this
    rw [← HD.out, hl0]
    exact List.Perm.refl _
  · have hge := HOW.out.2.2.2.2.1
    have hlt := HOW.out.2.1
    have hlen : d3.toList.length = D.length := by rw [← HS3.out.1]; simp
    have hsl := holds_sl (cap := cap) HS3.out.2.2 (by have := ho2.size; have := ho3.size; omega)
    refine bodyPost_ret (v := .slice (some ⟨g, 0, none⟩) D.length cap) (by simp [results, Tryz.results16, go_sem, *]) rfl ⟨⟨d3.toList, some ⟨g, 0, none⟩, cap, HS3.out.2.1, by have := HOW.out.2.2.1; have := HOW.out.2.2.2.2.2; have := List.length_filter_le (fun x => !open_ x) L; rw [HD.out] at this; omega, by rw [hlen], by rw [hlen]; rw [HS3.out.1] at hsl; exact hsl⟩, (ho1.then ho2 (fun i hi e => by omega)).then ho3 (fun i hi e => by omega)⟩
end Go.Proofs.YtgcjmjhdnkffcaaGreatDoor
