/- The reference's lists of pairs and sessions, one more in its place, one less (layers 22, 23, 25), walked; no condition but lengths. -/
import Derived.Test.YtgcjmjhdnkffcaaGreatDoorJRefKv
import Derived.WalkLawsBesides
set_option linter.unusedVariables false
namespace Go.Proofs.YtgcjmjhdnkffcaaGreatDoor
open Go.RowKit
theorem infoPair : (Tryz.prog.info? 94).map (fun i => (i.zero, i.size, i.bytes)) = some (some (.agg #[.string ⟨#[]⟩, .string ⟨#[]⟩, .int .i64 0]), 3, 40) := by kernel_rfl
theorem infoAns : (Tryz.prog.info? 28).map (fun i => (i.zero, i.size, i.bytes)) = some (some (.agg #[.int .i64 0, .int .i64 0, .int .i64 0, .bool false, .string ⟨#[]⟩, .int .i64 0]), 6, 56) := by kernel_rfl
theorem infoSess : (Tryz.prog.info? 66).map (fun i => (i.zero, i.size, i.bytes)) = some (some (.agg #[.int .i64 0, .int .i64 0, .int .i64 0, .int .i64 0, .int .i64 0, .bool false, .string ⟨#[]⟩, .int .i64 0]), 8, 72) := by kernel_rfl
theorem keep_heap {w w1 : World} {b : Nat} {o : Obj} {row : Option Nat} (h : w.heap[b]? = some o) (hg : w.grownBy w1 row) (hne : some b ≠ row) : w1.heap[b]? = some o := (hg.block b (heap_lt h) hne).trans h
/-- Behind an append onto a row from base on. -/
theorem app_only {w0 W w1 : World} {base : Nat} {e : TypeId} {size n : Nat} {v : Value} {xs : List Value} (h : Only nob w0 W) (ho : W.ownsRow base e size v n xs) (hb : w0.heap.size ≤ base) (hg : W.grownBy w1 v.ownBlock) : Only nob w0 w1 :=
  only_grown h hg (fun k hk => .inl (Nat.le_trans hb (own_ge ho k hk)))
theorem app_keep {W w1 : World} {base b : Nat} {o : Obj} {e : TypeId} {size n : Nat} {v : Value} {xs : List Value} (ho : W.ownsRow base e size v n xs) (hb : b < base) (h : W.heap[b]? = some o) (hg : W.grownBy w1 v.ownBlock) : w1.heap[b]? = some o :=
  keep_heap h hg (fun e => by have := own_ge ho b e.symm; omega)
theorem pair_box {w : World} {b : Nat} {p : Pair} {t : TypeId} (h : w.heap[b]? = some (.cells #[.string p.key, .string p.val, .int .i64 p.rev] t (0, 0))) :
    w.cell? ⟨b, 0, none⟩ = some (.string p.key) ∧ w.cell? ⟨b, 1, none⟩ = some (.string p.val) ∧ w.cell? ⟨b, 2, none⟩ = some (.int .i64 p.rev) := ⟨cells_cell h 0, cells_cell h 1, cells_cell h 2⟩
theorem withP_len (p : Pair) (l : List Pair) : ∀ k, ((l.take k).foldl (withPStep p) ([], false)).1.length ≤ k + (if ((l.take k).foldl (withPStep p) ([], false)).2 then 1 else 0) := by
  intro k
  induction k with
  | zero => simp
  | succ k ih =>
    by_cases h : k < l.length
    · rw [take_foldl _ _ _ _ _ (List.getElem?_eq_getElem h)]
      generalize (l.take k).foldl (withPStep p) ([], false) = st at *
      obtain ⟨o, d⟩ := st
      unfold withPStep
      cases d <;> by_cases c1 : blt l[k].key p.key = false <;> by_cases c2 : beq l[k].key p.key = true <;> simp [c1, c2] at ih ⊢ <;> omega
    · rw [List.take_of_length_le (by omega)]
      rw [List.take_of_length_le (by omega)] at ih
      omega
/-- The loop's memory: the row that is made, the boxed pair. -/
structure WithM (w wr : World) (p : Pair) (v : Value) (out : List Pair) : Prop where
  own : wr.ownsRow (w.heap.size + 1) 94 3 v out.length (out.flatMap Pair.cells)
  only : Only nob w wr
  box : wr.heap[w.heap.size]? = some (.cells #[.string p.key, .string p.val, .int .i64 p.rev] 94 (0, 0))
theorem WithM.drewN {w wr : World} {p : Pair} {v : Value} {out : List Pair} (h : WithM w wr p v out) (n : Nat) : WithM w (wr.drewN n) p v out := ⟨h.own, h.only.drewN n, h.box⟩
theorem WithM.app {w wr w1 : World} {p x : Pair} {v v1 : Value} {out : List Pair} (h : WithM w wr p v out) (ho : w1.ownsRow (w.heap.size + 1) 94 3 v1 (out.length + 1) (out.flatMap Pair.cells ++ x.cells)) (hg : wr.grownBy w1 v.ownBlock) : WithM w w1 p v1 (out ++ [x]) :=
  ⟨by rw [flat_snoc, List.length_append]; exact ho, app_only h.only h.own (by omega) hg, app_keep h.own (by omega) h.box hg⟩
theorem At.under {w w1 : World} {S : Nat → Prop} {p : Addr} {cs : List Value} (h : At w p cs) (ho : Only S w w1) (hS : ¬ S p.block) : At w1 p cs := h.only ho hS
set_option maxRecDepth 100000 in
set_option maxHeartbeats 4000000 in
theorem refwith_any (A : Option Addr) (len cap : Nat) (l : List Pair) (p : Pair) (w : World) (h : len ≤ 1000) (hl : SlOf Pair.cells 3 w A len l) :
    Calls Tryz.prog 54 #[.slice A len cap, .agg #[.string p.key, .string p.val, .int .i64 p.rev]] w fun e w' => (∃ A' c', e = .returned (.slice A' (withP l p).length c') ∧ SlOf Pair.cells 3 w' A' (withP l p).length (withP l p) ∧ ∀ x, A' = some x → w.heap.size ≤ x.block) ∧ Only nob w w' := by
  go_enter Tryz.func54, Tryz.ntmps54
  go_wp2
  go_loopw [5, 6, 7] (fun v d i wr => ∃ (k : Nat) (out : List Pair) (db : Bool), k ≤ len ∧ i = .int .i64 k ∧ d = .bool db ∧ (l.take k).foldl (withPStep p) ([], false) = (out, db) ∧ WithM w wr p v out) (fun _ _ i _ => len - (intOf i).toNat)
  case atStart => exact ⟨0, [], false, by omega, rfl, rfl, rfl, own_nil _ _ _ _, (Only.refl _ _).alloc _, heap_alloc_new w _⟩
  case round =>
    obtain ⟨k, out, d, hk, rfl, rfl, hfold0, hI⟩ := hrel
    have hol : out.length ≤ k + 1 := by
      have h1 := withP_len p l k
      rw [hfold0] at h1
      revert h1
      cases d <;> simp <;> omega
    have hfold := mk_hid hfold0
    clear hfold0
    obtain ⟨b0, b1, b2⟩ := pair_box hI.box
    have hsz := hI.only.size
    have hsz1 := heap_lt hI.box
    by_cases hlt : k < len
    · obtain ⟨x, s, rfl, hp, hmem, hxb, hat⟩ := hl.get hlt
      have hst := mk_hid (take_foldl (withPStep p) ([], false) l k s hp)
      have HAT : ∀ w1, Only nob w w1 → At w1 (x.add (k * 3)) s.cells := fun w1 ho => hat.only ho (fun hs => hs)
      obtain ⟨f0, f1, f2⟩ := Pair.facts (HAT wr hI.only)
      have h1 : (k : Int) < (len : Int) := by omega
      have h2 : ¬ (k : Int) < 0 := by omega
      have HA := mk_hid HAT
      have hown := hI.own
      clear hat hp hl HAT
      cases hc : beq s.key p.key with
      | true =>
        have hc' : (s.key.toList == p.key.toList) = true := hc
        cases d with
        | true =>
          have hE : Hid ((l.take (k + 1)).foldl (withPStep p) ([], false) = (out, true)) := mk_hid (by rw [hst.out, hfold.out]; simp [withPStep, hc])
          clear hc
          go_wp2
          go_quiet (fail)
          go_wp2
          go_quiet (fail)
          go_wp2
          go_roundw
          case rel => exact ⟨k + 1, out, true, by omega, by go_num, rfl, hE.out, hI.drewN _⟩
          case measure => simp [intOf]; omega
        | false =>
          cases hb : blt s.key p.key with
          | true =>
            have hb' : Op.bytesLess s.key.toList p.key.toList = true := hb
            have hE : Hid ((l.take (k + 1)).foldl (withPStep p) ([], false) = (out, false)) := mk_hid (by rw [hst.out, hfold.out]; simp [withPStep, hc, hb])
            clear hc hb
            go_wp2
            go_quiet (fail)
            go_wp2
            go_quiet (fail)
            go_wp2
            go_roundw
            case rel => exact ⟨k + 1, out, false, by omega, by go_num, rfl, hE.out, hI.drewN _⟩
            case measure => simp [intOf]; omega
          | false =>
            have hb' : Op.bytesLess s.key.toList p.key.toList = false := hb
            have hE : Hid ((l.take (k + 1)).foldl (withPStep p) ([], false) = (out ++ [p], true)) := mk_hid (by rw [hst.out, hfold.out]; simp [withPStep, hc, hb])
            clear hc hb
            go_wp2
            go_quiet (fail)
            go_wp2_with (at_builtin; refine append_el (ys := p.cells) _ Tryz.underlying36 infoPair rfl (by decide) (by decide) hown (by first | omega | (simp; omega)) (by omega) rfl p.cells_one rfl rfl rfl ?_; intro v1 w1 ho1 hg1)
            have hI1 := (hI.drewN _).app ho1 hg1
            obtain ⟨b0, b1, b2⟩ := pair_box hI1.box
            obtain ⟨f0, f1, f2⟩ := Pair.facts (HA.out w1 hI1.only)
            go_wp2
            go_quiet (fail)
            go_wp2
            go_roundw
            case rel => exact ⟨k + 1, out ++ [p], true, by omega, by go_num, rfl, hE.out, hI1.drewN _⟩
            case measure => simp [intOf]; omega
      | false =>
        have hc' : (s.key.toList == p.key.toList) = false := hc
        cases d with
        | true =>
          have hE : Hid ((l.take (k + 1)).foldl (withPStep p) ([], false) = (out ++ [s], true)) := mk_hid (by rw [hst.out, hfold.out]; simp [withPStep, hc])
          clear hc
          go_wp2
          go_quiet (fail)
          go_wp2
          go_quiet (fail)
          go_wp2_with (at_builtin; refine append_el (ys := s.cells) _ Tryz.underlying36 infoPair rfl (by decide) (by decide) hown (by first | omega | (simp; omega)) (by omega) rfl s.cells_one rfl rfl rfl ?_; intro v1 w1 ho1 hg1)
          have hI1 := (hI.drewN _).app ho1 hg1
          clear ho1 hg1
          go_wp2
          go_roundw
          case rel => exact ⟨k + 1, out ++ [s], true, by omega, by go_num, rfl, hE.out, hI1⟩
          case measure => simp [intOf]; omega
        | false =>
          cases hb : blt s.key p.key with
          | true =>
            have hb' : Op.bytesLess s.key.toList p.key.toList = true := hb
            have hE : Hid ((l.take (k + 1)).foldl (withPStep p) ([], false) = (out ++ [s], false)) := mk_hid (by rw [hst.out, hfold.out]; simp [withPStep, hc, hb])
            clear hc hb
            go_wp2
            go_quiet (fail)
            go_wp2
            go_quiet (fail)
            go_wp2_with (at_builtin; refine append_el (ys := s.cells) _ Tryz.underlying36 infoPair rfl (by decide) (by decide) hown (by first | omega | (simp; omega)) (by omega) rfl s.cells_one rfl rfl rfl ?_; intro v1 w1 ho1 hg1)
            have hI1 := (hI.drewN _).app ho1 hg1
            clear ho1 hg1
            go_wp2
            go_roundw
            case rel => exact ⟨k + 1, out ++ [s], false, by omega, by go_num, rfl, hE.out, hI1⟩
            case measure => simp [intOf]; omega
          | false =>
            have hb' : Op.bytesLess s.key.toList p.key.toList = false := hb
            have hE : Hid ((l.take (k + 1)).foldl (withPStep p) ([], false) = ((out ++ [p]) ++ [s], true)) := mk_hid (by rw [hst.out, hfold.out]; simp [withPStep, hc, hb])
            clear hc hb
            go_wp2
            go_quiet (fail)
            go_wp2_with (at_builtin; refine append_el (ys := p.cells) _ Tryz.underlying36 infoPair rfl (by decide) (by decide) hown (by first | omega | (simp; omega)) (by omega) rfl p.cells_one rfl rfl rfl ?_; intro v1 w1 ho1 hg1)
            have hI1 := (hI.drewN _).app ho1 hg1
            obtain ⟨b0, b1, b2⟩ := pair_box hI1.box
            obtain ⟨f0, f1, f2⟩ := Pair.facts (HA.out w1 hI1.only)
            have hown1 := hI1.own
            have hsz2 := heap_lt hI1.box
            have hol2 : (out ++ [p]).length ≤ k + 2 := by simp; omega
            clear ho1 hg1 hI hown
            generalize out ++ [p] = out1 at *
            go_wp2
            go_quiet (fail)
            go_wp2_with (at_builtin; refine append_el (ys := s.cells) _ Tryz.underlying36 infoPair rfl (by decide) (by decide) hown1 (by first | omega | (simp; omega)) (by omega) rfl s.cells_one rfl rfl rfl ?_; intro v2 w2 ho2 hg2)
            have hI2 := (hI1.drewN _).app ho2 hg2
            clear ho2 hg2
            go_wp2
            go_roundw
            case rel => exact ⟨k + 1, out1 ++ [s], true, by omega, by go_num, rfl, hE.out, hI2⟩
            case measure => simp [intOf]; omega
    · obtain rfl : k = len := by omega
      have hlk : l.length = k := hl.1
      have hfold2 : Hid (l.foldl (withPStep p) ([], false) = (out, d)) := mk_hid (by have := hfold.out; rwa [List.take_of_length_le (by omega)] at this)
      have hown := hI.own
      cases d with
      | true =>
        have hE : Hid (withP l p = out) := mk_hid (by unfold withP; rw [hfold2.out]; rfl)
        obtain ⟨A', c', rfl, hsl, hfr⟩ := own_sl Pair.cells_len hown (by omega)
        go_wp2
        go_ret
        exact ⟨⟨A', c', by rw [hE.out]; rfl, by rw [hE.out]; exact hsl, fun x hx => by have := hfr x hx; omega⟩, hI.only⟩
      | false =>
        have hE : Hid (withP l p = out ++ [p]) := mk_hid (by unfold withP; rw [hfold2.out]; rfl)
        go_wp2_with (at_builtin; refine append_el (ys := p.cells) _ Tryz.underlying36 infoPair rfl (by decide) (by decide) hown (by first | omega | (simp; omega)) (by omega) rfl p.cells_one rfl rfl rfl ?_; intro v1 w1 ho1 hg1)
        have hI1 := hI.app ho1 hg1
        obtain ⟨A', c', rfl, hsl, hfr⟩ := own_sl Pair.cells_len hI1.own (by omega)
        clear ho1 hg1
        go_wp2
        go_ret
        exact ⟨⟨A', c', by rw [hE.out]; rfl, by rw [hE.out]; exact hsl, fun x hx => by have := hfr x hx; omega⟩, hI1.only⟩
end Go.Proofs.YtgcjmjhdnkffcaaGreatDoor
/- The reference's sessions, one more in its place (layer 22), walked; no condition but lengths. -/
set_option linter.unusedVariables false
namespace Go.Proofs.YtgcjmjhdnkffcaaGreatDoor
open Go.RowKit
theorem ans_box {w : World} {b : Nat} {a : Ans} {t : TypeId} (h : w.heap[b]? = some (.cells #[.int .i64 a.client, .int .i64 a.seq, .int .i64 a.err, .bool a.found, .string a.val, .int .i64 a.rev] t (0, 0))) :
    w.cell? ⟨b, 0, none⟩ = some (.int .i64 a.client) ∧ w.cell? ⟨b, 1, none⟩ = some (.int .i64 a.seq) ∧ w.cell? ⟨b, 2, none⟩ = some (.int .i64 a.err) ∧ w.cell? ⟨b, 3, none⟩ = some (.bool a.found) ∧ w.cell? ⟨b, 4, none⟩ = some (.string a.val) ∧ w.cell? ⟨b, 5, none⟩ = some (.int .i64 a.rev) :=
  ⟨cells_cell h 0, cells_cell h 1, cells_cell h 2, cells_cell h 3, cells_cell h 4, cells_cell h 5⟩
theorem withS_len (a : Ans) (l : List Sess) : ∀ k, ((l.take k).foldl (withSStep a) ([], false)).1.length ≤ k + (if ((l.take k).foldl (withSStep a) ([], false)).2 then 1 else 0) := by
  intro k
  induction k with
  | zero => simp
  | succ k ih =>
    by_cases h : k < l.length
    · rw [take_foldl _ _ _ _ _ (List.getElem?_eq_getElem h)]
      generalize (l.take k).foldl (withSStep a) ([], false) = st at *
      obtain ⟨o, d⟩ := st
      unfold withSStep
      cases d <;> by_cases c1 : a.client ≤ l[k].client <;> by_cases c2 : l[k].client = a.client <;> simp [c1, c2] at ih ⊢ <;> omega
    · rw [List.take_of_length_le (by omega)]
      rw [List.take_of_length_le (by omega)] at ih
      omega
/-- The loop's memory: the row that is made, the boxed pair. -/
structure WithN (w wr : World) (a : Ans) (v : Value) (out : List Sess) : Prop where
  own : wr.ownsRow (w.heap.size + 1) 66 8 v out.length (out.flatMap Sess.cells)
  only : Only nob w wr
  box : wr.heap[w.heap.size]? = some (.cells #[.int .i64 a.client, .int .i64 a.seq, .int .i64 a.err, .bool a.found, .string a.val, .int .i64 a.rev] 28 (0, 0))
theorem WithN.drewN {w wr : World} {a : Ans} {v : Value} {out : List Sess} (h : WithN w wr a v out) (n : Nat) : WithN w (wr.drewN n) a v out := ⟨h.own, h.only.drewN n, h.box⟩
theorem WithN.app {w wr w1 : World} {a : Ans} {x : Sess} {v v1 : Value} {out : List Sess} (h : WithN w wr a v out) (ho : w1.ownsRow (w.heap.size + 1) 66 8 v1 (out.length + 1) (out.flatMap Sess.cells ++ x.cells)) (hg : wr.grownBy w1 v.ownBlock) : WithN w w1 a v1 (out ++ [x]) :=
  ⟨by rw [flat_snoc, List.length_append]; exact ho, app_only h.only h.own (by omega) hg, app_keep h.own (by omega) h.box hg⟩
set_option maxRecDepth 100000 in
set_option maxHeartbeats 4000000 in
theorem refwithS_any (A : Option Addr) (len cap : Nat) (l : List Sess) (a : Ans) (w : World) (h : len ≤ 1000) (hl : SlOf Sess.cells 8 w A len l) :
    Calls Tryz.prog 42 #[.slice A len cap, .agg #[.int .i64 a.client, .int .i64 a.seq, .int .i64 a.err, .bool a.found, .string a.val, .int .i64 a.rev]] w fun e w' => (∃ A' c', e = .returned (.slice A' (withS l a).length c') ∧ SlOf Sess.cells 8 w' A' (withS l a).length (withS l a) ∧ ∀ x, A' = some x → w.heap.size ≤ x.block) ∧ Only nob w w' := by
  go_enter Tryz.func42, Tryz.ntmps42
  go_wp2
  go_loopw [5, 6, 7] (fun v d i wr => ∃ (k : Nat) (out : List Sess) (db : Bool), k ≤ len ∧ i = .int .i64 k ∧ d = .bool db ∧ (l.take k).foldl (withSStep a) ([], false) = (out, db) ∧ WithN w wr a v out) (fun _ _ i _ => len - (intOf i).toNat)
  case atStart => exact ⟨0, [], false, by omega, rfl, rfl, rfl, own_nil _ _ _ _, (Only.refl _ _).alloc _, heap_alloc_new w _⟩
  case round =>
    obtain ⟨k, out, d, hk, rfl, rfl, hfold0, hI⟩ := hrel
    have hol : out.length ≤ k + 1 := by
      have h1 := withS_len a l k
      rw [hfold0] at h1
      revert h1
      cases d <;> simp <;> omega
    have hfold := mk_hid hfold0
    clear hfold0
    obtain ⟨b0, b1, b2, b3, b4, b5⟩ := ans_box hI.box
    have hsz := hI.only.size
    have hsz1 := heap_lt hI.box
    by_cases hlt : k < len
    · obtain ⟨x, s, rfl, hp, hmem, hxb, hat⟩ := hl.get hlt
      have hst := mk_hid (take_foldl (withSStep a) ([], false) l k s hp)
      have HAT : ∀ w1, Only nob w w1 → At w1 (x.add (k * 8)) s.cells := fun w1 ho => hat.only ho (fun hs => hs)
      obtain ⟨f0, f1, f2, f3, f4, f5, f6, f7⟩ := Sess.facts (HAT wr hI.only)
      have h1 : (k : Int) < (len : Int) := by omega
      have h2 : ¬ (k : Int) < 0 := by omega
      have HA := mk_hid HAT
      have hown := hI.own
      clear hat hp hl HAT
      by_cases hc : s.client = a.client
      · have hc' : (s.client != a.client) = false := by simpa using hc
        cases d with
        | true =>
          have hE : Hid ((l.take (k + 1)).foldl (withSStep a) ([], false) = (out, true)) := mk_hid (by rw [hst.out, hfold.out]; simp [withSStep, hc])
          have HC := mk_hid hc
          clear hc
          go_wp2
          go_quiet (fail)
          go_wp2
          go_quiet (fail)
          go_wp2
          go_roundw
          case rel => exact ⟨k + 1, out, true, by omega, by go_num, rfl, hE.out, hI.drewN _⟩
          case measure => simp [intOf]; omega
        | false =>
          have hb : a.client ≤ s.client := by omega
          skip
          · have hb' : decide (a.client ≤ s.client) = true := by simpa using hb
            have hb2 : a.client ≤ s.client := hb
            have hE : Hid ((l.take (k + 1)).foldl (withSStep a) ([], false) = (out ++ [(⟨a.client, a.seq, a⟩ : Sess)], true)) := mk_hid (by rw [hst.out, hfold.out]; simp [withSStep, hc])
            have HC := mk_hid hc
            clear hc hb
            go_wp2
            go_quiet (fail)
            go_wp2_with (at_builtin; refine append_el (ys := (Sess.mk a.client a.seq a).cells) _ Tryz.underlying37 infoSess rfl (by decide) (by decide) hown (by first | omega | (simp; omega)) (by omega) rfl (Sess.mk a.client a.seq a).cells_one rfl rfl rfl ?_; intro v1 w1 ho1 hg1)
            have hI1 := (hI.drewN _).app ho1 hg1
            obtain ⟨b0, b1, b2, b3, b4, b5⟩ := ans_box hI1.box
            obtain ⟨f0, f1, f2, f3, f4, f5, f6, f7⟩ := Sess.facts (HA.out w1 hI1.only)
            go_wp2
            go_quiet (fail)
            go_wp2
            go_roundw
            case rel => exact ⟨k + 1, out ++ [(⟨a.client, a.seq, a⟩ : Sess)], true, by omega, by go_num, rfl, hE.out, hI1.drewN _⟩
            case measure => simp [intOf]; omega
      · have hc' : (s.client != a.client) = true := by simpa using hc
        cases d with
        | true =>
          have hE : Hid ((l.take (k + 1)).foldl (withSStep a) ([], false) = (out ++ [s], true)) := mk_hid (by rw [hst.out, hfold.out]; simp [withSStep, hc])
          have HC := mk_hid hc
          clear hc
          go_wp2
          go_quiet (fail)
          go_wp2
          go_quiet (fail)
          go_wp2_with (at_builtin; refine append_el (ys := s.cells) _ Tryz.underlying37 infoSess rfl (by decide) (by decide) hown (by first | omega | (simp; omega)) (by omega) rfl s.cells_one rfl rfl rfl ?_; intro v1 w1 ho1 hg1)
          have hI1 := (hI.drewN _).app ho1 hg1
          clear ho1 hg1
          go_wp2
          go_roundw
          case rel => exact ⟨k + 1, out ++ [s], true, by omega, by go_num, rfl, hE.out, hI1⟩
          case measure => simp [intOf]; omega
        | false =>
          by_cases hb : a.client ≤ s.client
          rotate_left
          · have hb' : decide (a.client ≤ s.client) = false := by simpa using hb
            have hE : Hid ((l.take (k + 1)).foldl (withSStep a) ([], false) = (out ++ [s], false)) := mk_hid (by rw [hst.out, hfold.out]; simp [withSStep, hc, hb])
            have HC := mk_hid hc
            clear hc hb
            go_wp2
            go_quiet (fail)
            go_wp2
            go_quiet (fail)
            go_wp2_with (at_builtin; refine append_el (ys := s.cells) _ Tryz.underlying37 infoSess rfl (by decide) (by decide) hown (by first | omega | (simp; omega)) (by omega) rfl s.cells_one rfl rfl rfl ?_; intro v1 w1 ho1 hg1)
            have hI1 := (hI.drewN _).app ho1 hg1
            clear ho1 hg1
            go_wp2
            go_roundw
            case rel => exact ⟨k + 1, out ++ [s], false, by omega, by go_num, rfl, hE.out, hI1⟩
            case measure => simp [intOf]; omega
          · have hb' : decide (a.client ≤ s.client) = true := by simpa using hb
            have hb2 : a.client ≤ s.client := hb
            have hE : Hid ((l.take (k + 1)).foldl (withSStep a) ([], false) = ((out ++ [(⟨a.client, a.seq, a⟩ : Sess)]) ++ [s], true)) := mk_hid (by rw [hst.out, hfold.out]; simp [withSStep, hc, hb])
            have HC := mk_hid hc
            clear hc hb
            go_wp2
            go_quiet (fail)
            go_wp2_with (at_builtin; refine append_el (ys := (Sess.mk a.client a.seq a).cells) _ Tryz.underlying37 infoSess rfl (by decide) (by decide) hown (by first | omega | (simp; omega)) (by omega) rfl (Sess.mk a.client a.seq a).cells_one rfl rfl rfl ?_; intro v1 w1 ho1 hg1)
            have hI1 := (hI.drewN _).app ho1 hg1
            obtain ⟨b0, b1, b2, b3, b4, b5⟩ := ans_box hI1.box
            obtain ⟨f0, f1, f2, f3, f4, f5, f6, f7⟩ := Sess.facts (HA.out w1 hI1.only)
            have hown1 := hI1.own
            have hsz2 := heap_lt hI1.box
            have hol2 : (out ++ [(⟨a.client, a.seq, a⟩ : Sess)]).length ≤ k + 2 := by simp; omega
            clear ho1 hg1 hI hown
            generalize out ++ [(⟨a.client, a.seq, a⟩ : Sess)] = out1 at *
            go_wp2
            go_quiet (fail)
            go_wp2_with (at_builtin; refine append_el (ys := s.cells) _ Tryz.underlying37 infoSess rfl (by decide) (by decide) hown1 (by first | omega | (simp; omega)) (by omega) rfl s.cells_one rfl rfl rfl ?_; intro v2 w2 ho2 hg2)
            have hI2 := (hI1.drewN _).app ho2 hg2
            clear ho2 hg2
            go_wp2
            go_roundw
            case rel => exact ⟨k + 1, out1 ++ [s], true, by omega, by go_num, rfl, hE.out, hI2⟩
            case measure => simp [intOf]; omega
    · obtain rfl : k = len := by omega
      have hlk : l.length = k := hl.1
      have hfold2 : Hid (l.foldl (withSStep a) ([], false) = (out, d)) := mk_hid (by have := hfold.out; rwa [List.take_of_length_le (by omega)] at this)
      have hown := hI.own
      cases d with
      | true =>
        have hE : Hid (withS l a = out) := mk_hid (by unfold withS; rw [hfold2.out]; rfl)
        obtain ⟨A', c', rfl, hsl, hfr⟩ := own_sl Sess.cells_len hown (by omega)
        go_wp2
        go_ret
        exact ⟨⟨A', c', by rw [hE.out]; rfl, by rw [hE.out]; exact hsl, fun x hx => by have := hfr x hx; omega⟩, hI.only⟩
      | false =>
        have hE : Hid (withS l a = out ++ [(⟨a.client, a.seq, a⟩ : Sess)]) := mk_hid (by unfold withS; rw [hfold2.out]; rfl)
        go_wp2_with (at_builtin; refine append_el (ys := (Sess.mk a.client a.seq a).cells) _ Tryz.underlying37 infoSess rfl (by decide) (by decide) hown (by first | omega | (simp; omega)) (by omega) rfl (Sess.mk a.client a.seq a).cells_one rfl rfl rfl ?_; intro v1 w1 ho1 hg1)
        have hI1 := hI.app ho1 hg1
        obtain ⟨A', c', rfl, hsl, hfr⟩ := own_sl Sess.cells_len hI1.own (by omega)
        clear ho1 hg1
        go_wp2
        go_ret
        exact ⟨⟨A', c', by rw [hE.out]; rfl, by rw [hE.out]; exact hsl, fun x hx => by have := hfr x hx; omega⟩, hI1.only⟩
end Go.Proofs.YtgcjmjhdnkffcaaGreatDoor
/- The reference's pairs without a key (layer 23), walked; no condition but lengths. -/
set_option linter.unusedVariables false
namespace Go.Proofs.YtgcjmjhdnkffcaaGreatDoor
open Go.RowKit
theorem placeP_some {key : ByteArray} : ∀ {l : List Pair} {i : Nat}, placeP key l = some i → ∃ s, l[i]? = some s ∧ i < l.length := by
  intro l
  induction l with
  | nil => intro i h; simp [placeP] at h
  | cons p l ih =>
    intro i h
    unfold placeP at h
    split at h
    · simp at h; subst h; exact ⟨p, rfl, by simp⟩
    · obtain ⟨j, hj, rfl⟩ := Option.map_eq_some_iff.1 h
      obtain ⟨s, hs, hl⟩ := ih hj
      exact ⟨s, by simpa using hs, by simp; omega⟩
theorem heap_new {w : World} {o : Obj} (n : Nat) (h : n = w.heap.size) : (w.alloc o).heap[n]? = some o := by subst h; exact heap_alloc_new w o
theorem heap_old {w : World} {b : Nat} {o : Obj} (o' : Obj) (h : w.heap[b]? = some o) : (w.alloc o').heap[b]? = some o := heap_alloc_old h o'
/-- The row that is made, while the list is gone through. -/
structure RowM (w wr : World) (v : Value) (out : List Pair) : Prop where
  own : wr.ownsRow w.heap.size 94 3 v out.length (out.flatMap Pair.cells)
  only : Only nob w wr
theorem RowM.drewN {w wr : World} {v : Value} {out : List Pair} (h : RowM w wr v out) (n : Nat) : RowM w (wr.drewN n) v out := ⟨h.own, h.only.drewN n⟩
theorem RowM.app {w wr w1 : World} {x : Pair} {v v1 : Value} {out : List Pair} (h : RowM w wr v out) (ho : w1.ownsRow w.heap.size 94 3 v1 (out.length + 1) (out.flatMap Pair.cells ++ x.cells)) (hg : wr.grownBy w1 v.ownBlock) : RowM w w1 v1 (out ++ [x]) :=
  ⟨by rw [flat_snoc, List.length_append]; exact ho, app_only h.only h.own (by omega) hg⟩
theorem take_filter {α : Type} (f : α → Bool) (l : List α) (k : Nat) (x : α) (h : l[k]? = some x) : (l.take (k + 1)).filter f = (l.take k).filter f ++ (if f x then [x] else []) := by
  rw [List.take_add_one, h]; simp [List.filter_append, List.filter_cons]
set_option maxHeartbeats 2000000 in
theorem refwithout_any (A : Option Addr) (len cap : Nat) (l : List Pair) (key : ByteArray) (w : World) (h : len ≤ 1000) (hl : SlOf Pair.cells 3 w A len l) :
    Calls Tryz.prog 55 #[.slice A len cap, .string key] w fun e w' => (∃ A' c', e = .returned (.slice A' (withoutP l key).length c') ∧ SlOf Pair.cells 3 w' A' (withoutP l key).length (withoutP l key) ∧ ∀ x, A' = some x → w.heap.size ≤ x.block) ∧ Only nob w w' := by
  go_enter Tryz.func55, Tryz.ntmps55
  go_wp2
  go_loopw [5, 6] (fun v i wr => ∃ (k : Nat), k ≤ len ∧ i = .int .i64 k ∧ RowM w wr v ((l.take k).filter fun x => !beq x.key key)) (fun _ i _ => len - (intOf i).toNat)
  case atStart => exact ⟨0, by omega, rfl, own_nil _ _ _ _, Only.refl _ _⟩
  case round =>
    obtain ⟨k, hk, rfl, hI⟩ := hrel
    have hol : ((l.take k).filter fun x => !beq x.key key).length ≤ k := Nat.le_trans (List.length_filter_le _ _) (List.length_take_le _ _)
    have hsz := hI.only.size
    by_cases hlt : k < len
    · obtain ⟨x, s, rfl, hp, hmem, hxb, hat⟩ := (hl.none hI.only).get hlt
      have hst := mk_hid (take_filter (fun x => !beq x.key key) l k s hp)
      obtain ⟨f0, f1, f2⟩ := Pair.facts hat
      have h1 : (k : Int) < (len : Int) := by omega
      have h2 : ¬ (k : Int) < 0 := by omega
      have hown := hI.own
      have HX : Hid (∀ o, o = (l.take k).filter (fun x => !beq x.key key) → True) := fun _ _ => trivial
      clear hat hp hl
      cases hc : beq s.key key with
      | true =>
        have hc' : (s.key.toList == key.toList) = true := hc
        have hE : Hid ((l.take (k + 1)).filter (fun x => !beq x.key key) = (l.take k).filter (fun x => !beq x.key key)) := mk_hid (by rw [hst.out]; simp [hc])
        clear hc
        generalize (l.take k).filter (fun x => !beq x.key key) = out at *
        go_wp2
        go_roundw
        case rel => exact ⟨k + 1, by omega, by go_num, by rw [hE.out]; exact hI⟩
        case measure => simp [intOf]; omega
      | false =>
        have hc' : (s.key.toList == key.toList) = false := hc
        have hE : Hid ((l.take (k + 1)).filter (fun x => !beq x.key key) = (l.take k).filter (fun x => !beq x.key key) ++ [s]) := mk_hid (by rw [hst.out]; simp [hc])
        clear hc
        generalize (l.take k).filter (fun x => !beq x.key key) = out at *
        go_wp2_with (at_builtin; refine append_el (ys := s.cells) _ Tryz.underlying36 infoPair rfl (by decide) (by decide) hown (by first | omega | (simp; omega)) (by omega) rfl s.cells_one rfl rfl rfl ?_; intro v1 w1 ho1 hg1)
        have hI1 := hI.app ho1 hg1
        clear ho1 hg1
        go_wp2
        go_roundw
        case rel => exact ⟨k + 1, by omega, by go_num, by rw [hE.out]; exact hI1⟩
        case measure => simp [intOf]; omega
    · obtain rfl : k = len := by omega
      have hlk : l.length = k := hl.1
      have hE : Hid ((l.take k).filter (fun x => !beq x.key key) = withoutP l key) := mk_hid (by rw [List.take_of_length_le (by omega)]; rfl)
      have hown := hI.own
      have honly := hI.only
      rw [hE.out] at hown
      obtain ⟨A', c', rfl, hsl, hfr⟩ := own_sl Pair.cells_len hown (by omega)
      clear hI hown
      go_wp2
      go_ret
      exact ⟨⟨A', c', rfl, hsl, hfr⟩, honly⟩
end Go.Proofs.YtgcjmjhdnkffcaaGreatDoor
