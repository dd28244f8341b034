/- Of any nodes' clocks that were wound together and tick in turn, that of the least node rings first: for every slice of whole numbers; no condition. -/
import Derived.Test.YtihhnfcfailhmaaClock
import Derived.Maps.AppendAt
import Derived.ProofKit
import Derived.OpenShut
import Derived.ShutString
import Derived.ChangeOld
import Derived.Below
namespace Go.Proofs.Ytihhnfcfailhmaa.electAlone
open Go.ChangeShapes Go.WideShapes Go.ChangeAt Go.RowKit
open Go.ChangeMaps (open_string shut_string)
set_option linter.unusedVariables false
/-! ### ElectAlone -/
theorem Try.info24 : (Try.prog.info? 24).map (fun i => (i.zero, i.size, i.bytes)) = some (some (.pointer none), 1, 8) := by kernel_rfl
def lst (zs : List Int) : Nat → Int
  | 0 => 10
  | k + 1 => min (lst zs k) (zs.getD k 0)
theorem lst_le (zs : List Int) (k : Nat) : ∀ j, j < k → lst zs k ≤ zs.getD j 0 := by
  induction k with
  | zero => intro j hj; omega
  | succ k ih =>
    intro j hj
    unfold lst
    by_cases h : j = k
    · subst h; omega
    · have := ih j (by omega); omega
theorem lst_bd (zs : List Int) (k : Nat) (h : ∀ j, j < k → 1 ≤ zs.getD j 0) : 1 ≤ lst zs k ∧ lst zs k ≤ 10 := by
  induction k with
  | zero => unfold lst; omega
  | succ k ih =>
    have := ih (fun j hj => h j (by omega))
    have := h k (by omega)
    unfold lst; omega
theorem lst_nine (zs : List Int) (k : Nat) (h0 : 0 < k) (h : ∀ j, j < k → zs.getD j 0 ≤ 9) : lst zs k ≤ 9 := by
  have := lst_le zs k 0 h0
  have := h 0 h0
  omega
/-- The clocks: block number, patience, count. -/
structure Fam (w : World) (bs : List Nat) (zs : List Int) (n : Nat) (f : Nat → Int) : Prop where
  len : bs.length = n
  clk : ∀ j, j < n → Clk w (bs.getD j 0) (8 + 2 * zs.getD j 0) (f j)
  apart : ∀ i j, i < n → j < n → i ≠ j → bs.getD i 0 ≠ bs.getD j 0
def ptrs (bs : List Nat) : List Value := bs.map fun b => .pointer (some ⟨b, 0, none⟩)
theorem ptrs_snoc (bs : List Nat) (b : Nat) : ptrs (bs ++ [b]) = ptrs bs ++ [.pointer (some ⟨b, 0, none⟩)] := by simp [ptrs]
theorem getD_snoc_lt {α : Type} (l : List α) (x d : α) (j : Nat) (h : j < l.length) : (l ++ [x]).getD j d = l.getD j d := by
  simp [List.getD_eq_getElem?_getD, List.getElem?_append_left h]
theorem getD_snoc_eq {α : Type} (l : List α) (x d : α) : (l ++ [x]).getD l.length d = x := by
  simp [List.getD_eq_getElem?_getD]
theorem Fam.grow {w w1 : World} {bs : List Nat} {zs : List Int} {n : Nat} {f : Nat → Int} (h : Fam w bs zs n f) (hk : ∀ j, j < n → w1.heap[bs.getD j 0]? = w.heap[bs.getD j 0]?) : Fam w1 bs zs n f :=
  ⟨h.len, fun j hj => (hk j hj).trans (h.clk j hj), h.apart⟩
theorem Fam.snoc {w : World} {bs : List Nat} {zs : List Int} {n b : Nat} {f : Nat → Int} (h : Fam w bs zs n f) (hb : Clk w b (8 + 2 * zs.getD n 0) (f n)) (hne : ∀ j, j < n → bs.getD j 0 ≠ b) : Fam w (bs ++ [b]) zs (n + 1) f := by
  have hl := h.len
  refine ⟨by simp [hl], fun j hj => ?_, fun i j hi hj hij => ?_⟩
  · by_cases hjn : j = n
    · subst hjn; subst hl; rw [getD_snoc_eq]; exact hb
    · rw [getD_snoc_lt _ _ _ _ (by omega)]; exact h.clk j (by omega)
  · by_cases hin : i = n <;> by_cases hjn : j = n
    · omega
    · subst hin; subst hl; rw [getD_snoc_eq, getD_snoc_lt _ _ _ _ (by omega)]; exact (hne j (by omega)).symm
    · subst hjn; subst hl; rw [getD_snoc_eq, getD_snoc_lt _ _ _ _ (by omega)]; exact hne i (by omega)
    · rw [getD_snoc_lt _ _ _ _ (by omega), getD_snoc_lt _ _ _ _ (by omega)]; exact h.apart i j (by omega) (by omega) hij
/-- A slice of whole numbers that came in. -/
def IsInts (w : World) (a : Option Addr) (len : Nat) (zs : List Int) : Prop :=
  len = 0 ∨ ∃ x : Addr, a = some x ∧ x.block < w.heap.size ∧ ∀ i, i < len → w.cell? (x.add i) = some (.int .i64 (zs.getD i 0))

theorem alone_out (a : Option Addr) (len cap : Nat) (w : World) (h : 20 < len ∨ len = 0) :
    Calls Try.prog 4 #[.slice a len cap] w fun e w' => e = .returned (.bool true) ∧ Below w.heap.size w w' := by
  rcases h with h | h
  · have hl : (20 : Int) < (len : Int) := by omega
    go_enter Try.func4, Try.ntmps4
    go_wp2_with (go_at_call 5; refine (awake_any _).mono ?_; rintro e w' ⟨rfl, hb⟩)
    go_ret
    exact ⟨rfl, hb⟩
  · subst h
    go_enter Try.func4, Try.ntmps4
    go_wp2_with (go_at_call 5; refine (awake_any _).mono ?_; rintro e w' ⟨rfl, hb⟩)
    go_ret
    exact ⟨rfl, hb⟩
/-- The first loop's state behind k rounds. -/
structure Laid (w wr : World) (zs : List Int) (k : Nat) (v : Value) (bs : List Nat) : Prop where
  own : wr.ownsRow w.heap.size 24 1 v k (ptrs bs)
  fam : Fam wr bs zs k (fun _ => 0)
  from_ : ∀ j, j < k → w.heap.size ≤ bs.getD j 0
  bel : Below w.heap.size w wr
theorem Laid.snoc {w wr w1 : World} {zs : List Int} {k : Nat} {v v1 : Value} {bs : List Nat} (h : Laid w wr zs k v bs)
    (hg : ((wr.alloc (.cells #[.int .i64 (8 + 2 * zs.getD k 0), .int .i64 0] 33)).alloc (.cells #[.pointer (some ⟨wr.heap.size, 0, none⟩)] 24)).grownBy w1 v.ownBlock)
    (ho : w1.ownsRow w.heap.size 24 1 v1 (k + 1) (ptrs bs ++ [.pointer (some ⟨wr.heap.size, 0, none⟩)])) : Laid w w1 zs (k + 1) v1 (bs ++ [wr.heap.size]) := by
  have hsz := h.bel.size
  have hne : ∀ b p q, Clk wr b p q → some b ≠ v.ownBlock := by
    intro b p q hc e
    rcases h.own.2 with ⟨rfl, _⟩ | ⟨g, cap, cur, rfl, _, hh, _⟩
    · simp [Value.ownBlock] at e
    · simp [Value.ownBlock] at e
      subst e
      unfold Clk at hc
      rw [hh] at hc
      simp at hc
  have hvb : ∀ g, v.ownBlock = some g → g < wr.heap.size ∧ w.heap.size ≤ g := by
    intro g e
    rcases h.own.2 with ⟨rfl, _⟩ | ⟨g', cap, cur, rfl, hb, hh, _⟩
    · simp [Value.ownBlock] at e
    · simp [Value.ownBlock] at e
      subst e
      exact ⟨(Array.getElem?_eq_some_iff.1 hh).1, hb⟩
  have hold : ∀ i, i < wr.heap.size → some i ≠ v.ownBlock → w1.heap[i]? = wr.heap[i]? := fun i hi hne => by
    rw [hg.block i (by simp; omega) hne, Below.heap_alloc _ _ _ (by simp; omega), Below.heap_alloc _ _ _ hi]
  refine ⟨by rw [ptrs_snoc]; exact ho, ?_, ?_, ?_⟩
  · refine (h.fam.grow (w1 := w1) fun j hj => ?_).snoc ?_ fun j hj => ?_
    · exact hold _ (h.fam.clk j hj).lt (hne _ _ _ (h.fam.clk j hj))
    · unfold Clk
      rw [hg.block _ (by simp; omega) (fun e => by have := (hvb _ e.symm).1; omega), Below.heap_alloc _ _ _ (by simp)]
      exact heap_alloc_new wr _
    · have := (h.fam.clk j hj).lt; omega
  · intro j hj
    have hl := h.fam.len
    by_cases hjk : j = k
    · subst hjk; rw [← hl, getD_snoc_eq]; exact hsz
    · rw [getD_snoc_lt _ _ _ _ (by omega)]; exact h.from_ j (by omega)
  · exact ((h.bel.alloc hsz _).alloc (by simp; omega) _).grown hg (by simp; omega) (fun g e => (hvb g e).2)

/-- A new clock's pointer behind the row. -/
theorem append_clock {wr : World} {ops : Array Oper} {rest : List Oper} {Q : Exit → Act → World → Prop} {v : Value} {bs : List Nat} {ty : TypeId} {pos : String} {af : Array Edge} (k base : Nat) (zk : Int)
    (hown : wr.ownsRow base 24 1 v k (ptrs bs)) (hk : k ≤ 100) (hb : base ≤ wr.heap.size)
    {s x d : Tmp} {a : Act} 
    (h : ∀ v1 w1, w1.ownsRow base 24 1 v1 (k + 1) (ptrs bs ++ [.pointer (some ⟨wr.heap.size, 0, none⟩)]) →
      ((wr.alloc (.cells #[.int .i64 (8 + 2 * zk), .int .i64 0] 33)).alloc (.cells #[.pointer (some ⟨wr.heap.size, 0, none⟩)] 24)).grownBy w1 v.ownBlock → wpList Try.prog ops Q rest (a.put (some d) v1) w1)
    (hs : a.eval (.tmp s) = v) (hx : a.eval (.tmp x) = .slice (some ⟨wr.heap.size + 1, 0, none⟩) 1 1) :
    wpList Try.prog ops Q (⟨some d, .call { callee := .builtin .append, args := #[.tmp s, .tmp x], argTypes := #[29, 29] }, ty, pos, af, none⟩ :: rest) a ((wr.alloc (.cells #[.int .i64 (8 + 2 * zk), .int .i64 0] 33)).alloc (.cells #[.pointer (some ⟨wr.heap.size, 0, none⟩)] 24)) := by
  obtain ⟨i0, hi, hz0, hz1, hz2⟩ := info_parts Try.info24
  refine wpList_append_own _ rfl _ _ 29 rfl base 24 i0 (.pointer none) 1 8 Try.underlying29 hi hz0 hz1 hz2 rfl (by decide) _ _ _ hs ((hown.alloc _).alloc _) ⟨wr.heap.size + 1, 0, none⟩ 1 1 [.pointer (some ⟨wr.heap.size, 0, none⟩)] hx rfl ?_ ?_ ?_ ?_ ?_ ?_
  · intro j u hu
    have := cell_one_new (wr.alloc (.cells #[.int .i64 (8 + 2 * zk), .int .i64 0] 33)) (.pointer (some ⟨wr.heap.size, 0, none⟩)) 24 j u hu
    simpa using this
  · intro u hu; simp at hu; subst hu; rfl
  · simp only [maxLen]; omega
  · omega
  · simp; omega
  · exact fun v1 w1 h1 h2 _ => h v1 w1 h1 h2
/-- The pointers' row, as the second loop reads it. -/
structure Held (w wr : World) (zs : List Int) (len : Nat) (v : Value) (bs : List Nat) (f : Nat → Int) : Prop where
  row : ∃ g cap, v = .slice (some ⟨g, 0, none⟩) len cap ∧ (∀ j, j < len → wr.cell? ⟨g, j, none⟩ = some (.pointer (some ⟨bs.getD j 0, 0, none⟩))) ∧ g < wr.heap.size ∧ ∀ j, j < len → bs.getD j 0 ≠ g
  fam : Fam wr bs zs len f
  from_ : ∀ j, j < len → w.heap.size ≤ bs.getD j 0
  bel : Below w.heap.size w wr
theorem Laid.held {w wr : World} {zs : List Int} {len : Nat} {v : Value} {bs : List Nat} (h : Laid w wr zs len v bs) (h0 : 0 < len) : Held w wr zs len v bs (fun _ => 0) := by
  refine ⟨?_, h.fam, h.from_, h.bel⟩
  rcases h.own.2 with ⟨_, h1⟩ | ⟨g, cap, cur, rfl, hb, hh, _⟩
  · omega
  · refine ⟨g, cap, rfl, fun j hj => ?_, (Array.getElem?_eq_some_iff.1 hh).1, fun j hj e => ?_⟩
    · have hl := h.fam.len
      have := h.own.cells (g := g) rfl j (.pointer (some ⟨bs.getD j 0, 0, none⟩)) (by simp [ptrs, List.getD_eq_getElem?_getD, List.getElem?_eq_getElem (show j < bs.length by omega)])
      have ha : (⟨g, 0, none⟩ : Addr).add j = ⟨g, j, none⟩ := by unfold Addr.add; split <;> simp_all
      rwa [ha] at this
    · have hc := h.fam.clk j hj
      rw [e] at hc
      unfold Clk at hc
      rw [hh] at hc
      simp at hc
theorem Held.turn {w wr w1 : World} {zs : List Int} {len : Nat} {v : Value} {bs : List Nat} {f : Nat → Int} (h : Held w wr zs len v bs f) (i : Nat) (hi : i < len) (x : Int)
    (hc : Clk w1 (bs.getD i 0) (8 + 2 * zs.getD i 0) x) (ho : Only (· = bs.getD i 0) wr w1) (f' : Nat → Int) (hf : f' i = x) (hf' : ∀ j, j < len → j ≠ i → f' j = f j) : Held w w1 zs len v bs f' := by
  refine ⟨?_, ⟨h.fam.len, fun j hj => ?_, h.fam.apart⟩, h.from_, below_only h.bel h.bel.size (h.from_ i hi) ho⟩
  · obtain ⟨g, cap, rfl, hcell, hg, hne⟩ := h.row
    refine ⟨g, cap, rfl, fun j hj => ?_, Nat.lt_of_lt_of_le hg ho.size, hne⟩
    exact (World.cell?_of_block (w := wr) (ho.block g hg (fun e => hne i hi e.symm))).trans (hcell j hj)
  · by_cases hji : j = i
    · subst hji; rw [hf]; exact hc
    · rw [hf' j hj hji]
      exact (h.fam.clk j hj).other ho (h.fam.apart j i hj hi hji)
/-- Behind round n of the outer loop, element i having been ticked (or not). -/
def cnt (zs : List Int) (least : Int) (n t : Nat) (j : Nat) : Int :=
  if j < t then (if (n : Int) = 8 + 2 * least ∧ zs.getD j 0 = least then 0 else n) else n - 1
theorem cnt_zero {zs : List Int} {least : Int} {n : Nat} : cnt zs least n 0 = fun _ => (n : Int) - 1 := by funext j; simp [cnt]
theorem cnt_in {zs : List Int} {least : Int} {n t : Nat} : cnt zs least n t t = n - 1 := by simp [cnt]
set_option maxHeartbeats 2000000 in
theorem alone_any (a : Option Addr) (len cap : Nat) (zs : List Int) (w : World) (h : len ≤ 20) (h0 : 0 < len) (hZ : IsInts w a len zs) (hwf : ∀ j, j < len → -9223372036854775808 ≤ zs.getD j 0 ∧ zs.getD j 0 ≤ 9223372036854775807) :
    Calls Try.prog 4 #[.slice a len cap] w fun e w' => e = .returned (.bool true) ∧ Below w.heap.size w w' := by
  obtain ⟨x, rfl, hx, hcell⟩ : ∃ x : Addr, a = some x ∧ x.block < w.heap.size ∧ ∀ i, i < len → w.cell? (x.add i) = some (.int .i64 (zs.getD i 0)) := by
    rcases hZ with h0 | h0
    · omega
    · exact h0
  obtain ⟨i0, hi, hz0, hz1, hz2⟩ := info_parts Try.info24
  have hl : ¬ (20 : Int) < (len : Int) := by omega
  have hl0 : ((len : Int) == 0) = false := by simp; omega
  go_enter Try.func4, Try.ntmps4
  go_wp2
  go_loopw [3, 4, 5] (fun m v i wr => ∃ (k : Nat) (bs : List Nat), k ≤ len ∧ i = .int .i64 k ∧ m = .int .i64 (lst zs k) ∧ (∀ j, j < k → 1 ≤ zs.getD j 0 ∧ zs.getD j 0 ≤ 9) ∧ Laid w wr zs k v bs) (fun _ _ i _ => len - (intOf i).toNat)
  case atStart =>
    refine ⟨0, [], by omega, rfl, rfl, fun j hj => absurd hj (by omega), ⟨?_, ⟨rfl, fun j hj => absurd hj (by omega), fun i j hj => absurd hj (by omega)⟩, fun j hj => absurd hj (by omega), Below.refl _ _⟩⟩
    exact ⟨rfl, .inl ⟨rfl, rfl⟩⟩
  case round =>
    obtain ⟨k, bs, hk, rfl, rfl, hin, hL⟩ := hrel
    by_cases hlt : k < len
    · have hlk : (k : Int) < (len : Int) := by omega
      have hk0 : ¬ (k : Int) < 0 := by omega
      have hc := (hL.bel.cell (p := x.add k) (by unfold Addr.add; split <;> exact hx)).trans (hcell k hlt)
      have hb := hwf k hlt
      have HW : Hid (∀ j, j < len → -9223372036854775808 ≤ zs.getD j 0 ∧ zs.getD j 0 ≤ 9223372036854775807) := hwf
      have HC : Hid (∀ i, i < len → w.cell? (x.add i) = some (.int .i64 (zs.getD i 0))) := hcell
      have HI : Hid (∀ j, j < k → 1 ≤ zs.getD j 0 ∧ zs.getD j 0 ≤ 9) := hin
      clear hwf hcell hZ hin
      have hmin : Hid (min (lst zs k) (zs.getD k 0) = lst zs (k + 1)) := rfl
      by_cases hbad : zs.getD k 0 < 1 ∨ 9 < zs.getD k 0
      · generalize zs.getD k 0 = zk at *
        rcases hbad with hbad | hbad
        · go_wp2_with (go_at_call 5; refine (awake_any _).mono ?_; rintro e w' ⟨rfl, hb'⟩)
          go_ret
          exact ⟨rfl, hL.bel.trans (hb'.mono hL.bel.size)⟩
        · have hbad' : ¬ zk < 1 := by omega
          go_wp2_with (go_at_call 5; refine (awake_any _).mono ?_; rintro e w' ⟨rfl, hb'⟩)
          go_ret
          exact ⟨rfl, hL.bel.trans (hb'.mono hL.bel.size)⟩
      · have hsn : ∀ v1 w1, Hid (((wr.alloc (.cells #[.int .i64 (8 + 2 * zs.getD k 0), .int .i64 0] 33)).alloc (.cells #[.pointer (some ⟨wr.heap.size, 0, none⟩)] 24)).grownBy w1 u4.ownBlock →
            w1.ownsRow w.heap.size 24 1 v1 (k + 1) (ptrs bs ++ [.pointer (some ⟨wr.heap.size, 0, none⟩)]) → Laid w w1 zs (k + 1) v1 (bs ++ [wr.heap.size])) := fun v1 w1 h1 h2 => hL.snoc h1 h2
        have hsz := hL.bel.size
        have hown := hL.own
        obtain ⟨c1, c2⟩ : ¬ zs.getD k 0 < 1 ∧ ¬ 9 < zs.getD k 0 := by omega
        clear hbad
        have HZ : Hid (1 ≤ zs.getD k 0 ∧ zs.getD k 0 ≤ 9) := by have := c1; have := c2; exact ⟨by omega, by omega⟩
        generalize hzk : zs.getD k 0 = zk at *
        have HE : Hid (zs.getD k 0 = zk) := hzk
        clear hzk
        rcases Int.lt_or_le zk (lst zs k) with hm | hm
        all_goals
          go_wp2_with (first | (go_at_call 6; refine (new_any zk _ (by omega) (by omega)).mono ?_; rintro e w' ⟨rfl, rfl⟩) | (at_builtin; refine append_clock k w.heap.size zk hown (by omega) hsz ?_ rfl rfl; intro v1 w1 hown1 hg1))
          have hL' := (hsn v1 w1).out hg1 hown1
          clear hown1 hg1 hsn
          go_wp2
          go_roundw
          case rel =>
            refine ⟨k + 1, _, by omega, by go_num, ?_, fun j hj => ?_, hL'⟩
            · rw [← hmin.out]; congr 1; omega
            · by_cases hjk : j = k
              · subst hjk; rw [HE.out]; exact HZ.out
              · exact HI.out j (by omega)
          case measure => simp [intOf]; omega
    · obtain rfl : k = len := by omega
      have HI : Hid (∀ j, j < k → 1 ≤ zs.getD j 0 ∧ zs.getD j 0 ≤ 9) := hin
      have HL := hL.held h0
      have L1 := lst_bd zs k (fun j hj => (hin j hj).1)
      have L9 := lst_nine zs k h0 (fun j hj => (hin j hj).2)
      have HLE : Hid (∀ j, j < k → lst zs k ≤ zs.getD j 0) := lst_le zs k
      have HC : Hid (∀ i, i < k → w.cell? (x.add i) = some (.int .i64 (zs.getD i 0))) := hcell
      clear hin hL hwf hcell hZ
      generalize lst zs k = L at *
      have hL1 : 1 ≤ L := by omega
      clear L1
      go_wp2
      go_loopw [6] (fun n wr => ∃ c : Nat, 1 ≤ c ∧ (c : Int) ≤ 8 + 2 * L + 1 ∧ n = .int .i64 c ∧ Below w.heap.size w wr ∧ ((c : Int) ≤ 8 + 2 * L → Held w wr zs k u4 bs (fun _ => (c : Int) - 1))) (fun n _ => 30 - (intOf n).toNat)
      case atStart => exact ⟨1, by omega, by omega, rfl, HL.bel, fun _ => by simpa using HL⟩
      case round =>
        obtain ⟨c, hc1, hc2, rfl, hB, hH⟩ := hrel
        by_cases hc : (c : Int) ≤ 8 + 2 * L
        · have hH' := hH hc
          clear hH HL
          go_wp2
          obtain ⟨wo, rfl⟩ : ∃ wo : World, wo = wr := ⟨_, rfl⟩
          go_loopw [7] (fun i wr => ∃ t : Nat, t ≤ k ∧ i = .int .i64 t ∧ Held w wr zs k u4 bs (cnt zs L c t)) (fun i _ => k - (intOf i).toNat)
          case atStart => exact ⟨0, by omega, rfl, by rw [cnt_zero]; exact hH'⟩
          case round =>
            obtain ⟨t, ht, rfl, hH2⟩ := hrel
            by_cases hlt : t < k
            · have hlt' : (t : Int) < (k : Int) := by omega
              have ht0 : ¬ (t : Int) < 0 := by omega
              have hcz := (hH2.bel.cell (p := x.add t) (by unfold Addr.add; split <;> exact hx)).trans (HC.out t hlt)
              have hclk := hH2.fam.clk t hlt
              rw [cnt_in] at hclk
              obtain ⟨g, cp, rfl, hptr, _, _⟩ := hH2.row
              have hp := hptr t hlt
              clear hptr
              have hz19 := HI.out t hlt
              have hLz := HLE.out t hlt
              have hbase := hH2.from_ t hlt
              have hxb : (x.add t).block < w.heap.size := by unfold Addr.add; split <;> exact hx
              have hT : ∀ w1 y, Clk w1 (bs.getD t 0) (8 + 2 * zs.getD t 0) y → Only (· = bs.getD t 0) wr w1 → Hid (cnt zs L c (t + 1) t = y) → Hid (Held w w1 zs k (.slice (some ⟨g, 0, none⟩) k cp) bs (cnt zs L c (t + 1))) := fun w1 y h1 h2 h3 =>
                hH2.turn t hlt y h1 h2 _ h3.out (fun j hj hne => by unfold cnt; by_cases hjt : j < t <;> simp [hjt, show (j < t + 1) = (j < t) from by apply propext; omega])
              have HT := mk_hid hT
              clear hT hH2
              have HV : Hid (∀ y : Int, y = (if (c : Int) = 8 + 2 * L ∧ zs.getD t 0 = L then 0 else (c : Int)) → cnt zs L c (t + 1) t = y) := fun y e => by rw [e]; simp [cnt]
              generalize hbt : bs.getD t 0 = bt at *
              clear hbt
              generalize hzt : zs.getD t 0 = zt at *
              clear hzt
              by_cases hr : (c : Int) = 8 + 2 * L ∧ zt = L
              · have t1 : ((c : Int) == 8 + 2 * L) = true := by simp; omega
                have t2 : (zt == L) = true := by simp; omega
                have H1 : Hid (cnt zs L c (t + 1) t = 0) := HV.out 0 (by rw [if_pos hr])
                have hp1 : 8 + 2 * zt ≤ (c : Int) - 1 + 1 := by omega
                clear hr
                go_wp2_with fail
                refine (tick_yes bt (8 + 2 * zt) ((c : Int) - 1) _ hclk (by omega) (by omega) hp1).mono ?_
                rintro e w' ⟨rfl, hc', ho⟩
                have hc2' := hc'
                have hcz' := ho.cell hcz (by omega)
                go_wp2
                go_roundw
                case rel => exact ⟨t + 1, by omega, by go_num, (HT.out _ _ hc' ho H1).out⟩
                case measure => simp [intOf]; omega
              · have H1 : Hid (cnt zs L c (t + 1) t = c) := HV.out c (by rw [if_neg hr])
                have hp1 : (c : Int) - 1 + 1 < 8 + 2 * zt := by omega
                by_cases hr1 : (c : Int) = 8 + 2 * L
                · have t1 : ((c : Int) == 8 + 2 * L) = true := by simp; omega
                  have t2 : (zt == L) = false := by simp; omega
                  clear hr hr1
                  go_wp2_with fail
                  refine (tick_no bt (8 + 2 * zt) ((c : Int) - 1) _ hclk (by omega) (by omega) hp1).mono ?_
                  rintro e w' ⟨rfl, hc', ho⟩
                  have hcz' := ho.cell hcz (by omega)
                  have HH := HT.out _ _ hc' ho (by simpa using H1)
                  clear hc' ho
                  go_wp2
                  go_roundw
                  case rel => exact ⟨t + 1, by omega, by go_num, HH.out⟩
                  case measure => simp [intOf]; omega
                · have t1 : ((c : Int) == 8 + 2 * L) = false := by simp; omega
                  clear hr hr1
                  go_wp2_with fail
                  refine (tick_no bt (8 + 2 * zt) ((c : Int) - 1) _ hclk (by omega) (by omega) hp1).mono ?_
                  rintro e w' ⟨rfl, hc', ho⟩
                  have HH := HT.out _ _ hc' ho (by simpa using H1)
                  clear hc' ho
                  go_wp2
                  go_roundw
                  case rel => exact ⟨t + 1, by omega, by go_num, HH.out⟩
                  case measure => simp [intOf]; omega
            · obtain rfl : t = k := by omega
              obtain ⟨g, cp, rfl, _, _, _⟩ := hH2.row
              go_wp2
              go_roundw
              case rel =>
                refine ⟨c + 1, by omega, by omega, by go_num, hH2.bel, fun hcc => ?_⟩
                have e : cnt zs L c t = fun j => if j < t then (c : Int) else (c : Int) - 1 := by
                  funext j
                  unfold cnt
                  by_cases hj : j < t
                  · simp only [hj, if_true]; rw [if_neg (by omega)]
                  · simp only [hj, if_false]
                exact ⟨hH2.row, ⟨hH2.fam.len, fun j hj => by have := hH2.fam.clk j hj; rw [e] at this; simpa [hj] using this, hH2.fam.apart⟩, hH2.from_, hH2.bel⟩
              case measure => simp [intOf]; omega
        · have hce : ¬ (c : Int) ≤ 8 + 2 * L := by omega
          have hz := hB.size
          clear hH HL
          go_wp2_with (go_at_call 5; refine (awake_any _).mono ?_; rintro e w' ⟨rfl, hb'⟩)
          go_ret
          exact ⟨rfl, hB.trans (hb'.mono hz)⟩

theorem alone_all (a : Option Addr) (len cap : Nat) (zs : List Int) (w : World) (hZ : IsInts w a len zs) (hwf : ∀ j, j < len → -9223372036854775808 ≤ zs.getD j 0 ∧ zs.getD j 0 ≤ 9223372036854775807) :
    Calls Try.prog 4 #[.slice a len cap] w fun e w' => e = .returned (.bool true) ∧ Below w.heap.size w w' := by
  by_cases h : 20 < len ∨ len = 0
  · exact alone_out a len cap w h
  · exact alone_any a len cap zs w (by omega) (by omega) hZ hwf
theorem own : ownKnob Try.prog.godebug = none := by kernel_rfl
theorem laidOut : laidOutB Try.prog = true := by kernel_rfl
/-! ### THE ROW's STEP: WRITTEN OUT: LEAVE IT -/
set_option maxRecDepth 100000 in
theorem lifted (os : Os) (started : os.Started) (H : Type) (enc : TypeId × Value → H) :
    ReturnsInHanded {} Try.checked os 4 .any (Rows.electAloneSpec.pre6 enc Try.prog Try.f4 Rows.electAloneRow.domain false) (Rows.electAloneSpec.post enc Try.prog Try.f4 false true false false) := by
  refine returnsInHanded_of_change (C := Try.checked) own started (by kernel_rfl) Try.func4
    (ChangeSpec.witness6 (enc := enc) (C := Try.checked) false ⟨#[], #[.slice none 0 0], []⟩ 8 (by kernel_rfl) (by kernel_rfl) (by kernel_rfl) (by kernel_rfl)) ?_
  intro W base args ds gs before hval0 hW hcnd _
  have hval : ∀ (j : Nat) t v, Try.f4.params[j]? = some t → args[j]? = some v → Value.okWide Try.prog W .any base t v := hval0
  have hW' := hW
  obtain ⟨p, q, hA0, hV, rfl, hfz, hnd⟩ := hW
  have hA : DataW.TrodAll enc Try.prog W 0 (fun _ => true) true Try.f4.params.toList args.toList ds p := hA0
  rw [Try.params4] at hA hval
  obtain ⟨v0, vs0, d0, ds0, p0, q0, hargs, rfl, rfl, h0, r0⟩ := trodAll_cons hA
  obtain ⟨rfl, rfl, rfl⟩ := trodAll_nil r0
  obtain rfl : args = #[v0] := by cases args; simp_all
  obtain ⟨rfl, rfl⟩ := trodVars_none hV
  obtain ⟨a0, len0, cap0, rfl⟩ := okWide_slice Try.underlying28 (hval 0 28 v0 rfl rfl)
  have k0 := h0
  have lt0 : ∀ x ∈ p0, x.block < W.heap.size := by obtain ⟨m, hm⟩ := k0; exact DataW.trod_lt m _ _ _ hm
  obtain ⟨z0, w0, w1⟩ : ∃ zs, IsInts W a0 len0 zs ∧ ∀ j, j < len0 → -9223372036854775808 ≤ zs.getD j 0 ∧ zs.getD j 0 ≤ 9223372036854775807 := by
    obtain ⟨fuel, hf⟩ := h0
    have hlt := lt0
    rcases open_ints Try.underlying28 Try.underlying3 (by kernel_rfl) hf with ⟨hcs, _⟩ | ⟨x, l, c, zs, hcs, _, hl, hm, hz, hx, hcell, hwz⟩
    · simp [Value.cells] at hcs
      obtain ⟨rfl, rfl, rfl⟩ := hcs
      exact ⟨[], .inl rfl, fun j hj => absurd hj (by omega)⟩
    · simp [Value.cells] at hcs
      obtain ⟨rfl, rfl, rfl⟩ := hcs
      have hz' : zs.length = cap0 := by simpa using hz
      refine ⟨zs, ?_, fun j hj => ?_⟩
      · by_cases h0 : len0 = 0
        · exact .inl h0
        · exact .inr ⟨x, rfl, by have := World.block_lt_of_cell? W _ (hcell 0 (by omega)); simpa [Addr.add] using this, fun i hi => hcell i (by omega)⟩
      · have hw := hwz (zs.getD j 0) (by rw [List.getD_eq_getElem?_getD, List.getElem?_eq_getElem (show j < zs.length by omega)]; exact List.getElem_mem _)
        exact bounds_i64 hw
  clear hA0 hval0
  refine (alone_all a0 len0 cap0 z0 W w0 w1).mono fun e W' ⟨he, bel⟩ => ?_
  subst he
  exact ⟨_, rfl, _, _, _, [], _, [], hW', trodAll_mk1 (shut_bool Try.underlying4 _), (trodAll_cons_mk (Below.trod laidOut (by kernel_rfl) (of_decide_eq_true (by kernel_rfl)) k0 bel lt0) trodAll_mk0), rfl, bel.frame _, fun h => by cases h⟩

theorem over : Rows.electAloneRow.holds Try.pinned (OpenSpec.ofChange Rows.electAloneSpec) :=
  OpenClaim.holds_of_wide 4 Try.f4 rfl rfl rfl rfl rfl rfl rfl ⟨rfl, rfl, rfl, rfl, rfl⟩ rfl rfl rfl rfl rfl (by kernel_rfl) Try.func4 (by kernel_rfl)
    (of_decide_eq_true (by kernel_rfl)) (by unfold Func.isWrapper; first | (rw [if_pos (by decide +kernel)]; kernel_rfl) | (rw [if_neg (by decide +kernel)]; exact ⟨rfl, rfl⟩))
    (fun os started H enc _ => lifted os started H enc)

/-- ████ THE STATEMENT ████ -/
theorem proved : Rows.ElectAloneSaid := over
end Go.Proofs.Ytihhnfcfailhmaa.electAlone
