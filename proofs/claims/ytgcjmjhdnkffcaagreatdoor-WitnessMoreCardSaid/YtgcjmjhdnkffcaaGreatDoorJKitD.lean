/- Regions that draw their order, and end in one operation that turns memory. No condition. -/
import Derived.Test.YtgcjmjhdnkffcaaGreatDoorJKit
import Derived.StillTailTactics
import Derived.Laws.Rows
import Derived.Deep.AppendLies
import Derived.Deep.RegionLaw
set_option linter.unusedVariables false
namespace Go.Proofs.YtgcjmjhdnkffcaaGreatDoor
open Go.RowKit
theorem wp_region_tail {P : Program} {id : Nat} {Q : Exit → Act → World → Prop} {a : Act} {w : World} {l : List Oper} (n : Nat) (hm : P.follows .mixedOrders = true) (hB : Region.lexTailB .any l.toArray n = true)
    (h : ∀ wd, wd = w.drew → wpStill P l.toArray wd (fun a' => wpList P l.toArray Q (l.drop n) a' wd) (l.take n) a) : (Code.region id l.toArray true).wp P Q a w := wp_region_still_tail n hm hB (h _ rfl)
theorem still_done {P : Program} {ops : Array Oper} {w : World} {Q : Act → Prop} {a : Act} (h : Q a) : wpStill P ops w Q [] a := h
theorem run_loadVar_at {P : Program} (w : World) (p : Addr) (ty : TypeId) (cs : List Value) (d : TypeDesc) (hc : At w p cs)
    (hu : P.underlying ty = some d) (hd : (match d with | .struct _ | .array _ _ => true | _ => false) = true) (hi : (P.info? ty).map (·.size) = some cs.length) :
    (loadVar ty p).run P w = .ok (.agg cs.toArray) w := by
  have hl : (loadCells p cs.length).run P w = .ok cs.toArray w := run_loadCells_list (P := P) w p cs hc
  cases hq : P.info? ty with
  | none => simp [hq] at hi
  | some i =>
    have hs : i.size = cs.length := by simpa [hq] using hi
    have hagg : (isAgg ty).run P w = .ok true w := by
      unfold isAgg
      rw [Sem.run_bind, run_underlying hu w]
      cases d <;> simp_all
    simp [loadVar, Sem.run_bind, hagg, sizeOf, typeInfo, hq, hs, hl]
/-- A load of an aggregate out of the middle of a block, in one step. -/
theorem wpList_load_list {P : Program} {ops : Array Oper} {rest : List Oper} {o : Oper} {a : Act} {w : World} {Q : Exit → Act → World → Prop} (hgd : o.guard = none) (ty : TypeId) (x : Operand) (ho : o.op = .load ty x)
    (p : Addr) (hx : a.eval x = .pointer (some p)) (cs : List Value) (d : TypeDesc) (hu : P.underlying ty = some d) (hd : (match d with | .struct _ | .array _ _ => true | _ => false) = true) (hi : (P.info? ty).map (·.size) = some cs.length) (hc : At w p cs)
    (h : wpList P ops Q rest (a.put o.dst (.agg cs.toArray)) w) : wpList P ops Q (o :: rest) a w :=
  wpList_plain hgd fun K hK => by
    unfold Oper.wp execOp
    simp only [ho, hx, Instr.loadAt, Instr.sureAddr, Sem.run_bind, Sem.run_pure, Result.andThen_ok, run_loadVar_at w p ty cs d hc hu hd hi]
    exact hK _ _ h
theorem at_box {W : World} {m : Nat} {ys : List Value} {t : TypeId} {fr : Nat × Nat} (h : W.heap[m]? = some (.cells ys.toArray t fr)) : At W ⟨m, 0, none⟩ ys := fun i u hu => by
  have e : (⟨m, 0, none⟩ : Addr).add i = ⟨m, i, none⟩ := by unfold Addr.add; split <;> simp_all
  rw [e, cells_cell h]; simpa using hu
/-- 'append(v, x)' onto a row of the call's own, at a step of a region that draws. -/
theorem step_append_el {P : Program} {ops : Array Oper} {o : Oper} {a : Act} {W : World} {K : Act → World → Prop} {Q : Exit → Act → World → Prop} {E : Prop} {base : Nat} {e t : TypeId} {z : Value} {size bytes : Nat} {v : Value} {n : Nat} {xs : List Value} (ys : List Value) (s x : Operand) (ad : Addr) (hgd : o.guard = none)
    (ho : o.op = .call { callee := .builtin .append, args := #[s, x], argTypes := #[t, t] })
    (ht : P.underlying t = some (.slice e)) (hinfo : (P.info? e).map (fun i => (i.zero, i.size, i.bytes)) = some (some z, size, bytes)) (hz : z.cells.size = size) (hs0 : 0 < size) (hb0 : 0 < bytes)
    (HO : W.ownsRow base e size v n xs) (hbase : base ≤ W.heap.size) (hl : (n + 1) * bytes ≤ 140737488355328) (hys : ys.length = size) (h1 : ∀ u ∈ ys, u.oneCell' = true) (hs : a.eval s = v) (hx : a.eval x = .slice (some ad) 1 1) (hnews : At W ad ys)
    (h : ∀ g cap w1, w1.ownsRow base e size (.slice (some ⟨g, 0, none⟩) (n + 1) cap) (n + 1) (xs ++ ys) → W.grownBy w1 v.ownBlock → (v.ownBlock = some g ∨ g = W.heap.size) → K (a.put o.dst (.slice (some ⟨g, 0, none⟩) (n + 1) cap)) w1) :
    if Region.wanted o (yielded ops a.tmps) = true then Oper.wp P o a W K Q else E := by
  obtain ⟨i0, hi, hzz⟩ := Option.map_eq_some_iff.1 hinfo
  simp only [Prod.mk.injEq] at hzz
  obtain ⟨hz0, hz1, hz2⟩ := hzz
  have hlen : n + 1 ≤ 140737488355328 := Nat.le_trans (Nat.le_mul_of_pos_right _ hb0) hl
  exact step_append_lies (w := W) hgd s x t ho base e i0 z size bytes ht hi hz0 hz1 hz2 hz hs0 v n xs hs HO ad 1 1 ys hx (by rw [hys]; simp) hnews h1 (by omega) (by simp only [maxLen]; omega) hl hbase W.heap.size rfl (fun g cap w1 h2 h3 h4 _ => h g cap w1 h2 h3 h4)
end Go.Proofs.YtgcjmjhdnkffcaaGreatDoor
/- Appending a slice that is spread out onto a row of the call's own, whatever slice it is (nil too). No condition. -/
set_option linter.unusedVariables false
set_option linter.unusedSimpArgs false
namespace Go.Proofs.YtgcjmjhdnkffcaaGreatDoor
open Go.RowKit
theorem add_add' (x : Addr) (a b : Nat) : (x.add a).add b = x.add (a + b) := by
  unfold Addr.add
  by_cases ha : a = 0 <;> by_cases hb : b = 0 <;> simp [ha, hb, Nat.add_assoc]
theorem flat_at {α : Type} {enc : α → List Value} {size : Nat} (hs : ∀ p, (enc p).length = size) : ∀ (ps : List α) (j : Nat) (u : Value), (ps.flatMap enc)[j]? = some u → ∃ q r p, j = q * size + r ∧ ps[q]? = some p ∧ (enc p)[r]? = some u := by
  intro ps
  induction ps with
  | nil => intro j u h; simp at h
  | cons p ps ih =>
    intro j u h
    rw [List.flatMap_cons] at h
    by_cases hj : j < size
    · rw [List.getElem?_append_left (by rw [hs]; exact hj)] at h
      exact ⟨0, j, p, by omega, rfl, h⟩
    · rw [List.getElem?_append_right (by rw [hs]; omega), hs] at h
      obtain ⟨q, r, p', h1, h2, h3⟩ := ih _ _ h
      exact ⟨q + 1, r, p', by rw [Nat.add_mul]; omega, by simpa using h2, h3⟩
theorem SlOf.at_flat {α : Type} {enc : α → List Value} {size : Nat} {w : World} {x : Addr} {n : Nat} {ps : List α} (h : SlOf enc size w (some x) n ps) (hs : ∀ p, (enc p).length = size) : ∀ j u, (ps.flatMap enc)[j]? = some u → w.cell? (x.add j) = some u := by
  intro j u hj
  obtain ⟨q, r, p, rfl, h2, h3⟩ := flat_at hs ps j u hj
  have hn : 0 < n := by have := (List.getElem?_eq_some_iff.1 h2).1; have := h.1; omega
  obtain ⟨y, hy, _, hc⟩ := h.2 hn
  cases hy
  rw [← add_add']
  exact hc q p h2 r u h3
theorem run_append_none {P : Program} (w : World) (t ty e : TypeId) (i : TypeInfo) (ht : P.underlying t = some (.slice e)) (hi : P.info? e = some i) (base : Nat) (size n : Nat) (v : Value) (xs : List Value) (hown : w.ownsRow base e size v n xs) (c : Nat) :
    (Builtin.append_ #[t, t] ty #[v, .slice none 0 c]).run P w = .ok v w := by
  rcases hown.2 with ⟨rfl, rfl⟩ | ⟨g, cap, cur, rfl, hb, hh, hnc, _⟩
  · simp [Builtin.append_, run_underlying ht, sizeOf, typeInfo, hi, Builtin.lenOf, Builtin.firstCells, loadCells, loadCellsFrom, storeCells]
  · simp [Builtin.append_, run_underlying ht, sizeOf, typeInfo, hi, Builtin.lenOf, Builtin.firstCells, loadCells, loadCellsFrom, storeCells, hnc]
/-- 'append(v, x...)', x any readable slice. -/
theorem run_append_sl {P : Program} {α : Type} {enc : α → List Value} {W : World} {base : Nat} {e t ty : TypeId} {z : Value} {size bytes : Nat} {v : Value} {n : Nat} {xs : List Value} (A : Option Addr) (m c : Nat) (ps : List α)
    (ht : P.underlying t = some (.slice e)) (hinfo : (P.info? e).map (fun i => (i.zero, i.size, i.bytes)) = some (some z, size, bytes)) (hz : z.cells.size = size) (hs0 : 0 < size) (hb0 : 0 < bytes)
    (HO : W.ownsRow base e size v n xs) (hbase : base ≤ W.heap.size) (hl : (n + m) * bytes ≤ 140737488355328) (henc : ∀ p, (enc p).length = size) (h1 : ∀ p, ∀ u ∈ enc p, u.oneCell' = true) (hsl : SlOf enc size W A m ps) :
    ∃ v1 w1, (Builtin.append_ #[t, t] ty #[v, .slice A m c]).run P W = .ok v1 w1 ∧ w1.ownsRow base e size v1 (n + m) (xs ++ ps.flatMap enc) ∧ W.grownBy w1 v.ownBlock ∧ (v1.ownBlock = v.ownBlock ∨ v1.ownBlock = some W.heap.size) := by
  obtain ⟨i0, hi, hzz⟩ := Option.map_eq_some_iff.1 hinfo
  simp only [Prod.mk.injEq] at hzz
  obtain ⟨hz0, hz1, hz2⟩ := hzz
  have hlen : n + m ≤ 140737488355328 := Nat.le_trans (Nat.le_mul_of_pos_right _ hb0) hl
  cases A with
  | none =>
    have hm : m = 0 := by
      rcases Nat.eq_zero_or_pos m with h | h
      · exact h
      · obtain ⟨x, hx, _⟩ := hsl.2 h; cases hx
    subst hm
    obtain rfl : ps = [] := List.eq_nil_of_length_eq_zero hsl.1
    exact ⟨v, W, run_append_none W t ty e i0 ht hi base size n v xs HO c, by simpa using HO, ⟨rfl, rfl, rfl, Nat.le_refl _, fun _ _ _ => rfl⟩, .inl rfl⟩
  | some x =>
    obtain ⟨v1, w1, h2, h3, h4, _, h6⟩ := run_append_own_at (P := P) W base t ty e i0 z size bytes ht hi hz0 hz1 hz2 hz hs0 v n xs HO x m c (ps.flatMap enc) (by rw [flat_len henc, hsl.1]) (fun j u hj => hsl.at_flat henc j u hj)
      (fun u hu => by obtain ⟨p, _, hp⟩ := List.mem_flatMap.1 hu; exact h1 p u hp) (by simp only [maxLen]; omega) hl hbase
    exact ⟨v1, w1, h2, h3, h4, h6⟩
section
variable {P : Program} {α : Type} {enc : α → List Value} {W : World} {base : Nat} {e t : TypeId} {z : Value} {size bytes : Nat} {v : Value} {n : Nat} {xs : List Value} {a : Act} {Q : Exit → Act → World → Prop}
theorem wp_append_sl {o : Oper} {K : Act → World → Prop} (s x : Operand) (A : Option Addr) (m c : Nat) (ps : List α) (ho : o.op = .call { callee := .builtin .append, args := #[s, x], argTypes := #[t, t] })
    (ht : P.underlying t = some (.slice e)) (hinfo : (P.info? e).map (fun i => (i.zero, i.size, i.bytes)) = some (some z, size, bytes)) (hz : z.cells.size = size) (hs0 : 0 < size) (hb0 : 0 < bytes)
    (HO : W.ownsRow base e size v n xs) (hbase : base ≤ W.heap.size) (hl : (n + m) * bytes ≤ 140737488355328) (henc : ∀ p, (enc p).length = size) (h1 : ∀ p, ∀ u ∈ enc p, u.oneCell' = true) (hsl : SlOf enc size W A m ps)
    (hs : a.eval s = v) (hx : a.eval x = .slice A m c)
    (h : ∀ v1 w1, w1.ownsRow base e size v1 (n + m) (xs ++ ps.flatMap enc) → W.grownBy w1 v.ownBlock → (v1.ownBlock = v.ownBlock ∨ v1.ownBlock = some W.heap.size) → K (a.put o.dst v1) w1) : o.wp P a W K Q := by
  obtain ⟨v1, w1, hr, h2, h3, h4⟩ := run_append_sl (P := P) (t := t) (ty := o.type) A m c ps ht hinfo hz hs0 hb0 HO hbase hl henc h1 hsl
  unfold Oper.wp execOp
  simp only [ho, resolve, invoke, builtin, Sem.run_bind, Sem.run_pure, Result.andThen_ok, List.map_toArray, List.map_cons, List.map_nil, hs, hx, hr]
  exact h v1 w1 h2 h3 h4
/-- At a list of operations. -/
theorem append_sl {ops : Array Oper} {rest : List Oper} {o : Oper} (hgd : o.guard = none) (s x : Operand) (A : Option Addr) (m c : Nat) (ps : List α) (ho : o.op = .call { callee := .builtin .append, args := #[s, x], argTypes := #[t, t] })
    (ht : P.underlying t = some (.slice e)) (hinfo : (P.info? e).map (fun i => (i.zero, i.size, i.bytes)) = some (some z, size, bytes)) (hz : z.cells.size = size) (hs0 : 0 < size) (hb0 : 0 < bytes)
    (HO : W.ownsRow base e size v n xs) (hbase : base ≤ W.heap.size) (hl : (n + m) * bytes ≤ 140737488355328) (henc : ∀ p, (enc p).length = size) (h1 : ∀ p, ∀ u ∈ enc p, u.oneCell' = true) (hsl : SlOf enc size W A m ps)
    (hs : a.eval s = v) (hx : a.eval x = .slice A m c)
    (h : ∀ v1 w1, w1.ownsRow base e size v1 (n + m) (xs ++ ps.flatMap enc) → W.grownBy w1 v.ownBlock → (v1.ownBlock = v.ownBlock ∨ v1.ownBlock = some W.heap.size) → wpList P ops Q rest (a.put o.dst v1) w1) : wpList P ops Q (o :: rest) a W :=
  wpList_plain hgd fun _ hK => wp_append_sl s x A m c ps ho ht hinfo hz hs0 hb0 HO hbase hl henc h1 hsl hs hx fun v1 w1 h2 h3 h4 => hK _ _ (h v1 w1 h2 h3 h4)
/-- At a step of a region that draws. -/
theorem step_append_sl {ops : Array Oper} {o : Oper} {K : Act → World → Prop} {E : Prop} (hgd : o.guard = none) (s x : Operand) (A : Option Addr) (m c : Nat) (ps : List α) (ho : o.op = .call { callee := .builtin .append, args := #[s, x], argTypes := #[t, t] })
    (ht : P.underlying t = some (.slice e)) (hinfo : (P.info? e).map (fun i => (i.zero, i.size, i.bytes)) = some (some z, size, bytes)) (hz : z.cells.size = size) (hs0 : 0 < size) (hb0 : 0 < bytes)
    (HO : W.ownsRow base e size v n xs) (hbase : base ≤ W.heap.size) (hl : (n + m) * bytes ≤ 140737488355328) (henc : ∀ p, (enc p).length = size) (h1 : ∀ p, ∀ u ∈ enc p, u.oneCell' = true) (hsl : SlOf enc size W A m ps)
    (hs : a.eval s = v) (hx : a.eval x = .slice A m c)
    (h : ∀ v1 w1, w1.ownsRow base e size v1 (n + m) (xs ++ ps.flatMap enc) → W.grownBy w1 v.ownBlock → (v1.ownBlock = v.ownBlock ∨ v1.ownBlock = some W.heap.size) → K (a.put o.dst v1) w1) : if Region.wanted o (yielded ops a.tmps) = true then Oper.wp P o a W K Q else E := by
  rw [if_pos (by simp [Region.wanted, hgd])]
  exact wp_append_sl s x A m c ps ho ht hinfo hz hs0 hb0 HO hbase hl henc h1 hsl hs hx h
end
end Go.Proofs.YtgcjmjhdnkffcaaGreatDoor
