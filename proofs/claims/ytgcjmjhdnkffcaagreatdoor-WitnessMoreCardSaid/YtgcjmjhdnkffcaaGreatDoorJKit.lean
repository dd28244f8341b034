/- Words and small laws that the walks of this claim use: rows of cells that are read, what of a world has turned. No condition. -/
import Derived.WalkKit
import Derived.BigQuiet
import Derived.Deep.QuietTactic
import Derived.Maps.AppendAt
import Derived.Deep.AppendLies
import Derived.WalkSpells
import Derived.OpenShut
set_option linter.unusedVariables false
namespace Go.Proofs.YtgcjmjhdnkffcaaGreatDoor
open Go.RowKit

theorem mk_hid {p : Prop} (h : p) : Hid p := h

/-! ### 1. Of the blocks that were there nothing has turned but what S names -/
structure Only (S : Nat → Prop) (w w' : World) : Prop where
  os : w'.os = w.os
  tape : w'.tape = w.tape
  output : w'.output = w.output
  size : w.heap.size ≤ w'.heap.size
  block : ∀ i, i < w.heap.size → ¬ S i → w'.heap[i]? = w.heap[i]?
def nob : Nat → Prop := fun _ => False
theorem Only.refl (S : Nat → Prop) (w : World) : Only S w w := ⟨rfl, rfl, rfl, Nat.le_refl _, fun _ _ _ => rfl⟩
theorem Only.trans {S : Nat → Prop} {a b c : World} (h : Only S a b) (k : Only S b c) : Only S a c :=
  ⟨k.os.trans h.os, k.tape.trans h.tape, k.output.trans h.output, Nat.le_trans h.size k.size, fun i hi hs => (k.block i (Nat.lt_of_lt_of_le hi h.size) hs).trans (h.block i hi hs)⟩
/-- The second may turn, besides, what is new since a. -/
theorem Only.then {S T : Nat → Prop} {a b c : World} (h : Only S a b) (k : Only T b c) (hT : ∀ i, i < a.heap.size → T i → S i) : Only S a c :=
  ⟨k.os.trans h.os, k.tape.trans h.tape, k.output.trans h.output, Nat.le_trans h.size k.size, fun i hi hs => (k.block i (Nat.lt_of_lt_of_le hi h.size) (fun ht => hs (hT i hi ht))).trans (h.block i hi hs)⟩
theorem Only.mono {S T : Nat → Prop} {a b : World} (h : Only S a b) (hS : ∀ i, i < a.heap.size → S i → T i) : Only T a b :=
  ⟨h.os, h.tape, h.output, h.size, fun i hi ht => h.block i hi (fun hs => ht (hS i hi hs))⟩
theorem Only.drewN {S : Nat → Prop} {w w' : World} (h : Only S w w') (n : Nat) : Only S w (w'.drewN n) := ⟨h.os, h.tape, h.output, h.size, h.block⟩
theorem Only.drew {S : Nat → Prop} {w w' : World} (h : Only S w w') : Only S w w'.drew := ⟨h.os, h.tape, h.output, h.size, h.block⟩
theorem Only.alloc {S : Nat → Prop} {w w' : World} (h : Only S w w') (o : Obj) : Only S w (w'.alloc o) :=
  h.trans ⟨rfl, rfl, rfl, by simp, fun i hi _ => Below.heap_alloc _ _ _ hi⟩
theorem Only.set {S : Nat → Prop} {w w' : World} (h : Only S w w') {p : Addr} (hp : S p.block ∨ w.heap.size ≤ p.block) (v : Value) : Only S w (w'.setCell p v) :=
  ⟨h.os, h.tape, h.output, by simpa [World.setCell] using h.size, fun i hi hs => (Below.heap_setCell _ _ _ _ (fun e => by subst e; rcases hp with hp | hp; exact hs hp; omega)).trans (h.block i hi hs)⟩
theorem Only.below {S : Nat → Prop} {w w' : World} (h : Only S w w') {B : Nat} (hS : ∀ i, i < w.heap.size → S i → B ≤ i) (hB : B ≤ w.heap.size) : Below B w w' :=
  ⟨h.os, h.tape, h.output, h.size, fun i hi => h.block i (by omega) (fun hs => by have := hS i (by omega) hs; omega)⟩
theorem Only.of_below {S : Nat → Prop} {w w' : World} (h : Below w.heap.size w w') : Only S w w' := ⟨h.os, h.tape, h.output, h.size, fun i hi _ => h.block i hi⟩
theorem Only.of_grown {S : Nat → Prop} {w w' : World} {row : Option Nat} (h : w.grownBy w' row) (hr : ∀ k, row = some k → S k) : Only S w w' :=
  ⟨h.os, h.tape, h.output, h.size, fun i hi hs => h.block i hi (fun e => hs (hr i e.symm))⟩
theorem Only.cell {S : Nat → Prop} {w w' : World} (h : Only S w w') {p : Addr} {v : Value} (hc : w.cell? p = some v) (hne : ¬ S p.block) : w'.cell? p = some v :=
  (World.cell?_of_block (w := w) (h.block p.block (World.block_lt_of_cell? w p hc) hne)).trans hc
theorem Only.heap {S : Nat → Prop} {w w' : World} (h : Only S w w') {b : Nat} {o : Obj} (hc : w.heap[b]? = some o) (hne : ¬ S b) : w'.heap[b]? = some o :=
  (h.block b (Array.getElem?_eq_some_iff.1 hc).1 hne).trans hc
theorem none_below {w w' : World} (h : Only nob w w') : Below w.heap.size w w' := h.below (fun _ _ hs => hs.elim) (Nat.le_refl _)
theorem below_none {w w' : World} (h : Below w.heap.size w w') : Only nob w w' := .of_below h
theorem none_trans {a b c : World} (h : Only nob a b) (k : Only nob b c) : Only nob a c := h.trans k
theorem heap_lt {w : World} {b : Nat} {o : Obj} (h : w.heap[b]? = some o) : b < w.heap.size := (Array.getElem?_eq_some_iff.1 h).1
theorem cells_cell {w : World} {b : Nat} {cs : Array Value} {t : TypeId} {fr : Nat × Nat} (h : w.heap[b]? = some (.cells cs t fr)) (i : Nat) : w.cell? ⟨b, i, none⟩ = cs[i]? := by simp [World.cell?, h]
theorem cells_free {w : World} {b : Nat} {cs : Array Value} {t : TypeId} (h : w.heap[b]? = some (.cells cs t (0, 0))) (i : Nat) : w.frozen? ⟨b, i, none⟩ = false := by simp [World.frozen?, h]
theorem cells_set {w : World} {b : Nat} {cs : Array Value} {t : TypeId} {fr : Nat × Nat} (h : w.heap[b]? = some (.cells cs t fr)) (i : Nat) (v : Value) : (w.setCell ⟨b, i, none⟩ v).heap[b]? = some (.cells (cs.setIfInBounds i v) t fr) := by simp [World.setCell, Array.getElem?_modify, h]
theorem heap_set_other {w : World} {b c : Nat} {o : Obj} (h : w.heap[b]? = some o) (i : Nat) (v : Value) (hne : b ≠ c) : (w.setCell ⟨c, i, none⟩ v).heap[b]? = some o := (Below.heap_setCell _ _ _ _ hne).trans h
theorem heap_alloc_old {w : World} {b : Nat} {o : Obj} (h : w.heap[b]? = some o) (o' : Obj) : (w.alloc o').heap[b]? = some o := (Below.heap_alloc _ _ _ (heap_lt h)).trans h

/-! ### 2. Cells from an address on; rows of elements -/
theorem add_zero' (p : Addr) : p.add 0 = p := by simp [Addr.add]
theorem add_pos (p : Addr) (i : Nat) (h : 0 < i) : p.add i = ⟨p.block, p.off + i, none⟩ := by simp [Addr.add, Nat.ne_of_gt h]
theorem add_block (p : Addr) (i : Nat) : (p.add i).block = p.block := by unfold Addr.add; split <;> rfl
def At (w : World) (p : Addr) (cs : List Value) : Prop := ∀ i u, cs[i]? = some u → w.cell? (p.add i) = some u
theorem At.zero {w : World} {p : Addr} {u : Value} {cs : List Value} (h : At w p (u :: cs)) : w.cell? p = some u := by simpa [add_zero'] using h 0 u rfl
theorem At.at_ {w : World} {p : Addr} {cs : List Value} (h : At w p cs) (i : Nat) {u : Value} (hu : cs[i]? = some u) (hi : 0 < i) : w.cell? ⟨p.block, p.off + i, none⟩ = some u := by
  rw [← add_pos p i hi]; exact h i u hu
theorem At.only {S : Nat → Prop} {w w' : World} {p : Addr} {cs : List Value} (h : At w p cs) (ho : Only S w w') (hne : ¬ S p.block) : At w' p cs :=
  fun i u hu => ho.cell (h i u hu) (by rw [add_block]; exact hne)
/-- A slice whose elements are the cells 'enc p', p of ps: nil, empty, others. -/
def SlOf {α : Type} (enc : α → List Value) (size : Nat) (w : World) (A : Option Addr) (n : Nat) (ps : List α) : Prop :=
  ps.length = n ∧ (0 < n → ∃ x : Addr, A = some x ∧ x.block < w.heap.size ∧ ∀ j p, ps[j]? = some p → At w (x.add (j * size)) (enc p))
theorem SlOf.only {α : Type} {enc : α → List Value} {size : Nat} {S : Nat → Prop} {w w' : World} {A : Option Addr} {n : Nat} {ps : List α} (h : SlOf enc size w A n ps) (ho : Only S w w') (hne : ∀ x, A = some x → ¬ S x.block) : SlOf enc size w' A n ps :=
  ⟨h.1, fun hn => by
    obtain ⟨x, rfl, hx, hc⟩ := h.2 hn
    exact ⟨x, rfl, Nat.lt_of_lt_of_le hx ho.size, fun j p hj => (hc j p hj).only ho (by rw [add_block]; exact hne x rfl)⟩⟩
theorem SlOf.none {α : Type} {enc : α → List Value} {size : Nat} {w w' : World} {A : Option Addr} {n : Nat} {ps : List α} (h : SlOf enc size w A n ps) (ho : Only nob w w') : SlOf enc size w' A n ps := h.only ho (fun _ _ hs => hs)
theorem SlOf.get {α : Type} {enc : α → List Value} {size : Nat} {w : World} {A : Option Addr} {n : Nat} {ps : List α} (h : SlOf enc size w A n ps) {k : Nat} (hk : k < n) : ∃ (x : Addr) (p : α), A = some x ∧ ps[k]? = some p ∧ p ∈ ps ∧ x.block < w.heap.size ∧ At w (x.add (k * size)) (enc p) := by
  obtain ⟨x, rfl, hx, hc⟩ := h.2 (by omega)
  have hl : k < ps.length := by have := h.1; omega
  exact ⟨x, ps[k], rfl, List.getElem?_eq_getElem hl, List.getElem_mem hl, hx, hc k _ (List.getElem?_eq_getElem hl)⟩
theorem SlOf.nil {α : Type} (enc : α → List Value) (size : Nat) (w : World) (A : Option Addr) : SlOf enc size w A 0 [] := ⟨rfl, fun h => absurd h (by omega)⟩

end Go.Proofs.YtgcjmjhdnkffcaaGreatDoor
/- Words and small laws that the walks of this claim use: rows of the call's own. No condition. -/
set_option linter.unusedVariables false
namespace Go.Proofs.YtgcjmjhdnkffcaaGreatDoor
open Go.RowKit
/-! ### 3. Rows of the call's own: append, and what they read as -/
theorem own_ge {w : World} {base : Nat} {e : TypeId} {size n : Nat} {v : Value} {xs : List Value} (h : w.ownsRow base e size v n xs) (k : Nat) (hk : v.ownBlock = some k) : base ≤ k := by
  rcases h.2 with ⟨rfl, _⟩ | ⟨g, cap, cur, rfl, hb, _⟩
  · simp [Value.ownBlock] at hk
  · simp [Value.ownBlock] at hk; omega
theorem own_lt {w : World} {base : Nat} {e : TypeId} {size n : Nat} {v : Value} {xs : List Value} (h : w.ownsRow base e size v n xs) (k : Nat) (hk : v.ownBlock = some k) : k < w.heap.size := by
  rcases h.2 with ⟨rfl, _⟩ | ⟨g, cap, cur, rfl, hb, hh, _⟩
  · simp [Value.ownBlock] at hk
  · simp [Value.ownBlock] at hk; subst hk; exact heap_lt hh
theorem own_nil (W : World) (base : Nat) (e : TypeId) (size : Nat) : W.ownsRow base e size (.slice none 0 0) 0 [] := ⟨by simp, .inl ⟨rfl, rfl⟩⟩
theorem own_only {w w1 : World} {S : Nat → Prop} {base : Nat} {e : TypeId} {size n : Nat} {v : Value} {xs : List Value} (h : w.ownsRow base e size v n xs) (ho : Only S w w1) (hS : ∀ k, v.ownBlock = some k → ¬ S k) : w1.ownsRow base e size v n xs := by
  refine ⟨h.1, ?_⟩
  rcases h.2 with h2 | ⟨g, cap, cur, rfl, hb, hh, r⟩
  · exact .inl h2
  · exact .inr ⟨g, cap, cur, rfl, hb, ho.heap hh (hS g rfl), r⟩
theorem own_alloc {w : World} {base : Nat} {e : TypeId} {size n : Nat} {v : Value} {xs : List Value} (h : w.ownsRow base e size v n xs) (o : Obj) : (w.alloc o).ownsRow base e size v n xs := h.alloc o
theorem only_grown {S : Nat → Prop} {w0 W w1 : World} {row : Option Nat} (h : Only S w0 W) (hg : W.grownBy w1 row) (hr : ∀ k, row = some k → w0.heap.size ≤ k ∨ S k) : Only S w0 w1 :=
  ⟨hg.os.trans h.os, hg.tape.trans h.tape, hg.output.trans h.output, Nat.le_trans h.size hg.size, fun i hi hs => (hg.block i (Nat.lt_of_lt_of_le hi h.size) (fun e => by rcases hr i e.symm with h1 | h1; omega; exact hs h1)).trans (h.block i hi hs)⟩
section
variable {P : Program} {ops : Array Oper} {rest : List Oper} {a : Act} {Q : Exit → Act → World → Prop}
/-- 'append(v, x)' onto a row of the call's own, x of one cell or several: the goal's world is 'W.alloc' of the variadic's box. -/
theorem append_el {W : World} {base : Nat} {e t : TypeId} {z : Value} {size bytes : Nat} {v : Value} {n : Nat} {xs ys : List Value} {s x d : Tmp} {ty : TypeId} {pos : String} {af : Array Edge} (m : Nat)
    (ht : P.underlying t = some (.slice e)) (hinfo : (P.info? e).map (fun i => (i.zero, i.size, i.bytes)) = some (some z, size, bytes)) (hz : z.cells.size = size) (hs0 : 0 < size) (hb0 : 0 < bytes)
    (HO : W.ownsRow base e size v n xs) (hbase : base ≤ W.heap.size) (hl : (n + 1) * bytes ≤ 140737488355328) (hys : ys.length = size) (h1 : ∀ u ∈ ys, u.oneCell' = true) (hm : m = W.heap.size)
    (hs : a.eval (.tmp s) = v) (hx : a.eval (.tmp x) = .slice (some ⟨m, 0, none⟩) 1 1)
    (h : ∀ v1 w1, w1.ownsRow base e size v1 (n + 1) (xs ++ ys) → W.grownBy w1 v.ownBlock → wpList P ops Q rest (a.put (some d) v1) w1) :
    wpList P ops Q (⟨some d, .call { callee := .builtin .append, args := #[.tmp s, .tmp x], argTypes := #[t, t] }, ty, pos, af, none⟩ :: rest) a (W.alloc (.cells ys.toArray e)) := by
  subst hm
  obtain ⟨i0, hi, hzz⟩ := Option.map_eq_some_iff.1 hinfo
  simp only [Prod.mk.injEq] at hzz
  obtain ⟨hz0, hz1, hz2⟩ := hzz
  have hlen : n + 1 ≤ 140737488355328 := Nat.le_trans (Nat.le_mul_of_pos_right _ hb0) hl
  refine wpList_append_own_at (W.alloc (.cells ys.toArray e)) rfl (.tmp s) (.tmp x) t rfl base e i0 z size bytes ht hi hz0 hz1 hz2 hz hs0 v n xs hs (HO.alloc _) ⟨W.heap.size, 0, none⟩ 1 1 ys hx (by rw [hys]; simp)
    (by simpa using World.news_of_block (cs := ys.toArray) (t := e) (fr := (0, 0)) (heap_alloc_new W (.cells ys.toArray e))) h1 (by simp only [maxLen]; omega) hl (by simp; omega) ?_
  intro v1 w1 hown hg _ _
  exact h v1 w1 hown (World.grownBy.trans (World.grownBy_alloc W _ _) hg)
end
theorem flat_len {α : Type} {enc : α → List Value} {size : Nat} (hsz : ∀ p, (enc p).length = size) (ps : List α) : (ps.flatMap enc).length = ps.length * size := by
  induction ps with
  | nil => simp
  | cons p ps ih => rw [List.flatMap_cons, List.length_append, hsz, ih, List.length_cons, Nat.succ_mul]; omega
theorem flat_get {α : Type} {enc : α → List Value} {size : Nat} (hsz : ∀ p, (enc p).length = size) : ∀ (ps : List α) (j : Nat) (p : α), ps[j]? = some p → ∀ i u, (enc p)[i]? = some u → (ps.flatMap enc)[j * size + i]? = some u := by
  intro ps
  induction ps with
  | nil => intro j p hj; simp at hj
  | cons q ps ih =>
    intro j p hj i u hu
    have hi : i < size := by have := (List.getElem?_eq_some_iff.1 hu).1; rw [hsz] at this; exact this
    rw [List.flatMap_cons]
    cases j with
    | zero =>
      simp at hj; subst hj
      rw [Nat.zero_mul, Nat.zero_add, List.getElem?_append_left (by rw [hsz]; exact hi)]; exact hu
    | succ j =>
      simp at hj
      rw [Nat.succ_mul, List.getElem?_append_right (by rw [hsz]; omega), hsz, show j * size + size + i - size = j * size + i from by omega]
      exact ih j p hj i u hu
/-- What a row of the call's own reads as. -/
theorem own_sl {α : Type} {enc : α → List Value} {w : World} {base : Nat} {e : TypeId} {size n : Nat} {v : Value} {ps : List α} (hsz : ∀ p, (enc p).length = size) (h : w.ownsRow base e size v n (ps.flatMap enc)) (h0 : 0 < size) :
    ∃ A c, v = .slice A n c ∧ SlOf enc size w A n ps ∧ (∀ x, A = some x → base ≤ x.block) := by
  have hn : ps.length = n := by have := h.1; rw [flat_len hsz] at this; exact Nat.eq_of_mul_eq_mul_right h0 this
  rcases h.2 with ⟨rfl, rfl⟩ | ⟨g, cap, cur, rfl, hb, hh, _⟩
  · exact ⟨none, 0, rfl, ⟨hn, fun h => absurd h (by omega)⟩, fun x hx => by cases hx⟩
  · refine ⟨_, cap, rfl, ⟨hn, fun _ => ⟨_, rfl, heap_lt hh, fun j p hj i u hu => ?_⟩⟩, fun x hx => by cases hx; exact hb⟩
    have := h.cells (g := g) rfl (j * size + i) u (flat_get hsz ps j p hj i u hu)
    have e2 : ((⟨g, 0, none⟩ : Addr).add (j * size)).add i = (⟨g, 0, none⟩ : Addr).add (j * size + i) := by
      unfold Addr.add
      by_cases h1 : j * size = 0
      · rw [h1]; simp
      · simp only [h1, if_false]; by_cases h2 : i = 0
        · subst h2; simp [h1]
        · simp [h2]
    rw [e2]; exact this
theorem flat_snoc {α : Type} (enc : α → List Value) (ps : List α) (p : α) : (ps ++ [p]).flatMap enc = ps.flatMap enc ++ enc p := by simp
end Go.Proofs.YtgcjmjhdnkffcaaGreatDoor
/- Appending to a row of the call's own, with what becomes of the row's block. No condition. -/
set_option linter.unusedVariables false
namespace Go.Proofs.YtgcjmjhdnkffcaaGreatDoor
open Go.RowKit
section
variable {P : Program} {ops : Array Oper} {rest : List Oper} {a : Act} {Q : Exit → Act → World → Prop}
/-- 'append_el', and: the row's block is the one it was, or a new one. -/
theorem append_el2 {W : World} {base : Nat} {e t : TypeId} {z : Value} {size bytes : Nat} {v : Value} {n : Nat} {xs ys : List Value} {s x d : Tmp} {ty : TypeId} {pos : String} {af : Array Edge} (m : Nat)
    (ht : P.underlying t = some (.slice e)) (hinfo : (P.info? e).map (fun i => (i.zero, i.size, i.bytes)) = some (some z, size, bytes)) (hz : z.cells.size = size) (hs0 : 0 < size) (hb0 : 0 < bytes)
    (HO : W.ownsRow base e size v n xs) (hbase : base ≤ W.heap.size) (hl : (n + 1) * bytes ≤ 140737488355328) (hys : ys.length = size) (h1 : ∀ u ∈ ys, u.oneCell' = true) (hm : m = W.heap.size)
    (hs : a.eval (.tmp s) = v) (hx : a.eval (.tmp x) = .slice (some ⟨m, 0, none⟩) 1 1)
    (h : ∀ v1 w1, w1.ownsRow base e size v1 (n + 1) (xs ++ ys) → W.grownBy w1 v.ownBlock → (v1.ownBlock = v.ownBlock ∨ v1.ownBlock = some (W.heap.size + 1)) → wpList P ops Q rest (a.put (some d) v1) w1) :
    wpList P ops Q (⟨some d, .call { callee := .builtin .append, args := #[.tmp s, .tmp x], argTypes := #[t, t] }, ty, pos, af, none⟩ :: rest) a (W.alloc (.cells ys.toArray e)) := by
  subst hm
  obtain ⟨i0, hi, hzz⟩ := Option.map_eq_some_iff.1 hinfo
  simp only [Prod.mk.injEq] at hzz
  obtain ⟨hz0, hz1, hz2⟩ := hzz
  have hlen : n + 1 ≤ 140737488355328 := Nat.le_trans (Nat.le_mul_of_pos_right _ hb0) hl
  refine wpList_append_own_at (W.alloc (.cells ys.toArray e)) rfl (.tmp s) (.tmp x) t rfl base e i0 z size bytes ht hi hz0 hz1 hz2 hz hs0 v n xs hs (HO.alloc _) ⟨W.heap.size, 0, none⟩ 1 1 ys hx (by rw [hys]; simp)
    (by simpa using World.news_of_block (cs := ys.toArray) (t := e) (fr := (0, 0)) (heap_alloc_new W (.cells ys.toArray e))) h1 (by simp only [maxLen]; omega) hl (by simp; omega) ?_
  intro v1 w1 hown hg _ hb
  exact h v1 w1 hown (World.grownBy.trans (World.grownBy_alloc W _ _) hg) (by simpa using hb)
end
theorem SlOf.only' {α : Type} {enc : α → List Value} {size : Nat} {S : Nat → Prop} {w w' : World} {A : Option Addr} {n : Nat} {ps : List α} (h : SlOf enc size w A n ps) (ho : Only S w w') (hne : 0 < n → ∀ x, A = some x → ¬ S x.block) : SlOf enc size w' A n ps :=
  ⟨h.1, fun hn => (h.only (S := S) (w' := w') (n := n) ho (hne hn)).2 hn⟩
end Go.Proofs.YtgcjmjhdnkffcaaGreatDoor
