/- The reference's commands on pairs (layers 23, 25), walked: del; no condition but lengths, schemas and kinds. -/
import Derived.Test.YtgcjmjhdnkffcaaGreatDoorJRefWith
set_option linter.unusedVariables false
namespace Go.Proofs.YtgcjmjhdnkffcaaGreatDoor
open Go.RowKit
/-- What a command on pairs hands back. -/
def DoPost (w : World) (A : Option Addr) (n0 : Nat) (r : List Pair × Ans) (e : Ending) (w' : World) : Prop :=
  (∃ A' c', e = .returned (.tuple #[.slice A' r.1.length c', r.2.agg]) ∧ SlOf Pair.cells 3 w' A' r.1.length r.1 ∧ ∀ x, A' = some x → (A = some x ∧ r.1.length = n0) ∨ w.heap.size ≤ x.block) ∧ Only nob w w'
theorem DoPost.mk' {w w' : World} {r : List Pair × Ans} {l : List Pair} {a : Ans} {n : Nat} {A : Option Addr} {c : Nat} (hr : r = (l, a)) (hn : l.length = n) (hs : SlOf Pair.cells 3 w' A l.length l) (ho : Only nob w w') : DoPost w A n r (.returned (.tuple #[.slice A n c, a.agg])) w' := by
  subst hr; subst hn; exact ⟨⟨A, c, rfl, hs, fun x hx => .inl ⟨hx, rfl⟩⟩, ho⟩
theorem cells_all {w : World} {b : Nat} {cs : Array Value} {t : TypeId} (h : w.heap[b]? = some (.cells cs t (0, 0))) : (∀ i, w.cell? ⟨b, i, none⟩ = cs[i]?) ∧ (∀ i, w.frozen? ⟨b, i, none⟩ = false) := ⟨fun i => cells_cell h i, fun i => cells_free h i⟩
/-- Behind five new blocks and a call that turns nothing: they hold what they held. -/
theorem chain5 {w w1 : World} {o1 o2 o3 o4 o5 : Obj} (ho : Only nob (((((w.alloc o1).alloc o2).alloc o3).alloc o4).alloc o5) w1) :
    w1.heap[w.heap.size]? = some o1 ∧ w1.heap[w.heap.size + 1]? = some o2 ∧ w1.heap[w.heap.size + 1 + 1]? = some o3 ∧ w1.heap[w.heap.size + 1 + 1 + 1]? = some o4 ∧ w1.heap[w.heap.size + 1 + 1 + 1 + 1]? = some o5 ∧ Only nob w w1 :=
  ⟨ho.heap (heap_old _ (heap_old _ (heap_old _ (heap_old _ (heap_new _ rfl))))) (fun h => h), ho.heap (heap_old _ (heap_old _ (heap_old _ (heap_new _ (by simp))))) (fun h => h), ho.heap (heap_old _ (heap_old _ (heap_new _ (by simp)))) (fun h => h),
    ho.heap (heap_old _ (heap_new _ (by simp))) (fun h => h), ho.heap (heap_new _ (by simp)) (fun h => h), (((((Only.refl nob w).alloc o1).alloc o2).alloc o3).alloc o4 |>.alloc o5).trans ho⟩
theorem DoPost.fin {w w1 W2 : World} {r : List Pair × Ans} {l : List Pair} {a : Ans} {n n0 : Nat} {A A0 : Option Addr} {c : Nat} (hr : r = (l, a)) (hn : l.length = n) (ho : Only nob w w1) (hs : SlOf Pair.cells 3 w1 A l.length l)
    (hf : ∀ x, A = some x → w.heap.size + 5 ≤ x.block) (h2 : Only (fun i => i = w.heap.size + 1 ∨ i = w.heap.size + 1 + 1) w1 W2) : DoPost w A0 n0 r (.returned (.tuple #[.slice A n c, a.agg])) W2 := by
  subst hr; subst hn
  exact ⟨⟨A, c, rfl, hs.only h2 (fun x hx hh => by have := hf x hx; omega), fun x hx => .inr (by have := hf x hx; omega)⟩, ho.then h2 (fun i hi hh => by omega)⟩
set_option maxRecDepth 100000 in
set_option maxHeartbeats 4000000 in
theorem refdo_del (schema : Int) (A : Option Addr) (len cap : Nat) (l : List Pair) (client seq node : Int) (key val old : ByteArray) (w : World) (h : len ≤ 1000) (hl : SlOf Pair.cells 3 w A len l) (hs : schema = 1 ∨ schema = 2) (hrev : ∀ p ∈ l, 0 ≤ p.rev ∧ p.rev ≤ 4294967296) :
    Calls Tryz.prog 41 #[.int .i64 schema, .slice A len cap, .agg #[.int .i64 4, .int .i64 client, .int .i64 seq, .string key, .string val, .string old, .int .i64 node]] w (DoPost w A len (doP schema l ⟨4, client, seq, key, val, old, node⟩)) := by
  have hll := hl.1
  cases hp : placeP key l with
  | none =>
    have hD : Hid (doP schema l ⟨4, client, seq, key, val, old, node⟩ = (withoutP l key, ⟨client, seq, 0, false, ⟨#[]⟩, 0⟩)) := mk_hid (by simp [doP, hp])
    have HP := mk_hid hp
    clear hp
    rcases hs with rfl | rfl
    all_goals
      go_enter Tryz.func41, Tryz.ntmps41
      go_wp2_with (first | (go_at_call 53; refine (refplace_any A len cap l key _ h (hl.none (by (repeat (first | with_reducible exact Only.refl _ _ | with_reducible assumption | with_reducible refine Only.drew ?_ | with_reducible refine Only.drewN ?_ _ | with_reducible refine Only.alloc ?_ _))))).mono ?_; rw [HP.out]; rintro e w' ⟨rfl, rfl⟩; simp only [placeI]) | (go_at_call 55; refine (refwithout_any A len cap l key _ h (hl.none (by (repeat (first | with_reducible exact Only.refl _ _ | with_reducible assumption | with_reducible refine Only.drew ?_ | with_reducible refine Only.drewN ?_ _ | with_reducible refine Only.alloc ?_ _))))).mono ?_; rintro e w1 ⟨⟨A', c', rfl, hsl, hfr⟩, ho⟩; obtain ⟨h1, h2, h3, h4, h5, ho'⟩ := chain5 ho; obtain ⟨c2, e2⟩ := cells_all h2; obtain ⟨c3, e3⟩ := cells_all h3; obtain ⟨c4, e4⟩ := cells_all h4; clear ho h1 h2 h3 h4 h5))
      go_region
      go_wp2
      refine bodyPost_ret (v := .tuple #[.slice A' (withoutP l key).length c', (⟨client, seq, 0, false, ⟨#[]⟩, 0⟩ : Ans).agg]) (by simp [results, Tryz.results41, go_sem, Ans.agg, *]) rfl (DoPost.fin hD.out rfl ho' hsl (fun x hx => by simpa using hfr x hx) (by (repeat (first | with_reducible exact Only.refl _ _ | with_reducible refine Only.drew ?_ | with_reducible refine Only.drewN ?_ _ | (with_reducible refine Only.set ?_ (.inl ?_) _; rotate_left; first | exact .inr rfl | exact .inl rfl)))))
  | some i =>
    obtain ⟨s, hsi, hil⟩ := placeP_some hp
    obtain ⟨x, s', rfl, hp', hmem, hxb, hat⟩ := hl.get (show i < len by omega)
    obtain rfl : s = s' := by rw [hsi] at hp'; injection hp'
    obtain ⟨f0, f1, f2⟩ := Pair.facts hat
    have hr := hrev s hmem
    have hD : Hid (doP schema l ⟨4, client, seq, key, val, old, node⟩ = (withoutP l key, ⟨client, seq, 0, true, s.val, 0⟩)) := mk_hid (by simp [doP, hp, hsi])
    have HP := mk_hid hp
    have h1 : (i : Int) < (len : Int) := by omega
    have h2 : (0 : Int) ≤ (i : Int) := by omega
    have g0 := fun (o1 o2 o3 o4 : Obj) => Only.cell (((((Only.refl nob w).alloc o1).alloc o2).alloc o3).alloc o4) f0 (fun h => h)
    have g1 := fun (o1 o2 o3 o4 : Obj) => Only.cell (((((Only.refl nob w).alloc o1).alloc o2).alloc o3).alloc o4) f1 (fun h => h)
    have g2 := fun (o1 o2 o3 o4 : Obj) => Only.cell (((((Only.refl nob w).alloc o1).alloc o2).alloc o3).alloc o4) f2 (fun h => h)
    clear hp hat hp' hsi f0 f1 f2
    rcases hs with rfl | rfl
    all_goals
      by_cases hrr : s.rev < 4294967296
    all_goals
      go_enter Tryz.func41, Tryz.ntmps41
      go_wp2_with (first | (go_at_call 53; refine (refplace_any (some x) len cap l key _ h (hl.none (by (repeat (first | with_reducible exact Only.refl _ _ | with_reducible assumption | with_reducible refine Only.drew ?_ | with_reducible refine Only.drewN ?_ _ | with_reducible refine Only.alloc ?_ _))))).mono ?_; rw [HP.out]; rintro e w' ⟨rfl, rfl⟩; simp only [placeI]) | (go_at_call 55; refine (refwithout_any (some x) len cap l key _ h (hl.none (by (repeat (first | with_reducible exact Only.refl _ _ | with_reducible assumption | with_reducible refine Only.drew ?_ | with_reducible refine Only.drewN ?_ _ | with_reducible refine Only.alloc ?_ _))))).mono ?_; rintro e w1 ⟨⟨A', c', rfl, hsl, hfr⟩, ho⟩; obtain ⟨h1, h2, h3, h4, h5, ho'⟩ := chain5 ho; obtain ⟨c2, e2⟩ := cells_all h2; obtain ⟨c3, e3⟩ := cells_all h3; obtain ⟨c4, e4⟩ := cells_all h4; clear ho h1 h2 h3 h4 h5))
      go_region
      go_wp2
      refine bodyPost_ret (v := .tuple #[.slice A' (withoutP l key).length c', (⟨client, seq, 0, true, s.val, 0⟩ : Ans).agg]) (by simp [results, Tryz.results41, go_sem, Ans.agg, *]) rfl (DoPost.fin hD.out rfl ho' hsl (fun x hx => by simpa using hfr x hx) (by (repeat (first | with_reducible exact Only.refl _ _ | with_reducible refine Only.drew ?_ | with_reducible refine Only.drewN ?_ _ | (with_reducible refine Only.set ?_ (.inl ?_) _; rotate_left; first | exact .inr rfl | exact .inl rfl)))))
end Go.Proofs.YtgcjmjhdnkffcaaGreatDoor
