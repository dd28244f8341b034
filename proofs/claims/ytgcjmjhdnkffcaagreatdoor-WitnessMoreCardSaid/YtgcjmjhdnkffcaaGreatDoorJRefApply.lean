/- The reference's machine on one command (layer 28), walked; no condition but lengths, schemas, revisions. -/
import Derived.Test.YtgcjmjhdnkffcaaGreatDoorJRefDoAll
import Derived.Test.YtgcjmjhdnkffcaaGreatDoorJKit
import Derived.Deep.RegionHeld3
set_option linter.unusedVariables false
set_option linter.unusedSimpArgs false
namespace Go.Proofs.YtgcjmjhdnkffcaaGreatDoor
open Go.RowKit
theorem chain4 {w w1 : World} {o1 o2 o3 o4 : Obj} (ho : Only nob ((((w.alloc o1).alloc o2).alloc o3).alloc o4) w1) :
    w1.heap[w.heap.size]? = some o1 ∧ w1.heap[w.heap.size + 1]? = some o2 ∧ w1.heap[w.heap.size + 1 + 1]? = some o3 ∧ w1.heap[w.heap.size + 1 + 1 + 1]? = some o4 ∧ Only nob w w1 :=
  ⟨ho.heap (heap_old _ (heap_old _ (heap_old _ (heap_new _ rfl)))) (fun h => h), ho.heap (heap_old _ (heap_old _ (heap_new _ (by simp)))) (fun h => h), ho.heap (heap_old _ (heap_new _ (by simp))) (fun h => h),
    ho.heap (heap_new _ (by simp)) (fun h => h), ((((Only.refl nob w).alloc o1).alloc o2).alloc o3 |>.alloc o4).trans ho⟩
theorem cells_all1 {w : World} {b : Nat} {cs : Array Value} {t : TypeId} (h : w.heap[b]? = some (.cells cs t (0, 0))) : (∀ o i, (w.alloc o).cell? ⟨b, i, none⟩ = cs[i]?) ∧ (∀ o i, (w.alloc o).frozen? ⟨b, i, none⟩ = false) := ⟨fun o i => cells_cell (heap_old o h) i, fun o i => cells_free (heap_old o h) i⟩
theorem cells_all2 {w : World} {b : Nat} {cs : Array Value} {t : TypeId} (h : w.heap[b]? = some (.cells cs t (0, 0))) : (∀ o o' i, ((w.alloc o).alloc o').cell? ⟨b, i, none⟩ = cs[i]?) ∧ (∀ o o' i, ((w.alloc o).alloc o').frozen? ⟨b, i, none⟩ = false) := ⟨fun o o' i => cells_cell (heap_old o' (heap_old o h)) i, fun o o' i => cells_free (heap_old o' (heap_old o h)) i⟩
theorem far2 (n : Nat) : ¬ n = n + 1 + 1 := by omega
theorem far3 (n : Nat) : ¬ n = n + 1 + 1 + 1 := by omega
theorem set_cell {w : World} {p a : Addr} {v : Value} (h : ¬ p.block = a.block) : (w.setCell a v).cell? p = w.cell? p := World.cell?_of_block (Below.heap_setCell w a v p.block h)
/-- The two blocks of the results. -/
abbrev res2 (w : World) : Nat → Prop := fun i => i = w.heap.size + 1 + 1 ∨ i = w.heap.size + 1 + 1 + 1
theorem ApPost.fin {w w1 W2 : World} {r : St × Ans} {s : St} {a : Ans} {A B A0 B0 : Option Addr} {n m c d n0 m0 : Nat} {z : Int} (hr : r = (s, a)) (hz : z = s.schema) (hn : n = s.pairs.length) (hm : m = s.sess.length) (ho : Only nob w w1) (h1 : SlOf Pair.cells 3 w1 A s.pairs.length s.pairs) (h2 : SlOf Sess.cells 8 w1 B s.sess.length s.sess)
    (hA : 0 < s.pairs.length → ∀ x, A = some x → ¬ res2 w x.block) (hB : 0 < s.sess.length → ∀ x, B = some x → ¬ res2 w x.block) (fA : Outs w A0 A n0 s.pairs.length) (fB : Outs w B0 B m0 s.sess.length) (h : Only (res2 w) w1 W2) : ApPost w A0 B0 n0 m0 r (.returned (.tuple #[.agg #[.int .i64 z, .slice A n c, .slice B m d], a.agg])) W2 := by
  subst hr; subst hz; subst hn; subst hm
  exact ⟨⟨A, c, B, d, rfl, h1.only' h hA, h2.only' h hB, fA, fB⟩, ho.then h (fun i hi hh => by rcases hh with hh | hh <;> omega)⟩
theorem Outs.new {w : World} {A A' : Option Addr} {n n' k : Nat} (hk : w.heap.size + 4 ≤ k) (h : ∀ x, A' = some x → k ≤ x.block) : Outs w A A' n n' := fun x hx => .inr (by have := h x hx; omega)
theorem SlOf.apart {α : Type} {enc : α → List Value} {size : Nat} {w : World} {A : Option Addr} {n : Nat} {ps : List α} (h : SlOf enc size w A n ps) (hn : 0 < n) : ∀ x, A = some x → ¬ res2 w x.block := by
  intro x hx hr
  obtain ⟨y, rfl, hy, _⟩ := h.2 hn
  cases hx
  rcases hr with hr | hr <;> omega
theorem res2_new {w : World} {A : Option Addr} {k : Nat} (hk : w.heap.size + 4 ≤ k) (h : ∀ x, A = some x → k ≤ x.block) : ∀ x, A = some x → ¬ res2 w x.block := by
  intro x hx hr
  have := h x hx
  rcases hr with hr | hr <;> omega
set_option maxRecDepth 100000 in
set_option maxHeartbeats 4000000 in
theorem refapply_act (A B : Option Addr) (cap bc : Nat) (s : St) (kind client seq node : Int) (key val old : ByteArray) (w : World) (h : s.ok) (hl : SlOf Pair.cells 3 w A s.pairs.length s.pairs) (hs : SlOf Sess.cells 8 w B s.sess.length s.sess)
    (hk : ownB kind = false) (h6 : kind = 6) (h1 : s.schema = 1) :
    Calls Tryz.prog 19 #[.agg #[.int .i64 s.schema, .slice A s.pairs.length cap, .slice B s.sess.length bc], .agg #[.int .i64 kind, .int .i64 client, .int .i64 seq, .string key, .string val, .string old, .int .i64 node]] w (ApPost w A B s.pairs.length s.sess.length (applyS s ⟨kind, client, seq, key, val, old, node⟩)) := by
  have hD : Hid (applyS s ⟨kind, client, seq, key, val, old, node⟩ = (⟨2, revsP s.pairs 1, s.sess⟩, Ans.zero)) := mk_hid (by subst h6; simp [applyS, show ownB 6 = false from rfl, h1])
  obtain ⟨schema, l, ss⟩ := s
  have hsz := h.pairs
  have hsz2 := h.sess
  have hsch := h.schema
  have hrev := h.rev
  have hll := hl.1
  have hap := hl.apart
  have hbp := hs.apart
  dsimp only at *
  subst h1
  subst h6
  have HK := mk_hid hk
  clear hk
  go_enter Tryz.func19, Tryz.ntmps19
  go_wp2_with (first | (go_at_call 11; refine (owned_any _ _).mono ?_; rw [HK.out]; rintro e w' ⟨rfl, rfl⟩) | (go_at_call 40; refine (refrevs_any _ _ _ A B _ _ _ _ l _ (by omega) (hl.none (by (repeat (first | with_reducible exact Only.refl _ _ | with_reducible assumption | with_reducible refine Only.drew ?_ | with_reducible refine Only.drewN ?_ _ | with_reducible refine Only.alloc ?_ _))))).mono ?_; rintro e w1 ⟨⟨A', c', rfl, hsl, hfr⟩, ho⟩; obtain ⟨h1, h2, h3, h4, ho'⟩ := chain4 ho; obtain ⟨c3, e3⟩ := cells_all h3; obtain ⟨c4, e4⟩ := cells_all h4; clear ho h1 h2 h3 h4))
  refine bodyPost_ret (v := .tuple #[.agg #[.int .i64 2, .slice A' (revsP l 1).length c', .slice B ss.length bc], Ans.zero.agg]) (by simp [results, Tryz.results19, go_sem, Ans.agg, Ans.zero, *]) rfl (ApPost.fin hD.out rfl rfl rfl ho' hsl (hs.none ho') (fun _ => res2_new (by simp) hfr) hbp (Outs.new (by simp) hfr) (Outs.same _ _ _) (by (repeat (first | with_reducible exact Only.refl _ _ | with_reducible assumption | with_reducible refine Only.drew ?_ | with_reducible refine Only.drewN ?_ _ | with_reducible refine Only.alloc ?_ _ | (with_reducible refine Only.set ?_ (.inl ?_) _; rotate_left; first | exact .inr rfl | exact .inl rfl)))))
set_option maxRecDepth 100000 in
set_option maxHeartbeats 4000000 in
theorem refapply_nop (A B : Option Addr) (cap bc : Nat) (s : St) (kind client seq node : Int) (key val old : ByteArray) (w : World) (h : s.ok) (hl : SlOf Pair.cells 3 w A s.pairs.length s.pairs) (hs : SlOf Sess.cells 8 w B s.sess.length s.sess)
    (hk : ownB kind = false) (h61 : ¬ (kind = 6 ∧ s.schema = 1)) :
    Calls Tryz.prog 19 #[.agg #[.int .i64 s.schema, .slice A s.pairs.length cap, .slice B s.sess.length bc], .agg #[.int .i64 kind, .int .i64 client, .int .i64 seq, .string key, .string val, .string old, .int .i64 node]] w (ApPost w A B s.pairs.length s.sess.length (applyS s ⟨kind, client, seq, key, val, old, node⟩)) := by
  have hD : Hid (applyS s ⟨kind, client, seq, key, val, old, node⟩ = (s, Ans.zero)) := mk_hid (by simp [applyS, hk, h61])
  obtain ⟨schema, l, ss⟩ := s
  have hsz := h.pairs
  have hsz2 := h.sess
  have hsch := h.schema
  have hrev := h.rev
  have hll := hl.1
  have hap := hl.apart
  have hbp := hs.apart
  dsimp only at *
  have HK := mk_hid hk
  clear hk
  rcases (show kind ≠ 6 ∨ (kind = 6 ∧ schema = 2) by rcases hsch with h1 | h1 <;> omega) with h6 | ⟨rfl, rfl⟩
  · have h6' : (kind == 6) = false := by simpa using h6
    clear h61 h6
    go_enter Tryz.func19, Tryz.ntmps19
    go_wp2_with (first | (go_at_call 11; refine (owned_any _ _).mono ?_; rw [HK.out]; rintro e w' ⟨rfl, rfl⟩))
    refine bodyPost_ret (v := .tuple #[.agg #[.int .i64 schema, .slice A l.length cap, .slice B ss.length bc], Ans.zero.agg]) (by simp [results, Tryz.results19, go_sem, Ans.agg, Ans.zero, *]) rfl (ApPost.fin hD.out rfl rfl rfl (Only.refl _ _) hl hs hap hbp (Outs.same _ _ _) (Outs.same _ _ _) (by (repeat (first | with_reducible exact Only.refl _ _ | with_reducible assumption | with_reducible refine Only.drew ?_ | with_reducible refine Only.drewN ?_ _ | with_reducible refine Only.alloc ?_ _ | (with_reducible refine Only.set ?_ (.inl ?_) _; rotate_left; first | exact .inr rfl | exact .inl rfl)))))
  · clear h61
    go_enter Tryz.func19, Tryz.ntmps19
    go_wp2_with (first | (go_at_call 11; refine (owned_any _ _).mono ?_; rw [HK.out]; rintro e w' ⟨rfl, rfl⟩))
    refine bodyPost_ret (v := .tuple #[.agg #[.int .i64 2, .slice A l.length cap, .slice B ss.length bc], Ans.zero.agg]) (by simp [results, Tryz.results19, go_sem, Ans.agg, Ans.zero, *]) rfl (ApPost.fin hD.out rfl rfl rfl (Only.refl _ _) hl hs hap hbp (Outs.same _ _ _) (Outs.same _ _ _) (by (repeat (first | with_reducible exact Only.refl _ _ | with_reducible assumption | with_reducible refine Only.drew ?_ | with_reducible refine Only.drewN ?_ _ | with_reducible refine Only.alloc ?_ _ | (with_reducible refine Only.set ?_ (.inl ?_) _; rotate_left; first | exact .inr rfl | exact .inl rfl)))))
set_option maxRecDepth 100000 in
set_option maxHeartbeats 4000000 in
theorem refapply_same (A B : Option Addr) (cap bc : Nat) (s : St) (kind client seq node : Int) (key val old : ByteArray) (w : World) (h : s.ok) (hl : SlOf Pair.cells 3 w A s.pairs.length s.pairs) (hs : SlOf Sess.cells 8 w B s.sess.length s.sess)
    (q : Int) (qa : Ans) (hk : ownB kind = true) (hq : lastOf client s.sess = (q, qa)) (h0 : 0 < q) (h1 : seq = q) :
    Calls Tryz.prog 19 #[.agg #[.int .i64 s.schema, .slice A s.pairs.length cap, .slice B s.sess.length bc], .agg #[.int .i64 kind, .int .i64 client, .int .i64 seq, .string key, .string val, .string old, .int .i64 node]] w (ApPost w A B s.pairs.length s.sess.length (applyS s ⟨kind, client, seq, key, val, old, node⟩)) := by
  have hD : Hid (applyS s ⟨kind, client, seq, key, val, old, node⟩ = (s, qa)) := mk_hid (by simp [applyS, hk, hq, h0, h1])
  obtain ⟨schema, l, ss⟩ := s
  have hsz := h.pairs
  have hsz2 := h.sess
  have hsch := h.schema
  have hrev := h.rev
  have hll := hl.1
  have hap := hl.apart
  have hbp := hs.apart
  dsimp only at *
  subst h1
  have HK := mk_hid hk
  have HQ := mk_hid hq
  clear hk hq
  go_enter Tryz.func19, Tryz.ntmps19
  go_wp2_with (first | (go_at_call 11; refine (owned_any _ _).mono ?_; rw [HK.out]; rintro e w' ⟨rfl, rfl⟩) | (go_at_call 20; refine (reflast_any B _ _ ss _ _ (by omega) (hs.none (by (repeat (first | with_reducible exact Only.refl _ _ | with_reducible assumption | with_reducible refine Only.drew ?_ | with_reducible refine Only.drewN ?_ _ | with_reducible refine Only.alloc ?_ _))))).mono ?_; rw [HQ.out]; rintro e w1 ⟨rfl, ho⟩; obtain ⟨h1, h2, h3, h4, ho'⟩ := chain4 ho; obtain ⟨c1, e1⟩ := cells_all h1; obtain ⟨c2, e2⟩ := cells_all h2; obtain ⟨c3, e3⟩ := cells_all h3; obtain ⟨c4, e4⟩ := cells_all h4; obtain ⟨p1, P1⟩ := cells_all1 h1; obtain ⟨q1, Q1⟩ := cells_all2 h1; obtain ⟨p2, P2⟩ := cells_all1 h2; obtain ⟨q2, Q2⟩ := cells_all2 h2; obtain ⟨p3, P3⟩ := cells_all1 h3; obtain ⟨q3, Q3⟩ := cells_all2 h3; obtain ⟨p4, P4⟩ := cells_all1 h4; obtain ⟨q4, Q4⟩ := cells_all2 h4; have z1 := heap_lt h4; have hl1 := hl.none ho'; have hs1 := hs.none ho'; clear ho h1 h2 h3 h4; simp only [Ans.agg]))
  go_region
  go_wp2
  refine bodyPost_ret (v := .tuple #[.agg #[.int .i64 schema, .slice A l.length cap, .slice B ss.length bc], qa.agg]) (by simp [results, Tryz.results19, go_sem, Ans.agg, Ans.zero, *]) rfl (ApPost.fin hD.out rfl rfl rfl ho' hl1 hs1 hap hbp (Outs.same _ _ _) (Outs.same _ _ _) (by (repeat (first | with_reducible exact Only.refl _ _ | with_reducible assumption | with_reducible refine Only.drew ?_ | with_reducible refine Only.drewN ?_ _ | with_reducible refine Only.alloc ?_ _ | (with_reducible refine Only.set ?_ (.inl ?_) _; rotate_left; first | exact .inr rfl | exact .inl rfl)))))
set_option maxRecDepth 100000 in
set_option maxHeartbeats 4000000 in
theorem refapply_late (A B : Option Addr) (cap bc : Nat) (s : St) (kind client seq node : Int) (key val old : ByteArray) (w : World) (h : s.ok) (hl : SlOf Pair.cells 3 w A s.pairs.length s.pairs) (hs : SlOf Sess.cells 8 w B s.sess.length s.sess)
    (q : Int) (qa : Ans) (hk : ownB kind = true) (hq : lastOf client s.sess = (q, qa)) (h1 : seq < q) :
    Calls Tryz.prog 19 #[.agg #[.int .i64 s.schema, .slice A s.pairs.length cap, .slice B s.sess.length bc], .agg #[.int .i64 kind, .int .i64 client, .int .i64 seq, .string key, .string val, .string old, .int .i64 node]] w (ApPost w A B s.pairs.length s.sess.length (applyS s ⟨kind, client, seq, key, val, old, node⟩)) := by
  have hD : Hid (applyS s ⟨kind, client, seq, key, val, old, node⟩ = (s, ⟨client, seq, 15, false, ⟨#[]⟩, 0⟩)) := mk_hid (by simp [applyS, hk, hq, h1]; omega)
  obtain ⟨schema, l, ss⟩ := s
  have hsz := h.pairs
  have hsz2 := h.sess
  have hsch := h.schema
  have hrev := h.rev
  have hll := hl.1
  have hap := hl.apart
  have hbp := hs.apart
  dsimp only at *
  have h1' : (seq == q) = false := by simp; omega
  have HK := mk_hid hk
  have HQ := mk_hid hq
  clear hk hq
  by_cases h0 : 0 < q
  all_goals
    go_enter Tryz.func19, Tryz.ntmps19
    go_wp2_with (first | (go_at_call 11; refine (owned_any _ _).mono ?_; rw [HK.out]; rintro e w' ⟨rfl, rfl⟩) | (go_at_call 20; refine (reflast_any B _ _ ss _ _ (by omega) (hs.none (by (repeat (first | with_reducible exact Only.refl _ _ | with_reducible assumption | with_reducible refine Only.drew ?_ | with_reducible refine Only.drewN ?_ _ | with_reducible refine Only.alloc ?_ _))))).mono ?_; rw [HQ.out]; rintro e w1 ⟨rfl, ho⟩; obtain ⟨h1, h2, h3, h4, ho'⟩ := chain4 ho; obtain ⟨c1, e1⟩ := cells_all h1; obtain ⟨c2, e2⟩ := cells_all h2; obtain ⟨c3, e3⟩ := cells_all h3; obtain ⟨c4, e4⟩ := cells_all h4; obtain ⟨p1, P1⟩ := cells_all1 h1; obtain ⟨q1, Q1⟩ := cells_all2 h1; obtain ⟨p2, P2⟩ := cells_all1 h2; obtain ⟨q2, Q2⟩ := cells_all2 h2; obtain ⟨p3, P3⟩ := cells_all1 h3; obtain ⟨q3, Q3⟩ := cells_all2 h3; obtain ⟨p4, P4⟩ := cells_all1 h4; obtain ⟨q4, Q4⟩ := cells_all2 h4; have z1 := heap_lt h4; have hl1 := hl.none ho'; have hs1 := hs.none ho'; clear ho h1 h2 h3 h4; simp only [Ans.agg]))
    go_region
    go_wp2
    refine bodyPost_ret (v := .tuple #[.agg #[.int .i64 schema, .slice A l.length cap, .slice B ss.length bc], (⟨client, seq, 15, false, ⟨#[]⟩, 0⟩ : Ans).agg]) (by simp [results, Tryz.results19, go_sem, Ans.agg, Ans.zero, *]) rfl (ApPost.fin hD.out rfl rfl rfl ho' hl1 hs1 hap hbp (Outs.same _ _ _) (Outs.same _ _ _) (by (repeat (first | with_reducible exact Only.refl _ _ | with_reducible assumption | with_reducible refine Only.drew ?_ | with_reducible refine Only.drewN ?_ _ | with_reducible refine Only.alloc ?_ _ | (with_reducible refine Only.set ?_ (.inl ?_) _; rotate_left; first | exact .inr rfl | exact .inl rfl)))))
set_option maxRecDepth 100000 in
set_option maxHeartbeats 4000000 in
theorem refapply_not (A B : Option Addr) (cap bc : Nat) (s : St) (kind client seq node : Int) (key val old : ByteArray) (w : World) (h : s.ok) (hl : SlOf Pair.cells 3 w A s.pairs.length s.pairs) (hs : SlOf Sess.cells 8 w B s.sess.length s.sess)
    (q : Int) (qa : Ans) (hk : ownB kind = true) (hq : lastOf client s.sess = (q, qa)) (h1 : ¬ seq < q) (h01 : ¬ (0 < q ∧ seq = q)) (hh : hasB s.schema kind = false) :
    Calls Tryz.prog 19 #[.agg #[.int .i64 s.schema, .slice A s.pairs.length cap, .slice B s.sess.length bc], .agg #[.int .i64 kind, .int .i64 client, .int .i64 seq, .string key, .string val, .string old, .int .i64 node]] w (ApPost w A B s.pairs.length s.sess.length (applyS s ⟨kind, client, seq, key, val, old, node⟩)) := by
  have hD : Hid (applyS s ⟨kind, client, seq, key, val, old, node⟩ = (s, ⟨client, seq, 14, false, ⟨#[]⟩, 0⟩)) := mk_hid (by simp [applyS, hk, hq, h1, hh]; omega)
  obtain ⟨schema, l, ss⟩ := s
  have hsz := h.pairs
  have hsz2 := h.sess
  have hsch := h.schema
  have hrev := h.rev
  have hll := hl.1
  have hap := hl.apart
  have hbp := hs.apart
  dsimp only at *
  have HK := mk_hid hk
  have HQ := mk_hid hq
  have HH := mk_hid hh
  clear hk hq hh
  rcases (show (0 < q ∧ (seq == q) = false) ∨ ¬ 0 < q by simp; omega) with ⟨h0, h2⟩ | h0
  all_goals
    clear h01
    go_enter Tryz.func19, Tryz.ntmps19
    go_wp2_with (first | (go_at_call 11; refine (owned_any _ _).mono ?_; rw [HK.out]; rintro e w' ⟨rfl, rfl⟩) | (go_at_call 20; refine (reflast_any B _ _ ss _ _ (by omega) (hs.none (by (repeat (first | with_reducible exact Only.refl _ _ | with_reducible assumption | with_reducible refine Only.drew ?_ | with_reducible refine Only.drewN ?_ _ | with_reducible refine Only.alloc ?_ _))))).mono ?_; rw [HQ.out]; rintro e w1 ⟨rfl, ho⟩; obtain ⟨h1, h2, h3, h4, ho'⟩ := chain4 ho; obtain ⟨c1, e1⟩ := cells_all h1; obtain ⟨c2, e2⟩ := cells_all h2; obtain ⟨c3, e3⟩ := cells_all h3; obtain ⟨c4, e4⟩ := cells_all h4; obtain ⟨p1, P1⟩ := cells_all1 h1; obtain ⟨q1, Q1⟩ := cells_all2 h1; obtain ⟨p2, P2⟩ := cells_all1 h2; obtain ⟨q2, Q2⟩ := cells_all2 h2; obtain ⟨p3, P3⟩ := cells_all1 h3; obtain ⟨q3, Q3⟩ := cells_all2 h3; obtain ⟨p4, P4⟩ := cells_all1 h4; obtain ⟨q4, Q4⟩ := cells_all2 h4; have z1 := heap_lt h4; have hl1 := hl.none ho'; have hs1 := hs.none ho'; clear ho h1 h2 h3 h4; simp only [Ans.agg]) | (go_at_call 21; refine (refhas_any _ _ _).mono ?_; rw [HH.out]; rintro e w' ⟨rfl, rfl⟩))
    go_region
    go_wp2
    refine bodyPost_ret (v := .tuple #[.agg #[.int .i64 schema, .slice A l.length cap, .slice B ss.length bc], (⟨client, seq, 14, false, ⟨#[]⟩, 0⟩ : Ans).agg]) (by simp [results, Tryz.results19, go_sem, Ans.agg, Ans.zero, *]) rfl (ApPost.fin hD.out rfl rfl rfl ho' hl1 hs1 hap hbp (Outs.same _ _ _) (Outs.same _ _ _) (by (repeat (first | with_reducible exact Only.refl _ _ | with_reducible assumption | with_reducible refine Only.drew ?_ | with_reducible refine Only.drewN ?_ _ | with_reducible refine Only.alloc ?_ _ | (with_reducible refine Only.set ?_ (.inl ?_) _; rotate_left; first | exact .inr rfl | exact .inl rfl)))))
set_option maxRecDepth 100000 in
set_option maxHeartbeats 4000000 in
theorem refapply_do (A B : Option Addr) (cap bc : Nat) (s : St) (kind client seq node : Int) (key val old : ByteArray) (w : World) (h : s.ok) (hl : SlOf Pair.cells 3 w A s.pairs.length s.pairs) (hs : SlOf Sess.cells 8 w B s.sess.length s.sess)
    (q : Int) (qa : Ans) (hk : ownB kind = true) (hq : lastOf client s.sess = (q, qa)) (h1 : ¬ seq < q) (h01 : ¬ (0 < q ∧ seq = q)) (hh : hasB s.schema kind = true) (l' : List Pair) (a' : Ans) (hr : doP s.schema s.pairs ⟨kind, client, seq, key, val, old, node⟩ = (l', a')) :
    Calls Tryz.prog 19 #[.agg #[.int .i64 s.schema, .slice A s.pairs.length cap, .slice B s.sess.length bc], .agg #[.int .i64 kind, .int .i64 client, .int .i64 seq, .string key, .string val, .string old, .int .i64 node]] w (ApPost w A B s.pairs.length s.sess.length (applyS s ⟨kind, client, seq, key, val, old, node⟩)) := by
  have hD : Hid (applyS s ⟨kind, client, seq, key, val, old, node⟩ = (⟨s.schema, l', withS s.sess a'⟩, a')) := mk_hid (by simp [applyS, hk, hq, h1, hh, hr]; omega)
  obtain ⟨schema, l, ss⟩ := s
  have hsz := h.pairs
  have hsz2 := h.sess
  have hsch := h.schema
  have hrev := h.rev
  have hll := hl.1
  have hap := hl.apart
  have hbp := hs.apart
  dsimp only at *
  have HR := mk_hid hr
  clear hr
  have HK := mk_hid hk
  have HQ := mk_hid hq
  have HH := mk_hid hh
  clear hk hq hh
  rcases (show (0 < q ∧ (seq == q) = false) ∨ ¬ 0 < q by simp; omega) with ⟨h0, h2⟩ | h0
  all_goals
    clear h01
    go_enter Tryz.func19, Tryz.ntmps19
    go_wp2_with (first | (go_at_call 11; refine (owned_any _ _).mono ?_; rw [HK.out]; rintro e w' ⟨rfl, rfl⟩) | (go_at_call 20; refine (reflast_any B _ _ ss _ _ (by omega) (hs.none (by (repeat (first | with_reducible exact Only.refl _ _ | with_reducible assumption | with_reducible refine Only.drew ?_ | with_reducible refine Only.drewN ?_ _ | with_reducible refine Only.alloc ?_ _))))).mono ?_; rw [HQ.out]; rintro e w1 ⟨rfl, ho⟩; obtain ⟨h1, h2, h3, h4, ho'⟩ := chain4 ho; obtain ⟨c1, e1⟩ := cells_all h1; obtain ⟨c2, e2⟩ := cells_all h2; obtain ⟨c3, e3⟩ := cells_all h3; obtain ⟨c4, e4⟩ := cells_all h4; obtain ⟨p1, P1⟩ := cells_all1 h1; obtain ⟨q1, Q1⟩ := cells_all2 h1; obtain ⟨p2, P2⟩ := cells_all1 h2; obtain ⟨q2, Q2⟩ := cells_all2 h2; obtain ⟨p3, P3⟩ := cells_all1 h3; obtain ⟨q3, Q3⟩ := cells_all2 h3; obtain ⟨p4, P4⟩ := cells_all1 h4; obtain ⟨q4, Q4⟩ := cells_all2 h4; have z1 := heap_lt h4; have hl1 := hl.none ho'; have hs1 := hs.none ho'; have H1 := mk_hid h1; have H2 := mk_hid h2; have H3 := mk_hid h3; have H4 := mk_hid h4; clear ho h1 h2 h3 h4; simp only [Ans.agg]) | (go_at_call 21; refine (refhas_any _ _ _).mono ?_; rw [HH.out]; rintro e w' ⟨rfl, rfl⟩) | (go_at_call 41; refine (refdo_any _ A _ _ l ⟨kind, client, seq, key, val, old, node⟩ _ (by omega) (hl1.none (by (repeat (first | with_reducible exact Only.refl _ _ | with_reducible assumption | with_reducible refine Only.drew ?_ | with_reducible refine Only.drewN ?_ _ | with_reducible refine Only.alloc ?_ _)))) hsch hrev HK.out HH.out).mono ?_; rw [HR.out]; rintro e w3 ⟨⟨A', c', rfl, hsl, hfr⟩, ho3⟩; have hs3 := hs1.none (Only.trans (by (repeat (first | with_reducible exact Only.refl _ _ | with_reducible assumption | with_reducible refine Only.drew ?_ | with_reducible refine Only.drewN ?_ _ | with_reducible refine Only.alloc ?_ _))) ho3); have hu3 := ho'.trans (Only.trans (by (repeat (first | with_reducible exact Only.refl _ _ | with_reducible assumption | with_reducible refine Only.drew ?_ | with_reducible refine Only.drewN ?_ _ | with_reducible refine Only.alloc ?_ _))) ho3); have K1 := mk_hid (ho3.heap (heap_old _ (heap_old _ H1.out)) (fun h => h)); obtain ⟨i1, I1⟩ := cells_all K1.out; obtain ⟨j1, J1⟩ := cells_all1 K1.out; have K2 := mk_hid (ho3.heap (heap_old _ (heap_old _ H2.out)) (fun h => h)); obtain ⟨i2, I2⟩ := cells_all K2.out; obtain ⟨j2, J2⟩ := cells_all1 K2.out; have K3 := mk_hid (ho3.heap (heap_old _ (heap_old _ H3.out)) (fun h => h)); obtain ⟨i3, I3⟩ := cells_all K3.out; obtain ⟨j3, J3⟩ := cells_all1 K3.out; have K4 := mk_hid (ho3.heap (heap_old _ (heap_old _ H4.out)) (fun h => h)); obtain ⟨i4, I4⟩ := cells_all K4.out; obtain ⟨j4, J4⟩ := cells_all1 K4.out; have z3 := heap_lt K4.out; have z3' := ho3.size; have ne1 : ¬ w3.heap.size = w.heap.size + 1 + 1 := (by omega); have ne2 : ¬ w3.heap.size = w.heap.size + 1 + 1 + 1 := (by omega); simp only [Ans.agg]))
    go_region_held3 (fun w' => w'.cell? ⟨w.heap.size, 0, none⟩ = some (.int .i64 schema) ∧ w'.cell? ⟨w.heap.size, 2, none⟩ = some (.slice B ss.length bc) ∧ w'.cell? ⟨w3.heap.size, 0, none⟩ = some (.int .i64 a'.client) ∧ w'.cell? ⟨w3.heap.size, 1, none⟩ = some (.int .i64 a'.seq) ∧ w'.cell? ⟨w3.heap.size, 2, none⟩ = some (.int .i64 a'.err) ∧ w'.cell? ⟨w3.heap.size, 3, none⟩ = some (.bool a'.found) ∧ w'.cell? ⟨w3.heap.size, 4, none⟩ = some (.string a'.val) ∧ w'.cell? ⟨w3.heap.size, 5, none⟩ = some (.int .i64 a'.rev)) (first | (refine ⟨?_, ?_, ?_, ?_, ?_, ?_, ?_, ?_⟩ <;> (repeat rw [set_cell (by first | exact far2 _ | exact far3 _ | exact ne1 | exact ne2)]) <;> first | exact (n1 _).trans rfl | exact (n5 _).trans rfl) | go_keep) (first | (go_at_call 42; refine (refwithS_any B _ _ ss a' _ (by omega) (hs3.none (by (repeat (first | with_reducible exact Only.refl _ _ | with_reducible assumption | with_reducible refine Only.drew ?_ | with_reducible refine Only.drewN ?_ _ | with_reducible refine Only.alloc ?_ _))))).mono ?_; rintro e w4 ⟨⟨B', d', rfl, hsB, hfB⟩, ho0⟩; have ho4 := undrew ho0; obtain ⟨n1, N1⟩ := cells_all (ho4.heap (heap_old _ K1.out) (fun h => h)); obtain ⟨n2, N2⟩ := cells_all (ho4.heap (heap_old _ K2.out) (fun h => h)); obtain ⟨n3, N3⟩ := cells_all (ho4.heap (heap_old _ K3.out) (fun h => h)); obtain ⟨n4, N4⟩ := cells_all (ho4.heap (heap_old _ K4.out) (fun h => h)); obtain ⟨n5, N5⟩ := cells_all (ho4.heap (heap_new _ rfl) (fun h => h)); have z4 := ho4.size; clear ho0))
    all_goals
      go_wp2
      refine bodyPost_ret (v := .tuple #[.agg #[.int .i64 schema, .slice A' l'.length c', .slice B' (withS ss a').length d'], a'.agg]) (by simp [results, Tryz.results19, go_sem, Ans.agg, Ans.zero, *]) rfl (ApPost.fin (w1 := w4) hD.out rfl rfl rfl (hu3.trans (Only.trans (by (repeat (first | with_reducible exact Only.refl _ _ | with_reducible assumption | with_reducible refine Only.drew ?_ | with_reducible refine Only.drewN ?_ _ | with_reducible refine Only.alloc ?_ _))) ho4)) (hsl.none (Only.trans (by (repeat (first | with_reducible exact Only.refl _ _ | with_reducible assumption | with_reducible refine Only.drew ?_ | with_reducible refine Only.drewN ?_ _ | with_reducible refine Only.alloc ?_ _))) ho4)) hsB ?_ (fun _ => res2_new ?_ hfB) ?_ (Outs.new ?_ hfB) (by (repeat (first | with_reducible exact Only.refl _ _ | with_reducible assumption | with_reducible refine Only.drew ?_ | with_reducible refine Only.drewN ?_ _ | with_reducible refine Only.alloc ?_ _ | (with_reducible refine Only.set ?_ (.inl ?_) _; rotate_left; first | exact .inr rfl | exact .inl rfl)))))
      · intro hn x hx
        rcases hfr x hx with ⟨e1, e2⟩ | e1
        · exact hap (by simpa [e2] using hn) x e1
        · exact res2_new (A := some x) (k := w.heap.size + 4) (Nat.le_refl _) (fun y hy => by cases hy; simp at e1; omega) x rfl
      · simp at z4 ⊢; omega
      · intro x hx
        rcases hfr x hx with e1 | e1
        · exact .inl e1
        · exact .inr (by simp at e1; omega)
      · simp at z4 ⊢; omega
end Go.Proofs.YtgcjmjhdnkffcaaGreatDoor
/- The reference's machine on one command, all cases; the states that it goes through. -/
set_option linter.unusedVariables false
namespace Go.Proofs.YtgcjmjhdnkffcaaGreatDoor
open Go.RowKit
theorem refapply_any (A B : Option Addr) (cap bc : Nat) (s : St) (c : Cmd) (w : World) (h : s.ok) (hl : SlOf Pair.cells 3 w A s.pairs.length s.pairs) (hs : SlOf Sess.cells 8 w B s.sess.length s.sess) :
    Calls Tryz.prog 19 #[.agg #[.int .i64 s.schema, .slice A s.pairs.length cap, .slice B s.sess.length bc], c.agg] w (ApPost w A B s.pairs.length s.sess.length (applyS s c)) := by
  obtain ⟨kind, client, seq, key, val, old, node⟩ := c
  cases hk : ownB kind with
  | false =>
    by_cases h61 : kind = 6 ∧ s.schema = 1
    · exact refapply_act A B cap bc s kind client seq node key val old w h hl hs hk h61.1 h61.2
    · exact refapply_nop A B cap bc s kind client seq node key val old w h hl hs hk h61
  | true =>
    rcases hq : lastOf client s.sess with ⟨q, qa⟩
    by_cases h01 : 0 < q ∧ seq = q
    · exact refapply_same A B cap bc s kind client seq node key val old w h hl hs q qa hk hq h01.1 h01.2
    · by_cases h1 : seq < q
      · exact refapply_late A B cap bc s kind client seq node key val old w h hl hs q qa hk hq h1
      · cases hh : hasB s.schema kind with
        | false => exact refapply_not A B cap bc s kind client seq node key val old w h hl hs q qa hk hq h1 h01 hh
        | true =>
          rcases hr : doP s.schema s.pairs ⟨kind, client, seq, key, val, old, node⟩ with ⟨l', a'⟩
          exact refapply_do A B cap bc s kind client seq node key val old w h hl hs q qa hk hq h1 h01 hh l' a' hr
end Go.Proofs.YtgcjmjhdnkffcaaGreatDoor
