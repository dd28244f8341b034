/- The reference's commands on pairs (layers 23, 25), walked: cas; no condition but lengths, schemas and kinds. -/
import Derived.Test.YtgcjmjhdnkffcaaGreatDoorJRefDel
import Derived.Deep.RegionWith
set_option linter.unusedVariables false
namespace Go.Proofs.YtgcjmjhdnkffcaaGreatDoor
open Go.RowKit
theorem undrew {S : Nat → Prop} {W w1 : World} (h : Only S W.drew w1) : Only S W w1 := ⟨h.os, h.tape, h.output, h.size, h.block⟩
set_option maxRecDepth 100000 in
set_option maxHeartbeats 4000000 in
theorem refcas_none (A : Option Addr) (len cap : Nat) (l : List Pair) (client seq node : Int) (key val old : ByteArray) (w : World) (h : len ≤ 1000) (hl : SlOf Pair.cells 3 w A len l) (hrev : ∀ p ∈ l, 0 ≤ p.rev ∧ p.rev ≤ 4294967296) (hp : placeP key l = none) :
    Calls Tryz.prog 41 #[.int .i64 2, .slice A len cap, .agg #[.int .i64 5, .int .i64 client, .int .i64 seq, .string key, .string val, .string old, .int .i64 node]] w (DoPost w A len (doP 2 l ⟨5, client, seq, key, val, old, node⟩)) := by
  have hll := hl.1
  have hD : Hid (doP 2 l ⟨5, client, seq, key, val, old, node⟩ = (l, ⟨client, seq, 10, false, ⟨#[]⟩, 0⟩)) := mk_hid (by simp [doP, hp])
  have HP := mk_hid hp
  clear hp
  go_enter Tryz.func41, Tryz.ntmps41
  go_wp2_with (first | (go_at_call 53; refine (refplace_any A len cap l key _ h (hl.none (by (repeat (first | with_reducible exact Only.refl _ _ | with_reducible assumption | with_reducible refine Only.drew ?_ | with_reducible refine Only.drewN ?_ _ | with_reducible refine Only.alloc ?_ _))))).mono ?_; rw [HP.out]; rintro e w' ⟨rfl, rfl⟩; simp only [placeI]))
  go_region
  go_wp2
  refine bodyPost_ret (v := .tuple #[.slice A len cap, (⟨client, seq, 10, false, ⟨#[]⟩, 0⟩ : Ans).agg]) (by simp [results, Tryz.results41, go_sem, Ans.agg, *]) rfl (DoPost.mk' hD.out hll (by rw [hll]; exact hl.none (by (repeat (first | with_reducible exact Only.refl _ _ | with_reducible assumption | with_reducible refine Only.drew ?_ | with_reducible refine Only.drewN ?_ _ | with_reducible refine Only.alloc ?_ _)))) (by (repeat (first | with_reducible exact Only.refl _ _ | with_reducible assumption | with_reducible refine Only.drew ?_ | with_reducible refine Only.drewN ?_ _ | with_reducible refine Only.alloc ?_ _))))
set_option maxRecDepth 100000 in
set_option maxHeartbeats 4000000 in
theorem refcas_stale_low (A : Option Addr) (len cap : Nat) (l : List Pair) (client seq node : Int) (key val old : ByteArray) (w : World) (h : len ≤ 1000) (hl : SlOf Pair.cells 3 w A len l) (hrev : ∀ p ∈ l, 0 ≤ p.rev ∧ p.rev ≤ 4294967296) (i : Nat) (s : Pair) (hp : placeP key l = some i) (hsi : l[i]? = some s) (hrr : s.rev < 4294967296) (hne : beq s.val old = false) :
    Calls Tryz.prog 41 #[.int .i64 2, .slice A len cap, .agg #[.int .i64 5, .int .i64 client, .int .i64 seq, .string key, .string val, .string old, .int .i64 node]] w (DoPost w A len (doP 2 l ⟨5, client, seq, key, val, old, node⟩)) := by
  have hll := hl.1
  obtain ⟨_, _, hil⟩ := placeP_some hp
  obtain ⟨x, s', rfl, hp', hmem, hxb, hat⟩ := hl.get (show i < len by omega)
  obtain rfl : s = s' := by rw [hsi] at hp'; injection hp'
  obtain ⟨f0, f1, f2⟩ := Pair.facts hat
  have hr := hrev s hmem
  have h1 : (i : Int) < (len : Int) := by omega
  have h2 : (0 : Int) ≤ (i : Int) := by omega
  have g0 := fun (o1 o2 o3 o4 : Obj) => Only.cell (((((Only.refl nob w).alloc o1).alloc o2).alloc o3).alloc o4) f0 (fun h => h)
  have g1 := fun (o1 o2 o3 o4 : Obj) => Only.cell (((((Only.refl nob w).alloc o1).alloc o2).alloc o3).alloc o4) f1 (fun h => h)
  have g2 := fun (o1 o2 o3 o4 : Obj) => Only.cell (((((Only.refl nob w).alloc o1).alloc o2).alloc o3).alloc o4) f2 (fun h => h)
  have hne' : (s.val.toList == old.toList) = false := hne
  have hD : Hid (doP 2 l ⟨5, client, seq, key, val, old, node⟩ = (l, ⟨client, seq, 15, true, s.val, s.rev⟩)) := mk_hid (by simp [doP, hp, hsi, hne])
  have HP := mk_hid hp
  clear hp hat hp' hsi f0 f1 f2 hne
  go_enter Tryz.func41, Tryz.ntmps41
  go_wp2_with (first | (go_at_call 53; refine (refplace_any (some x) len cap l key _ h (hl.none (by (repeat (first | with_reducible exact Only.refl _ _ | with_reducible assumption | with_reducible refine Only.drew ?_ | with_reducible refine Only.drewN ?_ _ | with_reducible refine Only.alloc ?_ _))))).mono ?_; rw [HP.out]; rintro e w' ⟨rfl, rfl⟩; simp only [placeI]))
  go_region
  go_wp2
  refine bodyPost_ret (v := .tuple #[.slice (some x) len cap, (⟨client, seq, 15, true, s.val, s.rev⟩ : Ans).agg]) (by simp [results, Tryz.results41, go_sem, Ans.agg, *]) rfl (DoPost.mk' hD.out hll (by rw [hll]; exact hl.none (by (repeat (first | with_reducible exact Only.refl _ _ | with_reducible assumption | with_reducible refine Only.drew ?_ | with_reducible refine Only.drewN ?_ _ | with_reducible refine Only.alloc ?_ _)))) (by (repeat (first | with_reducible exact Only.refl _ _ | with_reducible assumption | with_reducible refine Only.drew ?_ | with_reducible refine Only.drewN ?_ _ | with_reducible refine Only.alloc ?_ _))))
set_option maxRecDepth 100000 in
set_option maxHeartbeats 4000000 in
theorem refcas_done_low (A : Option Addr) (len cap : Nat) (l : List Pair) (client seq node : Int) (key val old : ByteArray) (w : World) (h : len ≤ 1000) (hl : SlOf Pair.cells 3 w A len l) (hrev : ∀ p ∈ l, 0 ≤ p.rev ∧ p.rev ≤ 4294967296) (i : Nat) (s : Pair) (hp : placeP key l = some i) (hsi : l[i]? = some s) (hrr : s.rev < 4294967296) (hne : beq s.val old = true) :
    Calls Tryz.prog 41 #[.int .i64 2, .slice A len cap, .agg #[.int .i64 5, .int .i64 client, .int .i64 seq, .string key, .string val, .string old, .int .i64 node]] w (DoPost w A len (doP 2 l ⟨5, client, seq, key, val, old, node⟩)) := by
  have hll := hl.1
  obtain ⟨_, _, hil⟩ := placeP_some hp
  obtain ⟨x, s', rfl, hp', hmem, hxb, hat⟩ := hl.get (show i < len by omega)
  obtain rfl : s = s' := by rw [hsi] at hp'; injection hp'
  obtain ⟨f0, f1, f2⟩ := Pair.facts hat
  have hr := hrev s hmem
  have h1 : (i : Int) < (len : Int) := by omega
  have h2 : (0 : Int) ≤ (i : Int) := by omega
  have g0 := fun (o1 o2 o3 o4 : Obj) => Only.cell (((((Only.refl nob w).alloc o1).alloc o2).alloc o3).alloc o4) f0 (fun h => h)
  have g1 := fun (o1 o2 o3 o4 : Obj) => Only.cell (((((Only.refl nob w).alloc o1).alloc o2).alloc o3).alloc o4) f1 (fun h => h)
  have g2 := fun (o1 o2 o3 o4 : Obj) => Only.cell (((((Only.refl nob w).alloc o1).alloc o2).alloc o3).alloc o4) f2 (fun h => h)
  have hne' : (s.val.toList == old.toList) = true := hne
  have hD : Hid (doP 2 l ⟨5, client, seq, key, val, old, node⟩ = (withP l ⟨key, val, s.rev + 1⟩, ⟨client, seq, 0, true, s.val, s.rev + 1⟩)) := mk_hid (by simp [doP, hp, hsi, hne, nextRev, hrr])
  have HP := mk_hid hp
  clear hp hat hp' hsi f0 f1 f2 hne
  go_enter Tryz.func41, Tryz.ntmps41
  go_wp2_with (first | (go_at_call 53; refine (refplace_any (some x) len cap l key _ h (hl.none (by (repeat (first | with_reducible exact Only.refl _ _ | with_reducible assumption | with_reducible refine Only.drew ?_ | with_reducible refine Only.drewN ?_ _ | with_reducible refine Only.alloc ?_ _))))).mono ?_; rw [HP.out]; rintro e w' ⟨rfl, rfl⟩; simp only [placeI]))
  go_region_with (go_at_call 54; refine (refwith_any (some x) len cap l ⟨key, val, s.rev + 1⟩ _ h (hl.none (by (repeat (first | with_reducible exact Only.refl _ _ | with_reducible assumption | with_reducible refine Only.drew ?_ | with_reducible refine Only.drewN ?_ _ | with_reducible refine Only.alloc ?_ _))))).mono ?_; rintro e w1 ⟨⟨A', c', rfl, hsl, hfr⟩, ho0⟩; have ho := undrew ho0; obtain ⟨h1, h2, h3, h4, h5, ho'⟩ := chain5 ho; obtain ⟨c2, e2⟩ := cells_all h2; obtain ⟨c3, e3⟩ := cells_all h3; obtain ⟨c4, e4⟩ := cells_all h4; obtain ⟨c5, e5⟩ := cells_all h5; clear ho ho0 h1 h2 h3 h4 h5)
  all_goals go_wp2
  all_goals
    refine bodyPost_ret (v := .tuple #[.slice A' (withP l ⟨key, val, s.rev + 1⟩).length c', (⟨client, seq, 0, true, s.val, s.rev + 1⟩ : Ans).agg]) (by simp [results, Tryz.results41, go_sem, Ans.agg, *]) rfl (DoPost.fin hD.out rfl ho' hsl (fun x hx => by simpa using hfr x hx) (by (repeat (first | with_reducible exact Only.refl _ _ | with_reducible refine Only.drew ?_ | with_reducible refine Only.drewN ?_ _ | (with_reducible refine Only.set ?_ (.inl ?_) _; rotate_left; first | exact .inr rfl | exact .inl rfl)))))
set_option maxRecDepth 100000 in
set_option maxHeartbeats 4000000 in
theorem refcas_stale_high (A : Option Addr) (len cap : Nat) (l : List Pair) (client seq node : Int) (key val old : ByteArray) (w : World) (h : len ≤ 1000) (hl : SlOf Pair.cells 3 w A len l) (hrev : ∀ p ∈ l, 0 ≤ p.rev ∧ p.rev ≤ 4294967296) (i : Nat) (s : Pair) (hp : placeP key l = some i) (hsi : l[i]? = some s) (hrr : ¬ s.rev < 4294967296) (hne : beq s.val old = false) :
    Calls Tryz.prog 41 #[.int .i64 2, .slice A len cap, .agg #[.int .i64 5, .int .i64 client, .int .i64 seq, .string key, .string val, .string old, .int .i64 node]] w (DoPost w A len (doP 2 l ⟨5, client, seq, key, val, old, node⟩)) := by
  have hll := hl.1
  obtain ⟨_, _, hil⟩ := placeP_some hp
  obtain ⟨x, s', rfl, hp', hmem, hxb, hat⟩ := hl.get (show i < len by omega)
  obtain rfl : s = s' := by rw [hsi] at hp'; injection hp'
  obtain ⟨f0, f1, f2⟩ := Pair.facts hat
  have hr := hrev s hmem
  have h1 : (i : Int) < (len : Int) := by omega
  have h2 : (0 : Int) ≤ (i : Int) := by omega
  have g0 := fun (o1 o2 o3 o4 : Obj) => Only.cell (((((Only.refl nob w).alloc o1).alloc o2).alloc o3).alloc o4) f0 (fun h => h)
  have g1 := fun (o1 o2 o3 o4 : Obj) => Only.cell (((((Only.refl nob w).alloc o1).alloc o2).alloc o3).alloc o4) f1 (fun h => h)
  have g2 := fun (o1 o2 o3 o4 : Obj) => Only.cell (((((Only.refl nob w).alloc o1).alloc o2).alloc o3).alloc o4) f2 (fun h => h)
  have hne' : (s.val.toList == old.toList) = false := hne
  have hD : Hid (doP 2 l ⟨5, client, seq, key, val, old, node⟩ = (l, ⟨client, seq, 15, true, s.val, s.rev⟩)) := mk_hid (by simp [doP, hp, hsi, hne])
  have HP := mk_hid hp
  clear hp hat hp' hsi f0 f1 f2 hne
  go_enter Tryz.func41, Tryz.ntmps41
  go_wp2_with (first | (go_at_call 53; refine (refplace_any (some x) len cap l key _ h (hl.none (by (repeat (first | with_reducible exact Only.refl _ _ | with_reducible assumption | with_reducible refine Only.drew ?_ | with_reducible refine Only.drewN ?_ _ | with_reducible refine Only.alloc ?_ _))))).mono ?_; rw [HP.out]; rintro e w' ⟨rfl, rfl⟩; simp only [placeI]))
  go_region
  go_wp2
  refine bodyPost_ret (v := .tuple #[.slice (some x) len cap, (⟨client, seq, 15, true, s.val, s.rev⟩ : Ans).agg]) (by simp [results, Tryz.results41, go_sem, Ans.agg, *]) rfl (DoPost.mk' hD.out hll (by rw [hll]; exact hl.none (by (repeat (first | with_reducible exact Only.refl _ _ | with_reducible assumption | with_reducible refine Only.drew ?_ | with_reducible refine Only.drewN ?_ _ | with_reducible refine Only.alloc ?_ _)))) (by (repeat (first | with_reducible exact Only.refl _ _ | with_reducible assumption | with_reducible refine Only.drew ?_ | with_reducible refine Only.drewN ?_ _ | with_reducible refine Only.alloc ?_ _))))
set_option maxRecDepth 100000 in
set_option maxHeartbeats 4000000 in
theorem refcas_done_high (A : Option Addr) (len cap : Nat) (l : List Pair) (client seq node : Int) (key val old : ByteArray) (w : World) (h : len ≤ 1000) (hl : SlOf Pair.cells 3 w A len l) (hrev : ∀ p ∈ l, 0 ≤ p.rev ∧ p.rev ≤ 4294967296) (i : Nat) (s : Pair) (hp : placeP key l = some i) (hsi : l[i]? = some s) (hrr : ¬ s.rev < 4294967296) (hne : beq s.val old = true) :
    Calls Tryz.prog 41 #[.int .i64 2, .slice A len cap, .agg #[.int .i64 5, .int .i64 client, .int .i64 seq, .string key, .string val, .string old, .int .i64 node]] w (DoPost w A len (doP 2 l ⟨5, client, seq, key, val, old, node⟩)) := by
  have hll := hl.1
  obtain ⟨_, _, hil⟩ := placeP_some hp
  obtain ⟨x, s', rfl, hp', hmem, hxb, hat⟩ := hl.get (show i < len by omega)
  obtain rfl : s = s' := by rw [hsi] at hp'; injection hp'
  obtain ⟨f0, f1, f2⟩ := Pair.facts hat
  have hr := hrev s hmem
  have h1 : (i : Int) < (len : Int) := by omega
  have h2 : (0 : Int) ≤ (i : Int) := by omega
  have g0 := fun (o1 o2 o3 o4 : Obj) => Only.cell (((((Only.refl nob w).alloc o1).alloc o2).alloc o3).alloc o4) f0 (fun h => h)
  have g1 := fun (o1 o2 o3 o4 : Obj) => Only.cell (((((Only.refl nob w).alloc o1).alloc o2).alloc o3).alloc o4) f1 (fun h => h)
  have g2 := fun (o1 o2 o3 o4 : Obj) => Only.cell (((((Only.refl nob w).alloc o1).alloc o2).alloc o3).alloc o4) f2 (fun h => h)
  have hne' : (s.val.toList == old.toList) = true := hne
  have hD : Hid (doP 2 l ⟨5, client, seq, key, val, old, node⟩ = (withP l ⟨key, val, s.rev⟩, ⟨client, seq, 0, true, s.val, s.rev⟩)) := mk_hid (by simp [doP, hp, hsi, hne, nextRev, hrr])
  have HP := mk_hid hp
  clear hp hat hp' hsi f0 f1 f2 hne
  go_enter Tryz.func41, Tryz.ntmps41
  go_wp2_with (first | (go_at_call 53; refine (refplace_any (some x) len cap l key _ h (hl.none (by (repeat (first | with_reducible exact Only.refl _ _ | with_reducible assumption | with_reducible refine Only.drew ?_ | with_reducible refine Only.drewN ?_ _ | with_reducible refine Only.alloc ?_ _))))).mono ?_; rw [HP.out]; rintro e w' ⟨rfl, rfl⟩; simp only [placeI]))
  go_region_with (go_at_call 54; refine (refwith_any (some x) len cap l ⟨key, val, s.rev⟩ _ h (hl.none (by (repeat (first | with_reducible exact Only.refl _ _ | with_reducible assumption | with_reducible refine Only.drew ?_ | with_reducible refine Only.drewN ?_ _ | with_reducible refine Only.alloc ?_ _))))).mono ?_; rintro e w1 ⟨⟨A', c', rfl, hsl, hfr⟩, ho0⟩; have ho := undrew ho0; obtain ⟨h1, h2, h3, h4, h5, ho'⟩ := chain5 ho; obtain ⟨c2, e2⟩ := cells_all h2; obtain ⟨c3, e3⟩ := cells_all h3; obtain ⟨c4, e4⟩ := cells_all h4; obtain ⟨c5, e5⟩ := cells_all h5; clear ho ho0 h1 h2 h3 h4 h5)
  all_goals go_wp2
  all_goals
    refine bodyPost_ret (v := .tuple #[.slice A' (withP l ⟨key, val, s.rev⟩).length c', (⟨client, seq, 0, true, s.val, s.rev⟩ : Ans).agg]) (by simp [results, Tryz.results41, go_sem, Ans.agg, *]) rfl (DoPost.fin hD.out rfl ho' hsl (fun x hx => by simpa using hfr x hx) (by (repeat (first | with_reducible exact Only.refl _ _ | with_reducible refine Only.drew ?_ | with_reducible refine Only.drewN ?_ _ | (with_reducible refine Only.set ?_ (.inl ?_) _; rotate_left; first | exact .inr rfl | exact .inl rfl)))))
end Go.Proofs.YtgcjmjhdnkffcaaGreatDoor
