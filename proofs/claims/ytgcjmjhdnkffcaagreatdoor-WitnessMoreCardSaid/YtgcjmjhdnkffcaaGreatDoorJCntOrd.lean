/- Whether two calls stand the wrong way round (layer 43): the closure. No condition. -/
import Derived.Test.YtgcjmjhdnkffcaaGreatDoorJCntD
import Derived.Test.YtgcjmjhdnkffcaaGreatDoorJEndIdx
import Derived.Test.YtgcjmjhdnkffcaaGreatDoorJEndEnds
set_option linter.unusedVariables false
set_option linter.unusedSimpArgs false
namespace Go.Proofs.YtgcjmjhdnkffcaaGreatDoor
open Go.RowKit Go.Sort
def lateB (s : Cnt) (a b : Call) : Bool := decide (a.fin < b.beg) && decide (plN s b.cmd.client b.cmd.seq ≤ plN s a.cmd.client a.cmd.seq)
set_option maxRecDepth 100000 in
set_option maxHeartbeats 1000000 in
theorem late_any (cb pb ab xb : Nat) (A : Option Addr) (ca : Nat) (s : Cnt) (a b : Call) (w : World) (h : CntAt w cb pb A ca s) (ha : w.heap[ab]? = some (.cells a.cells.toArray 30 (0, 0))) (hx : w.heap[xb]? = some (.cells #[.pointer (some ⟨cb, 0, none⟩)] 45 (0, 0))) :
    Calls Tryz.prog 27 #[b.agg, .pointer (some ⟨ab, 0, none⟩), .pointer (some ⟨xb, 0, none⟩)] w fun e w' => e = .returned (.bool (lateB s a b)) ∧ Only nob w w' := by
  have mixed : Tryz.prog.follows Departure.mixedOrders = true := by kernel_rfl
  unfold lateB
  have H := mk_hid h
  have HA := mk_hid ha
  have HX := mk_hid hx
  obtain ⟨pa, hpa⟩ : ∃ r, plN s a.cmd.client a.cmd.seq = r := ⟨_, rfl⟩
  obtain ⟨pb', hpb⟩ : ∃ r, plN s b.cmd.client b.cmd.seq = r := ⟨_, rfl⟩
  have HPA := mk_hid hpa
  have HPB := mk_hid hpb
  rw [hpa, hpb]
  have hsa := heap_lt ha
  have hsx := heap_lt hx
  clear h ha hx hpa hpb
  unfold Call.agg
  have hu : b.cells = [.int .i64 b.cmd.kind, .int .i64 b.cmd.client, .int .i64 b.cmd.seq, .string b.cmd.key, .string b.cmd.val, .string b.cmd.old, .int .i64 b.cmd.node, .int .i64 b.beg, .int .i64 b.fin, .int .i64 b.ans.client, .int .i64 b.ans.seq, .int .i64 b.ans.err, .bool b.ans.found, .string b.ans.val, .int .i64 b.ans.rev] := rfl
  rw [hu]
  clear hu
  go_enter Tryz.func27, Tryz.ntmps27
  go_wp2_with fail
  have hW : ∃ W, w.alloc (.cells #[.int .i64 b.cmd.kind, .int .i64 b.cmd.client, .int .i64 b.cmd.seq, .string b.cmd.key, .string b.cmd.val, .string b.cmd.old, .int .i64 b.cmd.node, .int .i64 b.beg, .int .i64 b.fin, .int .i64 b.ans.client, .int .i64 b.ans.seq, .int .i64 b.ans.err, .bool b.ans.found, .string b.ans.val, .int .i64 b.ans.rev] 30) = W := ⟨_, rfl⟩
  obtain ⟨W, hW⟩ := hW
  have ho : Only nob w W := by rw [← hW]; (repeat (first | with_reducible exact Only.refl _ _ | with_reducible assumption | with_reducible refine Only.drew ?_ | with_reducible refine Only.drewN ?_ _ | with_reducible refine Only.alloc ?_ _))
  have hb : W.heap[w.heap.size]? = some (.cells b.cells.toArray 30 (0, 0)) := by rw [← hW]; exact (heap_new _ rfl).trans (by kernel_rfl)
  rw [hW]
  have hk : ∀ (q : Nat) (os : Array Obj), Only nob W (grow (W.drewN q) os) := only_grow W
  have m1 := fun i q os => cells_cell ((hk q os).heap (ho.heap HA.out (fun h => h)) (fun h => h)) i
  have m2 := fun i q os => cells_cell ((hk q os).heap (ho.heap HX.out (fun h => h)) (fun h => h)) i
  have m3 := fun i q os => cells_cell ((hk q os).heap hb (fun h => h)) i
  have c1 := fun q os => place_grown cb pb A ca s a _ ((H.out.none ho).none (hk q os))
  have c2 := fun q os => place_grown cb pb A ca s b _ ((H.out.none ho).none (hk q os))
  rw [HPA.out] at c1
  rw [HPB.out] at c2
  unfold Call.cells at m1 m3 c1 c2
  have HO := mk_hid ho
  clear hW ho hb hk
  by_cases hlt : a.fin < b.beg
  · go_quiet_grown (first | (go_at_call 26; first | (with_reducible refine Calls.grown_of (c1 _ _)) | (with_reducible refine Calls.grown_of (c2 _ _))))
    go_wp2
    exact bodyPost_ret (v := .bool (decide (pb' ≤ pa))) (by simp [results, Tryz.results27, go_sem, *]) rfl ⟨by simp [hlt], HO.out.trans (only_grow W nq osq)⟩
  · have HN := mk_hid hlt
    go_quiet_grown (fail)
    go_wp2
    exact bodyPost_ret (v := .bool false) (by simp [results, Tryz.results27, go_sem, *]) rfl ⟨by rw [decide_eq_false (Int.not_lt.2 HN.out)]; rfl, HO.out.trans (only_grow W nq osq)⟩
end Go.Proofs.YtgcjmjhdnkffcaaGreatDoor
/- Whether calls count in an order that may be (layer 43), walked. No condition but length. -/
set_option linter.unusedVariables false
set_option linter.unusedSimpArgs false
namespace Go.Proofs.YtgcjmjhdnkffcaaGreatDoor
open Go.Shelf Go.RowKit Go.Lib Go.Sort
/-- No place holds a call that is late against one at another place. -/
def OrdOk (s : Cnt) (l : List Call) (k : Nat) : Prop := ∀ (i : Nat) (a : Call), i < k → l[i]? = some a → (l.drop (i + 1)).any (lateB s a) = false ∧ (l.take i).any (lateB s a) = false
def OrdPost (w : World) (s : Cnt) (l : List Call) (n : Nat) (e : Ending) (w' : World) : Prop := (∃ b : Bool, e = .returned (.bool b) ∧ (b = true ↔ OrdOk s l n)) ∧ Only nob w w'
theorem ordOk_succ {s : Cnt} {l : List Call} {k : Nat} {a : Call} (h : OrdOk s l k) (hq : l[k]? = some a) (h1 : (l.drop (k + 1)).any (lateB s a) = false) (h2 : (l.take k).any (lateB s a) = false) : OrdOk s l (k + 1) := by
  intro i b hi hb
  rcases Nat.lt_succ_iff_lt_or_eq.1 hi with h3 | rfl
  · exact h i b h3 hb
  · rw [hq] at hb; cases hb; exact ⟨h1, h2⟩
theorem PredK.go {w w' : World} {g : Nat} {lb : Array Value} {p : Call → Bool} {L : List Call} (h : PredK w g lb p L) (ho : Only nob w w') : PredK w' g lb p L := fun W hW x hx => h W (ho.trans hW) x hx
theorem SlOf.drop' {α : Type} {enc : α → List Value} {size : Nat} {w : World} {y : Addr} {n : Nat} {l : List α} (h : SlOf enc size w (some y) n l) (m : Nat) : SlOf enc size w (some (y.add (m * size))) (n - m) (l.drop m) := by
  refine ⟨by simp [h.1], fun hn => ?_⟩
  obtain ⟨x, hx, hb, hc⟩ := h.2 (by omega)
  cases hx
  refine ⟨_, rfl, by rw [add_block]; exact hb, fun j p hp => ?_⟩
  rw [List.getElem?_drop] at hp
  rw [add_add', ← Nat.add_mul]
  exact hc _ _ hp
theorem SlOf.take' {α : Type} {enc : α → List Value} {size : Nat} {w : World} {y : Option Addr} {n : Nat} {l : List α} (h : SlOf enc size w y n l) (m : Nat) (hm : m ≤ n) : SlOf enc size w y m (l.take m) := by
  refine ⟨by simp [h.1]; omega, fun hn => ?_⟩
  obtain ⟨x, hx, hb, hc⟩ := h.2 (by omega)
  exact ⟨x, hx, hb, fun j p hp => hc j p (by rw [List.getElem?_take] at hp; split at hp; exact hp; cases hp)⟩
set_option maxRecDepth 100000 in
set_option maxHeartbeats 4000000 in
theorem orders_any (cb pb : Nat) (A : Option Addr) (ca : Nat) (s : Cnt) (B : Option Addr) (n c : Nat) (l : List Call) (w : World) (h : CntAt w cb pb A ca s) (hl : SlOf Call.cells 15 w B n l) (hn : n ≤ 1000) (hc : n ≤ c) :
    Calls Tryz.prog 15 #[.pointer (some ⟨cb, 0, none⟩), .slice B n c] w (OrdPost w s l n) := by
  have e1 : ∀ args w, (callFunc 27 args).run Tryz.prog w = .ok (.enter 27 args) w := enters_of Tryz.func27 (by kernel_rfl) rfl
  have hll := hl.1
  have HL := mk_hid hl
  have H := mk_hid h
  have HLL := mk_hid hll
  have hcb := heap_lt h.cell
  clear h hl hll
  go_enter Tryz.func15, Tryz.ntmps15
  go_wp2
  go_loopw [10] (fun i wr => ∃ (k : Nat), k ≤ n ∧ i = .int .i64 k ∧ OrdOk s l k ∧ Only nob w wr ∧ wr.heap[w.heap.size]? = some (.cells #[.pointer (some ⟨cb, 0, none⟩)] 45 (0, 0))) (fun i _ => n - (intOf i).toNat)
  case atStart => exact ⟨0, by omega, rfl, fun i a hi => by omega, by (repeat (first | with_reducible exact Only.refl _ _ | with_reducible assumption | with_reducible refine Only.drew ?_ | with_reducible refine Only.drewN ?_ _ | with_reducible refine Only.alloc ?_ _)), heap_new _ rfl⟩
  case round =>
    obtain ⟨k, hk, rfl, hF0, hO, hx⟩ := hrel
    have HF := mk_hid hF0
    have HX := mk_hid hx
    have hxs := heap_lt hx
    clear hF0 hx
    by_cases hlt : k < n
    · obtain ⟨y, a, rfl, hq, hmem, hyb, hat⟩ := (HL.out.none hO).get hlt
      obtain ⟨f0, f1, f2, f3, f4, f5, f6, f7, f8, f9, f10, f11, f12, f13, f14⟩ := Call.facts hat
      have h1 : (k : Int) < (n : Int) := by omega
      have h2 : ¬ (k : Int) < 0 := by omega
      have h3 : (0 : Int) ≤ (k : Int) := by omega
      have HQ := mk_hid hq
      clear hq hat
      have HPK : Hid (∀ L, PredK (wr.alloc (.cells #[.int .i64 a.cmd.kind, .int .i64 a.cmd.client, .int .i64 a.cmd.seq, .string a.cmd.key, .string a.cmd.val, .string a.cmd.old, .int .i64 a.cmd.node, .int .i64 a.beg, .int .i64 a.fin, .int .i64 a.ans.client, .int .i64 a.ans.seq, .int .i64 a.ans.err, .bool a.ans.found, .string a.ans.val, .int .i64 a.ans.rev] 30)) 27 #[.pointer (some ⟨wr.heap.size, 0, none⟩), .pointer (some ⟨w.heap.size, 0, none⟩)] (lateB s a) L) := mk_hid (fun L W ho b hb => late_any cb pb wr.heap.size w.heap.size A ca s a b W (H.out.none (Only.trans (by (repeat (first | with_reducible exact Only.refl _ _ | with_reducible assumption | with_reducible refine Only.drew ?_ | with_reducible refine Only.drewN ?_ _ | with_reducible refine Only.alloc ?_ _))) ho)) (ho.heap ((heap_new _ rfl).trans (by kernel_rfl)) (fun h => h)) (ho.heap (heap_old _ HX.out) (fun h => h)))
      have HSD := mk_hid ((HL.out.none hO).drop' (k + 1))
      have HSE : Hid (∀ m, m = 0 → n ≤ k + 1 → SlOf Call.cells 15 wr (some y) m (l.drop (k + 1))) := mk_hid (fun m hz hnk => by
        rw [show l.drop (k + 1) = [] from List.drop_eq_nil_of_le (by have := HLL.out; omega), hz]; exact SlOf.nil _ _ _ _)
      have HST := mk_hid ((HL.out.none hO).take' k (by omega))
      obtain ⟨b1, hb1⟩ : ∃ b, (l.drop (k + 1)).any (lateB s a) = b := ⟨_, rfl⟩
      obtain ⟨b2, hb2⟩ : ∃ b, (l.take k).any (lateB s a) = b := ⟨_, rfl⟩
      have HB1 := mk_hid hb1
      have HB2 := mk_hid hb2
      clear hb1 hb2
      have hck : c = k + 1 ∨ ¬ c = k + 1 := Decidable.em _
      rcases hck with hck | hck
      all_goals (try subst hck)
      all_goals
        cases b1
        · cases b2
          · go_wp2_with (first
            | (go_at_call 28; (with_reducible refine (contains_any 27 _ (lateB s a) (some (y.add ((k + 1) * 15))) (n - (k + 1)) (c - (k + 1)) (l.drop (k + 1)) _ e1 (by omega) (HSD.out.none (by (repeat (first | with_reducible exact Only.refl _ _ | with_reducible assumption | with_reducible refine Only.drew ?_ | with_reducible refine Only.drewN ?_ _ | with_reducible refine Only.alloc ?_ _)))) (HPK.out _)).mono ?_); rw [HB1.out]; rintro e w5 ⟨rfl, ho5⟩; have hO5 := Only.trans (a := wr) (by (repeat (first | with_reducible exact Only.refl _ _ | with_reducible assumption | with_reducible refine Only.drew ?_ | with_reducible refine Only.drewN ?_ _ | with_reducible refine Only.alloc ?_ _))) ho5; clear HSD)
              | (go_at_call 28; (with_reducible refine (contains_any 27 _ (lateB s a) (some y) _ 0 (l.drop (k + 1)) _ e1 (by omega) ((HSE.out _ (by omega) (by omega)).none (by (repeat (first | with_reducible exact Only.refl _ _ | with_reducible assumption | with_reducible refine Only.drew ?_ | with_reducible refine Only.drewN ?_ _ | with_reducible refine Only.alloc ?_ _)))) (HPK.out _)).mono ?_); rw [HB1.out]; rintro e w5 ⟨rfl, ho5⟩; have hO5 := Only.trans (a := wr) (by (repeat (first | with_reducible exact Only.refl _ _ | with_reducible assumption | with_reducible refine Only.drew ?_ | with_reducible refine Only.drewN ?_ _ | with_reducible refine Only.alloc ?_ _))) ho5; clear HSE)
              | (go_at_call 28; (with_reducible refine (contains_any 27 _ (lateB s a) (some y) k _ (l.take k) _ e1 (by omega) (HST.out.none hO5) (PredK.go (HPK.out _) ho5)).mono ?_); rw [HB2.out]; rintro e w6 ⟨rfl, ho6⟩; have hO6 := hO5.trans ho6))
            all_goals (go_roundw; (case rel => exact ⟨k + 1, by omega, by go_num, ordOk_succ HF.out HQ.out HB1.out HB2.out, hO.trans hO6, hO6.heap HX.out (fun h => h)⟩); (case measure => simp [intOf]; omega))
          · go_wp2_with (first
            | (go_at_call 28; (with_reducible refine (contains_any 27 _ (lateB s a) (some (y.add ((k + 1) * 15))) (n - (k + 1)) (c - (k + 1)) (l.drop (k + 1)) _ e1 (by omega) (HSD.out.none (by (repeat (first | with_reducible exact Only.refl _ _ | with_reducible assumption | with_reducible refine Only.drew ?_ | with_reducible refine Only.drewN ?_ _ | with_reducible refine Only.alloc ?_ _)))) (HPK.out _)).mono ?_); rw [HB1.out]; rintro e w5 ⟨rfl, ho5⟩; have hO5 := Only.trans (a := wr) (by (repeat (first | with_reducible exact Only.refl _ _ | with_reducible assumption | with_reducible refine Only.drew ?_ | with_reducible refine Only.drewN ?_ _ | with_reducible refine Only.alloc ?_ _))) ho5; clear HSD)
              | (go_at_call 28; (with_reducible refine (contains_any 27 _ (lateB s a) (some y) _ 0 (l.drop (k + 1)) _ e1 (by omega) ((HSE.out _ (by omega) (by omega)).none (by (repeat (first | with_reducible exact Only.refl _ _ | with_reducible assumption | with_reducible refine Only.drew ?_ | with_reducible refine Only.drewN ?_ _ | with_reducible refine Only.alloc ?_ _)))) (HPK.out _)).mono ?_); rw [HB1.out]; rintro e w5 ⟨rfl, ho5⟩; have hO5 := Only.trans (a := wr) (by (repeat (first | with_reducible exact Only.refl _ _ | with_reducible assumption | with_reducible refine Only.drew ?_ | with_reducible refine Only.drewN ?_ _ | with_reducible refine Only.alloc ?_ _))) ho5; clear HSE)
              | (go_at_call 28; (with_reducible refine (contains_any 27 _ (lateB s a) (some y) k _ (l.take k) _ e1 (by omega) (HST.out.none hO5) (PredK.go (HPK.out _) ho5)).mono ?_); rw [HB2.out]; rintro e w6 ⟨rfl, ho6⟩; have hO6 := hO5.trans ho6))
            all_goals exact bodyPost_ret (v := .bool false) (by simp [results, Tryz.results15, go_sem, *]) rfl ⟨⟨false, rfl, by constructor; intro h; cases h; intro h; have := (h k a (by omega) HQ.out).2; rw [HB2.out] at this; cases this⟩, hO.trans hO6⟩
        · go_wp2_with (first
            | (go_at_call 28; (with_reducible refine (contains_any 27 _ (lateB s a) (some (y.add ((k + 1) * 15))) (n - (k + 1)) (c - (k + 1)) (l.drop (k + 1)) _ e1 (by omega) (HSD.out.none (by (repeat (first | with_reducible exact Only.refl _ _ | with_reducible assumption | with_reducible refine Only.drew ?_ | with_reducible refine Only.drewN ?_ _ | with_reducible refine Only.alloc ?_ _)))) (HPK.out _)).mono ?_); rw [HB1.out]; rintro e w5 ⟨rfl, ho5⟩; have hO5 := Only.trans (a := wr) (by (repeat (first | with_reducible exact Only.refl _ _ | with_reducible assumption | with_reducible refine Only.drew ?_ | with_reducible refine Only.drewN ?_ _ | with_reducible refine Only.alloc ?_ _))) ho5)
            | (go_at_call 28; (with_reducible refine (contains_any 27 _ (lateB s a) (some y) _ 0 (l.drop (k + 1)) _ e1 (by omega) ((HSE.out _ (by omega) (by omega)).none (by (repeat (first | with_reducible exact Only.refl _ _ | with_reducible assumption | with_reducible refine Only.drew ?_ | with_reducible refine Only.drewN ?_ _ | with_reducible refine Only.alloc ?_ _)))) (HPK.out _)).mono ?_); rw [HB1.out]; rintro e w5 ⟨rfl, ho5⟩; have hO5 := Only.trans (a := wr) (by (repeat (first | with_reducible exact Only.refl _ _ | with_reducible assumption | with_reducible refine Only.drew ?_ | with_reducible refine Only.drewN ?_ _ | with_reducible refine Only.alloc ?_ _))) ho5))
          all_goals exact bodyPost_ret (v := .bool false) (by simp [results, Tryz.results15, go_sem, *]) rfl ⟨⟨false, rfl, by constructor; intro h; cases h; intro h; have := (h k a (by omega) HQ.out).1; rw [HB1.out] at this; cases this⟩, hO.trans hO5⟩
    · obtain rfl : k = n := by omega
      have h1 : ¬ (k : Int) < (k : Int) := by omega
      go_wp2
      exact bodyPost_ret (v := .bool true) (by simp [results, Tryz.results15, go_sem, *]) rfl ⟨⟨true, rfl, iff_of_true rfl HF.out⟩, hO⟩
end Go.Proofs.YtgcjmjhdnkffcaaGreatDoor
/- Whether a call's command is this one (layer 43): the closure. No condition. -/
set_option linter.unusedVariables false
set_option linter.unusedSimpArgs false
namespace Go.Proofs.YtgcjmjhdnkffcaaGreatDoor
open Go.RowKit Go.Sort
def sameC (c : Cmd) (k : Call) : Bool := eqC7 k.cmd.kind k.cmd.client k.cmd.seq k.cmd.key k.cmd.val k.cmd.old k.cmd.node c.kind c.client c.seq c.key c.val c.old c.node
theorem sameC_iff (c : Cmd) (k : Call) : sameC c k = true ↔ k.cmd = c := ⟨fun h => eqC7_eq h, fun h => by subst h; exact eqC7_self _⟩
set_option maxRecDepth 100000 in
set_option maxHeartbeats 1000000 in
theorem same_any (ab : Nat) (c : Cmd) (k : Call) (w : World) (ha : w.heap[ab]? = some (.cells c.cells.toArray 25 (0, 0))) :
    Calls Tryz.prog 36 #[k.agg, .pointer (some ⟨ab, 0, none⟩)] w fun e w' => e = .returned (.bool (sameC c k)) ∧ Only nob w w' := by
  have hm1 : Tryz.prog.eqGuardType Tryz.prog.depth 25 = false := by kernel_rfl
  obtain ⟨b, hb⟩ : ∃ b, sameC c k = b := ⟨_, rfl⟩
  have HB := mk_hid hb
  rw [hb]
  unfold sameC at hb
  have hsa := heap_lt ha
  have HA := mk_hid ha
  have ha2 := fun (o : Obj) => heap_old o ha
  clear ha
  obtain ⟨m1, n1⟩ := cells_all HA.out
  unfold Cmd.cells at m1
  unfold Call.agg Call.cells
  go_enter Tryz.func36, Tryz.ntmps36
  go_wp2
  go_ret
  exact ⟨rfl, by (repeat (first | with_reducible exact Only.refl _ _ | with_reducible assumption | with_reducible refine Only.drew ?_ | with_reducible refine Only.drewN ?_ _ | with_reducible refine Only.alloc ?_ _))⟩
end Go.Proofs.YtgcjmjhdnkffcaaGreatDoor
