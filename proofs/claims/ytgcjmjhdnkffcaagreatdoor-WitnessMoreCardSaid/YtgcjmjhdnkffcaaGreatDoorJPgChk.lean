/- The program's check of a command (layer 8: cmd), walked; and that it answers as the reference's. No condition but lengths and the library's tables. -/
import Derived.Test.YtgcjmjhdnkffcaaGreatDoorJPgParts
import Derived.Test.YtgcjmjhdnkffcaaGreatDoorJRefWith
import Derived.Laws.EntriesVeiled
set_option linter.unusedVariables false
set_option linter.unusedSimpArgs false
namespace Go.Proofs.YtgcjmjhdnkffcaaGreatDoor
open Go.RowKit
def hz (k h : Int) : Bool := bits BinOp.and IntKind.i64 (fieldsF k) h == 0
/-- The parts of the check of field j: number's two, text's two. -/
def pA (c : Cmd) : Nat → Bool
  | 0 => numA (hz c.kind 1) c.client 8
  | 1 => numA (hz c.kind 1) c.seq 4294967296
  | 5 => numA (hz c.kind 16) c.node 9
  | _ => true
def pX (c : Cmd) : Nat → Bool
  | 2 => txtA (hz c.kind 2) (keyB c.key)
  | 3 => txtA (hz c.kind 4) (valB c.old)
  | 4 => txtA (hz c.kind 8) (valB c.val)
  | _ => true
def pF (c : Cmd) : Nat → Bool
  | 0 => numF (hz c.kind 1) c.client
  | 1 => numF (hz c.kind 1) c.seq
  | 2 => txtF (hz c.kind 2) (mt c.key)
  | 3 => txtF (hz c.kind 4) (mt c.old)
  | 4 => txtF (hz c.kind 8) (mt c.val)
  | 5 => numF (hz c.kind 16) c.node
  | _ => true
def upto (p : Nat → Bool) : Nat → Bool
  | 0 => true
  | j + 1 => upto p j && p j
theorem uA (c : Cmd) : upto (pA c) 6 = ((hz c.kind 1 || inB c.client 8) && (hz c.kind 1 || inB c.seq 4294967296) && (hz c.kind 16 || inB c.node 9)) := by
  simp only [upto, pA, numA, Bool.true_and, Bool.and_true]
theorem uX (c : Cmd) : upto (pX c) 6 = ((hz c.kind 2 || keyB c.key) && (hz c.kind 4 || valB c.old) && (hz c.kind 8 || valB c.val)) := by
  simp only [upto, pX, txtA, Bool.true_and, Bool.and_true]
theorem uF (c : Cmd) : upto (pF c) 6 = ((!hz c.kind 1 || isz c.client) && (!hz c.kind 1 || isz c.seq) && (!hz c.kind 2 || mt c.key) && (!hz c.kind 4 || mt c.old) && (!hz c.kind 8 || mt c.val) && (!hz c.kind 16 || isz c.node)) := by
  simp only [upto, pF, txtF, numF, Bool.true_and, Bool.and_true]
def chkQ (own mem val cas i1 i2 i3 kb vb ob z1 z2 z3 ke ve oe : Bool) : Int :=
  bif own && !(i1 && i2) || mem && !i3 then 6
  else bif own && !kb || val && !vb || cas && !ob then 7
  else bif !own && !(z1 && z2 && ke) || !val && !ve || !cas && !oe || !mem && !z3 then 3 else 0
def chkR (h1 h2 h4 h8 h16 i1 i2 i3 kb vb ob z1 z2 z3 ke ve oe : Bool) : Int :=
  bif !((h1 || i1) && (h1 || i2) && (h16 || i3)) then 6
  else bif !((h2 || kb) && (h4 || ob) && (h8 || vb)) then 7
  else bif !((!h1 || z1) && (!h1 || z2) && (!h2 || ke) && (!h4 || oe) && (!h8 || ve) && (!h16 || z3)) then 3 else 0
theorem chkQR (own val mem cas i1 i2 i3 kb vb ob z1 z2 z3 ke ve oe : Bool) : chkQ own mem val cas i1 i2 i3 kb vb ob z1 z2 z3 ke ve oe = chkR (!own) (!own) (!cas) (!val) (!mem) i1 i2 i3 kb vb ob z1 z2 z3 ke ve oe := by
  unfold chkQ chkR
  have e1 : (own && !(i1 && i2) || mem && !i3) = !((!own || i1) && (!own || i2) && (!mem || i3)) := by cases own <;> cases i1 <;> cases i2 <;> cases mem <;> cases i3 <;> rfl
  have e2 : (own && !kb || val && !vb || cas && !ob) = !((!own || kb) && (!cas || ob) && (!val || vb)) := by cases own <;> cases kb <;> cases val <;> cases vb <;> cases cas <;> cases ob <;> rfl
  have e3 : (!own && !(z1 && z2 && ke) || !val && !ve || !cas && !oe || !mem && !z3) = !((! !own || z1) && (! !own || z2) && (! !own || ke) && (! !cas || oe) && (! !val || ve) && (! !mem || z3)) := by
    cases own <;> cases z1 <;> cases z2 <;> cases ke <;> cases val <;> cases ve <;> cases cas <;> cases oe <;> cases mem <;> cases z3 <;> rfl
  rw [e1, e2, e3]
theorem chk_parts (c : Cmd) (h : 1 ≤ c.kind ∧ c.kind ≤ 8) : chk c = if upto (pA c) 6 = false then 6 else if upto (pX c) 6 = false then 7 else if upto (pF c) 6 = false then 3 else 0 := by
  have hk : c.kind = 1 ∨ c.kind = 2 ∨ c.kind = 3 ∨ c.kind = 4 ∨ c.kind = 5 ∨ c.kind = 6 ∨ c.kind = 7 ∨ c.kind = 8 := by omega
  have e1 : hz c.kind 1 = !ownB c.kind ∧ hz c.kind 2 = !ownB c.kind ∧ hz c.kind 4 = !casK c.kind ∧ hz c.kind 8 = !valK c.kind ∧ hz c.kind 16 = !memB c.kind := by
    rcases hk with e | e | e | e | e | e | e | e <;> rw [e] <;> decide
  obtain ⟨a1, a2, a3, a4, a5⟩ := e1
  have lhs : chk c = chkQ (ownB c.kind) (memB c.kind) (valK c.kind) (casK c.kind) (inB c.client 8) (inB c.seq 4294967296) (inB c.node 9) (keyB c.key) (valB c.val) (valB c.old) (isz c.client) (isz c.seq) (isz c.node) (mt c.key) (mt c.val) (mt c.old) := by
    unfold chk chkOf chkQ
    rw [if_neg (by omega), if_neg (by omega)]
    simp only [cond_eq_ite]
  rw [lhs, chkQR, uA, uX, uF, a1, a2, a3, a4, a5]
  unfold chkR
  simp only [cond_eq_ite, Bool.not_eq_true']
theorem chk_kind (c : Cmd) (h : ¬ (1 ≤ c.kind ∧ c.kind ≤ 8)) : chk c = 5 := by
  unfold chk chkOf
  by_cases h1 : c.kind < 1
  · rw [if_pos h1]
  · rw [if_neg h1, if_pos (by omega)]
def partsC : Array Value := #[.int .i64 1, .int .i64 8, .nilFunc, .func (.func 83) #[] #[], .int .i64 1, .int .i64 4294967296, .nilFunc, .func (.func 84) #[] #[], .int .i64 2, .int .i64 0, .func (.func 85) #[] #[], .func (.func 86) #[] #[], .int .i64 4, .int .i64 0, .func (.func 87) #[] #[], .func (.func 88) #[] #[], .int .i64 8, .int .i64 0, .func (.func 87) #[] #[], .func (.func 89) #[] #[], .int .i64 16, .int .i64 9, .nilFunc, .func (.func 90) #[] #[]]
theorem parts_any (w : World) : Calls Tryz.prog 67 #[] w fun e w' => e = .returned (.slice (some ⟨w.heap.size, 0, none⟩) 6 6) ∧ w' = w.alloc (.cells partsC 118) := by
  go_enter Tryz.func67, Tryz.ntmps67
  go_wp2
  go_ret
  exact ⟨rfl, rfl⟩
theorem isKey (s : ByteArray) (h : s.size ≤ 1000) : IsF 85 keyB s := fun W hW => key_any s W h hW
theorem isVal (s : ByteArray) (h : s.size ≤ 1000) : IsF 87 valB s := fun W hW => val_any s W h hW
set_option maxRecDepth 100000 in
set_option maxHeartbeats 8000000 in
theorem cmdchk_any (c : Cmd) (w : World) (hk : c.key.size ≤ 1000) (hv : c.val.size ≤ 1000) (ho : c.old.size ≤ 1000) (hT : Tabs w) :
    Calls Tryz.prog 59 #[c.agg] w fun e w' => e = .returned (.int .i64 (chk c)) ∧ Only nob w w' := by
  have HT := mk_hid (fun w' (ho : Only nob w w') => hT.none ho)
  clear hT
  by_cases hkd : 1 ≤ c.kind ∧ c.kind ≤ 8
  · have HP := mk_hid (chk_parts c hkd)
    have HD := mk_hid (show decide (1 ≤ c.kind ∧ c.kind ≤ 8) = true from decide_eq_true hkd)
    clear hkd
    unfold Cmd.agg
    go_enter Tryz.func59, Tryz.ntmps59
    go_wp2_with (first | (go_at_call 49; refine (fields_any _ _).mono ?_; rw [HD.out]; rintro e w2 ⟨rfl, rfl⟩) | (go_at_call 67; refine (parts_any _).mono ?_; rintro e w2 ⟨rfl, rfl⟩))
    go_loopw [5, 6, 7, 24] (fun a b d i wr => ∃ j : Nat, j ≤ 6 ∧ i = .int .i64 j ∧ a = .bool (upto (pA c) j) ∧ b = .bool (upto (pX c) j) ∧ d = .bool (upto (pF c) j) ∧ Only nob w wr ∧ wr.heap[w.heap.size]? = some (.cells c.cells.toArray 25 (0, 0)) ∧ wr.heap[w.heap.size + 1]? = some (.cells partsC 118 (0, 0))) (fun _ _ _ i _ => 6 - (intOf i).toNat)
    case atStart => exact ⟨0, by omega, rfl, rfl, rfl, rfl, by (repeat (first | with_reducible exact Only.refl _ _ | with_reducible assumption | with_reducible refine Only.drew ?_ | with_reducible refine Only.drewN ?_ _ | with_reducible refine Only.alloc ?_ _)), heap_old _ (heap_new _ rfl), heap_new _ (by simp)⟩
    case round =>
      obtain ⟨j, hj, rfl, rfl, rfl, rfl, hO, hb0, hb1⟩ := hrel
      have hsz := heap_lt hb1
      rcases (show j = 0 ∨ j = 1 ∨ j = 2 ∨ j = 3 ∨ j = 4 ∨ j = 5 ∨ j = 6 from by omega) with rfl | rfl | rfl | rfl | rfl | rfl | rfl
      · have HA : Hid (upto (pA c) 1 = (upto (pA c) 0 && numA (bits BinOp.and IntKind.i64 (fieldsF c.kind) 1 == 0) c.client 8)) := mk_hid rfl
        have HX : Hid (upto (pX c) 1 = (upto (pX c) 0 && true)) := mk_hid rfl
        have HF : Hid (upto (pF c) 1 = (upto (pF c) 0 && numF (bits BinOp.and IntKind.i64 (fieldsF c.kind) 1 == 0) c.client && true)) := mk_hid (by simp [upto, pF, hz, Bool.and_assoc])
        have c1 : ∀ i, wr.cell? ⟨w.heap.size + 1, i, none⟩ = partsC[i]? := fun i => cells_cell hb1 i
        have d0 : wr.cell? ⟨w.heap.size + 1, 0, none⟩ = some (.int .i64 1) := c1 0
        have d1 : wr.cell? ⟨w.heap.size + 1, 1, none⟩ = some (.int .i64 8) := c1 1
        have d2 : wr.cell? ⟨w.heap.size + 1, 2, none⟩ = some (.nilFunc) := c1 2
        have d3 : wr.cell? ⟨w.heap.size + 1, 3, none⟩ = some (.func (.func 83) #[] #[]) := c1 3
        clear c1
        go_wp2_with (first | (go_at_call 68; refine (num_int 83 w.heap.size 1 1 8 c.client _ .nilFunc _ (by have := hO.size; simp; omega) (((Only.refl nob wr).alloc _).cell ((cells_cell hb0 1).trans rfl) (fun h => h)) (enters_of Tryz.func83 (by kernel_rfl) rfl) (at0 _)).mono ?_; rintro e w2 ⟨rfl, ho2⟩; have q0 : w2.cell? ⟨wr.heap.size, 0, none⟩ = some (.int .i64 1) := ho2.cell (by simp) (fun h => h); have q1 : w2.cell? ⟨wr.heap.size, 1, none⟩ = some (.int .i64 8) := ho2.cell (by simp) (fun h => h); have q2 : w2.cell? ⟨wr.heap.size, 2, none⟩ = some (.nilFunc) := ho2.cell (by simp) (fun h => h); have q3 : w2.cell? ⟨wr.heap.size, 3, none⟩ = some (.func (.func 83) #[] #[]) := ho2.cell (by simp) (fun h => h)) | (go_at_call 69; refine (txt_int 83 w.heap.size 1 1 8 _ .nilFunc _ (enters_of Tryz.func83 (by kernel_rfl) rfl) (at0 _)).mono ?_; rintro e w3 ⟨rfl, ho3⟩))
        all_goals
          go_roundw
          case rel => exact ⟨1, by omega, rfl, congrArg Value.bool (by rw [HA.out]; simp [*]), congrArg Value.bool (by rw [HX.out]; simp [*]), congrArg Value.bool (by rw [HF.out]; simp [*]), hO.trans (((Only.refl nob wr).alloc _).trans (ho2.trans ho3)), (((Only.refl nob wr).alloc _).trans (ho2.trans ho3)).heap hb0 (fun h => h), (((Only.refl nob wr).alloc _).trans (ho2.trans ho3)).heap hb1 (fun h => h)⟩
          case measure => simp [intOf]
      · have HA : Hid (upto (pA c) 2 = (upto (pA c) 1 && numA (bits BinOp.and IntKind.i64 (fieldsF c.kind) 1 == 0) c.seq 4294967296)) := mk_hid rfl
        have HX : Hid (upto (pX c) 2 = (upto (pX c) 1 && true)) := mk_hid rfl
        have HF : Hid (upto (pF c) 2 = (upto (pF c) 1 && numF (bits BinOp.and IntKind.i64 (fieldsF c.kind) 1 == 0) c.seq && true)) := mk_hid (by simp [upto, pF, hz, Bool.and_assoc])
        have c1 : ∀ i, wr.cell? ⟨w.heap.size + 1, i, none⟩ = partsC[i]? := fun i => cells_cell hb1 i
        have d0 : wr.cell? ⟨w.heap.size + 1, 4, none⟩ = some (.int .i64 1) := c1 4
        have d1 : wr.cell? ⟨w.heap.size + 1, 5, none⟩ = some (.int .i64 4294967296) := c1 5
        have d2 : wr.cell? ⟨w.heap.size + 1, 6, none⟩ = some (.nilFunc) := c1 6
        have d3 : wr.cell? ⟨w.heap.size + 1, 7, none⟩ = some (.func (.func 84) #[] #[]) := c1 7
        clear c1
        go_wp2_with (first | (go_at_call 68; refine (num_int 84 w.heap.size 2 1 4294967296 c.seq _ .nilFunc _ (by have := hO.size; simp; omega) (((Only.refl nob wr).alloc _).cell ((cells_cell hb0 2).trans rfl) (fun h => h)) (enters_of Tryz.func84 (by kernel_rfl) rfl) (at1 _)).mono ?_; rintro e w2 ⟨rfl, ho2⟩; have q0 : w2.cell? ⟨wr.heap.size, 0, none⟩ = some (.int .i64 1) := ho2.cell (by simp) (fun h => h); have q1 : w2.cell? ⟨wr.heap.size, 1, none⟩ = some (.int .i64 4294967296) := ho2.cell (by simp) (fun h => h); have q2 : w2.cell? ⟨wr.heap.size, 2, none⟩ = some (.nilFunc) := ho2.cell (by simp) (fun h => h); have q3 : w2.cell? ⟨wr.heap.size, 3, none⟩ = some (.func (.func 84) #[] #[]) := ho2.cell (by simp) (fun h => h)) | (go_at_call 69; refine (txt_int 84 w.heap.size 2 1 4294967296 _ .nilFunc _ (enters_of Tryz.func84 (by kernel_rfl) rfl) (at1 _)).mono ?_; rintro e w3 ⟨rfl, ho3⟩))
        all_goals
          go_roundw
          case rel => exact ⟨2, by omega, rfl, congrArg Value.bool (by rw [HA.out]; simp [*]), congrArg Value.bool (by rw [HX.out]; simp [*]), congrArg Value.bool (by rw [HF.out]; simp [*]), hO.trans (((Only.refl nob wr).alloc _).trans (ho2.trans ho3)), (((Only.refl nob wr).alloc _).trans (ho2.trans ho3)).heap hb0 (fun h => h), (((Only.refl nob wr).alloc _).trans (ho2.trans ho3)).heap hb1 (fun h => h)⟩
          case measure => simp [intOf]
      · have HA : Hid (upto (pA c) 3 = (upto (pA c) 2 && true)) := mk_hid rfl
        have HX : Hid (upto (pX c) 3 = (upto (pX c) 2 && txtA (bits BinOp.and IntKind.i64 (fieldsF c.kind) 2 == 0) (keyB c.key))) := mk_hid rfl
        have HF : Hid (upto (pF c) 3 = (upto (pF c) 2 && true && txtF (bits BinOp.and IntKind.i64 (fieldsF c.kind) 2 == 0) (mt c.key))) := mk_hid (by simp [upto, pF, hz, Bool.and_assoc])
        have c1 : ∀ i, wr.cell? ⟨w.heap.size + 1, i, none⟩ = partsC[i]? := fun i => cells_cell hb1 i
        have d0 : wr.cell? ⟨w.heap.size + 1, 8, none⟩ = some (.int .i64 2) := c1 8
        have d1 : wr.cell? ⟨w.heap.size + 1, 9, none⟩ = some (.int .i64 0) := c1 9
        have d2 : wr.cell? ⟨w.heap.size + 1, 10, none⟩ = some (.func (.func 85) #[] #[]) := c1 10
        have d3 : wr.cell? ⟨w.heap.size + 1, 11, none⟩ = some (.func (.func 86) #[] #[]) := c1 11
        clear c1
        go_wp2_with (first | (go_at_call 68; refine (num_str 86 w.heap.size 3 2 0 _ (.func (.func 85) #[] #[]) _ (enters_of Tryz.func86 (by kernel_rfl) rfl) (at2 _)).mono ?_; rintro e w2 ⟨rfl, ho2⟩; have q0 : w2.cell? ⟨wr.heap.size, 0, none⟩ = some (.int .i64 2) := ho2.cell (by simp) (fun h => h); have q1 : w2.cell? ⟨wr.heap.size, 1, none⟩ = some (.int .i64 0) := ho2.cell (by simp) (fun h => h); have q2 : w2.cell? ⟨wr.heap.size, 2, none⟩ = some (.func (.func 85) #[] #[]) := ho2.cell (by simp) (fun h => h); have q3 : w2.cell? ⟨wr.heap.size, 3, none⟩ = some (.func (.func 86) #[] #[]) := ho2.cell (by simp) (fun h => h)) | (go_at_call 69; refine (txt_str 86 w.heap.size 3 85 keyB 2 0 _ c.key _ (HT.out _ (hO.trans (Only.trans ((Only.refl nob wr).alloc _) ho2))) (by have := hO.size; have := ho2.size; simp at this; omega) (ho2.cell (((Only.refl nob wr).alloc _).cell ((cells_cell hb0 3).trans rfl) (fun h => h)) (fun h => h)) (enters_of Tryz.func86 (by kernel_rfl) rfl) (at2 _) (enters_of Tryz.func85 (by kernel_rfl) rfl) (isKey _ hk)).mono ?_; rintro e w3 ⟨rfl, ho3⟩))
        all_goals
          go_roundw
          case rel => exact ⟨3, by omega, rfl, congrArg Value.bool (by rw [HA.out]; simp [*]), congrArg Value.bool (by rw [HX.out]; simp [*]), congrArg Value.bool (by rw [HF.out]; simp [*]), hO.trans (((Only.refl nob wr).alloc _).trans (ho2.trans ho3)), (((Only.refl nob wr).alloc _).trans (ho2.trans ho3)).heap hb0 (fun h => h), (((Only.refl nob wr).alloc _).trans (ho2.trans ho3)).heap hb1 (fun h => h)⟩
          case measure => simp [intOf]
      · have HA : Hid (upto (pA c) 4 = (upto (pA c) 3 && true)) := mk_hid rfl
        have HX : Hid (upto (pX c) 4 = (upto (pX c) 3 && txtA (bits BinOp.and IntKind.i64 (fieldsF c.kind) 4 == 0) (valB c.old))) := mk_hid rfl
        have HF : Hid (upto (pF c) 4 = (upto (pF c) 3 && true && txtF (bits BinOp.and IntKind.i64 (fieldsF c.kind) 4 == 0) (mt c.old))) := mk_hid (by simp [upto, pF, hz, Bool.and_assoc])
        have c1 : ∀ i, wr.cell? ⟨w.heap.size + 1, i, none⟩ = partsC[i]? := fun i => cells_cell hb1 i
        have d0 : wr.cell? ⟨w.heap.size + 1, 12, none⟩ = some (.int .i64 4) := c1 12
        have d1 : wr.cell? ⟨w.heap.size + 1, 13, none⟩ = some (.int .i64 0) := c1 13
        have d2 : wr.cell? ⟨w.heap.size + 1, 14, none⟩ = some (.func (.func 87) #[] #[]) := c1 14
        have d3 : wr.cell? ⟨w.heap.size + 1, 15, none⟩ = some (.func (.func 88) #[] #[]) := c1 15
        clear c1
        go_wp2_with (first | (go_at_call 68; refine (num_str 88 w.heap.size 5 4 0 _ (.func (.func 87) #[] #[]) _ (enters_of Tryz.func88 (by kernel_rfl) rfl) (at3 _)).mono ?_; rintro e w2 ⟨rfl, ho2⟩; have q0 : w2.cell? ⟨wr.heap.size, 0, none⟩ = some (.int .i64 4) := ho2.cell (by simp) (fun h => h); have q1 : w2.cell? ⟨wr.heap.size, 1, none⟩ = some (.int .i64 0) := ho2.cell (by simp) (fun h => h); have q2 : w2.cell? ⟨wr.heap.size, 2, none⟩ = some (.func (.func 87) #[] #[]) := ho2.cell (by simp) (fun h => h); have q3 : w2.cell? ⟨wr.heap.size, 3, none⟩ = some (.func (.func 88) #[] #[]) := ho2.cell (by simp) (fun h => h)) | (go_at_call 69; refine (txt_str 88 w.heap.size 5 87 valB 4 0 _ c.old _ (HT.out _ (hO.trans (Only.trans ((Only.refl nob wr).alloc _) ho2))) (by have := hO.size; have := ho2.size; simp at this; omega) (ho2.cell (((Only.refl nob wr).alloc _).cell ((cells_cell hb0 5).trans rfl) (fun h => h)) (fun h => h)) (enters_of Tryz.func88 (by kernel_rfl) rfl) (at3 _) (enters_of Tryz.func87 (by kernel_rfl) rfl) (isVal _ ho)).mono ?_; rintro e w3 ⟨rfl, ho3⟩))
        all_goals
          go_roundw
          case rel => exact ⟨4, by omega, rfl, congrArg Value.bool (by rw [HA.out]; simp [*]), congrArg Value.bool (by rw [HX.out]; simp [*]), congrArg Value.bool (by rw [HF.out]; simp [*]), hO.trans (((Only.refl nob wr).alloc _).trans (ho2.trans ho3)), (((Only.refl nob wr).alloc _).trans (ho2.trans ho3)).heap hb0 (fun h => h), (((Only.refl nob wr).alloc _).trans (ho2.trans ho3)).heap hb1 (fun h => h)⟩
          case measure => simp [intOf]
      · have HA : Hid (upto (pA c) 5 = (upto (pA c) 4 && true)) := mk_hid rfl
        have HX : Hid (upto (pX c) 5 = (upto (pX c) 4 && txtA (bits BinOp.and IntKind.i64 (fieldsF c.kind) 8 == 0) (valB c.val))) := mk_hid rfl
        have HF : Hid (upto (pF c) 5 = (upto (pF c) 4 && true && txtF (bits BinOp.and IntKind.i64 (fieldsF c.kind) 8 == 0) (mt c.val))) := mk_hid (by simp [upto, pF, hz, Bool.and_assoc])
        have c1 : ∀ i, wr.cell? ⟨w.heap.size + 1, i, none⟩ = partsC[i]? := fun i => cells_cell hb1 i
        have d0 : wr.cell? ⟨w.heap.size + 1, 16, none⟩ = some (.int .i64 8) := c1 16
        have d1 : wr.cell? ⟨w.heap.size + 1, 17, none⟩ = some (.int .i64 0) := c1 17
        have d2 : wr.cell? ⟨w.heap.size + 1, 18, none⟩ = some (.func (.func 87) #[] #[]) := c1 18
        have d3 : wr.cell? ⟨w.heap.size + 1, 19, none⟩ = some (.func (.func 89) #[] #[]) := c1 19
        clear c1
        go_wp2_with (first | (go_at_call 68; refine (num_str 89 w.heap.size 4 8 0 _ (.func (.func 87) #[] #[]) _ (enters_of Tryz.func89 (by kernel_rfl) rfl) (at4 _)).mono ?_; rintro e w2 ⟨rfl, ho2⟩; have q0 : w2.cell? ⟨wr.heap.size, 0, none⟩ = some (.int .i64 8) := ho2.cell (by simp) (fun h => h); have q1 : w2.cell? ⟨wr.heap.size, 1, none⟩ = some (.int .i64 0) := ho2.cell (by simp) (fun h => h); have q2 : w2.cell? ⟨wr.heap.size, 2, none⟩ = some (.func (.func 87) #[] #[]) := ho2.cell (by simp) (fun h => h); have q3 : w2.cell? ⟨wr.heap.size, 3, none⟩ = some (.func (.func 89) #[] #[]) := ho2.cell (by simp) (fun h => h)) | (go_at_call 69; refine (txt_str 89 w.heap.size 4 87 valB 8 0 _ c.val _ (HT.out _ (hO.trans (Only.trans ((Only.refl nob wr).alloc _) ho2))) (by have := hO.size; have := ho2.size; simp at this; omega) (ho2.cell (((Only.refl nob wr).alloc _).cell ((cells_cell hb0 4).trans rfl) (fun h => h)) (fun h => h)) (enters_of Tryz.func89 (by kernel_rfl) rfl) (at4 _) (enters_of Tryz.func87 (by kernel_rfl) rfl) (isVal _ hv)).mono ?_; rintro e w3 ⟨rfl, ho3⟩))
        all_goals
          go_roundw
          case rel => exact ⟨5, by omega, rfl, congrArg Value.bool (by rw [HA.out]; simp [*]), congrArg Value.bool (by rw [HX.out]; simp [*]), congrArg Value.bool (by rw [HF.out]; simp [*]), hO.trans (((Only.refl nob wr).alloc _).trans (ho2.trans ho3)), (((Only.refl nob wr).alloc _).trans (ho2.trans ho3)).heap hb0 (fun h => h), (((Only.refl nob wr).alloc _).trans (ho2.trans ho3)).heap hb1 (fun h => h)⟩
          case measure => simp [intOf]
      · have HA : Hid (upto (pA c) 6 = (upto (pA c) 5 && numA (bits BinOp.and IntKind.i64 (fieldsF c.kind) 16 == 0) c.node 9)) := mk_hid rfl
        have HX : Hid (upto (pX c) 6 = (upto (pX c) 5 && true)) := mk_hid rfl
        have HF : Hid (upto (pF c) 6 = (upto (pF c) 5 && numF (bits BinOp.and IntKind.i64 (fieldsF c.kind) 16 == 0) c.node && true)) := mk_hid (by simp [upto, pF, hz, Bool.and_assoc])
        have c1 : ∀ i, wr.cell? ⟨w.heap.size + 1, i, none⟩ = partsC[i]? := fun i => cells_cell hb1 i
        have d0 : wr.cell? ⟨w.heap.size + 1, 20, none⟩ = some (.int .i64 16) := c1 20
        have d1 : wr.cell? ⟨w.heap.size + 1, 21, none⟩ = some (.int .i64 9) := c1 21
        have d2 : wr.cell? ⟨w.heap.size + 1, 22, none⟩ = some (.nilFunc) := c1 22
        have d3 : wr.cell? ⟨w.heap.size + 1, 23, none⟩ = some (.func (.func 90) #[] #[]) := c1 23
        clear c1
        go_wp2_with (first | (go_at_call 68; refine (num_int 90 w.heap.size 6 16 9 c.node _ .nilFunc _ (by have := hO.size; simp; omega) (((Only.refl nob wr).alloc _).cell ((cells_cell hb0 6).trans rfl) (fun h => h)) (enters_of Tryz.func90 (by kernel_rfl) rfl) (at5 _)).mono ?_; rintro e w2 ⟨rfl, ho2⟩; have q0 : w2.cell? ⟨wr.heap.size, 0, none⟩ = some (.int .i64 16) := ho2.cell (by simp) (fun h => h); have q1 : w2.cell? ⟨wr.heap.size, 1, none⟩ = some (.int .i64 9) := ho2.cell (by simp) (fun h => h); have q2 : w2.cell? ⟨wr.heap.size, 2, none⟩ = some (.nilFunc) := ho2.cell (by simp) (fun h => h); have q3 : w2.cell? ⟨wr.heap.size, 3, none⟩ = some (.func (.func 90) #[] #[]) := ho2.cell (by simp) (fun h => h)) | (go_at_call 69; refine (txt_int 90 w.heap.size 6 16 9 _ .nilFunc _ (enters_of Tryz.func90 (by kernel_rfl) rfl) (at5 _)).mono ?_; rintro e w3 ⟨rfl, ho3⟩))
        all_goals
          go_roundw
          case rel => exact ⟨6, by omega, rfl, congrArg Value.bool (by rw [HA.out]; simp [*]), congrArg Value.bool (by rw [HX.out]; simp [*]), congrArg Value.bool (by rw [HF.out]; simp [*]), hO.trans (((Only.refl nob wr).alloc _).trans (ho2.trans ho3)), (((Only.refl nob wr).alloc _).trans (ho2.trans ho3)).heap hb0 (fun h => h), (((Only.refl nob wr).alloc _).trans (ho2.trans ho3)).heap hb1 (fun h => h)⟩
          case measure => simp [intOf]
      · go_wp2
        all_goals
          go_ret
          exact ⟨ret_int (by rw [HP.out]; simp_all), hO⟩
  · have HP := mk_hid (chk_kind c hkd)
    have HD := mk_hid (show decide (1 ≤ c.kind ∧ c.kind ≤ 8) = false from decide_eq_false hkd)
    clear hkd
    unfold Cmd.agg
    go_enter Tryz.func59, Tryz.ntmps59
    go_wp2_with (first | (go_at_call 49; refine (fields_any _ _).mono ?_; rw [HD.out]; rintro e w2 ⟨rfl, rfl⟩))
    go_ret
    exact ⟨ret_int HP.out.symm, by (repeat (first | with_reducible exact Only.refl _ _ | with_reducible assumption | with_reducible refine Only.drew ?_ | with_reducible refine Only.drewN ?_ _ | with_reducible refine Only.alloc ?_ _))⟩
end Go.Proofs.YtgcjmjhdnkffcaaGreatDoor
