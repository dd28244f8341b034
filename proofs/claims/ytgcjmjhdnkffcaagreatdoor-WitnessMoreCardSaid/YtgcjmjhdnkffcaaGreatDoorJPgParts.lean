/- The program's commands (layer 8: cmd), walked: kinds, fields, what a field must be. No condition but lengths and the library's tables. -/
import Derived.Test.YtgcjmjhdnkffcaaGreatDoorJPgKeys
import Derived.Test.YtgcjmjhdnkffcaaGreatDoorJRefChk
import Derived.Deep.QuietTactic
import Derived.Deep.RegionHeld3
set_option linter.unusedVariables false
namespace Go.Proofs.YtgcjmjhdnkffcaaGreatDoor
open Go.RowKit
theorem asInt_int (v : Value) (w : World) : (Instr.typeAssert (.iface 135 v) 20 135 true).run Tryz.prog w = .ok (.tuple #[v, .bool true]) w := by kernel_rfl
theorem asInt_str (v : Value) (w : World) : (Instr.typeAssert (.iface 136 v) 20 135 true).run Tryz.prog w = .ok (.tuple #[.pointer none, .bool false]) w := by kernel_rfl
theorem asStr_str (v : Value) (w : World) : (Instr.typeAssert (.iface 136 v) 20 136 true).run Tryz.prog w = .ok (.tuple #[v, .bool true]) w := by kernel_rfl
theorem asStr_int (v : Value) (w : World) : (Instr.typeAssert (.iface 135 v) 20 136 true).run Tryz.prog w = .ok (.tuple #[.pointer none, .bool false]) w := by kernel_rfl
/-- A kind's fields. -/
def fieldsF (k : Int) : Int := if k = 2 then 11 else if k = 3 ∨ k = 4 then 3 else if k = 5 then 15 else if k = 7 ∨ k = 8 then 16 else 0
theorem fields_any (k : Int) (w : World) : Calls Tryz.prog 49 #[.int .i64 k] w fun e w' => e = .returned (.tuple #[.int .i64 (fieldsF k), .bool (decide (1 ≤ k ∧ k ≤ 8))]) ∧ w = w' := by
  have key : ∀ (a : Int) (b : Bool), fieldsF k = a → decide (1 ≤ k ∧ k ≤ 8) = b → Ending.returned (.tuple #[.int .i64 a, .bool b]) = .returned (.tuple #[.int .i64 (fieldsF k), .bool (decide (1 ≤ k ∧ k ≤ 8))]) := fun a b h1 h2 => by rw [h1, h2]
  have HK := mk_hid key
  clear key
  go_enter Tryz.func49, Tryz.ntmps49
  go_wp2
  all_goals
    go_ret2
    refine ⟨HK.out _ _ ?_ ?_, rfl⟩
    · simp at *; unfold fieldsF; simp [*]
    · simp at *; omega
theorem own_bit (k : Int) : (bits BinOp.and IntKind.i64 (fieldsF k) 1 != 0) = ownB k := by
  unfold fieldsF ownB
  by_cases h2 : k = 2
  · subst h2; decide
  by_cases h3 : k = 3
  · subst h3; decide
  by_cases h4 : k = 4
  · subst h4; decide
  by_cases h5 : k = 5
  · subst h5; decide
  rw [if_neg h2, if_neg (by omega), if_neg h5, decide_eq_false (by omega)]
  split <;> decide
theorem owned2_any (c : Cmd) (w : World) : Calls Tryz.prog 35 #[c.agg] w fun e w' => e = .returned (.bool (ownB c.kind)) ∧ Only nob w w' := by
  have HB := mk_hid (own_bit c.kind)
  unfold Cmd.agg
  go_enter Tryz.func35, Tryz.ntmps35
  go_wp2_with (first | (go_at_call 49; refine (fields_any _ _).mono ?_; rintro e w2 ⟨rfl, rfl⟩))
  go_ret
  exact ⟨ret_bool HB.out, (Only.refl _ _).alloc _⟩
def numA (z : Bool) (n m : Int) : Bool := z || inB n m
def numF (z : Bool) (n : Int) : Bool := !z || isz n
def txtA (z ok : Bool) : Bool := z || ok
def txtF (z em : Bool) : Bool := !z || em
theorem tup_bb {a b c d : Bool} (h1 : a = c) (h2 : b = d) : Ending.returned (.tuple #[.bool a, .bool b]) = .returned (.tuple #[.bool c, .bool d]) := by rw [h1, h2]
/-- What a field's place is: the address that the field's function gives. -/
def AtF (g b o : Nat) (T : TypeId) : Prop := ∀ W, Calls Tryz.prog g #[.pointer (some ⟨b, 0, none⟩)] W fun e w' => e = .returned (.iface T (.pointer (some ⟨b, o, none⟩))) ∧ W = w'
theorem at0 (b : Nat) : AtF 83 b 1 135 := fun W => by
  go_enter Tryz.func83, Tryz.ntmps83; go_wp2; go_ret; exact ⟨rfl, rfl⟩
theorem at1 (b : Nat) : AtF 84 b 2 135 := fun W => by
  go_enter Tryz.func84, Tryz.ntmps84; go_wp2; go_ret; exact ⟨rfl, rfl⟩
theorem at2 (b : Nat) : AtF 86 b 3 136 := fun W => by
  go_enter Tryz.func86, Tryz.ntmps86; go_wp2; go_ret; exact ⟨rfl, rfl⟩
theorem at3 (b : Nat) : AtF 88 b 5 136 := fun W => by
  go_enter Tryz.func88, Tryz.ntmps88; go_wp2; go_ret; exact ⟨rfl, rfl⟩
theorem at4 (b : Nat) : AtF 89 b 4 136 := fun W => by
  go_enter Tryz.func89, Tryz.ntmps89; go_wp2; go_ret; exact ⟨rfl, rfl⟩
theorem at5 (b : Nat) : AtF 90 b 6 135 := fun W => by
  go_enter Tryz.func90, Tryz.ntmps90; go_wp2; go_ret; exact ⟨rfl, rfl⟩
set_option maxRecDepth 100000 in
set_option maxHeartbeats 1000000 in
theorem num_int (g b o : Nat) (hs mo n f : Int) (isv : Value) (w : World) (hb : b < w.heap.size) (hc : w.cell? ⟨b, o, none⟩ = some (.int .i64 n)) (eg : ∀ args w, (callFunc g args).run Tryz.prog w = .ok (.enter g args) w) (hat : AtF g b o 135) :
    Calls Tryz.prog 68 #[.agg #[.int .i64 hs, .int .i64 mo, isv, .func (.func g) #[] #[]], .pointer (some ⟨b, 0, none⟩), .int .i64 f] w fun e w' =>
      e = .returned (.tuple #[.bool (numA (bits BinOp.and IntKind.i64 f hs == 0) n mo), .bool (numF (bits BinOp.and IntKind.i64 f hs == 0) n)]) ∧ Only nob w w' := by
  have T1 := asInt_int
  have HAT := mk_hid hat
  clear hat
  cases hz : (bits BinOp.and IntKind.i64 f hs == 0) with
  | true =>
    have HZ : Hid (numA true n mo = true ∧ numF true n = (n == 0)) := mk_hid ⟨rfl, rfl⟩
    go_enter Tryz.func68, Tryz.ntmps68
    go_wp2_with (first | (go_at_fn g; refine (HAT.out _).mono ?_; rintro e w' ⟨rfl, rfl⟩))
    go_quiet (fail)
    go_wp2
    go_ret2
    exact ⟨tup_bb HZ.out.1.symm HZ.out.2.symm, by (repeat (first | with_reducible exact Only.refl _ _ | with_reducible assumption | with_reducible refine Only.drew ?_ | with_reducible refine Only.drewN ?_ _ | with_reducible refine Only.alloc ?_ _))⟩
  | false =>
    by_cases h1 : 1 ≤ n
    · have h1' : decide ((1 : Int) ≤ n) = true := by simpa using h1
      have HZ : Hid (numA false n mo = decide (n ≤ mo) ∧ numF false n = true) := mk_hid ⟨by unfold numA inB; rw [decide_eq_true h1]; rfl, rfl⟩
      go_enter Tryz.func68, Tryz.ntmps68
      go_wp2_with (first | (go_at_fn g; refine (HAT.out _).mono ?_; rintro e w' ⟨rfl, rfl⟩))
      go_quiet (fail)
      go_wp2
      go_ret2
      exact ⟨tup_bb HZ.out.1.symm HZ.out.2.symm, by (repeat (first | with_reducible exact Only.refl _ _ | with_reducible assumption | with_reducible refine Only.drew ?_ | with_reducible refine Only.drewN ?_ _ | with_reducible refine Only.alloc ?_ _))⟩
    · have h1' : decide ((1 : Int) ≤ n) = false := by simpa using h1
      have HZ : Hid (numA false n mo = false ∧ numF false n = true) := mk_hid ⟨by unfold numA inB; rw [decide_eq_false h1]; rfl, rfl⟩
      clear h1
      go_enter Tryz.func68, Tryz.ntmps68
      go_wp2_with (first | (go_at_fn g; refine (HAT.out _).mono ?_; rintro e w' ⟨rfl, rfl⟩))
      go_quiet (fail)
      go_wp2
      go_ret2
      exact ⟨tup_bb HZ.out.1.symm HZ.out.2.symm, by (repeat (first | with_reducible exact Only.refl _ _ | with_reducible assumption | with_reducible refine Only.drew ?_ | with_reducible refine Only.drewN ?_ _ | with_reducible refine Only.alloc ?_ _))⟩
set_option maxRecDepth 100000 in
theorem num_str (g b o : Nat) (hs mo f : Int) (isv : Value) (w : World) (eg : ∀ args w, (callFunc g args).run Tryz.prog w = .ok (.enter g args) w) (hat : AtF g b o 136) :
    Calls Tryz.prog 68 #[.agg #[.int .i64 hs, .int .i64 mo, isv, .func (.func g) #[] #[]], .pointer (some ⟨b, 0, none⟩), .int .i64 f] w fun e w' =>
      e = .returned (.tuple #[.bool true, .bool true]) ∧ Only nob w w' := by
  have T1 := asInt_str
  have HAT := mk_hid hat
  clear hat
  go_enter Tryz.func68, Tryz.ntmps68
  go_wp2_with (first | (go_at_fn g; refine (HAT.out _).mono ?_; rintro e w' ⟨rfl, rfl⟩))
  go_ret2
  exact ⟨rfl, by (repeat (first | with_reducible exact Only.refl _ _ | with_reducible assumption | with_reducible refine Only.drew ?_ | with_reducible refine Only.drewN ?_ _ | with_reducible refine Only.alloc ?_ _))⟩
set_option maxRecDepth 100000 in
theorem txt_int (g b o : Nat) (hs mo f : Int) (isv : Value) (w : World) (eg : ∀ args w, (callFunc g args).run Tryz.prog w = .ok (.enter g args) w) (hat : AtF g b o 135) :
    Calls Tryz.prog 69 #[.agg #[.int .i64 hs, .int .i64 mo, isv, .func (.func g) #[] #[]], .pointer (some ⟨b, 0, none⟩), .int .i64 f] w fun e w' =>
      e = .returned (.tuple #[.bool true, .bool true]) ∧ Only nob w w' := by
  have T1 := asStr_int
  have HAT := mk_hid hat
  clear hat
  go_enter Tryz.func69, Tryz.ntmps69
  go_wp2_with (first | (go_at_fn g; refine (HAT.out _).mono ?_; rintro e w' ⟨rfl, rfl⟩))
  go_ret2
  exact ⟨rfl, by (repeat (first | with_reducible exact Only.refl _ _ | with_reducible assumption | with_reducible refine Only.drew ?_ | with_reducible refine Only.drewN ?_ _ | with_reducible refine Only.alloc ?_ _))⟩
/-- What a field's test is. -/
def IsF (h : Nat) (p : ByteArray → Bool) (s : ByteArray) : Prop := ∀ W, Tabs W → Calls Tryz.prog h #[.string s] W fun e w' => e = .returned (.bool (p s)) ∧ Only nob W w'
set_option maxRecDepth 100000 in
set_option maxHeartbeats 1000000 in
theorem txt_str (g b o h : Nat) (p : ByteArray → Bool) (hs mo f : Int) (s : ByteArray) (w : World) (hT : Tabs w) (hb : b < w.heap.size) (hc : w.cell? ⟨b, o, none⟩ = some (.string s)) (eg : ∀ args w, (callFunc g args).run Tryz.prog w = .ok (.enter g args) w) (hat : AtF g b o 136)
    (eh : ∀ args w, (callFunc h args).run Tryz.prog w = .ok (.enter h args) w) (hp : IsF h p s) :
    Calls Tryz.prog 69 #[.agg #[.int .i64 hs, .int .i64 mo, .func (.func h) #[] #[], .func (.func g) #[] #[]], .pointer (some ⟨b, 0, none⟩), .int .i64 f] w fun e w' =>
      e = .returned (.tuple #[.bool (txtA (bits BinOp.and IntKind.i64 f hs == 0) (p s)), .bool (txtF (bits BinOp.and IntKind.i64 f hs == 0) (mt s))]) ∧ Only nob w w' := by
  have T1 := asStr_str
  have HAT := mk_hid hat
  have HP := mk_hid hp
  have HT := mk_hid (fun w' (ho : Only nob w w') => hT.none ho)
  clear hat hp hT
  cases hz : (bits BinOp.and IntKind.i64 f hs == 0) with
  | true =>
    have HZ : Hid (txtA true (p s) = true ∧ txtF true (mt s) = mt s) := mk_hid ⟨rfl, rfl⟩
    go_enter Tryz.func69, Tryz.ntmps69
    go_wp2_with (first | (go_at_fn g; refine (HAT.out _).mono ?_; rintro e w' ⟨rfl, rfl⟩))
    go_quiet (fail)
    go_wp2
    go_ret2
    exact ⟨tup_bb HZ.out.1.symm (by rw [HZ.out.2]; unfold mt; first | rfl | simp [List.isEmpty_iff]), by (repeat (first | with_reducible exact Only.refl _ _ | with_reducible assumption | with_reducible refine Only.drew ?_ | with_reducible refine Only.drewN ?_ _ | with_reducible refine Only.alloc ?_ _))⟩
  | false =>
    have HZ : Hid (txtA false (p s) = p s ∧ txtF false (mt s) = true) := mk_hid ⟨rfl, rfl⟩
    go_enter Tryz.func69, Tryz.ntmps69
    go_wp2_with (first | (go_at_fn g; refine (HAT.out _).mono ?_; rintro e w' ⟨rfl, rfl⟩))
    have HK : ∀ w', Only nob (w.alloc (.cells #[.int .i64 hs, .int .i64 mo, .func (.func h) #[] #[], .func (.func g) #[] #[]] 118)) w' → w'.cell? ⟨w.heap.size, 2, none⟩ = some (.func (.func h) #[] #[]) ∧ w'.cell? ⟨b, o, none⟩ = some (.string s) := fun w' hw => ⟨hw.cell (by simp) (fun h => h), hw.cell (((Only.refl nob w).alloc _).cell hc (fun h => h)) (fun h => h)⟩
    go_region_held3 (fun w' => w'.cell? ⟨w.heap.size, 2, none⟩ = some (.func (.func h) #[] #[]) ∧ w'.cell? ⟨b, o, none⟩ = some (.string s)) (first | exact HK _ (by (repeat (first | with_reducible exact Only.refl _ _ | with_reducible assumption | with_reducible refine Only.drew ?_ | with_reducible refine Only.drewN ?_ _ | with_reducible refine Only.alloc ?_ _ | (with_reducible refine Only.set ?_ (.inr ?_) _; rotate_left; first | exact Nat.le_refl _ | exact Nat.le_succ _ | assumption | omega | (dsimp only; omega)))))) (first | (go_at_fn h; refine (HP.out _ (HT.out _ (by (repeat (first | with_reducible exact Only.refl _ _ | with_reducible assumption | with_reducible refine Only.drew ?_ | with_reducible refine Only.drewN ?_ _ | with_reducible refine Only.alloc ?_ _))))).mono ?_; rintro e w2 ⟨rfl, ho2⟩; have hu := Only.trans (a := (w.alloc (.cells #[.int .i64 hs, .int .i64 mo, .func (.func h) #[] #[], .func (.func g) #[] #[]] 118))) (by (repeat (first | with_reducible exact Only.refl _ _ | with_reducible assumption | with_reducible refine Only.drew ?_ | with_reducible refine Only.drewN ?_ _ | with_reducible refine Only.alloc ?_ _))) ho2))
    all_goals
      go_wp2
      go_ret2
      exact ⟨tup_bb HZ.out.1.symm HZ.out.2.symm, Only.trans (b := (w.alloc (.cells #[.int .i64 hs, .int .i64 mo, .func (.func h) #[] #[], .func (.func g) #[] #[]] 118))) (by (repeat (first | with_reducible exact Only.refl _ _ | with_reducible assumption | with_reducible refine Only.drew ?_ | with_reducible refine Only.drewN ?_ _ | with_reducible refine Only.alloc ?_ _))) (by (repeat (first | with_reducible exact Only.refl _ _ | with_reducible assumption | with_reducible refine Only.drew ?_ | with_reducible refine Only.drewN ?_ _ | with_reducible refine Only.alloc ?_ _)))⟩
end Go.Proofs.YtgcjmjhdnkffcaaGreatDoor
