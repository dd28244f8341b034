/- The reference's check of a command (layer 8), walked; no condition but lengths of texts. -/
import Derived.Test.YtgcjmjhdnkffcaaGreatDoorJRefKey
set_option linter.unusedVariables false
namespace Go.Proofs.YtgcjmjhdnkffcaaGreatDoor
open Go.RowKit
/-- A command. -/
structure Cmd where
  kind : Int
  client : Int
  seq : Int
  key : ByteArray
  val : ByteArray
  old : ByteArray
  node : Int
def Cmd.cells (c : Cmd) : List Value := [.int .i64 c.kind, .int .i64 c.client, .int .i64 c.seq, .string c.key, .string c.val, .string c.old, .int .i64 c.node]
def Cmd.agg (c : Cmd) : Value := .agg #[.int .i64 c.kind, .int .i64 c.client, .int .i64 c.seq, .string c.key, .string c.val, .string c.old, .int .i64 c.node]
def mt (s : ByteArray) : Bool := s.toList.isEmpty
def ownB (k : Int) : Bool := decide (2 ≤ k ∧ k ≤ 5)
def memB (k : Int) : Bool := decide (k = 7 ∨ k = 8)
def valK (k : Int) : Bool := decide (k = 2 ∨ k = 5)
def casK (k : Int) : Bool := decide (k = 5)
def inB (n m : Int) : Bool := decide (1 ≤ n) && decide (n ≤ m)
def isz (n : Int) : Bool := n == 0
/-- What is wrong with a command. -/
def chkOf (k client seq : Int) (ky vl ol : Bool) (ke ve oe : Bool) (node : Int) : Int :=
  if k < 1 then 5 else if 8 < k then 5
  else if ownB k && !(inB client 8 && inB seq 4294967296) || memB k && !inB node 9 then 6
  else if ownB k && !ky || valK k && !vl || casK k && !ol then 7
  else if !ownB k && !(isz client && isz seq && ke) || !valK k && !ve || !casK k && !oe || !memB k && !isz node then 3
  else 0
def chk (c : Cmd) : Int := chkOf c.kind c.client c.seq (keyB c.key) (valB c.val) (valB c.old) (mt c.key) (mt c.val) (mt c.old) c.node
theorem owned_any (k : Int) (w : World) : Calls Tryz.prog 11 #[.int .i64 k] w fun e w' => e = .returned (.bool (ownB k)) ∧ w = w' := by
  by_cases h1 : 2 ≤ k
  · by_cases h2 : k ≤ 5
    · have h := mk_hid (show ownB k = true from decide_eq_true ⟨h1, h2⟩)
      go_enter Tryz.func11, Tryz.ntmps11
      go_wp2
      go_ret
      exact ⟨ret_bool h.out.symm, rfl⟩
    · have h := mk_hid (show ownB k = false from decide_eq_false (by omega))
      go_enter Tryz.func11, Tryz.ntmps11
      go_wp2
      go_ret
      exact ⟨ret_bool h.out.symm, rfl⟩
  · have h := mk_hid (show ownB k = false from decide_eq_false (by omega))
    go_enter Tryz.func11, Tryz.ntmps11
    go_wp2
    go_ret
    exact ⟨ret_bool h.out.symm, rfl⟩
theorem member_any (k : Int) (w : World) : Calls Tryz.prog 37 #[.int .i64 k] w fun e w' => e = .returned (.bool (memB k)) ∧ w = w' := by
  by_cases h1 : k = 7
  · have h := mk_hid (show memB k = true from decide_eq_true (.inl h1))
    have h1' : (k == 7) = true := by simpa using h1
    clear h1
    go_enter Tryz.func37, Tryz.ntmps37
    go_wp2
    go_ret
    exact ⟨ret_bool h.out.symm, rfl⟩
  · have h1' : (k == 7) = false := by simpa using h1
    by_cases h2 : k = 8
    · have h := mk_hid (show memB k = true from decide_eq_true (.inr h2))
      have h2' : (k == 8) = true := by simpa using h2
      clear h1 h2
      go_enter Tryz.func37, Tryz.ntmps37
      go_wp2
      go_ret
      exact ⟨ret_bool h.out.symm, rfl⟩
    · have h := mk_hid (show memB k = false from decide_eq_false (by omega))
      have h2' : (k == 8) = false := by simpa using h2
      clear h1 h2
      go_enter Tryz.func37, Tryz.ntmps37
      go_wp2
      go_ret
      exact ⟨ret_bool h.out.symm, rfl⟩
set_option maxRecDepth 100000 in
set_option maxHeartbeats 4000000 in
theorem refchk_1 (client seq node : Int) (key val old : ByteArray) (w : World) (hk : key.size ≤ 1000) (hv : val.size ≤ 1000) (ho : old.size ≤ 1000) :
    Calls Tryz.prog 18 #[.agg #[.int .i64 1, .int .i64 client, .int .i64 seq, .string key, .string val, .string old, .int .i64 node]] w fun e w' =>
      e = .returned (.int .i64 (chkOf 1 client seq (keyB key) (valB val) (valB old) (mt key) (mt val) (mt old) node)) ∧ Only nob w w' := by
  generalize hpost : (fun (e : Ending) w' => e = .returned (.int .i64 (chkOf 1 client seq (keyB key) (valB val) (valB old) (mt key) (mt val) (mt old) node)) ∧ Only nob w w') = post
  go_enter Tryz.func18, Tryz.ntmps18
  go_wp2_with (first | (go_at_call 11; refine (owned_any _ _).mono ?_; rintro e w' ⟨rfl, rfl⟩) | (go_at_call 37; refine (member_any _ _).mono ?_; rintro e w' ⟨rfl, rfl⟩) | (go_at_call 38; refine (refkey_any _ _ hk).mono ?_; rintro e w' ⟨rfl, rfl⟩) | (go_at_call 39; refine (refval_any _ _ (by assumption)).mono ?_; rintro e w' ⟨rfl, rfl⟩))
  all_goals
    subst hpost
    refine ⟨ret_int ?_, (Only.refl _ _).alloc _⟩
    clear hk hv ho
    simp [chkOf, ownB, memB, valK, casK, inB, isz, mt, *]
    try omega
    try simp_all
set_option maxRecDepth 100000 in
set_option maxHeartbeats 4000000 in
theorem refchk_2 (client seq node : Int) (key val old : ByteArray) (w : World) (hk : key.size ≤ 1000) (hv : val.size ≤ 1000) (ho : old.size ≤ 1000) :
    Calls Tryz.prog 18 #[.agg #[.int .i64 2, .int .i64 client, .int .i64 seq, .string key, .string val, .string old, .int .i64 node]] w fun e w' =>
      e = .returned (.int .i64 (chkOf 2 client seq (keyB key) (valB val) (valB old) (mt key) (mt val) (mt old) node)) ∧ Only nob w w' := by
  generalize hpost : (fun (e : Ending) w' => e = .returned (.int .i64 (chkOf 2 client seq (keyB key) (valB val) (valB old) (mt key) (mt val) (mt old) node)) ∧ Only nob w w') = post
  go_enter Tryz.func18, Tryz.ntmps18
  go_wp2_with (first | (go_at_call 11; refine (owned_any _ _).mono ?_; rintro e w' ⟨rfl, rfl⟩) | (go_at_call 37; refine (member_any _ _).mono ?_; rintro e w' ⟨rfl, rfl⟩) | (go_at_call 38; refine (refkey_any _ _ hk).mono ?_; rintro e w' ⟨rfl, rfl⟩) | (go_at_call 39; refine (refval_any _ _ (by assumption)).mono ?_; rintro e w' ⟨rfl, rfl⟩))
  all_goals
    subst hpost
    refine ⟨ret_int ?_, (Only.refl _ _).alloc _⟩
    clear hk hv ho
    simp [chkOf, ownB, memB, valK, casK, inB, isz, mt, *]
    try omega
    try simp_all
set_option maxRecDepth 100000 in
set_option maxHeartbeats 4000000 in
theorem refchk_3 (client seq node : Int) (key val old : ByteArray) (w : World) (hk : key.size ≤ 1000) (hv : val.size ≤ 1000) (ho : old.size ≤ 1000) :
    Calls Tryz.prog 18 #[.agg #[.int .i64 3, .int .i64 client, .int .i64 seq, .string key, .string val, .string old, .int .i64 node]] w fun e w' =>
      e = .returned (.int .i64 (chkOf 3 client seq (keyB key) (valB val) (valB old) (mt key) (mt val) (mt old) node)) ∧ Only nob w w' := by
  generalize hpost : (fun (e : Ending) w' => e = .returned (.int .i64 (chkOf 3 client seq (keyB key) (valB val) (valB old) (mt key) (mt val) (mt old) node)) ∧ Only nob w w') = post
  go_enter Tryz.func18, Tryz.ntmps18
  go_wp2_with (first | (go_at_call 11; refine (owned_any _ _).mono ?_; rintro e w' ⟨rfl, rfl⟩) | (go_at_call 37; refine (member_any _ _).mono ?_; rintro e w' ⟨rfl, rfl⟩) | (go_at_call 38; refine (refkey_any _ _ hk).mono ?_; rintro e w' ⟨rfl, rfl⟩) | (go_at_call 39; refine (refval_any _ _ (by assumption)).mono ?_; rintro e w' ⟨rfl, rfl⟩))
  all_goals
    subst hpost
    refine ⟨ret_int ?_, (Only.refl _ _).alloc _⟩
    clear hk hv ho
    simp [chkOf, ownB, memB, valK, casK, inB, isz, mt, *]
    try omega
    try simp_all
set_option maxRecDepth 100000 in
set_option maxHeartbeats 4000000 in
theorem refchk_4 (client seq node : Int) (key val old : ByteArray) (w : World) (hk : key.size ≤ 1000) (hv : val.size ≤ 1000) (ho : old.size ≤ 1000) :
    Calls Tryz.prog 18 #[.agg #[.int .i64 4, .int .i64 client, .int .i64 seq, .string key, .string val, .string old, .int .i64 node]] w fun e w' =>
      e = .returned (.int .i64 (chkOf 4 client seq (keyB key) (valB val) (valB old) (mt key) (mt val) (mt old) node)) ∧ Only nob w w' := by
  generalize hpost : (fun (e : Ending) w' => e = .returned (.int .i64 (chkOf 4 client seq (keyB key) (valB val) (valB old) (mt key) (mt val) (mt old) node)) ∧ Only nob w w') = post
  go_enter Tryz.func18, Tryz.ntmps18
  go_wp2_with (first | (go_at_call 11; refine (owned_any _ _).mono ?_; rintro e w' ⟨rfl, rfl⟩) | (go_at_call 37; refine (member_any _ _).mono ?_; rintro e w' ⟨rfl, rfl⟩) | (go_at_call 38; refine (refkey_any _ _ hk).mono ?_; rintro e w' ⟨rfl, rfl⟩) | (go_at_call 39; refine (refval_any _ _ (by assumption)).mono ?_; rintro e w' ⟨rfl, rfl⟩))
  all_goals
    subst hpost
    refine ⟨ret_int ?_, (Only.refl _ _).alloc _⟩
    clear hk hv ho
    simp [chkOf, ownB, memB, valK, casK, inB, isz, mt, *]
    try omega
    try simp_all
set_option maxRecDepth 100000 in
set_option maxHeartbeats 4000000 in
theorem refchk_5 (client seq node : Int) (key val old : ByteArray) (w : World) (hk : key.size ≤ 1000) (hv : val.size ≤ 1000) (ho : old.size ≤ 1000) :
    Calls Tryz.prog 18 #[.agg #[.int .i64 5, .int .i64 client, .int .i64 seq, .string key, .string val, .string old, .int .i64 node]] w fun e w' =>
      e = .returned (.int .i64 (chkOf 5 client seq (keyB key) (valB val) (valB old) (mt key) (mt val) (mt old) node)) ∧ Only nob w w' := by
  generalize hpost : (fun (e : Ending) w' => e = .returned (.int .i64 (chkOf 5 client seq (keyB key) (valB val) (valB old) (mt key) (mt val) (mt old) node)) ∧ Only nob w w') = post
  go_enter Tryz.func18, Tryz.ntmps18
  go_wp2_with (first | (go_at_call 11; refine (owned_any _ _).mono ?_; rintro e w' ⟨rfl, rfl⟩) | (go_at_call 37; refine (member_any _ _).mono ?_; rintro e w' ⟨rfl, rfl⟩) | (go_at_call 38; refine (refkey_any _ _ hk).mono ?_; rintro e w' ⟨rfl, rfl⟩) | (go_at_call 39; refine (refval_any _ _ (by assumption)).mono ?_; rintro e w' ⟨rfl, rfl⟩))
  all_goals
    subst hpost
    refine ⟨ret_int ?_, (Only.refl _ _).alloc _⟩
    clear hk hv ho
    simp [chkOf, ownB, memB, valK, casK, inB, isz, mt, *]
    try omega
    try simp_all
set_option maxRecDepth 100000 in
set_option maxHeartbeats 4000000 in
theorem refchk_6 (client seq node : Int) (key val old : ByteArray) (w : World) (hk : key.size ≤ 1000) (hv : val.size ≤ 1000) (ho : old.size ≤ 1000) :
    Calls Tryz.prog 18 #[.agg #[.int .i64 6, .int .i64 client, .int .i64 seq, .string key, .string val, .string old, .int .i64 node]] w fun e w' =>
      e = .returned (.int .i64 (chkOf 6 client seq (keyB key) (valB val) (valB old) (mt key) (mt val) (mt old) node)) ∧ Only nob w w' := by
  generalize hpost : (fun (e : Ending) w' => e = .returned (.int .i64 (chkOf 6 client seq (keyB key) (valB val) (valB old) (mt key) (mt val) (mt old) node)) ∧ Only nob w w') = post
  go_enter Tryz.func18, Tryz.ntmps18
  go_wp2_with (first | (go_at_call 11; refine (owned_any _ _).mono ?_; rintro e w' ⟨rfl, rfl⟩) | (go_at_call 37; refine (member_any _ _).mono ?_; rintro e w' ⟨rfl, rfl⟩) | (go_at_call 38; refine (refkey_any _ _ hk).mono ?_; rintro e w' ⟨rfl, rfl⟩) | (go_at_call 39; refine (refval_any _ _ (by assumption)).mono ?_; rintro e w' ⟨rfl, rfl⟩))
  all_goals
    subst hpost
    refine ⟨ret_int ?_, (Only.refl _ _).alloc _⟩
    clear hk hv ho
    simp [chkOf, ownB, memB, valK, casK, inB, isz, mt, *]
    try omega
    try simp_all
set_option maxRecDepth 100000 in
set_option maxHeartbeats 4000000 in
theorem refchk_7 (client seq node : Int) (key val old : ByteArray) (w : World) (hk : key.size ≤ 1000) (hv : val.size ≤ 1000) (ho : old.size ≤ 1000) :
    Calls Tryz.prog 18 #[.agg #[.int .i64 7, .int .i64 client, .int .i64 seq, .string key, .string val, .string old, .int .i64 node]] w fun e w' =>
      e = .returned (.int .i64 (chkOf 7 client seq (keyB key) (valB val) (valB old) (mt key) (mt val) (mt old) node)) ∧ Only nob w w' := by
  generalize hpost : (fun (e : Ending) w' => e = .returned (.int .i64 (chkOf 7 client seq (keyB key) (valB val) (valB old) (mt key) (mt val) (mt old) node)) ∧ Only nob w w') = post
  go_enter Tryz.func18, Tryz.ntmps18
  go_wp2_with (first | (go_at_call 11; refine (owned_any _ _).mono ?_; rintro e w' ⟨rfl, rfl⟩) | (go_at_call 37; refine (member_any _ _).mono ?_; rintro e w' ⟨rfl, rfl⟩) | (go_at_call 38; refine (refkey_any _ _ hk).mono ?_; rintro e w' ⟨rfl, rfl⟩) | (go_at_call 39; refine (refval_any _ _ (by assumption)).mono ?_; rintro e w' ⟨rfl, rfl⟩))
  all_goals
    subst hpost
    refine ⟨ret_int ?_, (Only.refl _ _).alloc _⟩
    clear hk hv ho
    simp [chkOf, ownB, memB, valK, casK, inB, isz, mt, *]
    try omega
    try simp_all
set_option maxRecDepth 100000 in
set_option maxHeartbeats 4000000 in
theorem refchk_8 (client seq node : Int) (key val old : ByteArray) (w : World) (hk : key.size ≤ 1000) (hv : val.size ≤ 1000) (ho : old.size ≤ 1000) :
    Calls Tryz.prog 18 #[.agg #[.int .i64 8, .int .i64 client, .int .i64 seq, .string key, .string val, .string old, .int .i64 node]] w fun e w' =>
      e = .returned (.int .i64 (chkOf 8 client seq (keyB key) (valB val) (valB old) (mt key) (mt val) (mt old) node)) ∧ Only nob w w' := by
  generalize hpost : (fun (e : Ending) w' => e = .returned (.int .i64 (chkOf 8 client seq (keyB key) (valB val) (valB old) (mt key) (mt val) (mt old) node)) ∧ Only nob w w') = post
  go_enter Tryz.func18, Tryz.ntmps18
  go_wp2_with (first | (go_at_call 11; refine (owned_any _ _).mono ?_; rintro e w' ⟨rfl, rfl⟩) | (go_at_call 37; refine (member_any _ _).mono ?_; rintro e w' ⟨rfl, rfl⟩) | (go_at_call 38; refine (refkey_any _ _ hk).mono ?_; rintro e w' ⟨rfl, rfl⟩) | (go_at_call 39; refine (refval_any _ _ (by assumption)).mono ?_; rintro e w' ⟨rfl, rfl⟩))
  all_goals
    subst hpost
    refine ⟨ret_int ?_, (Only.refl _ _).alloc _⟩
    clear hk hv ho
    simp [chkOf, ownB, memB, valK, casK, inB, isz, mt, *]
    try omega
    try simp_all
set_option maxRecDepth 100000 in
theorem refchk_any (c : Cmd) (w : World) (hk : c.key.size ≤ 1000) (hv : c.val.size ≤ 1000) (ho : c.old.size ≤ 1000) :
    Calls Tryz.prog 18 #[c.agg] w fun e w' => e = .returned (.int .i64 (chk c)) ∧ Only nob w w' := by
  obtain ⟨k, client, seq, key, val, old, node⟩ := c
  unfold Cmd.agg chk
  dsimp only at *
  by_cases h1 : k < 1
  · have hc : Hid (chkOf k client seq (keyB key) (valB val) (valB old) (mt key) (mt val) (mt old) node = 5) := mk_hid (by unfold chkOf; rw [if_pos h1])
    go_enter Tryz.func18, Tryz.ntmps18
    go_wp2
    go_ret
    exact ⟨ret_int hc.out.symm, (Only.refl _ _).alloc _⟩
  by_cases h8 : 8 < k
  · have hc : Hid (chkOf k client seq (keyB key) (valB val) (valB old) (mt key) (mt val) (mt old) node = 5) := mk_hid (by unfold chkOf; rw [if_neg h1, if_pos h8])
    go_enter Tryz.func18, Tryz.ntmps18
    go_wp2
    go_ret
    exact ⟨ret_int hc.out.symm, (Only.refl _ _).alloc _⟩
  have hcase : k = 1 ∨ k = 2 ∨ k = 3 ∨ k = 4 ∨ k = 5 ∨ k = 6 ∨ k = 7 ∨ k = 8 := by omega
  rcases hcase with rfl | rfl | rfl | rfl | rfl | rfl | rfl | rfl
  · exact refchk_1 client seq node key val old w hk hv ho
  · exact refchk_2 client seq node key val old w hk hv ho
  · exact refchk_3 client seq node key val old w hk hv ho
  · exact refchk_4 client seq node key val old w hk hv ho
  · exact refchk_5 client seq node key val old w hk hv ho
  · exact refchk_6 client seq node key val old w hk hv ho
  · exact refchk_7 client seq node key val old w hk hv ho
  · exact refchk_8 client seq node key val old w hk hv ho
end Go.Proofs.YtgcjmjhdnkffcaaGreatDoor
