/- The reference's keys and values (layer 5), walked: what they answer, by the model's own decoding; no condition but lengths. -/
import Derived.Test.YtgcjmjhdnkffcaaGreatDoorJRefRunes
set_option linter.unusedVariables false
namespace Go.Proofs.YtgcjmjhdnkffcaaGreatDoor
open Go.RowKit
theorem ret_bool {a b : Bool} (h : a = b) : Ending.returned (.bool a) = .returned (.bool b) := by rw [h]
theorem ret_int {k : IntKind} {a b : Int} (h : a = b) : Ending.returned (.int k a) = .returned (.int k b) := by rw [h]
def plainL : ByteArray := { data := #[97, 98, 99, 100, 101, 102, 103, 104, 105, 106, 107, 108, 109, 110, 111, 112, 113, 114, 115, 116, 117, 118, 119, 120, 121, 122, 65, 66, 67, 68, 69, 70, 71, 72, 73, 74, 75, 76, 77, 78, 79, 80, 81, 82, 83, 84, 85, 86, 87, 88, 89, 90, 48, 49, 50, 51, 52, 53, 54, 55, 56, 57, 45, 95, 46, 58] }
def letterB (r : Int) : Bool := decide ((97 ≤ r ∧ r ≤ 122) ∨ (65 ≤ r ∧ r ≤ 90) ∨ (48 ≤ r ∧ r ≤ 57) ∨ r = 45 ∨ r = 95 ∨ r = 46 ∨ r = 58)
/-- May a rune stand in a key? -/
def plainB (r : Int) : Bool := letterB r || decide (161 ≤ r ∧ r ≠ 65533)
theorem plainL_list : (List.range 66).map (fun j => by_ plainL j) = [97, 98, 99, 100, 101, 102, 103, 104, 105, 106, 107, 108, 109, 110, 111, 112, 113, 114, 115, 116, 117, 118, 119, 120, 121, 122, 65, 66, 67, 68, 69, 70, 71, 72, 73, 74, 75, 76, 77, 78, 79, 80, 81, 82, 83, 84, 85, 86, 87, 88, 89, 90, 48, 49, 50, 51, 52, 53, 54, 55, 56, 57, 45, 95, 46, 58] := by decide +kernel
theorem plainL_in (k : Nat) (h : k < 66) : letterB (by_ plainL k : Nat) = true := by
  have : ∀ j ∈ List.range 66, letterB (by_ plainL j : Nat) = true := by
    have h2 : ((List.range 66).map (fun j => by_ plainL j)).all (fun b => letterB (b : Nat)) = true := by rw [plainL_list]; decide
    intro j hj
    exact (List.all_eq_true.1 h2) _ (List.mem_map.2 ⟨j, hj, rfl⟩)
  exact this k (List.mem_range.2 h)
theorem plainL_all (r : Int) (h : letterB r = true) : ∃ k, k < 66 ∧ (by_ plainL k : Int) = r := by
  have hr : 45 ≤ r ∧ r ≤ 122 := by unfold letterB at h; simp at h; omega
  obtain ⟨m, rfl⟩ := Int.eq_ofNat_of_zero_le (show 0 ≤ r by omega)
  have key : ∀ m, m < 123 → letterB (m : Nat) = true → m ∈ (List.range 66).map (fun j => by_ plainL j) := by
    rw [plainL_list]
    decide +kernel
  obtain ⟨j, hj, e⟩ := List.mem_map.1 (key m (by omega) h)
  exact ⟨j, List.mem_range.1 hj, by rw [e]⟩
theorem plain_letter {r : Int} (h : letterB r = true) : plainB r = true := by unfold plainB; rw [h]; rfl
theorem plain_other {r : Int} (h : letterB r = false) : plainB r = decide (161 ≤ r ∧ r ≠ 65533) := by unfold plainB; rw [h]; rfl
set_option maxRecDepth 100000 in
theorem refplain_any (r : Int) (w : World) :
    Calls Tryz.prog 51 #[.int .i64 r] w fun e w' => e = .returned (.bool (plainB r)) ∧ w = w' := by
  go_enter Tryz.func51, Tryz.ntmps51
  go_wp2
  go_loop [4] (fun i => ∃ k : Nat, k ≤ 66 ∧ i = .int .i64 k ∧ ∀ j, j < k → (by_ plainL j : Int) ≠ r) (fun i => 66 - (intOf i).toNat)
  case atStart => exact ⟨0, by omega, rfl, fun j hj => absurd hj (by omega)⟩
  case round =>
    obtain ⟨k, hk, rfl, hne⟩ := hrel
    have HN := mk_hid hne
    clear hne
    by_cases hlt : k < 66
    · have hI : ∀ W, (Instr.index 9 (.string { data := #[97, 98, 99, 100, 101, 102, 103, 104, 105, 106, 107, 108, 109, 110, 111, 112, 113, 114, 115, 116, 117, 118, 119, 120, 121, 122, 65, 66, 67, 68, 69, 70, 71, 72, 73, 74, 75, 76, 77, 78, 79, 80, 81, 82, 83, 84, 85, 86, 87, 88, 89, 90, 48, 49, 50, 51, 52, 53, 54, 55, 56, 57, 45, 95, 46, 58] }) (.int .i64 (k : Int))).run Tryz.prog W = .ok (.int .u8 (by_ plainL k : Nat)) W := fun W => run_byte plainL k 9 Tryz.underlying9 hlt W
      have hb := by_lt plainL k
      have hin := mk_hid (plainL_in k hlt)
      have hk66 : (k : Int) < 66 := by omega
      have HE : ∀ b, Hid (by_ plainL k = b → ¬ ((b : Int) = r) → ∀ j, j < k + 1 → (by_ plainL j : Int) ≠ r) := fun b e hne j hj => by
        by_cases hjk : j = k
        · subst hjk; rw [e]; exact hne
        · exact HN.out j (by omega)
      generalize hbk : by_ plainL k = bk at *
      have HB := mk_hid hbk
      clear hbk
      by_cases hr : (bk : Int) = r
      · have hP := mk_hid (show plainB r = true from by rw [← hr]; exact plain_letter hin.out)
        have hr' : ((bk : Int) == r) = true := by simpa using hr
        clear hr
        go_wp2
        go_ret
        exact ⟨ret_bool hP.out.symm, rfl⟩
      · have HE' := mk_hid ((HE bk).out rfl hr)
        have hr' : ((bk : Int) == r) = false := by simpa using hr
        clear hr HE
        go_wp2
        go_round
        case rel => exact ⟨k + 1, by omega, by go_num, HE'.out⟩
        case measure => simp [intOf]; omega
    · obtain rfl : k = 66 := by omega
      have hP : Hid (plainB r = decide (161 ≤ r ∧ r ≠ 65533)) := by
        refine mk_hid (plain_other ?_)
        cases hl : letterB r with
        | false => rfl
        | true =>
          obtain ⟨j, hj, e⟩ := plainL_all r hl
          exact absurd e (HN.out j hj)
      by_cases h1 : 161 ≤ r
      · by_cases h2 : r = 65533
        · have h2' : (r != 65533) = false := by simpa using h2
          have hQ := mk_hid (show plainB r = false from by rw [hP.out]; simp [h2])
          clear h2
          go_wp2
          go_ret
          exact ⟨ret_bool hQ.out.symm, rfl⟩
        · have h2' : (r != 65533) = true := by simpa using h2
          have hQ := mk_hid (show plainB r = true from by rw [hP.out]; simp [h1, h2])
          clear h2
          go_wp2
          go_ret
          exact ⟨ret_bool hQ.out.symm, rfl⟩
      · have hQ := mk_hid (show plainB r = false from by rw [hP.out]; simp; omega)
        go_wp2
        go_ret
        exact ⟨ret_bool hQ.out.symm, rfl⟩

theorem rsN_bd (n b0 b1 b2 b3 : Nat) (hn : 1 ≤ n) : 0 ≤ (rsN n b0 b1 b2 b3).1 ∧ (rsN n b0 b1 b2 b3).1 ≤ n ∧ 0 ≤ (rsN n b0 b1 b2 b3).2 ∧ (rsN n b0 b1 b2 b3).2 ≤ 1114111 := by
  by_cases hb : Lib.decodeN n b0 b1 b2 b3 = (65533, 1)
  · rw [rsN_bad hb]; simp
  · have key : (Lib.decodeN n b0 b1 b2 b3).2 ≤ n ∧ (Lib.decodeN n b0 b1 b2 b3).1 ≤ 1114111 := by
      unfold Lib.decodeN
      repeat' split
      all_goals (simp only; omega)
    unfold rsN
    rw [if_neg hb]
    simp only
    omega
theorem rs_bd (s : ByteArray) (i : Nat) (h : i < s.size) : 0 ≤ (rs s i).1 ∧ (rs s i).1 + i ≤ s.size ∧ 0 ≤ (rs s i).2 ∧ (rs s i).2 ≤ 1114111 := by
  rw [rs_eq]
  have := rsN_bd (s.size - i) (by_ s i) (by_ s (i + 1)) (by_ s (i + 2)) (by_ s (i + 3)) (by omega)
  omega
/-- Are all runes from a place on whole, and so? -/
def runesOk (p : Int → Bool) (s : ByteArray) : Nat → Nat → Bool
  | 0, _ => true
  | f + 1, i => if i < s.size then (if (rs s i).1 = 0 then false else p (rs s i).2 && runesOk p s f (i + (rs s i).1.toNat)) else true
theorem runesOk_two (p : Int → Bool) (s : ByteArray) : ∀ (f g i : Nat), s.size - i ≤ f → s.size - i ≤ g → runesOk p s f i = runesOk p s g i := by
  intro f
  induction f with
  | zero =>
    intro g i hf hg
    cases g with
    | zero => rfl
    | succ g => simp only [runesOk]; rw [if_neg (by omega)]
  | succ f ih =>
    intro g i hf hg
    cases g with
    | zero => simp only [runesOk]; rw [if_neg (by omega)]
    | succ g =>
      simp only [runesOk]
      by_cases hi : i < s.size
      · rw [if_pos hi, if_pos hi]
        by_cases h0 : (rs s i).1 = 0
        · rw [if_pos h0, if_pos h0]
        · have hb := rs_bd s i hi
          rw [if_neg h0, if_neg h0, ih g _ (by omega) (by omega)]
      · rw [if_neg hi, if_neg hi]
theorem runesOk_step (p : Int → Bool) (s : ByteArray) (i : Nat) (hi : i < s.size) (h0 : (rs s i).1 ≠ 0) : runesOk p s (s.size - i) i = (p (rs s i).2 && runesOk p s (s.size - (i + (rs s i).1.toNat)) (i + (rs s i).1.toNat)) := by
  obtain ⟨m, hm⟩ : ∃ m, s.size - i = m + 1 := ⟨s.size - i - 1, by omega⟩
  have hb := rs_bd s i hi
  rw [hm]
  simp only [runesOk]
  rw [if_pos hi, if_neg h0, runesOk_two p s m (s.size - (i + (rs s i).1.toNat)) _ (by omega) (by omega)]
theorem runesOk_stop (p : Int → Bool) (s : ByteArray) (i : Nat) (hi : i < s.size) (h0 : (rs s i).1 = 0) : runesOk p s (s.size - i) i = false := by
  obtain ⟨m, hm⟩ : ∃ m, s.size - i = m + 1 := ⟨s.size - i - 1, by omega⟩
  rw [hm]
  simp only [runesOk]
  rw [if_pos hi, if_pos h0]
theorem runesOk_end (p : Int → Bool) (s : ByteArray) (i : Nat) (hi : s.size ≤ i) : runesOk p s (s.size - i) i = true := by
  rw [show s.size - i = 0 from by omega]; rfl
def keyB (s : ByteArray) : Bool := decide (1 ≤ s.size ∧ s.size ≤ 24) && runesOk plainB s s.size 0
set_option maxHeartbeats 400000 in
theorem refkey_any (s : ByteArray) (w : World) (hs : s.size ≤ 1000) :
    Calls Tryz.prog 38 #[.string s] w fun e w' => e = .returned (.bool (keyB s)) ∧ w = w' := by
  by_cases h1 : s.size < 1
  · have h1' : (s.size : Int) < 1 := by omega
    have hk : Hid (keyB s = false) := by unfold keyB; rw [decide_eq_false (by omega)]; rfl
    clear h1
    go_enter Tryz.func38, Tryz.ntmps38
    go_wp2
    go_ret
    exact ⟨ret_bool hk.out.symm, rfl⟩
  by_cases h2 : 24 < s.size
  · have h1' : ¬ (s.size : Int) < 1 := by omega
    have h2' : (24 : Int) < (s.size : Int) := by omega
    have hk : Hid (keyB s = false) := by unfold keyB; rw [decide_eq_false (by omega)]; rfl
    clear h1 h2
    go_enter Tryz.func38, Tryz.ntmps38
    go_wp2
    go_ret
    exact ⟨ret_bool hk.out.symm, rfl⟩
  have hk : Hid (keyB s = runesOk plainB s (s.size - 0) 0) := by unfold keyB; rw [decide_eq_true (by omega)]; rfl
  have h1' : ¬ (s.size : Int) < 1 := by omega
  have h2' : ¬ (24 : Int) < (s.size : Int) := by omega
  clear h1 h2
  go_enter Tryz.func38, Tryz.ntmps38
  go_wp2
  go_loop [3] (fun i => ∃ k : Nat, k ≤ s.size ∧ i = .int .i64 k ∧ keyB s = runesOk plainB s (s.size - k) k) (fun i => s.size - (intOf i).toNat)
  case atStart => exact ⟨0, by omega, rfl, hk.out⟩
  case round =>
    obtain ⟨k, hkn, rfl, hK⟩ := hrel
    have HK := mk_hid hK
    clear hK hk
    by_cases hlt : k < s.size
    · have hlt' : (k : Int) < (s.size : Int) := by omega
      have hb := rs_bd s k hlt
      by_cases h0 : (rs s k).1 = 0
      · have hF := mk_hid (HK.out.trans (runesOk_stop plainB s k hlt h0))
        have H0 := mk_hid h0
        have hz : ((rs s k).1 == 0) = true := by simpa using h0
        clear h0
        go_wp2_with (first | (go_at_call 50; refine (size_any s k _ hs hlt).mono ?_; rintro e w' ⟨rfl, rfl⟩))
        go_ret
        exact ⟨ret_bool hF.out.symm, rfl⟩
      · have hS := mk_hid (HK.out.trans (runesOk_step plainB s k hlt h0))
        have hz : ((rs s k).1 == 0) = false := by simpa using h0
        have h0' : 0 < (rs s k).1 := by omega
        clear h0
        cases hp : plainB (rs s k).2 with
        | false =>
          have hF : Hid (keyB s = false) := hS.out.trans (by rw [hp]; rfl)
          have HP := mk_hid hp
          clear hp
          go_wp2_with (first | (go_at_call 50; refine (size_any s k _ hs hlt).mono ?_; rintro e w' ⟨rfl, rfl⟩) | (go_at_call 51; refine (refplain_any _ _).mono ?_; rw [HP.out]; rintro e w' ⟨rfl, rfl⟩))
          go_ret
          exact ⟨ret_bool hF.out.symm, rfl⟩
        | true =>
          have hT : Hid (keyB s = runesOk plainB s (s.size - (k + (rs s k).1.toNat)) (k + (rs s k).1.toNat)) := hS.out.trans (by rw [hp]; rfl)
          have HP := mk_hid hp
          clear hp hS
          go_wp2_with (first | (go_at_call 50; refine (size_any s k _ hs hlt).mono ?_; rintro e w' ⟨rfl, rfl⟩) | (go_at_call 51; refine (refplain_any _ _).mono ?_; rw [HP.out]; rintro e w' ⟨rfl, rfl⟩))
          go_round
          case rel => exact ⟨k + (rs s k).1.toNat, by omega, by congr 1; omega, hT.out⟩
          case measure => simp [intOf]; omega
    · obtain rfl : k = s.size := by omega
      have hF := mk_hid (HK.out.trans (runesOk_end plainB s s.size (Nat.le_refl _)))
      go_wp2
      go_ret
      exact ⟨ret_bool hF.out.symm, rfl⟩
end Go.Proofs.YtgcjmjhdnkffcaaGreatDoor
/- The reference's values (layer 5), walked: what they answer, by the model's own decoding; no condition but lengths. -/
set_option linter.unusedVariables false
namespace Go.Proofs.YtgcjmjhdnkffcaaGreatDoor
open Go.RowKit
def okV (r : Int) : Bool := decide (32 ≤ r ∧ r ≠ 127)
def wholeB (s : ByteArray) : Bool := runesOk (fun _ => true) s s.size 0
def valB (s : ByteArray) : Bool := decide (s.size ≤ 48) && runesOk okV s s.size 0
theorem rsN_shape (n b0 b1 b2 b3 : Nat) (h0 : (rsN n b0 b1 b2 b3).1 ≠ 0) :
    ((rsN n b0 b1 b2 b3).1 = 1 ∧ (rsN n b0 b1 b2 b3).2 = b0 ∧ b0 < 128) ∨
    (128 ≤ (rsN n b0 b1 b2 b3).2 ∧ 128 ≤ b0 ∧ (1 < (rsN n b0 b1 b2 b3).1 → 128 ≤ b1) ∧ (2 < (rsN n b0 b1 b2 b3).1 → 128 ≤ b2) ∧ (3 < (rsN n b0 b1 b2 b3).1 → 128 ≤ b3) ∧ (rsN n b0 b1 b2 b3).1 ≤ 4) := by
  by_cases hb : Lib.decodeN n b0 b1 b2 b3 = (65533, 1)
  · rw [rsN_bad hb] at h0; simp at h0
  · have key : ((Lib.decodeN n b0 b1 b2 b3).2 = 1 ∧ (Lib.decodeN n b0 b1 b2 b3).1 = b0 ∧ b0 < 128) ∨
      (128 ≤ (Lib.decodeN n b0 b1 b2 b3).1 ∧ 128 ≤ b0 ∧ (1 < (Lib.decodeN n b0 b1 b2 b3).2 → 128 ≤ b1) ∧ (2 < (Lib.decodeN n b0 b1 b2 b3).2 → 128 ≤ b2) ∧ (3 < (Lib.decodeN n b0 b1 b2 b3).2 → 128 ≤ b3) ∧ (Lib.decodeN n b0 b1 b2 b3).2 ≤ 4) ∨ Lib.decodeN n b0 b1 b2 b3 = (65533, 1) := by
      unfold Lib.decodeN
      by_cases c0 : b0 < 128
      · rw [if_pos c0]; exact .inl ⟨rfl, rfl, c0⟩
      · rw [if_neg c0]
        right
        repeat' split
        all_goals first | exact .inr rfl | (refine .inl ⟨?_, ?_, ?_, ?_, ?_, ?_⟩ <;> first | omega | (simp only; omega))
    rcases key with k | k | k
    · unfold rsN; rw [if_neg hb]; simp only; omega
    · unfold rsN; rw [if_neg hb]; simp only; omega
    · exact absurd k hb
theorem val_bytes (s : ByteArray) : ∀ (f i : Nat), s.size - i ≤ f → runesOk (fun _ => true) s f i = true →
    (runesOk okV s f i = true ↔ ∀ j, i ≤ j → j < s.size → 32 ≤ by_ s j ∧ by_ s j ≠ 127) := by
  intro f
  induction f with
  | zero => intro i h _; exact ⟨fun _ j hj hs => absurd hs (by omega), fun _ => rfl⟩
  | succ f ih =>
    intro i h hw
    simp only [runesOk] at hw ⊢
    by_cases hi : i < s.size
    · rw [if_pos hi] at hw ⊢
      by_cases h0 : (rs s i).1 = 0
      · rw [if_pos h0] at hw; cases hw
      · rw [if_neg h0] at hw ⊢
        have hb := rs_bd s i hi
        have hw' : runesOk (fun _ => true) s f (i + (rs s i).1.toNat) = true := by simpa using hw
        have hih := ih _ (by omega) hw'
        have hsh := rsN_shape (s.size - i) (by_ s i) (by_ s (i + 1)) (by_ s (i + 2)) (by_ s (i + 3)) (by rw [← rs_eq]; exact h0)
        rw [← rs_eq] at hsh
        rw [Bool.and_eq_true, hih]
        constructor
        · rintro ⟨ho, hr⟩ j hj hjs
          by_cases hjn : j < i + (rs s i).1.toNat
          · rcases hsh with ⟨e1, e2, e3⟩ | ⟨e1, e2, e3, e4, e5, e6⟩
            · obtain rfl : j = i := by omega
              unfold okV at ho
              simp at ho
              omega
            · have : j = i ∨ j = i + 1 ∨ j = i + 2 ∨ j = i + 3 := by omega
              rcases this with rfl | rfl | rfl | rfl
              · omega
              · have := e3 (by omega); omega
              · have := e4 (by omega); omega
              · have := e5 (by omega); omega
          · exact hr j (by omega) hjs
        · intro hall
          refine ⟨?_, fun j hj hjs => hall j (by omega) hjs⟩
          have := hall i (Nat.le_refl _) hi
          unfold okV
          simp
          rcases hsh with ⟨e1, e2, e3⟩ | ⟨e1, _⟩ <;> omega
    · rw [if_neg hi]
      exact ⟨fun _ j hj hs => absurd hs (by omega), fun _ => rfl⟩
theorem val_whole {p : Int → Bool} (s : ByteArray) : ∀ (f i : Nat), runesOk p s f i = true → runesOk (fun _ => true) s f i = true := by
  intro f
  induction f with
  | zero => intro i _; rfl
  | succ f ih =>
    intro i h
    simp only [runesOk] at h ⊢
    by_cases hi : i < s.size
    · rw [if_pos hi] at h ⊢
      by_cases h0 : (rs s i).1 = 0
      · rw [if_pos h0] at h; cases h
      · rw [if_neg h0] at h ⊢
        simp only [Bool.and_eq_true] at h
        simpa using ih _ h.2
    · rw [if_neg hi]
set_option maxHeartbeats 400000 in
/-- The first place that is no rune's: there is one just if the text is not whole. -/
theorem refbad_any (s : ByteArray) (w : World) (hs : s.size ≤ 1000) :
    Calls Tryz.prog 52 #[.string s] w fun e w' => (∃ b : Int, e = .returned (.int .i64 b) ∧ (b < 0 ↔ wholeB s = true)) ∧ w = w' := by
  have hk : Hid (wholeB s = runesOk (fun _ => true) s (s.size - 0) 0) := rfl
  go_enter Tryz.func52, Tryz.ntmps52
  go_wp2
  go_loop [3] (fun i => ∃ k : Nat, k ≤ s.size ∧ i = .int .i64 k ∧ wholeB s = runesOk (fun _ => true) s (s.size - k) k) (fun i => s.size - (intOf i).toNat)
  case atStart => exact ⟨0, by omega, rfl, hk.out⟩
  case round =>
    obtain ⟨k, hkn, rfl, hK⟩ := hrel
    have HK := mk_hid hK
    clear hK hk
    by_cases hlt : k < s.size
    · have hlt' : (k : Int) < (s.size : Int) := by omega
      have hb := rs_bd s k hlt
      by_cases h0 : (rs s k).1 = 0
      · have hF := mk_hid (HK.out.trans (runesOk_stop (fun _ => true) s k hlt h0))
        have hz : ((rs s k).1 == 0) = true := by simpa using h0
        clear h0
        go_wp2_with (first | (go_at_call 50; refine (size_any s k _ hs hlt).mono ?_; rintro e w' ⟨rfl, rfl⟩))
        go_ret
        exact ⟨⟨k, rfl, by rw [hF.out]; simp⟩, rfl⟩
      · have hS : Hid (wholeB s = runesOk (fun _ => true) s (s.size - (k + (rs s k).1.toNat)) (k + (rs s k).1.toNat)) := HK.out.trans ((runesOk_step (fun _ => true) s k hlt h0).trans (by simp))
        have hz : ((rs s k).1 == 0) = false := by simpa using h0
        have h0' : 0 < (rs s k).1 := by omega
        clear h0
        go_wp2_with (first | (go_at_call 50; refine (size_any s k _ hs hlt).mono ?_; rintro e w' ⟨rfl, rfl⟩))
        go_round
        case rel => exact ⟨k + (rs s k).1.toNat, by omega, by congr 1; omega, hS.out⟩
        case measure => simp [intOf]; omega
    · obtain rfl : k = s.size := by omega
      have hF := mk_hid (HK.out.trans (runesOk_end (fun _ => true) s s.size (Nat.le_refl _)))
      go_wp2
      go_ret
      exact ⟨⟨-1, rfl, by rw [hF.out]; simp⟩, rfl⟩
set_option maxHeartbeats 400000 in
theorem refval_any (s : ByteArray) (w : World) (hs : s.size ≤ 1000) :
    Calls Tryz.prog 39 #[.string s] w fun e w' => e = .returned (.bool (valB s)) ∧ w = w' := by
  by_cases h1 : 48 < s.size
  · have h1' : (48 : Int) < (s.size : Int) := by omega
    have hk : Hid (valB s = false) := by unfold valB; rw [decide_eq_false (by omega)]; rfl
    clear h1
    go_enter Tryz.func39, Tryz.ntmps39
    go_wp2
    go_ret
    exact ⟨ret_bool hk.out.symm, rfl⟩
  have h1' : ¬ (48 : Int) < (s.size : Int) := by omega
  have hV : Hid (valB s = runesOk okV s s.size 0) := by unfold valB; rw [decide_eq_true (by omega)]; rfl
  clear h1
  cases hw : wholeB s with
  | false =>
    have hk : Hid (valB s = false) := by
      refine mk_hid (hV.out.trans ?_)
      cases hr : runesOk okV s s.size 0 with
      | false => rfl
      | true => unfold wholeB at hw; rw [val_whole s _ _ hr] at hw; cases hw
    have HW := mk_hid hw
    clear hw
    go_enter Tryz.func39, Tryz.ntmps39
    go_wp2_with fail
    refine (refbad_any s _ hs).mono ?_
    rintro e w' ⟨⟨b, rfl, hb⟩, rfl⟩
    have hb0 : 0 ≤ b := by rw [HW.out] at hb; simp at hb; exact hb
    clear hb
    go_wp2
    go_ret
    exact ⟨ret_bool hk.out.symm, rfl⟩
  | true =>
    have HB := mk_hid (val_bytes s s.size 0 (by omega) hw)
    have HW := mk_hid hw
    clear hw
    go_enter Tryz.func39, Tryz.ntmps39
    go_wp2_with fail
    refine (refbad_any s _ hs).mono ?_
    rintro e w' ⟨⟨b, rfl, hb⟩, rfl⟩
    have hb0 : ¬ 0 ≤ b := by rw [HW.out] at hb; simp at hb; omega
    clear hb
    go_wp2
    go_loop [3] (fun i => ∃ k : Nat, k ≤ s.size ∧ i = .int .i64 k ∧ ∀ j, j < k → 32 ≤ by_ s j ∧ by_ s j ≠ 127) (fun i => s.size - (intOf i).toNat)
    case atStart => exact ⟨0, by omega, rfl, fun j hj => absurd hj (by omega)⟩
    case round =>
      obtain ⟨k, hkn, rfl, hK⟩ := hrel
      have HK := mk_hid hK
      clear hK
      by_cases hlt : k < s.size
      · have hlt' : (k : Int) < (s.size : Int) := by omega
        have hI : ∀ W, (Instr.index 9 (.string s) (.int .i64 (k : Int))).run Tryz.prog W = .ok (.int .u8 (by_ s k : Nat)) W := fun W => run_byte s k 9 Tryz.underlying9 hlt W
        have hF : (by_ s k < 32 ∨ by_ s k = 127) → Hid (valB s = false) := fun hbad => by
          refine mk_hid (hV.out.trans ?_)
          cases hr : runesOk okV s s.size 0 with
          | false => rfl
          | true => have := HB.out.1 hr k (by omega) hlt; omega
        have hT : (¬ (by_ s k < 32 ∨ by_ s k = 127)) → Hid (∀ j, j < k + 1 → 32 ≤ by_ s j ∧ by_ s j ≠ 127) := fun hgood => by
          refine mk_hid fun j hj => ?_
          by_cases hjk : j = k
          · subst hjk; omega
          · exact HK.out j (by omega)
        have HF := mk_hid hF
        have HT := mk_hid hT
        clear hF hT
        generalize by_ s k = b at *
        by_cases c1 : b < 32
        · have hk := HF.out (.inl c1)
          have c1' : (b : Int) < 32 := by omega
          go_wp2
          go_ret
          exact ⟨ret_bool hk.out.symm, rfl⟩
        · have c1' : ¬ (b : Int) < 32 := by omega
          by_cases c2 : b = 127
          · have hk := HF.out (.inr c2)
            have c2' : ((b : Int) == 127) = true := by simp; omega
            clear c2
            go_wp2
            go_ret
            exact ⟨ret_bool hk.out.symm, rfl⟩
          · have hk := HT.out (by omega)
            have c2' : ((b : Int) == 127) = false := by simp; omega
            clear c2
            go_wp2
            go_round
            case rel => exact ⟨k + 1, by omega, by go_num, hk.out⟩
            case measure => simp [intOf]; omega
      · obtain rfl : k = s.size := by omega
        have hk : Hid (valB s = true) := mk_hid (hV.out.trans (HB.out.2 fun j _ hj => HK.out j hj))
        go_wp2
        go_ret
        exact ⟨ret_bool hk.out.symm, rfl⟩
end Go.Proofs.YtgcjmjhdnkffcaaGreatDoor
