/- The program's texts (layer 5: runes), walked: keys and values. No condition but lengths and the library's tables. -/
import Derived.Test.YtgcjmjhdnkffcaaGreatDoorJPgRunes
import Derived.Lib.TrimUEq
set_option linter.unusedVariables false
namespace Go.Proofs.YtgcjmjhdnkffcaaGreatDoor
open Go.RowKit
theorem decGo_tail (s : ByteArray) (pos : Nat) (h : pos < s.size) : Lib.decodeGo (s.extract pos s.size) = Utf8.decode s pos := by
  have hx : (s.extract pos s.size).data.toList = s.data.toList.drop pos := by
    rw [Lib.extract_data, List.take_of_length_le (by rw [List.length_drop, ← Lib.size_eq]; omega)]
  have hsz : (s.extract pos s.size).size ≠ 0 := by rw [Lib.size_eq, hx, List.length_drop, ← Lib.size_eq]; omega
  unfold Lib.decodeGo
  rw [if_neg hsz, ← Lib.decodeL_drop s pos, ← hx]
  rfl
theorem slow_dec (s : ByteArray) (pos : Nat) (w : World) (h : pos < s.size) (hT : Tabs w) : Calls Tryz.prog 107 #[.string (s.extract pos s.size)] w fun e w' => e = .returned (.tuple #[.int .i32 (Utf8.decode s pos).1, .int .i64 (Utf8.decode s pos).2]) ∧ Only nob w w' := by
  have := Any.utf8_DecodeRuneInString Tryz.layDec (s.extract pos s.size) w hT
  rw [decGo_tail s pos h] at this
  exact this.mono fun e w' ⟨h1, h2⟩ => ⟨h1, below_none h2⟩
set_option maxRecDepth 100000 in
set_option maxHeartbeats 4000000 in
theorem bad_any (s : ByteArray) (w : World) (hs : s.size ≤ 1000) (hT : Tabs w) :
    Calls Tryz.prog 106 #[.string s] w fun e w' => (∃ b : Int, e = .returned (.int .i64 b) ∧ decide (b < 0) = wholeB s) ∧ Only nob w w' := by
  have hk : Hid (wholeB s = runesOk (fun _ => true) s (s.size - 0) 0) := rfl
  have HT := mk_hid (fun w' (ho : Only nob w w') => hT.none ho)
  clear hT
  go_enter Tryz.func106, Tryz.ntmps106
  go_wp2
  go_loopw [] (fun wr => ∃ pos : Nat, pos ≤ s.size ∧ wr.heap[w.heap.size]? = some (.stringIter s pos) ∧ Only nob w wr ∧ wholeB s = runesOk (fun _ => true) s (s.size - pos) pos) (fun wr => s.size - wr.iterPos w.heap.size)
  case atStart => exact ⟨0, by omega, World.iter_heap w s 0, ((Only.refl nob w).alloc _), hk.out⟩
  case round =>
    obtain ⟨pos, hps, hit, hO, hK⟩ := hrel
    have HK := mk_hid hK
    clear hK hk
    have hsz : w.heap.size < wr.heap.size := (Array.getElem?_eq_some_iff.1 hit).1
    by_cases hp : pos < s.size
    · have hnx : ∀ ty, (Instr.next (.pointer (some ⟨w.heap.size, 0, none⟩)) true ty).run Tryz.prog wr = _ := fun ty => Lib.run_next_any_at wr w.heap.size s pos ty hit hp
      have hit2 := Lib.iterAt_heap wr w.heap.size s pos (pos + (Utf8.decode s pos).2) hit
      have hO2 := hO.iterAt (Nat.le_refl _) s (pos + (Utf8.decode s pos).2)
      have hd1 := dec_pos s pos hp
      have hd2 := dec_le s pos hp
      have h0 : (0 : Int) ≤ (pos : Int) := by omega
      have h1 : (pos : Int) ≤ (s.size : Int) := by omega
      by_cases hr : (Utf8.decode s pos).1 = 65533
      · have hr' : ((((Utf8.decode s pos).1 : Nat) : Int) != 65533) = false := by simp; omega
        by_cases hn : (Utf8.decode s pos).2 = 1
        · have hn' : ((((Utf8.decode s pos).2 : Nat) : Int) == 1) = true := by simp; omega
          have HF : Hid (wholeB s = false) := mk_hid (HK.out.trans (runesOk_stop _ s pos hp (by unfold rs; rw [if_pos (Prod.ext hr hn)])))
          have HSD := mk_hid (fun W hW => slow_dec s pos W hp hW)
          clear hr hn
          go_wp2_with (first | (go_at_call 107; refine (HSD.out _ (HT.out _ hO2)).mono ?_; rintro e w2 ⟨rfl, ho⟩))
          go_ret
          exact ⟨⟨pos, rfl, by rw [HF.out]; simp⟩, hO2.trans ho⟩
        · have hn' : ((((Utf8.decode s pos).2 : Nat) : Int) == 1) = false := by simp; omega
          have hne : ¬ Utf8.decode s pos = (65533, 1) := fun e => hn (by rw [e])
          have e : rs s pos = (((Utf8.decode s pos).2 : Int), ((Utf8.decode s pos).1 : Int)) := by unfold rs; rw [if_neg hne]
          have HS : Hid (wholeB s = runesOk (fun _ => true) s (s.size - (pos + (Utf8.decode s pos).2)) (pos + (Utf8.decode s pos).2)) := mk_hid (HK.out.trans ((runesOk_step (fun _ => true) s pos hp (by rw [e]; simp only; omega)).trans (by rw [e]; simp)))
          have HSD := mk_hid (fun W hW => slow_dec s pos W hp hW)
          clear hr hn hne e
          go_wp2_with (first | (go_at_call 107; refine (HSD.out _ (HT.out _ hO2)).mono ?_; rintro e w2 ⟨rfl, ho⟩))
          go_roundw
          case rel => exact ⟨pos + (Utf8.decode s pos).2, hd2, ho.heap hit2 (fun h => h), hO2.trans ho, HS.out⟩
          case measure => simp only [World.iterPos, hit, ho.heap hit2 (fun h => h)]; omega
      · have hr' : ((((Utf8.decode s pos).1 : Nat) : Int) != 65533) = true := by simp; omega
        have hne : ¬ Utf8.decode s pos = (65533, 1) := fun e => hr (by rw [e])
        have e : rs s pos = (((Utf8.decode s pos).2 : Int), ((Utf8.decode s pos).1 : Int)) := by unfold rs; rw [if_neg hne]
        have HS : Hid (wholeB s = runesOk (fun _ => true) s (s.size - (pos + (Utf8.decode s pos).2)) (pos + (Utf8.decode s pos).2)) := mk_hid (HK.out.trans ((runesOk_step (fun _ => true) s pos hp (by rw [e]; simp only; omega)).trans (by rw [e]; simp)))
        clear hr hne e
        go_wp2
        go_roundw
        case rel => exact ⟨pos + (Utf8.decode s pos).2, hd2, hit2, hO2, HS.out⟩
        case measure => simp only [World.iterPos, hit, hit2]; omega
    · have hnx : ∀ ty, (Instr.next (.pointer (some ⟨w.heap.size, 0, none⟩)) true ty).run Tryz.prog wr = _ := fun ty => Lib.run_next_end_at wr w.heap.size s pos ty hit hp
      have HE : Hid (wholeB s = true) := mk_hid (HK.out.trans (by rw [show s.size - pos = 0 from by omega]; rfl))
      go_wp2
      go_ret
      exact ⟨⟨-1, rfl, by rw [HE.out]; simp⟩, hO⟩
theorem whole_any (s : ByteArray) (w : World) (hs : s.size ≤ 1000) (hT : Tabs w) :
    Calls Tryz.prog 100 #[.string s] w fun e w' => e = .returned (.bool (wholeB s)) ∧ Only nob w w' := by
  go_enter Tryz.func100, Tryz.ntmps100
  go_wp2_with (first | (go_at_call 106; refine (bad_any s _ hs hT).mono ?_; rintro e w2 ⟨⟨b, rfl, hb⟩, ho⟩))
  go_ret
  exact ⟨rfl, ho⟩
theorem key_eq (s : ByteArray) (h1 : 1 ≤ s.size) (h2 : s.size ≤ 24) : keyB s = (wholeB s && (if wholeB s then allR plainB s s.size 0 else true)) := by
  unfold keyB wholeB; rw [decide_eq_true ⟨h1, h2⟩, Bool.true_and]; exact runesOk_all _ _ _ _
theorem val_eq (s : ByteArray) (h2 : s.size ≤ 48) : valB s = (wholeB s && (if wholeB s then allR okV s s.size 0 else true)) := by
  unfold valB wholeB; rw [decide_eq_true h2, Bool.true_and]; exact runesOk_all _ _ _ _
theorem empty_tl (s : ByteArray) (h : s.size = 0) : s.toList = [] := by
  rw [Lib.toList_data]; exact List.eq_nil_of_length_eq_zero (by rw [← Lib.size_eq]; exact h)
theorem full_tl (s : ByteArray) (h : 1 ≤ s.size) : s.toList.isEmpty = false := by
  rw [Lib.toList_data]
  cases hx : s.data.toList with
  | nil => exact absurd (show s.size = 0 by rw [Lib.size_eq, hx]; rfl) (by omega)
  | cons _ _ => rfl
set_option maxHeartbeats 1000000 in
theorem key_any (s : ByteArray) (w : World) (hs : s.size ≤ 1000) (hT : Tabs w) :
    Calls Tryz.prog 85 #[.string s] w fun e w' => e = .returned (.bool (keyB s)) ∧ Only nob w w' := by
  by_cases h1 : 1 ≤ s.size
  · have he := full_tl s h1
    by_cases h2 : s.size ≤ 24
    · have h2' : decide ((s.size : Int) ≤ 24) = true := by simp; omega
      have HE := mk_hid (key_eq s h1 h2)
      clear h1 h2
      cases hw : wholeB s with
      | false =>
        have HW := mk_hid hw
        have HF : Hid (keyB s = false) := mk_hid (HE.out.trans (by rw [HW.out]; rfl))
        clear hw
        go_enter Tryz.func85, Tryz.ntmps85
        go_wp2_with (first | (go_at_call 100; refine (whole_any s _ hs hT).mono ?_; rw [HW.out]; rintro e w2 ⟨rfl, ho⟩))
        go_ret
        exact ⟨ret_bool HF.out.symm, ho⟩
      | true =>
        have HW := mk_hid hw
        have HF : Hid (keyB s = allR plainB s s.size 0) := mk_hid (HE.out.trans (by rw [HW.out]; simp))
        clear hw
        go_enter Tryz.func85, Tryz.ntmps85
        go_wp2_with (first | (go_at_call 100; refine (whole_any s _ hs hT).mono ?_; rw [HW.out]; rintro e w2 ⟨rfl, ho⟩) | (go_at_call 101; refine (all_of 102 plainB plain_any (enters_of Tryz.func102 (by kernel_rfl) rfl) s _ hs).mono ?_; rintro e w3 ⟨rfl, ho3⟩))
        go_ret
        exact ⟨ret_bool HF.out.symm, ho.trans ho3⟩
    · have h2' : decide ((s.size : Int) ≤ 24) = false := by simp; omega
      have HF : Hid (keyB s = false) := mk_hid (by unfold keyB; rw [decide_eq_false (by omega)]; rfl)
      clear h1 h2
      go_enter Tryz.func85, Tryz.ntmps85
      go_wp2
      go_ret
      exact ⟨ret_bool HF.out.symm, Only.refl _ _⟩
  · have he := empty_tl s (by omega)
    have HF : Hid (keyB s = false) := mk_hid (by unfold keyB; rw [decide_eq_false (by omega)]; rfl)
    clear h1
    go_enter Tryz.func85, Tryz.ntmps85
    go_wp2
    go_ret
    exact ⟨ret_bool HF.out.symm, Only.refl _ _⟩
set_option maxHeartbeats 1000000 in
theorem val_any (s : ByteArray) (w : World) (hs : s.size ≤ 1000) (hT : Tabs w) :
    Calls Tryz.prog 87 #[.string s] w fun e w' => e = .returned (.bool (valB s)) ∧ Only nob w w' := by
  by_cases h2 : s.size ≤ 48
  · have h2' : decide ((s.size : Int) ≤ 48) = true := by simp; omega
    have HE := mk_hid (val_eq s h2)
    clear h2
    cases hw : wholeB s with
    | false =>
      have HW := mk_hid hw
      have HF : Hid (valB s = false) := mk_hid (HE.out.trans (by rw [HW.out]; rfl))
      clear hw
      go_enter Tryz.func87, Tryz.ntmps87
      go_wp2_with (first | (go_at_call 100; refine (whole_any s _ hs hT).mono ?_; rw [HW.out]; rintro e w2 ⟨rfl, ho⟩))
      go_ret
      exact ⟨ret_bool HF.out.symm, ho⟩
    | true =>
      have HW := mk_hid hw
      have HF : Hid (valB s = allR okV s s.size 0) := mk_hid (HE.out.trans (by rw [HW.out]; simp))
      clear hw
      go_enter Tryz.func87, Tryz.ntmps87
      go_wp2_with (first | (go_at_call 100; refine (whole_any s _ hs hT).mono ?_; rw [HW.out]; rintro e w2 ⟨rfl, ho⟩) | (go_at_call 101; refine (all_of 103 okV okV_any (enters_of Tryz.func103 (by kernel_rfl) rfl) s _ hs).mono ?_; rintro e w3 ⟨rfl, ho3⟩))
      go_ret
      exact ⟨ret_bool HF.out.symm, ho.trans ho3⟩
  · have h2' : decide ((s.size : Int) ≤ 48) = false := by simp; omega
    have HF : Hid (valB s = false) := mk_hid (by unfold valB; rw [decide_eq_false (by omega)]; rfl)
    clear h2
    go_enter Tryz.func87, Tryz.ntmps87
    go_wp2
    go_ret
    exact ⟨ret_bool HF.out.symm, Only.refl _ _⟩
end Go.Proofs.YtgcjmjhdnkffcaaGreatDoor
