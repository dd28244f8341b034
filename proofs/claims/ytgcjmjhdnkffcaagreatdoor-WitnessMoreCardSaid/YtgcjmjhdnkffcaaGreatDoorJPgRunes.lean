/- The program's texts (layer 5: runes), walked: what may be a key, and a value; no condition but lengths and the library's tables. -/
import Derived.Test.YtgcjmjhdnkffcaaGreatDoorJRefKey
import Derived.Test.YtgcjmjhdnkffcaaGreatDoorJLay
import Derived.Lib.OthersKept
set_option linter.unusedVariables false
namespace Go.Proofs.YtgcjmjhdnkffcaaGreatDoor
open Go.RowKit
/-- utf8's two tables, as laid. -/
def Tabs (w : World) : Prop := Lib.Utf8Tabs 0 1 w
theorem Tabs.only {S : Nat → Prop} {w w' : World} (h : Tabs w) (ho : Only S w w') (h1 : ¬ S 0) (h2 : ¬ S 1) : Tabs w' :=
  ⟨fun c hc => ho.cell (h.1 c hc) h1, fun i hi => ⟨ho.cell (h.2 i hi).1 h2, ho.cell (h.2 i hi).2 h2⟩⟩
theorem Tabs.none {w w' : World} (h : Tabs w) (ho : Only nob w w') : Tabs w' := h.only ho (fun h => h) (fun h => h)
theorem Only.iterAt {S : Nat → Prop} {w w' : World} (h : Only S w w') {k : Nat} (hk : w.heap.size ≤ k) (s : ByteArray) (pos : Nat) : Only S w (w'.iterAt k s pos) :=
  ⟨h.os, h.tape, h.output, by rw [Lib.iterAt_size]; exact h.size, fun i hi hs => (Lib.iterAt_other w' k i s pos (by omega)).trans (h.block i hi hs)⟩
set_option maxHeartbeats 1000000 in
theorem plain_any (r : Int) (w : World) : Calls Tryz.prog 102 #[.int .i32 r] w fun e w' => e = .returned (.bool (plainB r)) ∧ w = w' := by
  go_enter Tryz.func102, Tryz.ntmps102
  go_wp2
  all_goals
    go_ret
    refine ⟨ret_bool ?_, rfl⟩
    rw [Bool.eq_iff_iff]
    simp [plainB, letterB] at *
    omega
theorem okV_any (r : Int) (w : World) : Calls Tryz.prog 103 #[.int .i32 r] w fun e w' => e = .returned (.bool (okV r)) ∧ w = w' := by
  go_enter Tryz.func103, Tryz.ntmps103
  go_wp2
  all_goals
    go_ret
    refine ⟨ret_bool ?_, rfl⟩
    rw [Bool.eq_iff_iff]
    simp [okV] at *
    omega
/-- Are all runes from a place on so, as the model decodes (a byte that is none's: 65533)? -/
def allR (p : Int → Bool) (s : ByteArray) : Nat → Nat → Bool
  | 0, _ => true
  | f + 1, i => if i < s.size then p (Utf8.decode s i).1 && allR p s f (i + (Utf8.decode s i).2) else true
theorem dec_pos (s : ByteArray) (pos : Nat) (h : pos < s.size) : 1 ≤ (Utf8.decode s pos).2 := by
  by_cases ha : (s[pos]'h).toNat < 128
  · rw [decode_ascii s pos h ha]
    exact Nat.le_refl _
  · exact (decode_high s pos h (by omega)).2
theorem allR_two (p : Int → Bool) (s : ByteArray) : ∀ (f g i : Nat), s.size - i ≤ f → s.size - i ≤ g → allR p s f i = allR p s g i := by
  intro f
  induction f with
  | zero =>
    intro g i hf hg
    cases g with
    | zero => rfl
    | succ g => simp only [allR]; rw [if_neg (by omega)]
  | succ f ih =>
    intro g i hf hg
    cases g with
    | zero => simp only [allR]; rw [if_neg (by omega)]
    | succ g =>
      simp only [allR]
      by_cases hi : i < s.size
      · have := dec_pos s i hi
        rw [if_pos hi, if_pos hi, ih g _ (by omega) (by omega)]
      · rw [if_neg hi, if_neg hi]
theorem allR_step (p : Int → Bool) (s : ByteArray) (i : Nat) (hi : i < s.size) : allR p s (s.size - i) i = (p (Utf8.decode s i).1 && allR p s (s.size - (i + (Utf8.decode s i).2)) (i + (Utf8.decode s i).2)) := by
  obtain ⟨m, hm⟩ : ∃ m, s.size - i = m + 1 := ⟨s.size - i - 1, by omega⟩
  have := dec_pos s i hi
  rw [hm]
  simp only [allR]
  rw [if_pos hi, allR_two p s m (s.size - (i + (Utf8.decode s i).2)) _ (by omega) (by omega)]
theorem runesOk_all (p : Int → Bool) (s : ByteArray) : ∀ (f i : Nat), runesOk p s f i = (runesOk (fun _ => true) s f i && (if runesOk (fun _ => true) s f i then allR p s f i else true)) := by
  intro f
  induction f with
  | zero => intro i; rfl
  | succ f ih =>
    intro i
    simp only [runesOk, allR]
    by_cases hi : i < s.size
    · rw [if_pos hi, if_pos hi, if_pos hi]
      by_cases h0 : (rs s i).1 = 0
      · rw [if_pos h0, if_pos h0]; rfl
      · rw [if_neg h0, if_neg h0]
        have hne : ¬ Utf8.decode s i = (65533, 1) := fun e => h0 (by unfold rs; rw [if_pos e])
        have e : rs s i = (((Utf8.decode s i).2 : Int), ((Utf8.decode s i).1 : Int)) := by unfold rs; rw [if_neg hne]
        rw [e]
        simp only [Int.toNat_natCast, Bool.true_and]
        rw [ih]
        cases runesOk (fun _ => true) s f (i + (Utf8.decode s i).2) <;> cases p (Utf8.decode s i).1 <;> simp
    · rw [if_neg hi, if_neg hi, if_neg hi]; rfl
theorem dec_rs (s : ByteArray) (i : Nat) (h : i < s.size) : (Utf8.decode s i).1 ≤ 1114111 := by
  by_cases hne : Utf8.decode s i = (65533, 1)
  · rw [hne]; omega
  · have := (rs_bd s i h).2.2.2
    unfold rs at this; rw [if_neg hne] at this; simp only at this; omega
theorem dec_le (s : ByteArray) (i : Nat) (h : i < s.size) : i + (Utf8.decode s i).2 ≤ s.size := by
  by_cases hne : Utf8.decode s i = (65533, 1)
  · rw [hne]; simp only; omega
  · have := (rs_bd s i h).2.1
    unfold rs at this; rw [if_neg hne] at this; simp only at this; omega
set_option maxRecDepth 100000 in
set_option maxHeartbeats 4000000 in
/-- 'all' at a function of runes that only computes. -/
theorem all_of (g : Nat) (p : Int → Bool) (hg : ∀ (r : Int) (w : World), Calls Tryz.prog g #[.int .i32 r] w fun e w' => e = .returned (.bool (p r)) ∧ w = w') (eg : ∀ args w, (callFunc g args).run Tryz.prog w = .ok (.enter g args) w) (s : ByteArray) (w : World) (hs : s.size ≤ 1000) :
    Calls Tryz.prog 101 #[.string s, .func (.func g) #[] #[]] w fun e w' => e = .returned (.bool (allR p s s.size 0)) ∧ Only nob w w' := by
  have hk : Hid (allR p s s.size 0 = allR p s (s.size - 0) 0) := rfl
  go_enter Tryz.func101, Tryz.ntmps101
  go_wp2
  go_loopw [] (fun wr => ∃ pos : Nat, pos ≤ s.size ∧ wr.heap[w.heap.size]? = some (.stringIter s pos) ∧ Only nob w wr ∧ allR p s s.size 0 = allR p s (s.size - pos) pos) (fun wr => s.size - wr.iterPos w.heap.size)
  case atStart => exact ⟨0, by omega, World.iter_heap w s 0, ((Only.refl nob w).alloc _), hk.out⟩
  case round =>
    obtain ⟨pos, hps, hit, hO, hK⟩ := hrel
    have HK := mk_hid hK
    clear hK hk
    have hsz : w.heap.size < wr.heap.size := (Array.getElem?_eq_some_iff.1 hit).1
    by_cases hp : pos < s.size
    · have hnx : ∀ ty, (Instr.next (.pointer (some ⟨w.heap.size, 0, none⟩)) true ty).run Tryz.prog wr = _ := fun ty => Lib.run_next_any_at wr w.heap.size s pos ty hit hp
      have hit2 := Lib.iterAt_heap wr w.heap.size s pos (pos + (Utf8.decode s pos).2) hit
      have HS := mk_hid (HK.out.trans (allR_step p s pos hp))
      have hO2 := hO.iterAt (Nat.le_refl _) s (pos + (Utf8.decode s pos).2)
      have hd1 := dec_pos s pos hp
      have hd2 := dec_le s pos hp
      cases hb : p (Utf8.decode s pos).1 with
      | false =>
        have HB := mk_hid hb
        have HF : Hid (allR p s s.size 0 = false) := mk_hid (HS.out.trans (by rw [HB.out]; rfl))
        clear hb
        go_wp2_with (first | (go_at_fn g; refine (hg _ _).mono ?_; rw [HB.out]; rintro e w' ⟨rfl, rfl⟩))
        go_ret
        exact ⟨ret_bool HF.out.symm, hO2⟩
      | true =>
        have HB := mk_hid hb
        have HT : Hid (allR p s s.size 0 = allR p s (s.size - (pos + (Utf8.decode s pos).2)) (pos + (Utf8.decode s pos).2)) := mk_hid (HS.out.trans (by rw [HB.out]; rfl))
        clear hb
        go_wp2_with (first | (go_at_fn g; refine (hg _ _).mono ?_; rw [HB.out]; rintro e w' ⟨rfl, rfl⟩))
        go_roundw
        case rel => exact ⟨pos + (Utf8.decode s pos).2, hd2, hit2, hO2, HT.out⟩
        case measure => simp only [World.iterPos, hit, hit2]; omega
    · have hnx : ∀ ty, (Instr.next (.pointer (some ⟨w.heap.size, 0, none⟩)) true ty).run Tryz.prog wr = _ := fun ty => Lib.run_next_end_at wr w.heap.size s pos ty hit hp
      have HE : Hid (allR p s s.size 0 = true) := mk_hid (HK.out.trans (by rw [show s.size - pos = 0 from by omega]; rfl))
      go_wp2
      go_ret
      exact ⟨ret_bool HE.out.symm, hO⟩
end Go.Proofs.YtgcjmjhdnkffcaaGreatDoor
