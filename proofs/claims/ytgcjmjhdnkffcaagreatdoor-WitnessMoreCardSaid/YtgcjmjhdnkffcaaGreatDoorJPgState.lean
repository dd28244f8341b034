/- The program's machine (layer 29: spec): its state. No condition but lengths of keys. -/
import Derived.Test.YtgcjmjhdnkffcaaGreatDoorJPgSorted
import Derived.Test.YtgcjmjhdnkffcaaGreatDoorJRefRun
import Derived.Deep.RegionLaw
import Derived.Deep.DeepCutAuto
set_option linter.unusedVariables false
set_option linter.unusedSimpArgs false
namespace Go.Proofs.YtgcjmjhdnkffcaaGreatDoor
open Go.RowKit
def sessAt (d : Nat → Int × Ans) (i : Nat) : List Sess := if 0 < (d i).1 then [⟨(i : Int), (d i).1, (d i).2⟩] else []
def sessP (d : Nat → Int × Ans) (k : Nat) : List Sess := (List.range k).flatMap (sessAt d)
theorem sessP_succ (d : Nat → Int × Ans) (k : Nat) : sessP d (k + 1) = sessP d k ++ sessAt d k := by simp [sessP, List.range_succ]
def StatePost (w : World) (M : Mach) (e : Ending) (w' : World) : Prop :=
  (∃ (sch : Int) (A : Option Addr) (n c : Nat) (B : Option Addr) (d : Nat), e = .returned (.agg #[.int .i64 sch, .slice A n c, .slice B (sessP M.done 9).length d]) ∧ SlOf Sess.cells 8 w' B (sessP M.done 9).length (sessP M.done 9) ∧ (∀ x, B = some x → w.heap.size ≤ x.block)) ∧ Only nob w w'
theorem index_last (d : Nat → Int × Ans) (k : Nat) (hk : k < 9) (q : Int) (a : Ans) (hq : d k = (q, a)) (W : World) :
    (Instr.index 83 (.agg (doneC d).toArray) (.int .i64 (k : Int))).run Tryz.prog W = .ok (.agg #[.int .i64 q, .int .i64 a.client, .int .i64 a.seq, .int .i64 a.err, .bool a.found, .string a.val, .int .i64 a.rev]) W := by
  have e : (Instr.index 83 (.agg (doneC d).toArray) (.int .i64 (k : Int))).run Tryz.prog W = .ok (.agg #[.int .i64 (d k).1, .int .i64 (d k).2.client, .int .i64 (d k).2.seq, .int .i64 (d k).2.err, .bool (d k).2.found, .string (d k).2.val, .int .i64 (d k).2.rev]) W := by
    rcases (show k = 0 ∨ k = 1 ∨ k = 2 ∨ k = 3 ∨ k = 4 ∨ k = 5 ∨ k = 6 ∨ k = 7 ∨ k = 8 from by omega) with rfl | rfl | rfl | rfl | rfl | rfl | rfl | rfl | rfl <;> kernel_rfl
  rw [e, hq]
theorem infoSess2 : (Tryz.prog.info? 66).map (fun i => (i.zero, i.size, i.bytes)) = some (some (.agg #[.int .i64 0, .int .i64 0, .int .i64 0, .int .i64 0, .int .i64 0, .bool false, .string ⟨#[]⟩, .int .i64 0]), 8, 72) := by kernel_rfl
/-- The second loop's memory. -/
structure SeM (w wr : World) (sch : Int) (vp : Value) (v : Value) (l : List Sess) : Prop where
  only : Only nob w wr
  b0 : wr.heap[w.heap.size]? = some (.cells #[.int .i64 0, .slice none 0 0, .slice none 0 0] 39 (0, 0))
  b1 : wr.heap[w.heap.size + 1]? = some (.cells #[.int .i64 sch, vp, v] 39 (0, 0))
  own : wr.ownsRow (w.heap.size + 1 + 1) 66 8 v l.length (l.flatMap Sess.cells)
theorem SeM.go {w wr w1 : World} {sch : Int} {vp v : Value} {l : List Sess} (h : SeM w wr sch vp v l) (ho : Only nob wr w1) : SeM w w1 sch vp v l :=
  ⟨h.only.trans ho, ho.heap h.b0 (fun hs => hs), ho.heap h.b1 (fun hs => hs), own_only h.own ho (fun _ _ hs => hs)⟩
theorem SeM.app {w W w1 : World} {sch : Int} {vp v v1 : Value} {l : List Sess} {p : Sess} (h : SeM w W sch vp v l) (ho : w1.ownsRow (w.heap.size + 1 + 1) 66 8 v1 (l.length + 1) (l.flatMap Sess.cells ++ p.cells)) (hg : W.grownBy w1 v.ownBlock) :
    SeM w (w1.setCell ⟨w.heap.size + 1, 2, none⟩ v1) sch vp v1 (l ++ [p]) := by
  have hgo : ∀ i, v.ownBlock = some i → w.heap.size + 1 + 1 ≤ i := fun i hi => own_ge h.own i hi
  have hgo1 : ∀ i, v1.ownBlock = some i → w.heap.size + 1 + 1 ≤ i := fun i hi => own_ge ho i hi
  have hon : Only (fun i => v.ownBlock = some i) W w1 := Only.of_grown hg (fun k hk => hk)
  have hst : Only (fun i => i = w.heap.size + 1) w1 (w1.setCell ⟨w.heap.size + 1, 2, none⟩ v1) := (Only.refl (fun i => i = w.heap.size + 1) w1).set (p := ⟨w.heap.size + 1, 2, none⟩) (.inl rfl) _
  have b1' := hon.heap h.b1 (fun e => by have := hgo _ e; omega)
  refine ⟨((only_grown h.only hg (fun i hi => .inl (by have := hgo i hi; omega))).then hst (fun i hi e => by omega)), hst.heap (hon.heap h.b0 (fun e => by have := hgo _ e; omega)) (by omega), cells_set b1' 2 v1, ?_⟩
  rw [flat_snoc, List.length_append]
  exact own_only ho hst (fun k hk e => by have := hgo1 k hk; omega)
theorem sess_len (d : Nat → Int × Ans) (k : Nat) : (sessP d k).length ≤ k := by
  induction k with
  | zero => simp [sessP]
  | succ k ih =>
    rw [sessP_succ, List.length_append]
    have : (sessAt d k).length ≤ 1 := by unfold sessAt; split <;> simp
    omega
/-- The first loop's memory. -/
structure StM (w wr : World) (sch : Int) (G : Option Addr) (ss : List (List UInt8)) (v : Value) (j : Nat) (xs : List Value) : Prop where
  only : Only nob w wr
  b0 : wr.heap[w.heap.size]? = some (.cells #[.int .i64 0, .slice none 0 0, .slice none 0 0] 39 (0, 0))
  b1 : wr.heap[w.heap.size + 1]? = some (.cells #[.int .i64 sch, v, .slice none 0 0] 39 (0, 0))
  own : wr.ownsRow (w.heap.size + 1 + 1) 94 3 v j xs
  str : SlOf (fun l => [encStr l]) 1 wr G ss.length ss
  gne : 0 < ss.length → ∀ x, G = some x → v.ownBlock ≠ some x.block ∧ w.heap.size + 1 + 1 ≤ x.block
theorem StM.go {w wr w1 : World} {sch : Int} {G : Option Addr} {ss : List (List UInt8)} {v : Value} {j : Nat} {xs : List Value} (h : StM w wr sch G ss v j xs) (ho : Only nob wr w1) : StM w w1 sch G ss v j xs :=
  ⟨h.only.trans ho, ho.heap h.b0 (fun hs => hs), ho.heap h.b1 (fun hs => hs), own_only h.own ho (fun _ _ hs => hs), h.str.none ho, h.gne⟩
theorem StM.app {w W w1 : World} {sch : Int} {G : Option Addr} {ss : List (List UInt8)} {v v1 : Value} {j : Nat} {xs ys : List Value} (h : StM w W sch G ss v j xs) (ho : w1.ownsRow (w.heap.size + 1 + 1) 94 3 v1 (j + 1) ys) (hg : W.grownBy w1 v.ownBlock)
    (hv : v1.ownBlock = v.ownBlock ∨ v1.ownBlock = some W.heap.size) : StM w (w1.setCell ⟨w.heap.size + 1, 1, none⟩ v1) sch G ss v1 (j + 1) ys := by
  have hgo : ∀ i, v.ownBlock = some i → w.heap.size + 1 + 1 ≤ i := fun i hi => own_ge h.own i hi
  have hgo1 : ∀ i, v1.ownBlock = some i → w.heap.size + 1 + 1 ≤ i := fun i hi => own_ge ho i hi
  have hon : Only (fun i => v.ownBlock = some i) W w1 := Only.of_grown hg (fun k hk => hk)
  have hst : Only (fun i => i = w.heap.size + 1) w1 (w1.setCell ⟨w.heap.size + 1, 1, none⟩ v1) := (Only.refl (fun i => i = w.heap.size + 1) w1).set (p := ⟨w.heap.size + 1, 1, none⟩) (.inl rfl) _
  have hwW := h.only.size
  have gne : 0 < ss.length → ∀ x, G = some x → v1.ownBlock ≠ some x.block ∧ w.heap.size + 1 + 1 ≤ x.block := by
    intro hn x hx
    refine ⟨fun e => ?_, (h.gne hn x hx).2⟩
    rcases hv with hv | hv
    · exact (h.gne hn x hx).1 (hv ▸ e)
    · have := h.str.lt hn x hx; rw [hv] at e; injection e; omega
  have b1' := hon.heap h.b1 (fun e => by have := hgo _ e; omega)
  refine ⟨((only_grown h.only hg (fun i hi => .inl (by have := hgo i hi; omega))).then hst (fun i hi e => by omega)), hst.heap (hon.heap h.b0 (fun e => by have := hgo _ e; omega)) (by omega), cells_set b1' 1 v1, own_only ho hst (fun k hk e => by have := hgo1 k hk; omega), (h.str.only' hon (fun hn x hx e => (h.gne hn x hx).1 e)).only' hst (fun hn x hx e => by have := (h.gne hn x hx).2; omega), gne⟩
theorem str_flat (ss : List (List UInt8)) : ss.map encStr = ss.flatMap (fun l => [encStr l]) := by
  induction ss with
  | nil => rfl
  | cons a l ih => simp [ih]
set_option maxRecDepth 100000 in
set_option maxHeartbeats 8000000 in
theorem state_any (mb kb : Nat) (M : Mach) (w : World) (h : MachAt w mb kb M) (hz : KSz M) :
    Calls Tryz.prog 23 #[.pointer (some ⟨mb, 0, none⟩)] w (StatePost w M) := by
  have hm := heap_lt h.cells
  have hkb := h.map.lt
  have c0 := h.c0
  have c1 := h.c1
  have H := mk_hid h
  have HZ := mk_hid hz
  obtain ⟨act, hact⟩ : ∃ b, M.act = b := ⟨_, rfl⟩
  rw [hact] at c1
  clear h hz hact
  go_enter Tryz.func23, Tryz.ntmps23
  go_upto_if 15 with (fail)
  go_cut [] (fun wx => ∃ sch : Int, wx = (w.alloc (.cells #[.int .i64 0, .slice none 0 0, .slice none 0 0] 39)).alloc (.cells #[.int .i64 sch, .slice none 0 0, .slice none 0 0] 39))
  case first =>
    cases act
    all_goals
      go_wp2
      go_meet
      case rel => exact ⟨_, rfl⟩
  case rest =>
    obtain ⟨sch, rfl⟩ := hcut
    go_wp2_with (first | (go_at_call 44; ((with_reducible refine (keys_at (w.heap.size + 1 + 1) (some kb) _ (by simp)).mono ?_); rintro e w2 ⟨rfl, rfl⟩)) | (go_at_call 43; ((with_reducible refine (sorted_at (mb := mb) (M := M) _ (H.out.nn (by (repeat (first | with_reducible exact Only.refl _ _ | with_reducible assumption | with_reducible refine Only.drew ?_ | with_reducible refine Only.drewN ?_ _ | with_reducible refine Only.alloc ?_ _)))) HZ.out (by simp)).mono ?_); rintro e w3 ⟨v, ss, rfl, hss, hown, ho3⟩; obtain ⟨G, cG, rfl⟩ := own_form hown)))
    have hb1 : w3.heap[w.heap.size + 1]? = some (.cells #[.int .i64 sch, .slice none 0 0, .slice none 0 0] 39 (0, 0)) := ho3.heap (heap_new _ (by simp)) (fun h => h)
    have hb0 : w3.heap[w.heap.size]? = some (.cells #[.int .i64 0, .slice none 0 0, .slice none 0 0] 39 (0, 0)) := ho3.heap (heap_old _ (heap_new _ rfl)) (fun h => h)
    have hO3 := Only.trans (a := w) (by (repeat (first | with_reducible exact Only.refl _ _ | with_reducible assumption | with_reducible refine Only.drew ?_ | with_reducible refine Only.drewN ?_ _ | with_reducible refine Only.alloc ?_ _))) ho3
    have hst : StM w w3 sch G ss (.slice none 0 0) 0 [] := by
      rw [str_flat] at hown
      obtain ⟨A, c, hA, hsl, hge⟩ := own_sl (enc := fun l : List UInt8 => [encStr l]) (size := 1) (fun _ => rfl) hown (by omega)
      cases hA
      exact ⟨hO3, hb0, hb1, own_nil _ _ _ _, hsl, fun _ x hx => ⟨by simp [Value.ownBlock], by have := hge x hx; omega⟩⟩
    have HST := mk_hid hst
    clear hst hown hb1 hb0 hO3 ho3
    go_loopw [24] (fun i wr => ∃ (j : Nat) (v : Value) (xs : List Value), j ≤ ss.length ∧ i = .int .i64 j ∧ StM w wr sch G ss v j xs) (fun i _ => ss.length - (intOf i).toNat)
    case atStart => exact ⟨0, _, _, by omega, rfl, HST.out⟩
    case round =>
      obtain ⟨j, v, xs, hj, rfl, hI⟩ := hrel
      by_cases hlt : j < ss.length
      · obtain ⟨x, bs, rfl, hp, hmem, hxb, hat⟩ := hI.str.get hlt
        rw [Nat.mul_one] at hat
        have f0 : wr.cell? (x.add j) = some (.string ⟨bs.toArray⟩) := hat.zero
        have h1 : (j : Int) < (ss.length : Int) := by omega
        have h2 : (0 : Int) ≤ (j : Int) := by omega
        have hown := hI.own
        obtain ⟨A, cA, rfl⟩ := own_form hown
        obtain ⟨p1, q1⟩ := cells_all hI.b1
        obtain ⟨⟨pv, pr⟩, hpv⟩ : ∃ p, (lk (⟨bs.toArray⟩ : ByteArray) M.keys).getD (⟨#[]⟩, 0) = p := ⟨_, rfl⟩
        have HV := mk_hid (fun W (ho : MachAt W mb kb M) => show (Instr.lookup 80 (.map (some kb)) (.string ⟨bs.toArray⟩) false).run Tryz.prog W = .ok (.agg #[.string pv, .int .i64 pr]) W from by rw [look_val ho, hpv]; rfl)
        have HI := mk_hid hI
        have hsw := hI.only.size
        clear hpv hat hp hI hmem
        go_wp2
        have hW : Only (fun b => w.heap.size ≤ b) w wr := HI.out.only.up
        have fv := field_val
        have fr := field_rev
        have hsz := heap_lt HI.out.b1
        have k0 := hW.cell c0 (by dsimp only; omega)
        have hms : mb < wr.heap.size := by omega
        have l1 := HV.out wr.drew (H.out.only (hW.drew) (by omega) (by omega))
        have l2 := fun o => HV.out (wr.alloc o).drew (H.out.only ((hW.alloc o).drew) (by omega) (by omega))
        go_region_law (first | (refine step_append_el (⟨⟨bs.toArray⟩, pv, pr⟩ : Pair).cells (.tmp 29) (.tmp 46) ⟨wr.heap.size, 0, none⟩ rfl rfl Tryz.underlying36 infoPair rfl (by decide) (by decide) (HI.out.go (by (repeat (first | with_reducible exact Only.refl _ _ | with_reducible assumption | with_reducible refine Only.drew ?_ | with_reducible refine Only.drewN ?_ _ | with_reducible refine Only.alloc ?_ _)))).own (by first | omega | (simp; omega)) (by omega) rfl (Pair.cells_one _) rfl rfl (at_box (heap_new _ rfl)) ?_; intro g cap w5 ho1 hg1 hv1; have hb5 := (Only.of_grown (S := fun i => (Value.slice A j cA).ownBlock = some i) hg1 (fun k hk => hk)).heap (HI.out.go (by (repeat (first | with_reducible exact Only.refl _ _ | with_reducible assumption | with_reducible refine Only.drew ?_ | with_reducible refine Only.drewN ?_ _ | with_reducible refine Only.alloc ?_ _)))).b1 (fun e => by have := own_ge HI.out.own _ e; omega); obtain ⟨m1, n1⟩ := cells_all hb5; clear hb5))
        all_goals go_wp2
        all_goals (go_roundw; (case rel => exact ⟨j + 1, _, _, by omega, by go_num, (HI.out.go (by (repeat (first | with_reducible exact Only.refl _ _ | with_reducible assumption | with_reducible refine Only.drew ?_ | with_reducible refine Only.drewN ?_ _ | with_reducible refine Only.alloc ?_ _)))).app ho1 hg1 (by rcases hv1 with e | rfl; exact .inl e.symm; exact .inr (by simp [Value.ownBlock]))⟩); (case measure => simp [intOf]; omega))
      · obtain rfl : j = ss.length := by omega
        have hI0 := hI.b0
        have hI1 := hI.b1
        have k0 := hI.only.cell c0 (fun h => h)
        have hat : At wr ⟨mb, 2, none⟩ (doneC M.done) := fun i u hu => by
          have hc := cells_cell (H.out.nn hI.only).cells (2 + i)
          have e : (⟨mb, 2, none⟩ : Addr).add i = ⟨mb, 2 + i, none⟩ := by unfold Addr.add; split <;> simp_all
          rw [e, hc, List.getElem?_toArray, show 2 + i = i + 1 + 1 from by omega]
          exact hu
        have hlen : (doneC M.done).length = 63 := rfl
        have HAT := mk_hid hat
        have HLN := mk_hid hlen
        clear hat hlen
        have HI := mk_hid hI
        clear hI
        have g1 : ¬ (ss.length : Int) < (ss.length : Int) := by omega
        go_wp2_with (first | (refine wpList_load_list rfl 83 (.tmp 52) rfl ⟨mb, 2, none⟩ rfl (doneC M.done) _ Tryz.underlying83 rfl (by rw [HLN.out]; kernel_rfl) HAT.out ?_))
        have HSE : Hid (∃ A c, v = .slice A ss.length c ∧ SeM w wr sch (.slice A ss.length c) (.slice none 0 0) (sessP M.done 0)) := mk_hid (by
          obtain ⟨A, c, hv⟩ := own_form HI.out.own
          subst hv
          exact ⟨A, c, rfl, HI.out.only, HI.out.b0, HI.out.b1, own_nil _ _ _ _⟩)
        go_loopw [54] (fun i wr => ∃ (k : Nat) (A : Option Addr) (n c : Nat) (vs : Value), k ≤ 9 ∧ i = .int .i64 k ∧ SeM w wr sch (.slice A n c) vs (sessP M.done k)) (fun i _ => 9 - (intOf i).toNat)
        case atStart =>
          obtain ⟨A, c, _, h⟩ := HSE.out
          exact ⟨0, A, _, c, _, by omega, rfl, h⟩
        case round =>
          obtain ⟨k, A, n, c, vs, hk, rfl, hJ⟩ := hrel
          have hown := hJ.own
          have hn9 := sess_len M.done k
          obtain ⟨B, cB, rfl⟩ := own_form hown
          by_cases hlt : k < 9
          · obtain ⟨⟨q, a⟩, hq⟩ : ∃ p, M.done k = p := ⟨_, rfl⟩
            have hix := index_last M.done k hlt q a hq
            have h1 : (k : Int) < 9 := by omega
            have h2 : (0 : Int) ≤ (k : Int) := by omega
            obtain ⟨p1, q1⟩ := cells_all hJ.b1
            have hs1 := heap_lt hJ.b1
            have HJ := mk_hid hJ
            have HN9 := mk_hid hn9
            clear hJ hI0 hI1 k0 hn9
            by_cases hpos : 0 < q
            · have HS : Hid (sessP M.done (k + 1) = sessP M.done k ++ [⟨(k : Int), q, a⟩]) := mk_hid (by rw [sessP_succ]; unfold sessAt; rw [hq, if_pos hpos])
              have hp' : decide (0 < q) = true := by simpa using hpos
              clear hq
              go_wp2_with (at_builtin; refine append_el2 (ys := (⟨(k : Int), q, a⟩ : Sess).cells) _ Tryz.underlying37 infoSess2 rfl (by decide) (by decide) (HJ.out.go (by (repeat (first | with_reducible exact Only.refl _ _ | with_reducible assumption | with_reducible refine Only.drew ?_ | with_reducible refine Only.drewN ?_ _ | with_reducible refine Only.alloc ?_ _)))).own (by have := HJ.out.only.size; first | omega | (simp; omega)) (by have := HN9.out; omega) rfl (Sess.cells_one _) (by simp) rfl rfl ?_; intro v1 w5 ho1 hg1 hv1; have hb5 := (Only.of_grown (S := fun i => (Value.slice B (sessP M.done k).length cB).ownBlock = some i) hg1 (fun k hk => hk)).heap (HJ.out.go (by (repeat (first | with_reducible exact Only.refl _ _ | with_reducible assumption | with_reducible refine Only.drew ?_ | with_reducible refine Only.drewN ?_ _ | with_reducible refine Only.alloc ?_ _)))).b1 (fun e => by have := own_ge HJ.out.own _ e; omega); obtain ⟨m1, n1⟩ := cells_all hb5; clear hb5; obtain ⟨A1, c1', rfl⟩ := own_form ho1)
              go_roundw
              case rel => exact ⟨k + 1, _, _, _, _, by omega, by go_num, by rw [HS.out]; exact (HJ.out.go (by (repeat (first | with_reducible exact Only.refl _ _ | with_reducible assumption | with_reducible refine Only.drew ?_ | with_reducible refine Only.drewN ?_ _ | with_reducible refine Only.alloc ?_ _)))).app ho1 hg1⟩
              case measure => simp [intOf]; omega
            · have HS : Hid (sessP M.done (k + 1) = sessP M.done k) := mk_hid (by rw [sessP_succ]; unfold sessAt; rw [hq, if_neg hpos]; simp)
              have hp' : decide (0 < q) = false := by simpa using hpos
              clear hq
              go_wp2
              go_roundw
              case rel => exact ⟨k + 1, _, _, _, _, by omega, by go_num, by rw [HS.out]; exact HJ.out.go (by (repeat (first | with_reducible exact Only.refl _ _ | with_reducible assumption | with_reducible refine Only.drew ?_ | with_reducible refine Only.drewN ?_ _ | with_reducible refine Only.alloc ?_ _)))⟩
              case measure => simp [intOf]; omega
          · obtain rfl : k = 9 := by omega
            obtain ⟨p0, q0⟩ := cells_all hJ.b0
            obtain ⟨p1, q1⟩ := cells_all hJ.b1
            have HJ := mk_hid hJ
            clear hJ hI0 hI1 k0 hn9
            go_wp2
            refine bodyPost_ret (v := .agg #[.int .i64 sch, .slice A n c, .slice B (sessP M.done 9).length cB]) (by simp [results, Tryz.results23, go_sem, *]) rfl ?_
            obtain ⟨A', c', hv, hsl, hge⟩ := own_sl (enc := Sess.cells) (size := 8) Sess.cells_len HJ.out.own (by decide)
            cases hv
            refine ⟨⟨sch, A, n, c, B, cB, rfl, hsl.only (S := fun i => i = w.heap.size) ?_ (fun x hx e => by have := hge x hx; omega), fun x hx => by have := hge x hx; omega⟩, HJ.out.only.then (T := fun i => i = w.heap.size) ?_ (fun i hi e => by omega)⟩
            · (repeat (first | with_reducible exact Only.refl _ _ | with_reducible refine Only.drew ?_ | with_reducible refine Only.drewN ?_ _ | with_reducible refine Only.alloc ?_ _ | (with_reducible refine Only.set ?_ (.inl ?_) _; rotate_left; exact rfl)))
            · (repeat (first | with_reducible exact Only.refl _ _ | with_reducible refine Only.drew ?_ | with_reducible refine Only.drewN ?_ _ | with_reducible refine Only.alloc ?_ _ | (with_reducible refine Only.set ?_ (.inl ?_) _; rotate_left; exact rfl)))
end Go.Proofs.YtgcjmjhdnkffcaaGreatDoor
