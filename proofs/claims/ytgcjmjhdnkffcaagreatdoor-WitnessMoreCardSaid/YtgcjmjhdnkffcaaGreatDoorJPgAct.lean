/- The program's machine (layer 29: spec): the activation. No condition. -/
import Derived.Test.YtgcjmjhdnkffcaaGreatDoorJPgClientB
import Derived.Maps.RangeRun
set_option linter.unusedVariables false
set_option linter.unusedSimpArgs false
namespace Go.Proofs.YtgcjmjhdnkffcaaGreatDoor
open Go.RowKit
def actP (M : Mach) : Mach := if M.act then M else { M with act := true, keys := M.keys.map fun p => (p.1, (p.2.1, 1)) }
/-- How many entries an iterator has before it. -/
def leftN (w : World) (kb it : Nat) : Nat := match w.heap[kb]?, w.heap[it]? with
  | some (.map es _), some (.mapIter _ _ seen _) => (leftOf es seen).size
  | _, _ => 0
theorem leftN_eq {w : World} {kb it : Nat} {es : Array MapEntry} {clock : Nat} {m : Option Nat} {s c : Nat} {seen : Array Nat} (h1 : w.heap[kb]? = some (.map es clock)) (h2 : w.heap[it]? = some (.mapIter m s seen c)) : leftN w kb it = (leftOf es seen).size := by
  unfold leftN; rw [h1, h2]
theorem leftOf_borns (es : Array MapEntry) (seen : Array Nat) : (leftOf es seen).size = ((es.toList.map (·.born)).filter fun b => !seen.contains b).length := by
  unfold leftOf
  rw [List.filter_map, List.length_map]
  rw [← Array.length_toList, Array.toList_filter]
  rfl
theorem ix_get {κ ν : Type} [DecidableEq κ] {k : κ} {v : ν} : ∀ {m : List (κ × ν)} {i : Nat}, (m.map (·.1)).Nodup → m[i]? = some (k, v) → ix k m = some i := by
  intro m; induction m with
  | nil => intro i _ h; simp at h
  | cons p m ih =>
    obtain ⟨a, x⟩ := p
    intro i hn h
    simp only [List.map_cons, List.nodup_cons] at hn
    cases i with
    | zero => simp at h; simp [ix, h.1]
    | succ i =>
      simp only [List.getElem?_cons_succ] at h
      have hne : a ≠ k := by
        rintro rfl
        exact hn.1 (List.mem_map.2 ⟨_, List.mem_of_getElem? h, rfl⟩)
      simp [ix, hne, ih hn.2 h]
theorem only_block {w w' : World} (h : w' = w ∨ w' = w.drew) (b : Nat) (o : Obj) : Only (fun i => i = b) w (ChangeMaps.setBlock w' b o) := by
  have : Only (fun i => i = b) w w' := by
    rcases h with rfl | rfl
    · exact Only.refl _ _
    · exact (Only.refl _ _).drew
  exact this.putO (.inl rfl) o
/-- Where the loop over the keys stands. -/
structure ActM (w wr : World) (mb kb : Nat) (M : Mach) (it : Nat) (es : Array MapEntry) (clock : Nat) (seen : Array Nat) (m : List (ByteArray × (ByteArray × Int))) : Prop where
  iter : wr.heap[it]? = some (.mapIter (some kb) clock seen clock)
  map : wr.heap[kb]? = some (.map es clock)
  is : MapIs Value.string valV es clock m
  same : m.map (fun p => (p.1, p.2.1)) = M.keys.map (fun p => (p.1, p.2.1))
  one : ∀ (i : Nat) (b : Nat) (p : ByteArray × (ByteArray × Int)), (es.toList.map (·.born))[i]? = some b → m[i]? = some p → seen.contains b = true → p.2.2 = 1
  rev : ∀ p ∈ m, 0 ≤ p.2.2 ∧ p.2.2 ≤ 4294967296
  cells : wr.heap[mb]? = some (.cells (machC kb { M with act := true }).toArray 85 (0, 0))
  only : Only (fun b => b = mb ∨ b = kb) w wr
theorem act_cells (kb : Nat) (M : Mach) : (machC kb M).toArray.setIfInBounds 1 (.bool true) = (machC kb { M with act := true }).toArray := by
  simp [machC]
theorem actP_all {M : Mach} {m : List (ByteArray × (ByteArray × Int))} (h : m.map (fun p => (p.1, p.2.1)) = M.keys.map (fun p => (p.1, p.2.1))) (h1 : ∀ p ∈ m, p.2.2 = 1) : m = M.keys.map fun p => (p.1, (p.2.1, 1)) := by
  have : m = m.map fun p => (p.1, (p.2.1, (1 : Int))) := by
    conv => lhs; rw [← List.map_id m]
    refine List.map_congr_left fun p hp => ?_
    have := h1 p hp
    obtain ⟨a, b, c⟩ := p
    simp at this; subst this; rfl
  rw [this]
  have e : ∀ l : List (ByteArray × (ByteArray × Int)), (l.map fun p => (p.1, (p.2.1, (1 : Int)))) = (l.map fun p => (p.1, p.2.1)).map fun q => (q.1, (q.2, (1 : Int))) := fun l => by simp [List.map_map, Function.comp_def]
  rw [e, e, h]
set_option maxRecDepth 100000 in
theorem act_yes (mb kb : Nat) (M : Mach) (w : World) (h : MachAt w mb kb M) (ha : M.act = true) :
    Calls Tryz.prog 61 #[.pointer (some ⟨mb, 0, none⟩)] w fun e w' => e = .returned (.tuple #[]) ∧ w = w' := by
  have c1 := h.c1
  rw [ha] at c1
  clear h ha
  go_enter Tryz.func61, Tryz.ntmps61
  go_wp2
  refine bodyPost_ret (results_none rfl _ _ _) rfl ?_
  exact ⟨rfl, rfl⟩
set_option maxRecDepth 100000 in
set_option maxHeartbeats 8000000 in
theorem act_no (mb kb : Nat) (M : Mach) (w : World) (h : MachAt w mb kb M) (ha : M.act = false) :
    Calls Tryz.prog 61 #[.pointer (some ⟨mb, 0, none⟩)] w fun e w' => e = .returned (.tuple #[]) ∧ MachAt w' mb kb (actP M) ∧ Only (fun b => b = mb ∨ b = kb) w w' := by
  have c1 := h.c1
  rw [ha] at c1
  have c0 := h.c0
  have f1 := h.free 1
  have hm := heap_lt h.cells
  have hmk := h.ne
  obtain ⟨es0, clock, hes, hIs⟩ := h.map
  have hrg : (Instr.range 80 (.map (some kb))).run Tryz.prog (w.setCell ⟨mb, 1, none⟩ (.bool true)) = _ := run_range_map (w.setCell ⟨mb, 1, none⟩ (.bool true)) _ _ _ kb es0 clock Tryz.underlying80 (heap_set_other hes _ _ (fun e => hmk e.symm))
  have hst : ActM w ((w.setCell ⟨mb, 1, none⟩ (.bool true)).alloc (.mapIter (some kb) clock #[] clock)) mb kb M w.heap.size es0 clock #[] M.keys := by
    refine ⟨heap_new _ (by simp [World.setCell]), heap_old _ (heap_set_other hes _ _ (fun e => hmk e.symm)), hIs, rfl, fun i b p _ _ hc => by simp at hc, h.rev, ?_, ?_⟩
    · have := cells_set h.cells 1 (.bool true)
      rw [act_cells] at this
      exact heap_old _ this
    · exact ((Only.refl (fun b => b = mb ∨ b = kb) w).set (p := ⟨mb, 1, none⟩) (.inl (.inl rfl)) _).alloc _
  have HST := mk_hid hst
  have H := mk_hid h
  have HA := mk_hid ha
  clear h ha hst hes hIs
  go_enter Tryz.func61, Tryz.ntmps61
  go_wp2
  go_loopw [] (fun wr => ∃ es seen m, ActM w wr mb kb M w.heap.size es clock seen m) (fun wr => leftN wr kb w.heap.size)
  case atStart => exact ⟨es0, #[], M.keys, HST.out⟩
  case round =>
    obtain ⟨es, seen, m, hI⟩ := hrel
    have hit := hI.iter
    have hmp := hI.map
    have hkt : kb ≠ w.heap.size := by have := H.out.map.lt; omega
    have hmt : mb ≠ w.heap.size := by omega
    rcases run_next_at (P := Tryz.prog) wr 0 w.heap.size kb clock clock seen es clock hit hmp hI.is.lt (Nat.le_refl _) with ⟨h0, hrun⟩ | ⟨e, he, w1, hw1, hrun⟩
    · have hnx : ∀ ty, (Instr.next (.pointer (some ⟨w.heap.size, 0, none⟩)) false ty).run Tryz.prog wr = .ok (.tuple #[.bool false]) wr := fun ty => hrun
      have hall : ∀ p ∈ m, p.2.2 = 1 := by
        intro p hp
        obtain ⟨i, hi⟩ := List.mem_iff_getElem?.1 hp
        have hl : es.toList.length = m.length := by have := congrArg List.length hI.is.kv; simpa using this
        have hi2 := (List.getElem?_eq_some_iff.1 hi).1
        have hie : i < es.toList.length := by omega
        exact hI.one i es.toList[i].born p (by rw [List.getElem?_map, List.getElem?_eq_getElem hie]; rfl) hi (all_seen es seen h0 _ (List.getElem_mem hie))
      have hm2 := actP_all hI.same hall
      have HF : Hid (MachAt wr mb kb (actP M)) := mk_hid (by
        have e : actP M = { M with act := true, keys := m } := by unfold actP; rw [HA.out, ← hm2]; rfl
        rw [e]
        have hkm : m.map (·.1) = M.keys.map (·.1) := by
          have := congrArg (List.map Prod.fst) hI.same
          simpa [List.map_map, Function.comp_def] using this
        exact ⟨hI.cells, ⟨es, clock, hI.map, hI.is⟩, by have := congrArg List.length hkm; simp only [List.length_map] at this; show m.length ≤ 64; rw [this]; exact H.out.len, by show (m.map (·.1)).Nodup; rw [hkm]; exact H.out.nod, hI.rev⟩)
      have HO := mk_hid hI.only
      clear hI hit hmp hrun hall hm2
      go_wp2
      go_end0
      exact ⟨rfl, HF.out, HO.out⟩
    · obtain ⟨hem, hes2⟩ := mem_left he
      obtain ⟨i, hi⟩ := List.mem_iff_getElem?.1 hem
      have hl : es.toList.length = m.length := by have := congrArg List.length hI.is.kv; simpa using this
      have hi2 : i < m.length := by have := (List.getElem?_eq_some_iff.1 hi).1; omega
      have hkv : (e.key, e.val) = (Value.string m[i].1, valV m[i].2) := by
        have := congrArg (fun l : List (Value × Value) => l[i]?) hI.is.kv
        simp only [List.getElem?_map, hi, List.getElem?_eq_getElem hi2, Option.map_some, Option.some.injEq] at this
        exact this
      have hmi := List.getElem?_eq_getElem hi2
      obtain ⟨⟨kk, vv, vr⟩, hp⟩ : ∃ p, m[i] = p := ⟨_, rfl⟩
      rw [hp] at hkv hmi
      have hke : e.key = .string kk := congrArg Prod.fst hkv
      have hve : e.val = .agg #[.string vv, .int .i64 vr] := congrArg Prod.snd hkv
      have hkm : m.map (·.1) = M.keys.map (·.1) := by
        have := congrArg (List.map Prod.fst) hI.same
        simpa [List.map_map, Function.comp_def] using this
      have hnod : (m.map (·.1)).Nodup := by rw [hkm]; exact H.out.nod
      have hix := ix_get hnod hmi
      have hlk : lk kk m = some (vv, vr) := by have := ix_lk kk m; rw [hix] at this; simpa [hmi] using this.symm
      obtain ⟨es', clock', hIs', hU, hB⟩ := update_run keyOk_str (show Tryz.prog.underlying 80 = some (.map 9 92) from Tryz.underlying80) hI.is kk (vv, 1)
      obtain ⟨hbo, hck⟩ := hB (by rw [hlk]; rfl)
      subst hck
      rw [hke, hve] at hrun
      obtain ⟨wn, hwn⟩ : ∃ wn, ChangeMaps.setBlock w1 w.heap.size (.mapIter (some kb) clock' (seen.push e.born) clock') = wn := ⟨_, rfl⟩
      rw [hwn] at hrun
      have hnx : ∀ ty, (Instr.next (.pointer (some ⟨w.heap.size, 0, none⟩)) false ty).run Tryz.prog wr = .ok (.tuple #[.bool true, .string kk, .agg #[.string vv, .int .i64 vr]]) wn := fun ty => hrun
      have hOn : Only (fun b => b = w.heap.size) wr wn := by rw [← hwn]; exact only_block hw1 _ _
      have hitn : wn.heap[w.heap.size]? = some (.mapIter (some kb) clock' (seen.push e.born) clock') := by
        rw [← hwn]
        have : w.heap.size < w1.heap.size := by rcases hw1 with rfl | rfl <;> exact heap_lt hit
        simp [ChangeMaps.setBlock, this]
      have hmpn : wn.heap[kb]? = some (.map es clock') := hOn.heap hmp hkt
      have hen : (Instr.entry (.pointer (some ⟨w.heap.size, 0, none⟩))).run Tryz.prog wn = .ok (.tuple #[.string kk, .agg #[.string vv, .int .i64 vr]]) wn := by
        have := run_entry_at (P := Tryz.prog) wn w.heap.size kb clock' seen es clock' e hitn hmpn hem hI.is.bn
        rw [hke, hve] at this
        exact this
      have hcn := hOn.heap hI.cells hmt
      have cn0 : wn.cell? ⟨mb, 0, none⟩ = some (.map (some kb)) := (cells_cell hcn 0).trans rfl
      have hsn := hI.only.size
      have hsz : w.heap.size < wn.heap.size := heap_lt hitn
      have HU := mk_hid (fun W (ho : Only nob wn W) => hU kb W (ho.heap hmpn (fun h => h)))
      have HNEW : Hid (∀ wx, Only (fun b => b = kb) wn wx → wx.heap[kb]? = some (.map es' clock') → ActM w wx mb kb M w.heap.size es' clock' (seen.push e.born) (upd kk (vv, 1) m)) := by
        refine mk_hid (fun wx hox hkx => ⟨hox.heap hitn (fun e => hkt e.symm), hkx, hIs', ?_, ?_, ?_, hox.heap hcn (by omega), ?_⟩)
        · rw [← hI.same, upd_ix, hix]
          refine List.ext_getElem? fun j => ?_
          simp only [List.getElem?_map, List.getElem?_modify]
          by_cases hij : i = j
          · subst hij; rw [hmi]; simp
          · simp only [if_neg hij]; cases m[j]? <;> simp
        · intro j b p hb hpj hc
          rw [hbo] at hb
          rw [upd_ix, hix] at hpj
          simp only [List.getElem?_modify] at hpj
          by_cases hij : i = j
          · subst hij; rw [hmi] at hpj; simp at hpj; rw [← hpj]
          · simp only [if_neg hij] at hpj
            have hpj' : m[j]? = some p := by cases h : m[j]? with
              | none => rw [h] at hpj; simp at hpj
              | some q => rw [h] at hpj; simpa using hpj
            have hbn : b ≠ e.born := by
              intro hbe
              have hbi : (es.toList.map (·.born))[i]? = some e.born := by rw [List.getElem?_map, hi]; rfl
              rw [hbe] at hb
              exact hij ((List.getElem?_inj (by simpa using (List.getElem?_eq_some_iff.1 hi).1) hI.is.bn).1 (hbi.trans hb.symm))
            refine hI.one j b p hb hpj' ?_
            rw [contains_push] at hc
            simpa [hbn] using hc
        · intro p hp
          rcases upd_mem hp with rfl | hp
          · simp
          · exact hI.rev p hp
        · exact (hI.only.then hOn (fun i hi e => by omega)).trans (hox.mono (fun _ _ h => .inr h))
      have hME : Hid (∀ wx, wx.heap[w.heap.size]? = some (.mapIter (some kb) clock' (seen.push e.born) clock') → wx.heap[kb]? = some (.map es' clock') → leftN wx kb w.heap.size < leftN wr kb w.heap.size) := by
        refine mk_hid (fun wx h1 h2 => ?_)
        rw [leftN_eq h2 h1, leftN_eq hmp hit, leftOf_borns, hbo, ← leftOf_borns]
        exact left_shrinks es seen e he
      clear hrun hwn hw1 hI hit hmp hem he hi hi2 hl hkv hmi hp hke hve hkm hnod hix hlk hU hIs' hbo hcn hes2 hitn hmpn
      go_wp2
      refine wp_region_tail 6 (by kernel_rfl) (by kernel_rfl) ?_
      simp only [List.take_succ_cons, List.take_zero, List.drop_succ_cons, List.drop_zero]
      intro wd hwd
      have hOd : Only nob (wn.alloc (.cells #[.string vv, .int .i64 1] 92)) wd := by subst hwd; (repeat (first | with_reducible exact Only.refl _ _ | with_reducible assumption | with_reducible refine Only.drew ?_ | with_reducible refine Only.drewN ?_ _ | with_reducible refine Only.alloc ?_ _ | (with_reducible refine Only.set ?_ (.inr ?_) _; rotate_left; first | exact Nat.le_refl _ | exact Nat.le_succ _ | assumption | omega | (dsimp only; omega))))
      have hOw : Only nob wn wd := Only.trans (by (repeat (first | with_reducible exact Only.refl _ _ | with_reducible assumption | with_reducible refine Only.drew ?_ | with_reducible refine Only.drewN ?_ _ | with_reducible refine Only.alloc ?_ _))) hOd
      obtain ⟨wx, hx⟩ : ∃ wx, putObj wd kb (.map es' clock') = wx := ⟨_, rfl⟩
      have hu := HU.out wd hOw
      rw [hx] at hu
      have hu2 : (Instr.mapUpdate 80 (.map (some kb)) (.string kk) (.agg #[.string vv, .int .i64 1])).run Tryz.prog wd = .ok () wx := hu
      have k0 := hOw.cell cn0 (fun h => h)
      have k1 : wd.cell? ⟨wn.heap.size, 0, none⟩ = some (.string vv) := hOd.cell ((cells_cell (heap_new _ rfl) 0).trans rfl) (fun h => h)
      have k2 : wd.cell? ⟨wn.heap.size, 1, none⟩ = some (.int .i64 1) := hOd.cell ((cells_cell (heap_new _ rfl) 1).trans rfl) (fun h => h)
      have hox : Only (fun b => b = kb) wn wx := by rw [← hx]; exact only_put hOw kb _
      have hkx : wx.heap[kb]? = some (.map es' clock') := by
        rw [← hx]
        have : kb < wd.heap.size := by have := H.out.map.lt; have := hOw.size; omega
        simp [putObj, this]
      have HX := mk_hid (HNEW.out wx hox hkx)
      clear hwd hOd hOw hx hu
      repeat still_step
      refine still_done ?_
      go_wp2
      go_roundw
      case rel => exact ⟨_, _, _, HX.out⟩
      case measure => exact hME.out wx HX.out.iter HX.out.map
theorem act_any (mb kb : Nat) (M : Mach) (w : World) (h : MachAt w mb kb M) :
    Calls Tryz.prog 61 #[.pointer (some ⟨mb, 0, none⟩)] w fun e w' => e = .returned (.tuple #[]) ∧ MachAt w' mb kb (actP M) ∧ Only (fun b => b = mb ∨ b = kb) w w' := by
  cases ha : M.act with
  | true =>
    refine (act_yes mb kb M w h ha).mono ?_
    rintro e w' ⟨rfl, rfl⟩
    exact ⟨rfl, by unfold actP; rw [ha]; exact h, Only.refl _ _⟩
  | false => exact act_no mb kb M w h ha
end Go.Proofs.YtgcjmjhdnkffcaaGreatDoor
