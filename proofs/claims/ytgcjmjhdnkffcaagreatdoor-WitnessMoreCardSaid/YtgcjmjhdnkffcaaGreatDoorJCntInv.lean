/- Whether each command that counts is a call's (layer 43), walked where it is so. No condition but length. -/
import Derived.Test.YtgcjmjhdnkffcaaGreatDoorJCntOrd
import Derived.Test.YtgcjmjhdnkffcaaGreatDoorJPgAct
import Derived.Test.YtgcjmjhdnkffcaaGreatDoorJPgParts
set_option linter.unusedVariables false
set_option linter.unusedSimpArgs false
namespace Go.Proofs.YtgcjmjhdnkffcaaGreatDoor
open Go.RowKit Go.Sort
def InvOk (log : List Cmd) (calls : List Call) (s : Cnt) : Prop := ∀ p ∈ s.pl, ∃ (i : Nat) (c : Cmd), p.2 = (i : Int) + 1 ∧ log[i]? = some c ∧ (ownB c.kind = true → ∃ k ∈ calls, k.cmd = c)
set_option maxRecDepth 100000 in
set_option maxHeartbeats 4000000 in
theorem invoked_ok (cb pb : Nat) (A : Option Addr) (ca : Nat) (s : Cnt) (X Y : Option Addr) (len cap n m : Nat) (log : List Cmd) (calls : List Call) (w : World) (h : CntAt w cb pb A ca s) (hl : SlOf Cmd.cells 7 w X len log) (hc : SlOf Call.cells 15 w Y n calls) (hlen : len ≤ 1000) (hn : n ≤ 1000) (hk : InvOk log calls s) :
    Calls Tryz.prog 17 #[.pointer (some ⟨cb, 0, none⟩), .slice X len cap, .slice Y n m] w fun e w' => e = .returned (.bool true) ∧ Only nob w w' := by
  have e1 : ∀ args w, (callFunc 36 args).run Tryz.prog w = .ok (.enter 36 args) w := enters_of Tryz.func36 (by kernel_rfl) rfl
  obtain ⟨p0, q0⟩ := cells_all h.cell
  obtain ⟨es, clock, hes, hIs⟩ := h.map
  have hcb := heap_lt h.cell
  have hpb := heap_lt hes
  have hrg : (Instr.range 57 (.map (some pb))).run Tryz.prog w = _ := run_range_map w _ _ _ pb es clock Tryz.underlying57 hes
  have H := mk_hid h
  have HL := mk_hid hl
  have HC := mk_hid hc
  have HK := mk_hid hk
  have HES := mk_hid hes
  have HIS := mk_hid hIs
  have HLL := mk_hid hl.1
  clear h hl hc hk hes hIs
  go_enter Tryz.func17, Tryz.ntmps17
  go_wp2
  go_loopw [] (fun wr => ∃ seen, wr.heap[w.heap.size]? = some (.mapIter (some pb) clock seen clock) ∧ Only nob w wr) (fun wr => leftN wr pb w.heap.size)
  case atStart => exact ⟨#[], heap_new _ rfl, by (repeat (first | with_reducible exact Only.refl _ _ | with_reducible assumption | with_reducible refine Only.drew ?_ | with_reducible refine Only.drewN ?_ _ | with_reducible refine Only.alloc ?_ _))⟩
  case round =>
    obtain ⟨seen, hit, hO⟩ := hrel
    have hmp := hO.heap HES.out (fun h => h)
    rcases run_next_at (P := Tryz.prog) wr 0 w.heap.size pb clock clock seen es clock hit hmp HIS.out.lt (Nat.le_refl _) with ⟨h0, hrun⟩ | ⟨e, he, w1, hw1, hrun⟩
    · have hnx : ∀ ty, (Instr.next (.pointer (some ⟨w.heap.size, 0, none⟩)) false ty).run Tryz.prog wr = .ok (.tuple #[.bool false]) wr := fun ty => hrun
      clear hit hmp hrun
      go_wp2
      exact bodyPost_ret (v := .bool true) (by simp [results, Tryz.results17, go_sem, *]) rfl ⟨rfl, hO⟩
    · obtain ⟨hem, hes2⟩ := mem_left he
      obtain ⟨i, hi⟩ := List.mem_iff_getElem?.1 hem
      have hl2 : es.toList.length = s.pl.length := by have := congrArg List.length HIS.out.kv; simpa using this
      have hi2 : i < s.pl.length := by have := (List.getElem?_eq_some_iff.1 hi).1; omega
      have hkv : (e.key, e.val) = (pairV s.pl[i].1, iV s.pl[i].2) := by
        have := congrArg (fun l : List (Value × Value) => l[i]?) HIS.out.kv
        simp only [List.getElem?_map, hi, List.getElem?_eq_getElem hi2, Option.map_some, Option.some.injEq] at this
        exact this
      obtain ⟨at_, cm, hat, hlg, hown⟩ := HK.out _ (List.getElem_mem hi2)
      obtain ⟨⟨⟨kc, kq⟩, kv⟩, hp⟩ : ∃ p, s.pl[i] = p := ⟨_, rfl⟩
      rw [hp] at hkv hat
      simp only at hat
      subst hat
      have hke : e.key = .agg #[.int .i64 kc, .int .i64 kq] := congrArg Prod.fst hkv
      have hve : e.val = .int .i64 ((at_ : Int) + 1) := congrArg Prod.snd hkv
      rw [hke, hve] at hrun
      obtain ⟨wn, hwn⟩ : ∃ wn, ChangeMaps.setBlock w1 w.heap.size (.mapIter (some pb) clock (seen.push e.born) clock) = wn := ⟨_, rfl⟩
      rw [hwn] at hrun
      have hnx : ∀ ty, (Instr.next (.pointer (some ⟨w.heap.size, 0, none⟩)) false ty).run Tryz.prog wr = .ok (.tuple #[.bool true, .agg #[.int .i64 kc, .int .i64 kq], .int .i64 ((at_ : Int) + 1)]) wn := fun ty => hrun
      have hOn : Only (fun b => b = w.heap.size) wr wn := by rw [← hwn]; exact only_block hw1 _ _
      have hitn : wn.heap[w.heap.size]? = some (.mapIter (some pb) clock (seen.push e.born) clock) := by
        rw [← hwn]
        have : w.heap.size < w1.heap.size := by rcases hw1 with rfl | rfl <;> exact heap_lt hit
        simp [ChangeMaps.setBlock, this]
      have hmpn : wn.heap[pb]? = some (.map es clock) := hOn.heap hmp (by omega)
      have hen : (Instr.entry (.pointer (some ⟨w.heap.size, 0, none⟩))).run Tryz.prog wn = .ok (.tuple #[.agg #[.int .i64 kc, .int .i64 kq], .int .i64 ((at_ : Int) + 1)]) wn := by
        have := run_entry_at (P := Tryz.prog) wn w.heap.size pb clock seen es clock e hitn hmpn hem HIS.out.bn
        rw [hke, hve] at this
        exact this
      have hON : Only nob w wn := hO.then hOn (fun i hi e => by omega)
      have hME : Hid (∀ wx, Only nob wn wx → leftN wx pb w.heap.size < leftN wr pb w.heap.size) := mk_hid (fun wx ho => by
        rw [leftN_eq (ho.heap hmpn (fun h => h)) (ho.heap hitn (fun h => h)), leftN_eq hmp hit]
        exact left_shrinks es seen e he)
      have hpl : at_ < len := by have := (List.getElem?_eq_some_iff.1 hlg).1; have := HLL.out; omega
      obtain ⟨x, c1, rfl, hq1, _, hxb, hatc⟩ := (HL.out.none hON).get hpl
      obtain rfl : c1 = cm := by rw [hlg] at hq1; injection hq1 with e; exact e.symm
      obtain ⟨f0, f1, f2, f3, f4, f5, f6⟩ := Cmd.facts hatc
      have i1 : (at_ : Int) < (len : Int) := by omega
      have i2 : (0 : Int) ≤ (at_ : Int) := by omega
      have hw : IntKind.i64.wrap ((at_ : Int) + 1 - 1) = (at_ : Int) := by rw [IntKind.wrap_i64]; omega
      have hw2 : IntKind.i64.wrap (at_ : Int) = (at_ : Int) := by rw [IntKind.wrap_i64]; omega
      have HOWN := mk_hid hown
      have HIT := mk_hid hitn
      have hszn : w.heap.size < wn.heap.size := heap_lt hitn
      clear hrun hwn hw1 hit hmp hem he hi hi2 hl2 hkv hp hke hve hes2 hitn hmpn hown hlg hq1 hatc
      have HPK : Hid (PredK (wn.alloc (.cells #[.int .i64 c1.kind, .int .i64 c1.client, .int .i64 c1.seq, .string c1.key, .string c1.val, .string c1.old, .int .i64 c1.node] 25)) 36 #[.pointer (some ⟨wn.heap.size, 0, none⟩)] (sameC c1) calls) := mk_hid (fun W ho k _ => same_any wn.heap.size c1 k W (ho.heap ((heap_new _ rfl).trans (by kernel_rfl)) (fun h => h)))
      obtain ⟨b, hb⟩ : ∃ b, ownB c1.kind = b := ⟨_, rfl⟩
      have HB := mk_hid hb
      clear hb
      have hOB := fun W => owned2_any c1 W
      rw [HB.out] at hOB
      unfold Cmd.agg at hOB
      have HOB := mk_hid hOB
      clear hOB
      cases b
      · go_wp2_with (go_at_call 35; (with_reducible refine (HOB.out _).mono ?_); rintro e w2 ⟨rfl, ho2⟩; have hO2 := Only.trans (a := wn) (by (repeat (first | with_reducible exact Only.refl _ _ | with_reducible assumption | with_reducible refine Only.drew ?_ | with_reducible refine Only.drewN ?_ _ | with_reducible refine Only.alloc ?_ _))) ho2)
        go_roundw
        case rel => exact ⟨_, hO2.heap HIT.out (fun h => h), hON.trans hO2⟩
        case measure => exact hME.out _ hO2
      · have hany : Hid (calls.any (sameC c1) = true) := mk_hid (by
          obtain ⟨k, hk1, hk2⟩ := HOWN.out HB.out
          exact List.any_eq_true.2 ⟨k, hk1, (sameC_iff c1 k).2 hk2⟩)
        go_wp2_with (first
          | (go_at_call 35; (with_reducible refine (HOB.out _).mono ?_); rintro e w2 ⟨rfl, ho2⟩; have hO2 := Only.trans (a := wn) (by (repeat (first | with_reducible exact Only.refl _ _ | with_reducible assumption | with_reducible refine Only.drew ?_ | with_reducible refine Only.drewN ?_ _ | with_reducible refine Only.alloc ?_ _))) ho2)
          | (go_at_call 28; (with_reducible refine (contains_any 36 _ (sameC c1) Y n m calls _ e1 (by omega) (HC.out.none (hON.trans hO2)) (PredK.go HPK.out ho2)).mono ?_); rw [hany.out]; rintro e w3 ⟨rfl, ho3⟩; have hO3 := hO2.trans ho3))
        go_roundw
        case rel => exact ⟨_, hO3.heap HIT.out (fun h => h), hON.trans hO3⟩
        case measure => exact hME.out _ hO3
end Go.Proofs.YtgcjmjhdnkffcaaGreatDoor
