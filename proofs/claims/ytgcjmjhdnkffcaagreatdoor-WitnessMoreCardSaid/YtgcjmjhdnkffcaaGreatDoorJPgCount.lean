/- The program's machine (layer 29: spec): a new one. No condition. -/
import Derived.Test.YtgcjmjhdnkffcaaGreatDoorJPgStep
import Derived.Test.YtgcjmjhdnkffcaaGreatDoorJPgState
import Derived.Test.YtgcjmjhdnkffcaaGreatDoorJSlEq
import Derived.Test.YtgcjmjhdnkffcaaGreatDoorJCntD
set_option linter.unusedVariables false
set_option linter.unusedSimpArgs false
namespace Go.Proofs.YtgcjmjhdnkffcaaGreatDoor
open Go.RowKit
def mach0 : Mach := ⟨[], false, fun _ => (0, Ans.zero)⟩
set_option maxRecDepth 100000 in
set_option maxHeartbeats 4000000 in
theorem new_any (w : World) : Calls Tryz.prog 22 #[] w fun e w' => e = .returned (.pointer (some ⟨w.heap.size + 1, 0, none⟩)) ∧ MachAt w' (w.heap.size + 1) w.heap.size mach0 ∧ Only nob w w' := by
  have hmm : ∀ (t : TypeId) (W : World), (Instr.makeMap t none).run Tryz.prog W = .ok (.map (some W.heap.size)) (W.alloc (.map #[] 0)) := fun _ _ => rfl
  go_enter Tryz.func22, Tryz.ntmps22
  go_wp2
  refine bodyPost_ret (v := .pointer (some ⟨w.heap.size + 1, 0, none⟩)) (by simp [results, Tryz.results22, go_sem, *]) rfl ⟨rfl, ?_, by (repeat (first | with_reducible exact Only.refl _ _ | with_reducible assumption | with_reducible refine Only.drew ?_ | with_reducible refine Only.drewN ?_ _ | with_reducible refine Only.alloc ?_ _))⟩
  refine ⟨(heap_new _ (by simp)).trans ?_, ?_, by simp [mach0], by simp [mach0], by simp [mach0]⟩
  · kernel_rfl
  · exact (MapAt.new _ _ w).only (S := nob) (by (repeat (first | with_reducible exact Only.refl _ _ | with_reducible assumption | with_reducible refine Only.drew ?_ | with_reducible refine Only.drewN ?_ _ | with_reducible refine Only.alloc ?_ _))) (fun h => h)
end Go.Proofs.YtgcjmjhdnkffcaaGreatDoor
/- The commands that count (layer 43), as the program counts them: what is counted, and the memory. No condition. -/
set_option linter.unusedVariables false
set_option linter.unusedSimpArgs false
namespace Go.Proofs.YtgcjmjhdnkffcaaGreatDoor
open Go.RowKit
def cnt0 : Cnt := ⟨mach0, [], []⟩
open Classical in
noncomputable def plStep (M M' : Mach) (c : Cmd) (n : Int) (pl : List ((Int × Int) × Int)) : List ((Int × Int) × Int) := if sessP M.done 9 = sessP M'.done 9 then pl else upd (c.client, c.seq) n pl
noncomputable def cntStep (s : Cnt) (c : Cmd) : Cnt := ⟨(doM s.M c).1, s.ans ++ [(doM s.M c).2], plStep s.M (doM s.M c).1 c ((s.ans.length : Int) + 1) s.pl⟩
noncomputable def cntP (log : List Cmd) : Cnt := log.foldl cntStep cnt0
theorem cntP_take {log : List Cmd} {k : Nat} {c : Cmd} (hk : log[k]? = some c) : cntP (log.take (k + 1)) = cntStep (cntP (log.take k)) c := by
  unfold cntP
  rw [List.take_add_one, hk, List.foldl_append]; rfl
theorem cnt_len (log : List Cmd) : (cntP log).ans.length = log.length := by
  have : ∀ (l : List Cmd) (s : Cnt), (l.foldl cntStep s).ans.length = s.ans.length + l.length := by
    intro l; induction l with
    | nil => intro s; rfl
    | cons c l ih => intro s; rw [List.foldl_cons, ih]; simp [cntStep]; omega
  simpa [cntP, cnt0] using this log cnt0
theorem ksz_upd {M : Mach} {k : ByteArray} {v : ByteArray × Int} (h : KSz M) (hk : k.size ≤ 1000) : ∀ p ∈ upd k v M.keys, p.1.size ≤ 1000 := fun p hp => by
  rcases upd_mem hp with rfl | hp
  · exact hk
  · exact h p hp
theorem ksz_set {M : Mach} {c : Cmd} (h : KSz M) (hk : c.key.size ≤ 1000) : KSz (setP M c).1 := by
  unfold setP; split
  · exact h
  · exact ksz_upd h hk
theorem ksz_fresh {M : Mach} {c : Cmd} (h : KSz M) (hk : c.key.size ≤ 1000) : KSz (freshP M c).1 := by
  unfold freshP
  split
  · unfold swapP
    split
    · exact h
    · split
      · exact ksz_set h hk
      · exact h
  · split
    · split
      · exact ksz_set h hk
      · exact h
    · split
      · exact fun p hp => h p ((del_sub c.key M.keys).subset hp)
      · exact h
theorem ksz_step {M : Mach} {c : Cmd} (h : KSz M) (hk : c.key.size ≤ 1000) : KSz (doM M c).1 := by
  unfold doM stepP
  split
  · exact h
  · split
    · unfold clientP
      simp only
      split
      · exact h
      · split
        · exact h
        · split
          · exact h
          · exact ksz_fresh (M := M) h hk
    · split
      · unfold actP
        split
        · exact h
        · intro p hp
          obtain ⟨q, hq, rfl⟩ := List.mem_map.1 hp
          exact h q hq
      · exact h
structure CntI (w wr : World) (s : Cnt) (v : Value) : Prop where
  only : Only nob w wr
  mach : MachAt wr (w.heap.size + 3) (w.heap.size + 2) s.M
  ksz : KSz s.M
  map : MapAt pairV iV wr w.heap.size s.pl
  cell : wr.heap[w.heap.size + 1]? = some (.cells #[.map (some w.heap.size), v] 59 (0, 0))
  own : wr.ownsRow (w.heap.size + 4) 28 6 v s.ans.length (s.ans.flatMap Ans.cells)
theorem CntI.go {w wr w1 : World} {s : Cnt} {v : Value} (h : CntI w wr s v) (ho : Only nob wr w1) : CntI w w1 s v :=
  ⟨h.only.trans ho, h.mach.nn ho, h.ksz, h.map.only ho (fun h => h), ho.heap h.cell (fun h => h), own_only h.own ho (fun _ _ h => h)⟩
theorem CntI.turn {w wr w1 : World} {s : Cnt} {v : Value} {M : Mach} (h : CntI w wr s v) (ho : Only (fun b => b = w.heap.size + 3 ∨ b = w.heap.size + 2) wr w1) (hm : MachAt w1 (w.heap.size + 3) (w.heap.size + 2) M) (hz : KSz M) : CntI w w1 { s with M := M } v :=
  ⟨h.only.then ho (fun i hi e => by omega), hm, hz, h.map.only ho (by omega), ho.heap h.cell (by omega), own_only h.own ho (fun k hk e => by have := own_ge h.own k hk; omega)⟩
theorem CntI.app {w W w1 : World} {s : Cnt} {v v1 : Value} {a : Ans} (h : CntI w W s v) (ho : w1.ownsRow (w.heap.size + 4) 28 6 v1 (s.ans.length + 1) (s.ans.flatMap Ans.cells ++ a.cells)) (hg : W.grownBy w1 v.ownBlock) :
    CntI w (w1.setCell ⟨w.heap.size + 1, 1, none⟩ v1) { s with ans := s.ans ++ [a] } v1 := by
  have hgo : ∀ i, v.ownBlock = some i → w.heap.size + 4 ≤ i := fun i hi => own_ge h.own i hi
  have hgo1 : ∀ i, v1.ownBlock = some i → w.heap.size + 4 ≤ i := fun i hi => own_ge ho i hi
  have hon : Only (fun i => v.ownBlock = some i) W w1 := Only.of_grown hg (fun k hk => hk)
  have hst : Only (fun i => i = w.heap.size + 1) w1 (w1.setCell ⟨w.heap.size + 1, 1, none⟩ v1) := (Only.refl (fun i => i = w.heap.size + 1) w1).set (p := ⟨w.heap.size + 1, 1, none⟩) (.inl rfl) _
  refine ⟨(only_grown h.only hg (fun i hi => .inl (by have := hgo i hi; omega))).then hst (fun i hi e => by omega), (h.mach.only hon (fun e => by have := hgo _ e; omega) (fun e => by have := hgo _ e; omega)).only hst (by omega) (by omega), h.ksz,
    (h.map.only hon (fun e => by have := hgo _ e; omega)).only hst (by omega), cells_set (hon.heap h.cell (fun e => by have := hgo _ e; omega)) 1 v1, ?_⟩
  simp only [List.length_append, List.length_singleton]
  rw [flat_snoc]
  exact own_only ho hst (fun k hk e => by have := hgo1 k hk; omega)
theorem CntI.put {w W : World} {s : Cnt} {v : Value} {es' : Array MapEntry} {clock' : Nat} {pl : List ((Int × Int) × Int)} (h : CntI w W s v) (hI : MapIs pairV iV es' clock' pl) : CntI w (putObj W w.heap.size (.map es' clock')) { s with pl := pl } v := by
  have hst := only_put (Only.refl nob W) w.heap.size (.map es' clock')
  obtain ⟨es, clock, hes, _⟩ := h.map
  exact ⟨h.only.then hst (fun i hi e => by omega), h.mach.only hst (by omega) (by omega), h.ksz, ⟨es', clock', putObj_heap hes, hI⟩, hst.heap h.cell (by omega), own_only h.own hst (fun k hk e => by have := own_ge h.own k hk; omega)⟩
end Go.Proofs.YtgcjmjhdnkffcaaGreatDoor
/- The program's count of a log (layer 43), walked. No condition but lengths. -/
set_option linter.unusedVariables false
set_option linter.unusedSimpArgs false
namespace Go.Proofs.YtgcjmjhdnkffcaaGreatDoor
open Go.RowKit
def CountPost (w : World) (log : List Cmd) (e : Ending) (w' : World) : Prop := e = .returned (.pointer (some ⟨w.heap.size + 1, 0, none⟩)) ∧ ∃ v, CntI w w' (cntP log) v
set_option maxRecDepth 100000 in
set_option maxHeartbeats 8000000 in
theorem count_any (X : Option Addr) (len cap : Nat) (log : List Cmd) (w : World) (hlen : len ≤ 1000) (hl : SlOf Cmd.cells 7 w X len log) (hT : Tabs w) (hsz : ∀ c ∈ log, c.key.size ≤ 1000 ∧ c.val.size ≤ 1000 ∧ c.old.size ≤ 1000) :
    Calls Tryz.prog 12 #[.slice X len cap] w (CountPost w log) := by
  have hmm : ∀ (t : TypeId) (W : World), (Instr.makeMap t none).run Tryz.prog W = .ok (.map (some W.heap.size)) (W.alloc (.map #[] 0)) := fun _ _ => rfl
  have hll := hl.1
  have HL := mk_hid hl
  have HT := mk_hid hT
  have HSZ := mk_hid hsz
  have hfs : ∀ (s : Int) (A : Option Addr) (n c : Nat) (B : Option Addr) (m d : Nat) (W : World), (Instr.field 39 (.agg #[.int .i64 s, .slice A n c, .slice B m d]) 2).run Tryz.prog W = .ok (.slice B m d) W := fun s A n c B m d W => by kernel_rfl
  clear hl hT hsz
  go_enter Tryz.func12, Tryz.ntmps12
  go_wp2_with (go_at_call 22; refine (new_any _).mono ?_; rintro e w1 ⟨rfl, hM, ho1⟩)
  have hI0 : CntI w w1 cnt0 (.slice none 0 0) := by
    have h0 : Only nob w w1 := Only.trans (by (repeat (first | with_reducible exact Only.refl _ _ | with_reducible assumption | with_reducible refine Only.drew ?_ | with_reducible refine Only.drewN ?_ _ | with_reducible refine Only.alloc ?_ _))) ho1
    refine ⟨h0, (by have h := hM; simp at h; exact h), (fun p hp => by simp [cnt0, mach0] at hp), ((MapAt.new pairV iV w).only (S := nob) (by (repeat (first | with_reducible exact Only.refl _ _ | with_reducible assumption | with_reducible refine Only.drew ?_ | with_reducible refine Only.drewN ?_ _ | with_reducible refine Only.alloc ?_ _))) (fun h => h)).only ho1 (fun h => h), (ho1.heap (heap_new (w.heap.size + 1) (by simp)) (fun h => h)).trans ?_, own_nil _ _ _ _⟩
    kernel_rfl
  have HI0 := mk_hid hI0
  clear hI0 hM
  go_loopw [15] (fun i wr => ∃ (k : Nat) (v : Value), k ≤ len ∧ i = .int .i64 k ∧ CntI w wr (cntP (log.take k)) v) (fun i _ => len - (intOf i).toNat)
  case atStart => exact ⟨0, _, by omega, rfl, HI0.out⟩
  case round =>
    obtain ⟨k, v, hk, rfl, hI⟩ := hrel
    by_cases hlt : k < len
    · obtain ⟨x, c, rfl, hp, hmem, hxb, hat⟩ := (HL.out.none hI.only).get hlt
      obtain ⟨f0, f1, f2, f3, f4, f5, f6⟩ := Cmd.facts hat
      obtain ⟨z1, z2, z3⟩ := HSZ.out c hmem
      have h1 : (k : Int) < (len : Int) := by omega
      have h2 : ¬ (k : Int) < 0 := by omega
      have h3 : (0 : Int) ≤ (k : Int) := by omega
      have hal : (cntP (log.take k)).ans.length = k := by rw [cnt_len]; simp; omega
      have HS := mk_hid (cntP_take hp)
      obtain ⟨s, hs⟩ : ∃ s, cntP (log.take k) = s := ⟨_, rfl⟩
      rw [hs] at hI hal HS
      have hsw := hI.only.size
      have hsb := heap_lt hI.mach.cells
      have HI := mk_hid hI
      have HTw := mk_hid (HT.out.none hI.only)
      obtain ⟨⟨M', a⟩, hdo⟩ : ∃ r, doM s.M c = r := ⟨_, rfl⟩
      have hzM : Hid (KSz M') := mk_hid (by have := ksz_step (c := c) hI.ksz z1; rw [hdo] at this; exact this)
      have hcs : Hid (cntStep s c = ⟨M', s.ans ++ [a], plStep s.M M' c ((s.ans.length : Int) + 1) s.pl⟩) := mk_hid (by unfold cntStep; rw [hdo])
      have HDO := mk_hid hdo
      obtain ⟨A0, c0, hv0⟩ := own_form hI.own
      subst hv0
      have HAL := mk_hid hal
      clear hdo hs hp hat hI hmem hal
      go_wp2_with (first | (go_at_call 23; refine (state_any (w.heap.size + 3) (w.heap.size + 2) s.M _ (HI.out.go (by (repeat (first | with_reducible exact Only.refl _ _ | with_reducible assumption | with_reducible refine Only.drew ?_ | with_reducible refine Only.drewN ?_ _ | with_reducible refine Only.alloc ?_ _ | (with_reducible refine Only.set ?_ (.inr ?_) _; rotate_left; first | exact Nat.le_refl _ | exact Nat.le_succ _ | assumption | omega | (dsimp only; omega)))))).mach HI.out.ksz).mono ?_; rintro e w2 ⟨⟨sch, A, n, cc, B, d, rfl, hsB, hfB⟩, ho2⟩; have HB := mk_hid hsB; have HFB := mk_hid hfB; have hO2 := Only.trans (a := wr) (by (repeat (first | with_reducible exact Only.refl _ _ | with_reducible assumption | with_reducible refine Only.drew ?_ | with_reducible refine Only.drewN ?_ _ | with_reducible refine Only.alloc ?_ _ | (with_reducible refine Only.set ?_ (.inr ?_) _; rotate_left; first | exact Nat.le_refl _ | exact Nat.le_succ _ | assumption | omega | (dsimp only; omega))))) ho2; have b2 : w2.heap[wr.heap.size]? = some (.cells #[.int .i64 c.kind, .int .i64 c.client, .int .i64 c.seq, .string c.key, .string c.val, .string c.old, .int .i64 c.node] 25 (0, 0)) := ho2.heap ((heap_new _ rfl).trans (by kernel_rfl)) (fun h => h); obtain ⟨p2, q2⟩ := cells_all b2; clear hsB hfB) | (go_at_call 24; refine (domach_any (w.heap.size + 3) (w.heap.size + 2) s.M c _ (HI.out.go (by (repeat (first | with_reducible exact Only.refl _ _ | with_reducible assumption | with_reducible refine Only.drew ?_ | with_reducible refine Only.drewN ?_ _ | with_reducible refine Only.alloc ?_ _ | (with_reducible refine Only.set ?_ (.inr ?_) _; rotate_left; first | exact Nat.le_refl _ | exact Nat.le_succ _ | assumption | omega | (dsimp only; omega)))))).mach (HTw.out.none (by (repeat (first | with_reducible exact Only.refl _ _ | with_reducible assumption | with_reducible refine Only.drew ?_ | with_reducible refine Only.drewN ?_ _ | with_reducible refine Only.alloc ?_ _ | (with_reducible refine Only.set ?_ (.inr ?_) _; rotate_left; first | exact Nat.le_refl _ | exact Nat.le_succ _ | assumption | omega | (dsimp only; omega)))))) z1 z2 z3).mono ?_; rw [HDO.out]; rintro e w3 ⟨rfl, hM3, ho3⟩; simp only [Ans.agg]; have hI3 := (HI.out.go hO2).turn ho3 hM3 hzM.out; obtain ⟨p3, q3⟩ := cells_all hI3.cell; have hs3 := heap_lt hI3.cell; have b3 := ho3.heap b2 (by omega); have hlt2 : wr.heap.size < w2.heap.size := heap_lt b2; clear p2 q2))
      have hsz3 := ho3.size
      obtain ⟨p4, q4⟩ := cells_all2 hI3.cell
      have HI3 := mk_hid hI3
      clear hI3
      go_region_law (first | (refine step_append_el a.cells (.tmp 30) (.tmp 32) ⟨w3.heap.size + 1, 0, none⟩ rfl rfl Tryz.underlying40 infoAns rfl (by decide) (by decide) (HI3.out.go (by (repeat (first | with_reducible exact Only.refl _ _ | with_reducible assumption | with_reducible refine Only.drew ?_ | with_reducible refine Only.drewN ?_ _ | with_reducible refine Only.alloc ?_ _)))).own (by first | omega | (simp; omega)) (by have := HAL.out; dsimp only; omega) rfl (Ans.cells_one _) rfl rfl (at_box (heap_new _ (by simp))) ?_; intro g cap w5 ho1 hg1 hv1; have hb5 := (Only.of_grown (S := fun i => (Value.slice A0 s.ans.length c0).ownBlock = some i) hg1 (fun k hk => hk)).heap (HI3.out.go (by (repeat (first | with_reducible exact Only.refl _ _ | with_reducible assumption | with_reducible refine Only.drew ?_ | with_reducible refine Only.drewN ?_ _ | with_reducible refine Only.alloc ?_ _)))).cell (fun e => by have := own_ge HI3.out.own _ e; omega); obtain ⟨m1, n1⟩ := cells_all hb5; clear hb5))
      all_goals
        have hlv := own_lt HI.out.own
        have hgv : ∀ i, (Value.slice A0 s.ans.length c0).ownBlock = some i → w.heap.size + 4 ≤ i := fun i hi => own_ge HI.out.own i hi
        have hI6 := (HI3.out.go (by (repeat (first | with_reducible exact Only.refl _ _ | with_reducible assumption | with_reducible refine Only.drew ?_ | with_reducible refine Only.drewN ?_ _ | with_reducible refine Only.alloc ?_ _)))).app ho1 hg1
        have hOn := Only.of_grown (S := fun i => (Value.slice A0 s.ans.length c0).ownBlock = some i) hg1 (fun k hk => hk)
        have hOs : Only (fun i => i = w.heap.size + 1) w5 (w5.setCell ⟨w.heap.size + 1, 1, none⟩ (.slice (some ⟨g, 0, none⟩) (s.ans.length + 1) cap)) := (Only.refl (fun i => i = w.heap.size + 1) w5).set (p := ⟨w.heap.size + 1, 1, none⟩) (.inl rfl) _
        have hB6 := ((((HB.out.only ho3 (fun x hx e => by have := HFB.out x hx; simp at this; omega)).none (w' := ((w3.alloc _).alloc _).drew) (by (repeat (first | with_reducible exact Only.refl _ _ | with_reducible assumption | with_reducible refine Only.drew ?_ | with_reducible refine Only.drewN ?_ _ | with_reducible refine Only.alloc ?_ _)))).only hOn (fun x hx e => by have := HFB.out x hx; simp at this; have := hlv _ e; omega)).only hOs (fun x hx e => by have := HFB.out x hx; simp at this; omega))
        have b6 := hOs.heap (hOn.heap ((show Only nob w3 ((w3.alloc _).alloc _).drew from by (repeat (first | with_reducible exact Only.refl _ _ | with_reducible assumption | with_reducible refine Only.drew ?_ | with_reducible refine Only.drewN ?_ _ | with_reducible refine Only.alloc ?_ _))).heap b3 (fun h => h)) (fun e => by have := hlv _ e; omega)) (by omega)
        have hI6' : CntI w (w5.setCell ⟨w.heap.size + 1, 1, none⟩ (.slice (some ⟨g, 0, none⟩) (s.ans.length + 1) cap)) ⟨M', s.ans ++ [a], s.pl⟩ (.slice (some ⟨g, 0, none⟩) (s.ans.length + 1) cap) := hI6
        obtain ⟨w6, hw6⟩ : ∃ W, w5.setCell ⟨w.heap.size + 1, 1, none⟩ (.slice (some ⟨g, 0, none⟩) (s.ans.length + 1) cap) = W := ⟨_, rfl⟩
        rw [hw6] at hI6' hB6 b6
        rw [hw6]
        have HI6 := mk_hid hI6'
        have HB6 := mk_hid hB6
        clear hI6 hI6' hB6 hOs hOn hw6 hg1 ho1 hv1 m1 n1 p3 q3 p4 q4 b2 b3 HI3
        obtain ⟨p6, q6⟩ := cells_all b6
        have hs6 := heap_lt b6
        have hn6 := HI6.out.only.size
        by_cases heq : sessP s.M.done 9 = sessP M'.done 9
        · have HQ := mk_hid heq
          clear heq
          go_wp2_with (first | (go_at_call 23; refine (state_any (w.heap.size + 3) (w.heap.size + 2) M' _ HI6.out.mach HI6.out.ksz).mono ?_; rintro e w7 ⟨⟨sch2, A2, n2, cc2, B2, d2, rfl, hsB2, hfB2⟩, ho7⟩; have HB2 := mk_hid hsB2; clear hsB2 hfB2) | (go_at_call 25; refine (sleq_any B B2 _ _ d d2 _ _ _ (by have := sess_len s.M.done 9; omega) (by have := sess_len M'.done 9; omega) (HB6.out.none (by assumption)) HB2.out).mono ?_; rintro e w8 ⟨⟨b, rfl, hb⟩, ho8⟩; obtain rfl : b = true := hb.2 HQ.out; clear hb; have hO8 := Only.trans ho7 ho8; have b8 := hO8.heap b6 (fun h => h); obtain ⟨p8, q8⟩ := cells_all b8; have hI8 := HI6.out.go hO8; obtain ⟨m8, n8⟩ := cells_all hI8.cell; have HI8 := mk_hid hI8; clear p6 q6 b6 hI8))
          go_roundw
          case rel => exact ⟨k + 1, _, by omega, by go_num, by rw [HS.out, hcs.out, plStep, if_pos HQ.out]; exact HI8.out⟩
          case measure => simp [intOf]; omega
        · have HQ := mk_hid heq
          clear heq
          go_wp2_with (first | (go_at_call 23; refine (state_any (w.heap.size + 3) (w.heap.size + 2) M' _ HI6.out.mach HI6.out.ksz).mono ?_; rintro e w7 ⟨⟨sch2, A2, n2, cc2, B2, d2, rfl, hsB2, hfB2⟩, ho7⟩; have HB2 := mk_hid hsB2; clear hsB2 hfB2) | (go_at_call 25; refine (sleq_any B B2 _ _ d d2 _ _ _ (by have := sess_len s.M.done 9; omega) (by have := sess_len M'.done 9; omega) (HB6.out.none (by assumption)) HB2.out).mono ?_; rintro e w8 ⟨⟨b, rfl, hb⟩, ho8⟩; obtain rfl : b = false := (by cases b; rfl; exact absurd (hb.1 rfl) HQ.out); clear hb; have hO8 := Only.trans ho7 ho8; have b8 := hO8.heap b6 (fun h => h); obtain ⟨p8, q8⟩ := cells_all b8; have hI8 := HI6.out.go hO8; obtain ⟨m8, n8⟩ := cells_all hI8.cell; have HI8 := mk_hid hI8; clear p6 q6 b6 hI8))
          obtain ⟨es, clock, hes, hIs⟩ := HI8.out.map
          obtain ⟨es', clock', hIs', hU, _⟩ := update_run keyOk_pair (show Tryz.prog.underlying 57 = some (.map 67 3) from Tryz.underlying57) hIs (c.client, c.seq) ((s.ans.length : Int) + 1)
          refine wp_region_tail 11 (by kernel_rfl) (by kernel_rfl) ?_
          simp only [List.take_succ_cons, List.take_zero, List.drop_succ_cons, List.drop_zero]
          intro wd hwd
          have hO : Only nob w8 wd := by subst hwd; (repeat (first | with_reducible exact Only.refl _ _ | with_reducible assumption | with_reducible refine Only.drew ?_ | with_reducible refine Only.drewN ?_ _ | with_reducible refine Only.alloc ?_ _ | (with_reducible refine Only.set ?_ (.inr ?_) _; rotate_left; first | exact Nat.le_refl _ | exact Nat.le_succ _ | assumption | omega | (dsimp only; omega))))
          have hUd : (Instr.mapUpdate 57 (.map (some w.heap.size)) (.agg #[.int .i64 c.client, .int .i64 c.seq]) (.int .i64 ((k : Int) + 1))).run Tryz.prog wd = .ok () (putObj wd w.heap.size (.map es' clock')) := by
            have h := hU w.heap.size wd (hO.heap hes (fun h => h))
            rw [HAL.out] at h
            exact h
          have hId := HI8.out.go hO
          obtain ⟨md, nd⟩ := cells_all hId.cell
          obtain ⟨pd, qd⟩ := cells_all (hO.heap b8 (fun h => h))
          have HF := mk_hid (hId.put hIs')
          have hw1 : IntKind.i64.wrap ((k : Int) + 1) = (k : Int) + 1 := by rw [IntKind.wrap_i64]; omega
          clear hwd hO hU hes hIs hIs' hId m8 n8 p8 q8
          repeat still_step
          refine still_done ?_
          go_wp2
          go_roundw
          case rel => exact ⟨k + 1, _, by omega, by go_num, by rw [HS.out, hcs.out, plStep, if_neg HQ.out]; exact HF.out⟩
          case measure => simp [intOf]; omega
    · obtain rfl : k = len := by omega
      have hsk : log.take k = log := by rw [← hll, List.take_length]
      rw [hsk] at hI
      have g1 : ¬ (k : Int) < (k : Int) := by omega
      have HI := mk_hid hI
      clear hI
      go_wp2
      refine bodyPost_ret (v := .pointer (some ⟨w.heap.size + 1, 0, none⟩)) (by simp [results, Tryz.results12, go_sem, *]) rfl ⟨rfl, v, HI.out.go (by (repeat (first | with_reducible exact Only.refl _ _ | with_reducible assumption | with_reducible refine Only.drew ?_ | with_reducible refine Only.drewN ?_ _ | with_reducible refine Only.alloc ?_ _)))⟩
end Go.Proofs.YtgcjmjhdnkffcaaGreatDoor
