/- The reference's run of a log (layer 29), walked; no condition but lengths. -/
import Derived.Test.YtgcjmjhdnkffcaaGreatDoorJRefApply
import Derived.Test.YtgcjmjhdnkffcaaGreatDoorJRefDoAll
import Derived.Deep.RegionHeld3
import Derived.Deep.CutRange
set_option linter.unusedVariables false
set_option linter.unusedSimpArgs false
namespace Go.Proofs.YtgcjmjhdnkffcaaGreatDoor
open Go.RowKit
/-- The loop's memory: the results' place, the state, the answers' row. -/
structure RunM (w wr : World) (v : Value) (st : St × List Ans) (A B : Option Addr) (c d : Nat) : Prop where
  own : wr.ownsRow (w.heap.size + 2) 28 6 v st.2.length (st.2.flatMap Ans.cells)
  only : Only nob w wr
  b0 : wr.heap[w.heap.size]? = some (.cells #[.int .i64 0, .slice none 0 0, .slice none 0 0] 39 (0, 0))
  b1 : wr.heap[w.heap.size + 1]? = some (.cells #[.int .i64 st.1.schema, .slice A st.1.pairs.length c, .slice B st.1.sess.length d] 39 (0, 0))
  hl : SlOf Pair.cells 3 wr A st.1.pairs.length st.1.pairs
  hs : SlOf Sess.cells 8 wr B st.1.sess.length st.1.sess
  fA : 0 < st.1.pairs.length → ∀ x, A = some x → w.heap.size + 2 ≤ x.block ∧ v.ownBlock ≠ some x.block
  fB : 0 < st.1.sess.length → ∀ x, B = some x → w.heap.size + 2 ≤ x.block ∧ v.ownBlock ≠ some x.block
theorem SlOf.lt {α : Type} {enc : α → List Value} {size : Nat} {w : World} {A : Option Addr} {n : Nat} {ps : List α} (h : SlOf enc size w A n ps) (hn : 0 < n) : ∀ x, A = some x → x.block < w.heap.size := by
  intro x hx
  obtain ⟨y, rfl, hy, _⟩ := h.2 hn
  cases hx; exact hy
theorem RunM.go {w wr w1 : World} {v : Value} {st : St × List Ans} {A B : Option Addr} {c d : Nat} (h : RunM w wr v st A B c d) (ho : Only nob wr w1) : RunM w w1 v st A B c d :=
  ⟨own_only h.own ho (fun _ _ hs => hs), h.only.trans ho, ho.heap h.b0 (fun hs => hs), ho.heap h.b1 (fun hs => hs), h.hl.none ho, h.hs.none ho, h.fA, h.fB⟩
theorem RunM.app {w W w1 : World} {v v1 : Value} {st : St × List Ans} {a : Ans} {A B : Option Addr} {c d : Nat} (h : RunM w W v st A B c d) (ho : w1.ownsRow (w.heap.size + 2) 28 6 v1 (st.2.length + 1) (st.2.flatMap Ans.cells ++ a.cells)) (hg : W.grownBy w1 v.ownBlock)
    (hv : v1.ownBlock = v.ownBlock ∨ v1.ownBlock = some (W.heap.size + 1)) : RunM w w1 v1 (st.1, st.2 ++ [a]) A B c d := by
  have hgo : ∀ i, v.ownBlock = some i → w.heap.size + 2 ≤ i := fun i hi => own_ge h.own i hi
  have hon : Only (fun i => v.ownBlock = some i) W w1 := Only.of_grown hg (fun k hk => hk)
  refine ⟨?_, only_grown h.only hg (fun j hj => .inl (by have := hgo j hj; omega)), hon.heap h.b0 (fun e => by have := hgo _ e; omega), hon.heap h.b1 (fun e => by have := hgo _ e; omega), h.hl.only' hon (fun hn x hx => (h.fA hn x hx).2), h.hs.only' hon (fun hn x hx => (h.fB hn x hx).2), ?_, ?_⟩
  · show w1.ownsRow _ _ _ _ (st.2 ++ [a]).length ((st.2 ++ [a]).flatMap Ans.cells)
    rw [flat_snoc, List.length_append]; exact ho
  · intro hn x hx
    refine ⟨(h.fA hn x hx).1, fun e => ?_⟩
    rcases hv with hv | hv
    · exact (h.fA hn x hx).2 (hv ▸ e)
    · have := h.hl.lt hn x hx; rw [hv] at e; injection e; omega
  · intro hn x hx
    refine ⟨(h.fB hn x hx).1, fun e => ?_⟩
    rcases hv with hv | hv
    · exact (h.fB hn x hx).2 (hv ▸ e)
    · have := h.hs.lt hn x hx; rw [hv] at e; injection e; omega
/-- Behind a command: what Apply left in new memory, and is put into the state. -/
theorem RunM.put {w wr W w1 w2 : World} {v : Value} {st : St × List Ans} {s : St} {A B A' B' : Option Addr} {c d c' d' : Nat} (h : RunM w wr v st A B c d) (ho : Only nob wr w1) (hl : SlOf Pair.cells 3 w1 A' s.pairs.length s.pairs) (hs : SlOf Sess.cells 8 w1 B' s.sess.length s.sess)
    (oA : Outs W A A' st.1.pairs.length s.pairs.length) (oB : Outs W B B' st.1.sess.length s.sess.length) (hW : W.heap.size = wr.heap.size) (h2 : Only nob w1 w2) :
    RunM w (((w2.setCell ⟨w.heap.size + 1, 0, none⟩ (.int .i64 s.schema)).setCell ⟨w.heap.size + 1, 1, none⟩ (.slice A' s.pairs.length c')).setCell ⟨w.heap.size + 1, 2, none⟩ (.slice B' s.sess.length d')) v (s, st.2) A' B' c' d' := by
  have H := (h.go ho).go h2
  have hon : Only (fun i => i = w.heap.size + 1) w2 (((w2.setCell ⟨w.heap.size + 1, 0, none⟩ (.int .i64 s.schema)).setCell ⟨w.heap.size + 1, 1, none⟩ (.slice A' s.pairs.length c')).setCell ⟨w.heap.size + 1, 2, none⟩ (.slice B' s.sess.length d')) :=
    (((Only.refl (fun i => i = w.heap.size + 1) w2).set (p := ⟨w.heap.size + 1, 0, none⟩) (.inl rfl) _).set (p := ⟨w.heap.size + 1, 1, none⟩) (.inl rfl) _).set (p := ⟨w.heap.size + 1, 2, none⟩) (.inl rfl) _
  have hwr := h.only.size
  have hb1 := heap_lt h.b1
  have fA : 0 < s.pairs.length → ∀ x, A' = some x → w.heap.size + 2 ≤ x.block ∧ v.ownBlock ≠ some x.block := by
    intro hn x hx
    rcases oA x hx with ⟨e1, e2⟩ | e1
    · exact h.fA (by omega) x e1
    · exact ⟨by omega, fun e => by have := own_lt h.own _ e; omega⟩
  have fB : 0 < s.sess.length → ∀ x, B' = some x → w.heap.size + 2 ≤ x.block ∧ v.ownBlock ≠ some x.block := by
    intro hn x hx
    rcases oB x hx with ⟨e1, e2⟩ | e1
    · exact h.fB (by omega) x e1
    · exact ⟨by omega, fun e => by have := own_lt h.own _ e; omega⟩
  refine ⟨own_only H.own hon (fun k hk e => by have := own_ge h.own k hk; omega), ?_, hon.heap H.b0 (by omega), ?_, (hl.none h2).only' hon (fun hn x hx e => by have := (fA hn x hx).1; omega), (hs.none h2).only' hon (fun hn x hx e => by have := (fB hn x hx).1; omega), fA, fB⟩
  · exact H.only.then hon (fun i hi e => by omega)
  · have := cells_set (cells_set (cells_set H.b1 0 (.int .i64 s.schema)) 1 (.slice A' s.pairs.length c')) 2 (.slice B' s.sess.length d')
    exact this
/-- Behind Apply in a round: the two variables, what they hold, what the state's slices are. -/
def MidRun (w1 : World) (A B : Option Addr) (n m : Nat) (s' : St) (a' : Ans) (v7 v8 : Value) (wx : World) : Prop :=
  ∃ m7 m8 A' c' B' d', v7 = .pointer (some ⟨m7, 0, none⟩) ∧ v8 = .pointer (some ⟨m8, 0, none⟩) ∧ m7 ≠ m8 ∧ w1.heap.size ≤ m7 ∧ w1.heap.size ≤ m8 ∧ Only nob w1 wx ∧
    wx.heap[m7]? = some (.cells #[.int .i64 s'.schema, .slice A' s'.pairs.length c', .slice B' s'.sess.length d'] 39 (0, 0)) ∧ wx.heap[m8]? = some (.cells #[.int .i64 a'.client, .int .i64 a'.seq, .int .i64 a'.err, .bool a'.found, .string a'.val, .int .i64 a'.rev] 28 (0, 0)) ∧
    SlOf Pair.cells 3 wx A' s'.pairs.length s'.pairs ∧ SlOf Sess.cells 8 wx B' s'.sess.length s'.sess ∧ Outs w1 A A' n s'.pairs.length ∧ Outs w1 B B' m s'.sess.length
theorem MidRun.mk' {w1 W w2 wx : World} {A B A' B' : Option Addr} {n m c' d' m7 m8 : Nat} {s' : St} {a' : Ans} {la : List Pair} {lb : List Sess} (ho2 : Only nob W w2) (hA : SlOf Pair.cells 3 w1 A n la) (hB : SlOf Sess.cells 8 w1 B m lb) (hlA : SlOf Pair.cells 3 w2 A' s'.pairs.length s'.pairs) (hlB : SlOf Sess.cells 8 w2 B' s'.sess.length s'.sess)
    (oA : Outs W A A' n s'.pairs.length) (oB : Outs W B B' m s'.sess.length) (hW : Only nob w1 W) (hx : Only (fun i => w1.heap.size ≤ i ∧ i < W.heap.size) w2 wx) (hne : m7 ≠ m8) (h17 : w1.heap.size ≤ m7) (h18 : w1.heap.size ≤ m8)
    (h7 : wx.heap[m7]? = some (.cells #[.int .i64 s'.schema, .slice A' s'.pairs.length c', .slice B' s'.sess.length d'] 39 (0, 0))) (h8 : wx.heap[m8]? = some (.cells #[.int .i64 a'.client, .int .i64 a'.seq, .int .i64 a'.err, .bool a'.found, .string a'.val, .int .i64 a'.rev] 28 (0, 0))) :
    MidRun w1 A B n m s' a' (.pointer (some ⟨m7, 0, none⟩)) (.pointer (some ⟨m8, 0, none⟩)) wx := by
  have hWs := hW.size
  have hA' : 0 < s'.pairs.length → ∀ x, A' = some x → ¬ (w1.heap.size ≤ x.block ∧ x.block < W.heap.size) := by
    intro hn x hx ⟨g1, g2⟩
    rcases oA x hx with ⟨e1, e2⟩ | e1
    · have := hA.lt (by omega) x e1; omega
    · omega
  have hB' : 0 < s'.sess.length → ∀ x, B' = some x → ¬ (w1.heap.size ≤ x.block ∧ x.block < W.heap.size) := by
    intro hn x hx ⟨g1, g2⟩
    rcases oB x hx with ⟨e1, e2⟩ | e1
    · have := hB.lt (by omega) x e1; omega
    · omega
  refine ⟨m7, m8, A', c', B', d', rfl, rfl, hne, h17, h18, (hW.trans ho2).then hx (fun i hi hh => by omega), h7, h8, hlA.only' hx hA', hlB.only' hx hB', fun x hx => ?_, fun x hx => ?_⟩
  · rcases oA x hx with e | e
    · exact .inl e
    · exact .inr (by omega)
  · rcases oB x hx with e | e
    · exact .inl e
    · exact .inr (by omega)
theorem lt_alloc1 {w : World} {o : Obj} : w.heap.size < (w.alloc o).drew.heap.size := by show w.heap.size < (w.alloc o).heap.size; simp
theorem lt_alloc2a {w : World} {o o' : Obj} : w.heap.size < ((w.alloc o).alloc o').drew.heap.size := by show w.heap.size < ((w.alloc o).alloc o').heap.size; simp; omega
theorem lt_alloc2b {w : World} {o o' : Obj} : w.heap.size + 1 < ((w.alloc o).alloc o').drew.heap.size := by show w.heap.size + 1 < ((w.alloc o).alloc o').heap.size; simp
theorem set3 {w : World} {b : Nat} {a0 a1 a2 x y z : Value} {t : TypeId} (h : w.heap[b]? = some (.cells #[a0, a1, a2] t (0, 0))) : (((w.setCell ⟨b, 0, none⟩ x).setCell ⟨b, 1, none⟩ y).setCell ⟨b, 2, none⟩ z).heap[b]? = some (.cells #[x, y, z] t (0, 0)) := cells_set (cells_set (cells_set h 0 x) 1 y) 2 z
theorem set6 {w : World} {b : Nat} {a0 a1 a2 a3 a4 a5 x0 x1 x2 x3 x4 x5 : Value} {t : TypeId} (h : w.heap[b]? = some (.cells #[a0, a1, a2, a3, a4, a5] t (0, 0))) :
    ((((((w.setCell ⟨b, 0, none⟩ x0).setCell ⟨b, 1, none⟩ x1).setCell ⟨b, 2, none⟩ x2).setCell ⟨b, 3, none⟩ x3).setCell ⟨b, 4, none⟩ x4).setCell ⟨b, 5, none⟩ x5).heap[b]? = some (.cells #[x0, x1, x2, x3, x4, x5] t (0, 0)) := cells_set (cells_set (cells_set (cells_set (cells_set (cells_set h 0 x0) 1 x1) 2 x2) 3 x3) 4 x4) 5 x5
theorem set3o {w : World} {b g : Nat} {o : Obj} {x y z : Value} (h : w.heap[g]? = some o) (hne : g ≠ b) : (((w.setCell ⟨b, 0, none⟩ x).setCell ⟨b, 1, none⟩ y).setCell ⟨b, 2, none⟩ z).heap[g]? = some o := heap_set_other (heap_set_other (heap_set_other h _ _ hne) _ _ hne) _ _ hne
theorem set6o {w : World} {b g : Nat} {o : Obj} {x0 x1 x2 x3 x4 x5 : Value} (h : w.heap[g]? = some o) (hne : g ≠ b) : ((((((w.setCell ⟨b, 0, none⟩ x0).setCell ⟨b, 1, none⟩ x1).setCell ⟨b, 2, none⟩ x2).setCell ⟨b, 3, none⟩ x3).setCell ⟨b, 4, none⟩ x4).setCell ⟨b, 5, none⟩ x5).heap[g]? = some o :=
  heap_set_other (heap_set_other (heap_set_other (heap_set_other (heap_set_other (heap_set_other h _ _ hne) _ _ hne) _ _ hne) _ _ hne) _ _ hne) _ _ hne
def RunPost (w : World) (r : St × List Ans) (e : Ending) (w' : World) : Prop :=
  (∃ A c B d G g, e = .returned (.tuple #[.agg #[.int .i64 r.1.schema, .slice A r.1.pairs.length c, .slice B r.1.sess.length d], .slice G r.2.length g]) ∧ SlOf Pair.cells 3 w' A r.1.pairs.length r.1.pairs ∧ SlOf Sess.cells 8 w' B r.1.sess.length r.1.sess ∧ SlOf Ans.cells 6 w' G r.2.length r.2) ∧ Only nob w w'
theorem RunPost.fin {w wr W2 : World} {v : Value} {st : St × List Ans} {A B G : Option Addr} {c d g : Nat} (h : RunM w wr v st A B c d) (hs : SlOf Ans.cells 6 wr G st.2.length st.2) (hf : ∀ x, G = some x → w.heap.size + 2 ≤ x.block)
    (h2 : Only (fun i => i = w.heap.size) wr W2) : RunPost w st (.returned (.tuple #[.agg #[.int .i64 st.1.schema, .slice A st.1.pairs.length c, .slice B st.1.sess.length d], .slice G st.2.length g])) W2 :=
  ⟨⟨A, c, B, d, G, g, rfl, h.hl.only' h2 (fun hn x hx e => by have := (h.fA hn x hx).1; omega), h.hs.only' h2 (fun hn x hx e => by have := (h.fB hn x hx).1; omega), hs.only h2 (fun x hx e => by have := hf x hx; omega)⟩, h.only.then h2 (fun i hi hh => by omega)⟩
set_option maxRecDepth 100000 in
set_option maxHeartbeats 4000000 in
theorem refrun_any (X : Option Addr) (len cap : Nat) (l : List Cmd) (w : World) (h : len ≤ 60) (hl : SlOf Cmd.cells 7 w X len l) (hsz : ∀ c ∈ l, c.key.size ≤ 1000 ∧ c.val.size ≤ 1000 ∧ c.old.size ≤ 1000) :
    Calls Tryz.prog 9 #[.slice X len cap] w (RunPost w (runS l)) := by
  go_enter Tryz.func9, Tryz.ntmps9
  go_wp2
  go_loopw [5, 6] (fun v i wr => ∃ (k : Nat) (st : St × List Ans) (A B : Option Addr) (c d : Nat), k ≤ len ∧ i = .int .i64 k ∧ (l.take k).foldl runStep run0 = st ∧ RunM w wr v st A B c d) (fun _ i _ => len - (intOf i).toNat)
  case atStart => exact ⟨0, _, none, none, 0, 0, by omega, rfl, rfl, own_nil _ _ _ _, by (repeat (first | with_reducible exact Only.refl _ _ | with_reducible assumption | with_reducible refine Only.drew ?_ | with_reducible refine Only.drewN ?_ _ | with_reducible refine Only.alloc ?_ _)), heap_old _ (heap_new _ rfl), heap_new _ (by simp), SlOf.nil _ _ _ _, SlOf.nil _ _ _ _, fun h => absurd h (by simp [run0]), fun h => absurd h (by simp [run0])⟩
  case round =>
    obtain ⟨k, st, A, B, c, d, hk, rfl, hst, hI⟩ := hrel
    have hgood : st.1.good k := by
      have := run_good (l.take k) 0 run0 ⟨.inl rfl, ⟨by simp [run0], by simp [run0]⟩, by simp [run0]⟩
      rw [hst] at this
      simpa [List.length_take, hl.1, Nat.min_eq_left hk] using this
    have hans : st.2.length = k := by
      have := runStep_ans (l.take k) run0
      rw [hst] at this
      simpa [run0, List.length_take, hl.1, Nat.min_eq_left hk] using this
    by_cases hlt : k < len
    · obtain ⟨x, cm, rfl, hp, hmem, hxb, hat⟩ := (hl.none hI.only).get hlt
      have hnext : Hid ((l.take (k + 1)).foldl runStep run0 = runStep st cm) := mk_hid (by rw [take_foldl _ _ _ _ _ hp, hst])
      obtain ⟨f0, f1, f2, f3, f4, f5, f6⟩ := Cmd.facts hat
      obtain ⟨z1, z2, z3⟩ := hsz cm hmem
      have h1 : (k : Int) < (len : Int) := by omega
      have h2 : ¬ (k : Int) < 0 := by omega
      have HI := mk_hid hI
      have HN := mk_hid hans
      have HG := mk_hid hgood
      clear hans hgood
      have hown := hI.own
      obtain ⟨G, cG, rfl⟩ := own_form hown
      clear hp hst hl
      by_cases hc : chk cm = 0
      · have hc' : (chk cm != 0) = false := by simpa using hc
        have hE : Hid (runStep st cm = ((applyS st.1 cm).1, st.2 ++ [(applyS st.1 cm).2])) := mk_hid (by unfold runStep; rw [if_pos hc])
        have HAT : Hid (∀ w1, Only nob wr w1 → At w1 (x.add (k * 7)) cm.cells) := mk_hid (fun w1 ho => hat.only ho (fun hs => hs))
        clear hc hat
        go_wp2_with (first
          | (go_at_call 18; refine (refchk_any cm _ z1 z2 z3).mono ?_; rintro e w1 ⟨rfl, ho⟩; have hJ := hI.go ho; have HJ := mk_hid hJ; obtain ⟨c1, e1⟩ := cells_all hJ.b1; obtain ⟨f0, f1, f2, f3, f4, f5, f6⟩ := Cmd.facts (HAT.out w1 ho)))
        have hok := HG.out.ok (by omega)
        rcases hap : applyS st.1 cm with ⟨s', a'⟩
        have HAP := mk_hid hap
        clear hap
        go_cut [7, 8] from 10 to 39 (fun v7 v8 wx => MidRun w1 A B st.1.pairs.length st.1.sess.length s' a' v7 v8 wx)
        case first =>
          have HK : ∀ w', Only nob w1 w' → w'.cell? ⟨w.heap.size + 1, 0, none⟩ = some (.int .i64 st.1.schema) ∧ w'.cell? ⟨w.heap.size + 1, 1, none⟩ = some (.slice A st.1.pairs.length c) ∧ w'.cell? ⟨w.heap.size + 1, 2, none⟩ = some (.slice B st.1.sess.length d) ∧
              w'.cell? (x.add (k * 7)) = some (.int .i64 cm.kind) ∧ w'.cell? ⟨(x.add (k * 7)).block, (x.add (k * 7)).off + 1, none⟩ = some (.int .i64 cm.client) ∧ w'.cell? ⟨(x.add (k * 7)).block, (x.add (k * 7)).off + 2, none⟩ = some (.int .i64 cm.seq) ∧
              w'.cell? ⟨(x.add (k * 7)).block, (x.add (k * 7)).off + 3, none⟩ = some (.string cm.key) ∧ w'.cell? ⟨(x.add (k * 7)).block, (x.add (k * 7)).off + 4, none⟩ = some (.string cm.val) ∧ w'.cell? ⟨(x.add (k * 7)).block, (x.add (k * 7)).off + 5, none⟩ = some (.string cm.old) ∧ w'.cell? ⟨(x.add (k * 7)).block, (x.add (k * 7)).off + 6, none⟩ = some (.int .i64 cm.node) := fun w' hw => ⟨(hw.cell (cells_cell hJ.b1 0) (fun h => h)).trans rfl, (hw.cell (cells_cell hJ.b1 1) (fun h => h)).trans rfl, (hw.cell (cells_cell hJ.b1 2) (fun h => h)).trans rfl, hw.cell f0 (fun h => h), hw.cell f1 (fun h => h), hw.cell f2 (fun h => h), hw.cell f3 (fun h => h), hw.cell f4 (fun h => h), hw.cell f5 (fun h => h), hw.cell f6 (fun h => h)⟩
          go_region_held3 (fun w' => w'.cell? ⟨w.heap.size + 1, 0, none⟩ = some (.int .i64 st.1.schema) ∧ w'.cell? ⟨w.heap.size + 1, 1, none⟩ = some (.slice A st.1.pairs.length c) ∧ w'.cell? ⟨w.heap.size + 1, 2, none⟩ = some (.slice B st.1.sess.length d) ∧
              w'.cell? (x.add (k * 7)) = some (.int .i64 cm.kind) ∧ w'.cell? ⟨(x.add (k * 7)).block, (x.add (k * 7)).off + 1, none⟩ = some (.int .i64 cm.client) ∧ w'.cell? ⟨(x.add (k * 7)).block, (x.add (k * 7)).off + 2, none⟩ = some (.int .i64 cm.seq) ∧
              w'.cell? ⟨(x.add (k * 7)).block, (x.add (k * 7)).off + 3, none⟩ = some (.string cm.key) ∧ w'.cell? ⟨(x.add (k * 7)).block, (x.add (k * 7)).off + 4, none⟩ = some (.string cm.val) ∧ w'.cell? ⟨(x.add (k * 7)).block, (x.add (k * 7)).off + 5, none⟩ = some (.string cm.old) ∧ w'.cell? ⟨(x.add (k * 7)).block, (x.add (k * 7)).off + 6, none⟩ = some (.int .i64 cm.node))
            (first | exact HK _ (by (repeat (first | with_reducible exact Only.refl _ _ | with_reducible assumption | with_reducible refine Only.drew ?_ | with_reducible refine Only.drewN ?_ _ | with_reducible refine Only.alloc ?_ _ | (with_reducible refine Only.set ?_ (.inr ?_) _; rotate_left; first | exact Nat.le_refl _ | exact Nat.le_succ _ | assumption | omega | (dsimp only; omega))))))
            (first | (go_at_call 19; refine (refapply_any A B c d st.1 cm _ hok (hJ.hl.none (by (repeat (first | with_reducible exact Only.refl _ _ | with_reducible assumption | with_reducible refine Only.drew ?_ | with_reducible refine Only.drewN ?_ _ | with_reducible refine Only.alloc ?_ _)))) (hJ.hs.none (by (repeat (first | with_reducible exact Only.refl _ _ | with_reducible assumption | with_reducible refine Only.drew ?_ | with_reducible refine Only.drewN ?_ _ | with_reducible refine Only.alloc ?_ _))))).mono ?_; rw [HAP.out]; rintro e w2 ⟨⟨A', c', B', d', rfl, hlA, hlB, oA, oB⟩, ho2⟩; have hu := Only.trans (a := w1) (by (repeat (first | with_reducible exact Only.refl _ _ | with_reducible assumption | with_reducible refine Only.drew ?_ | with_reducible refine Only.drewN ?_ _ | with_reducible refine Only.alloc ?_ _))) ho2; have hus := hu.size; have hv := undrew ho2; (first | (have r1 := hv.heap (heap_old _ (heap_new w1.heap.size rfl)) (fun h => h); obtain ⟨g1, G1⟩ := cells_all r1; have r2 := (hv.heap (heap_new (w1.heap.size + 1) (by simp)) (fun h => h)); obtain ⟨g2, G2⟩ := cells_all r2; have lt2 := heap_lt r2; have R1 := mk_hid r1; have R2 := mk_hid r2; clear r1 r2) | (have r1 := hv.heap (heap_new w1.heap.size rfl) (fun h => h); obtain ⟨g1, G1⟩ := cells_all r1; obtain ⟨y1, Y1⟩ := cells_all1 r1; have lt1 := heap_lt r1; have hn1 := Nat.ne_of_lt lt1; have hn2 := Nat.ne_of_gt lt1; have R1 := mk_hid r1; clear r1) | skip); simp only [Ans.agg]))
          all_goals
            go_wp2
            go_meet
            case rel =>
              refine MidRun.mk' (c' := c') (d' := d') ho2 hJ.hl hJ.hs hlA hlB oA oB (by (repeat (first | with_reducible exact Only.refl _ _ | with_reducible assumption | with_reducible refine Only.drew ?_ | with_reducible refine Only.drewN ?_ _ | with_reducible refine Only.alloc ?_ _))) (by (repeat (first | with_reducible exact Only.refl _ _ | with_reducible refine Only.drew ?_ | with_reducible refine Only.drewN ?_ _ | with_reducible refine Only.alloc ?_ _ | (with_reducible refine Only.set ?_ (.inl ⟨?_, ?_⟩) _; rotate_left; (first | exact Nat.le_refl _ | exact Nat.le_succ _); (first | exact lt_alloc1 | exact lt_alloc2a | exact lt_alloc2b))))) ?_ ?_ ?_ ?_ ?_
              · first | assumption | omega
              · first | exact Nat.le_refl _ | exact Nat.le_succ _ | exact hus | omega
              · first | exact Nat.le_refl _ | exact Nat.le_succ _ | exact hus | omega
              · first | (with_reducible refine heap_new _ ?_; simp; done) | (with_reducible refine set6o (set3 R1.out) ?_; omega) | (with_reducible refine set6o (set3 R2.out) ?_; omega) | (with_reducible refine heap_old _ ?_; with_reducible refine heap_new _ ?_; simp; done) | (with_reducible refine heap_old _ ?_; with_reducible refine set3 R1.out; done)
              · first | (with_reducible refine heap_new _ ?_; simp; done) | (with_reducible refine set6 (set3o R2.out ?_); omega) | (with_reducible refine set6 (set3o R1.out ?_); omega) | (with_reducible refine heap_old _ ?_; with_reducible refine heap_new _ ?_; simp; done) | (with_reducible refine heap_old _ ?_; with_reducible refine set6 R1.out; done)
        case rest =>
          obtain ⟨m7, m8, A', c', B', d', rfl, rfl, hne, h17, h18, hx, H7, H8, hlA, hlB, oA, oB⟩ := hcut
          have hP := hJ.put (c' := c') (d' := d') hx hlA hlB oA oB rfl (Only.refl _ _)
          have hown1 : World.ownsRow _ _ _ _ _ st.2.length (st.2.flatMap Ans.cells) := hP.own
          obtain ⟨k1, K1⟩ := cells_all (hx.heap hJ.b1 (fun h => h))
          obtain ⟨k7, K7⟩ := cells_all H7
          obtain ⟨k8, K8⟩ := cells_all H8
          have q0 := heap_lt hJ.b1
          have q7 : ¬ m7 = w.heap.size + 1 := by omega
          have q8 : ¬ m8 = w.heap.size + 1 := by omega
          have hPs := hP.only.size
          have q1 := heap_lt hP.b1
          clear H7 H8 hne h17 h18
          go_wp2_with (at_builtin; refine append_el2 (ys := a'.cells) _ Tryz.underlying40 infoAns rfl (by decide) (by decide) hown1 (by first | omega | (simp; omega)) (by have := HN.out; omega) rfl a'.cells_one (by simp [World.setCell]) rfl rfl ?_; intro v1 w3 ho1 hg1 hv1)
          go_roundw
          case rel => exact ⟨k + 1, (s', st.2 ++ [a']), A', B', c', d', by omega, by go_num, by rw [hnext.out, hE.out, HAP.out], hP.app ho1 hg1 hv1⟩
          case measure => simp [intOf]; omega
      · have hc' : (chk cm != 0) = true := by simpa using hc
        have hE : Hid (runStep st cm = (st.1, st.2 ++ [Ans.zero])) := mk_hid (by unfold runStep; rw [if_neg hc])
        clear hc
        go_wp2_with (first
          | (go_at_call 18; refine (refchk_any cm _ z1 z2 z3).mono ?_; rintro e w1 ⟨rfl, ho⟩; have hJ := hI.go ho; have hown1 := hJ.own)
          | (at_builtin; refine append_el2 (ys := Ans.zero.cells) _ Tryz.underlying40 infoAns rfl (by decide) (by decide) hown1 (by have := hJ.only.size; have := heap_lt hJ.b1; simp; omega) (by have := HN.out; omega) rfl Ans.zero.cells_one rfl rfl rfl ?_; intro v1 w1 ho1 hg1 hv1))
        go_roundw
        case rel => exact ⟨k + 1, (st.1, st.2 ++ [Ans.zero]), A, B, c, d, by omega, by go_num, by rw [hnext.out, hE.out], hJ.app ho1 hg1 hv1⟩
        case measure => simp [intOf]; omega
    · obtain rfl : k = len := by omega
      have hR : Hid (runS l = st) := mk_hid (by unfold runS; rw [← hst, List.take_of_length_le (by rw [hl.1]; omega)])
      have hown := hI.own
      obtain ⟨G, cG, rfl, hsl, hfr⟩ := own_sl Ans.cells_len hown (by omega)
      obtain ⟨c0, e0⟩ := cells_all hI.b0
      obtain ⟨c1, e1⟩ := cells_all hI.b1
      have HI := mk_hid hI
      clear hI hown hst
      go_wp2
      refine bodyPost_ret (v := .tuple #[.agg #[.int .i64 st.1.schema, .slice A st.1.pairs.length c, .slice B st.1.sess.length d], .slice G st.2.length cG]) (by simp [results, Tryz.results9, go_sem, *]) rfl ?_
      rw [hR.out]
      exact RunPost.fin HI.out hsl hfr (by (repeat (first | with_reducible exact Only.refl _ _ | with_reducible refine Only.drew ?_ | with_reducible refine Only.drewN ?_ _ | with_reducible refine Only.alloc ?_ _ | (with_reducible refine Only.set ?_ (.inl ?_) _; rotate_left; exact rfl))))
end Go.Proofs.YtgcjmjhdnkffcaaGreatDoor
