/- What the law's arguments are, as they are read: lists of commands and of calls; a call. No condition. -/
import Derived.Test.YtgcjmjhdnkffcaaGreatDoorJKitD
import Derived.Test.YtgcjmjhdnkffcaaGreatDoorJData
import Derived.Deep.Slices
import Derived.ChangeSame
set_option linter.unusedVariables false
set_option linter.unusedSimpArgs false
namespace Go.Proofs.YtgcjmjhdnkffcaaGreatDoor
open Go.RowKit
theorem dec6 {cs : List Value} (h : cs.length = 6) : ∃ a b c d e f, cs = [a, b, c, d, e, f] := by
  match cs, h with
  | [a, b, c, d, e, f], _ => exact ⟨a, b, c, d, e, f, rfl⟩
theorem dec7 {cs : List Value} (h : cs.length = 7) : ∃ a b c d e f g, cs = [a, b, c, d, e, f, g] := by
  match cs, h with
  | [a, b, c, d, e, f, g], _ => exact ⟨a, b, c, d, e, f, g, rfl⟩
theorem c_int : Tryz.prog.cellsOf 3 = 1 := by kernel_rfl
theorem c_str : Tryz.prog.cellsOf 9 = 1 := by kernel_rfl
theorem c_bool : Tryz.prog.cellsOf 4 = 1 := by kernel_rfl
theorem c_errno : Tryz.prog.cellsOf 26 = 1 := by kernel_rfl
theorem c_cmd : Tryz.prog.cellsOf 25 = 7 := by kernel_rfl
theorem c_ans : Tryz.prog.cellsOf 28 = 6 := by kernel_rfl
theorem c_call : Tryz.prog.cellsOf 30 = 15 := by kernel_rfl
section
variable {H : Type} {enc : TypeId × Value → H} {w : World} {base : Nat} {spare : Nat → Bool} {held : Bool}
theorem some_at {α : Type} {l : List α} {n i : Nat} (h : l.length = n) (hi : i < n) : ∃ y, l[i]? = some y := ⟨l[i], List.getElem?_eq_getElem (by omega)⟩
theorem trod_cmd {fuel : Nat} {cs : List Value} {x : DataW H × List MemPlace} (h : DataW.trod enc Tryz.prog w base spare held fuel 25 cs = some x) : ∃ c : Cmd, cs = c.cells := by
  obtain ⟨xs, n, _, _, hl, hx, hf⟩ := DataW.trod_struct Tryz.underlying25 h
  rw [c_cmd] at hl
  have hx7 : xs.length = 7 := hx
  obtain ⟨a0, a1, a2, a3, a4, a5, a6, rfl⟩ := dec7 hl
  obtain ⟨y0, e0⟩ := some_at hx7 (show 0 < 7 by omega)
  obtain ⟨y1, e1⟩ := some_at hx7 (show 1 < 7 by omega)
  obtain ⟨y2, e2⟩ := some_at hx7 (show 2 < 7 by omega)
  obtain ⟨y3, e3⟩ := some_at hx7 (show 3 < 7 by omega)
  obtain ⟨y4, e4⟩ := some_at hx7 (show 4 < 7 by omega)
  obtain ⟨y5, e5⟩ := some_at hx7 (show 5 < 7 by omega)
  obtain ⟨y6, e6⟩ := some_at hx7 (show 6 < 7 by omega)
  have h0 := (hf 0 _ rfl).trans e0
  have h1 := (hf 1 _ rfl).trans e1
  have h2 := (hf 2 _ rfl).trans e2
  have h3 := (hf 3 _ rfl).trans e3
  have h4 := (hf 4 _ rfl).trans e4
  have h5 := (hf 5 _ rfl).trans e5
  have h6 := (hf 6 _ rfl).trans e6
  obtain ⟨n0, q0, _⟩ := DataW.trod_int Tryz.underlying3 h0
  obtain ⟨n1, q1, _⟩ := DataW.trod_int Tryz.underlying3 h1
  obtain ⟨n2, q2, _⟩ := DataW.trod_int Tryz.underlying3 h2
  obtain ⟨n3, q3, _⟩ := DataW.trod_string Tryz.underlying9 h3
  obtain ⟨n4, q4, _⟩ := DataW.trod_string Tryz.underlying9 h4
  obtain ⟨n5, q5, _⟩ := DataW.trod_string Tryz.underlying9 h5
  obtain ⟨n6, q6, _⟩ := DataW.trod_int Tryz.underlying3 h6
  simp [c_int, c_str] at q0 q1 q2 q3 q4 q5 q6
  subst q0 q1 q2 q3 q4 q5 q6
  exact ⟨⟨n0, n1, n2, n3, n4, n5, n6⟩, rfl⟩
theorem trod_ans {fuel : Nat} {cs : List Value} {x : DataW H × List MemPlace} (h : DataW.trod enc Tryz.prog w base spare held fuel 28 cs = some x) : ∃ c : Ans, cs = c.cells := by
  obtain ⟨xs, n, _, _, hl, hx, hf⟩ := DataW.trod_struct Tryz.underlying28 h
  rw [c_ans] at hl
  have hx7 : xs.length = 6 := hx
  obtain ⟨a0, a1, a2, a3, a4, a5, rfl⟩ := dec6 hl
  obtain ⟨y0, e0⟩ := some_at hx7 (show 0 < 6 by omega)
  obtain ⟨y1, e1⟩ := some_at hx7 (show 1 < 6 by omega)
  obtain ⟨y2, e2⟩ := some_at hx7 (show 2 < 6 by omega)
  obtain ⟨y3, e3⟩ := some_at hx7 (show 3 < 6 by omega)
  obtain ⟨y4, e4⟩ := some_at hx7 (show 4 < 6 by omega)
  obtain ⟨y5, e5⟩ := some_at hx7 (show 5 < 6 by omega)
  have h0 := (hf 0 _ rfl).trans e0
  have h1 := (hf 1 _ rfl).trans e1
  have h2 := (hf 2 _ rfl).trans e2
  have h3 := (hf 3 _ rfl).trans e3
  have h4 := (hf 4 _ rfl).trans e4
  have h5 := (hf 5 _ rfl).trans e5
  obtain ⟨n0, q0, _⟩ := DataW.trod_int Tryz.underlying3 h0
  obtain ⟨n1, q1, _⟩ := DataW.trod_int Tryz.underlying3 h1
  obtain ⟨n2, q2, _⟩ := DataW.trod_int Tryz.underlying26 h2
  obtain ⟨n3, q3, _⟩ := DataW.trod_bool Tryz.underlying4 h3
  obtain ⟨n4, q4, _⟩ := DataW.trod_string Tryz.underlying9 h4
  obtain ⟨n5, q5, _⟩ := DataW.trod_int Tryz.underlying3 h5
  simp [c_int, c_str, c_bool, c_errno] at q0 q1 q2 q3 q4 q5
  subst q0 q1 q2 q3 q4 q5
  exact ⟨⟨n0, n1, n2, n3, n4, n5⟩, rfl⟩
theorem trod_call {fuel : Nat} {cs : List Value} {x : DataW H × List MemPlace} (h : DataW.trod enc Tryz.prog w base spare held fuel 30 cs = some x) : ∃ c : Call, cs = c.cells := by
  obtain ⟨xs, n, _, _, hl, hx, hf⟩ := DataW.trod_struct Tryz.underlying30 h
  rw [c_call] at hl
  have hx7 : xs.length = 4 := hx
  obtain ⟨y0, e0⟩ := some_at hx7 (show 0 < 4 by omega)
  obtain ⟨y1, e1⟩ := some_at hx7 (show 1 < 4 by omega)
  obtain ⟨y2, e2⟩ := some_at hx7 (show 2 < 4 by omega)
  obtain ⟨y3, e3⟩ := some_at hx7 (show 3 < 4 by omega)
  have h0 := (hf 0 _ rfl).trans e0
  have h1 := (hf 1 _ rfl).trans e1
  have h2 := (hf 2 _ rfl).trans e2
  have h3 := (hf 3 _ rfl).trans e3
  obtain ⟨c, q0⟩ := trod_cmd h0
  obtain ⟨n1, q1, _⟩ := DataW.trod_int Tryz.underlying3 h1
  obtain ⟨n2, q2, _⟩ := DataW.trod_int Tryz.underlying3 h2
  obtain ⟨a, q3⟩ := trod_ans h3
  simp only [List.getElem_toArray, List.getElem_cons_zero, List.getElem_cons_succ, c_int, c_cmd, c_ans] at q0 q1 q2 q3
  refine ⟨⟨c, n1, n2, a⟩, ?_⟩
  have hs : cs = cs.take 7 ++ ((cs.drop 7).take 1 ++ ((cs.drop 8).take 1 ++ (cs.drop 9).take 6)) := by
    obtain ⟨a0, a1, a2, a3, a4, a5, a6, h7⟩ := dec7 (show (cs.take 7).length = 7 by rw [List.length_take]; omega)
    have hd : (cs.drop 7).length = 8 := by rw [List.length_drop]; omega
    have h8 : cs.drop 7 = (cs.drop 7).take 1 ++ (cs.drop 7).drop 1 := (List.take_append_drop 1 _).symm
    have h9 : cs.drop 8 = (cs.drop 8).take 1 ++ (cs.drop 8).drop 1 := (List.take_append_drop 1 _).symm
    rw [List.drop_drop] at h8 h9
    have h10 : (cs.drop 9).take 6 = cs.drop 9 := List.take_of_length_le (by rw [List.length_drop]; omega)
    rw [h10, ← h9, ← h8, List.take_append_drop]
  rw [hs]
  have q0' : cs.take 7 = c.cells := q0
  rw [q0', q1, q2, q3]
  rfl
theorem open_sl {P : Program} {α : Type} {en : α → List Value} {size : Nat} {t e : TypeId} {fuel : Nat} {cs : List Value} {x : DataW H × List MemPlace} (ht : P.underlying t = some (.slice e)) (hC : P.cellsOf e = size) (hs0 : 0 < size) (hlen : ∀ p, (en p).length = size)
    (hdec : ∀ (n : Nat) (cs : List Value) (x : DataW H × List MemPlace), DataW.trod enc P w base spare held n e cs = some x → ∃ p : α, cs = en p) (h : DataW.trod enc P w base spare held fuel t cs = some x) :
    ∃ (A : Option Addr) (len cap : Nat) (ps : List α), cs = [.slice A len cap] ∧ len ≤ cap ∧ cap ≤ maxLen ∧ SlOf en size w A len ps := by
  rcases Go.Deep.open_slice ht h with ⟨rfl, _⟩ | ⟨a, len, cap, m, n, D, Pl, rfl, hb, hl, hm, hmm, _, hi⟩
  · exact ⟨none, 0, 0, [], rfl, Nat.le_refl _, Nat.zero_le _, SlOf.nil en size w none⟩
  · refine ⟨some a, len, cap, ?_⟩
    have hlm : len ≤ m := by rw [hmm]; split <;> omega
    have key : ∀ k, k ≤ len → ∃ ps : List α, ps.length = k ∧ ∀ j p, ps[j]? = some p → At w (a.add (j * size)) (en p) := by
      intro k
      induction k with
      | zero => intro _; exact ⟨[], rfl, fun j p hj => by simp at hj⟩
      | succ k ih =>
        intro hk
        obtain ⟨ps, h1, h2⟩ := ih (by omega)
        obtain ⟨cs', hc, hd⟩ := hi k (by omega)
        obtain ⟨p, rfl⟩ := hdec _ _ _ hd
        rw [hC] at hc
        obtain ⟨_, hcl, hat⟩ := World.cells?_some hc
        refine ⟨ps ++ [p], by simp [h1], fun j q hj => ?_⟩
        by_cases hjk : j < k
        · rw [List.getElem?_append_left (by omega)] at hj; exact h2 j q hj
        · rw [List.getElem?_append_right (by omega)] at hj
          have hjl := (List.getElem?_eq_some_iff.1 hj).1
          simp at hjl
          obtain rfl : j = k := by omega
          rw [h1] at hj; simp at hj; subst hj
          intro i u hu
          have hil : i < size := by have := (List.getElem?_eq_some_iff.1 hu).1; rw [hlen] at this; exact this
          rw [hat i hil]; exact hu
    obtain ⟨ps, h1, h2⟩ := key len (Nat.le_refl _)
    refine ⟨ps, rfl, hl, hm, h1, fun hn => ⟨a, rfl, ?_, h2⟩⟩
    obtain ⟨p, hp⟩ := some_at h1 hn
    have := h2 0 p hp
    rw [Nat.zero_mul, add_zero'] at this
    obtain ⟨u, hu⟩ := some_at (hlen p) hs0
    have hc := this 0 u hu
    rw [add_zero'] at hc
    exact World.block_lt_of_cell? w a hc
theorem open_cmds {fuel : Nat} {cs : List Value} {x : DataW H × List MemPlace} (h : DataW.trod enc Tryz.prog w base spare held fuel 22 cs = some x) : ∃ (A : Option Addr) (len cap : Nat) (ps : List Cmd), cs = [.slice A len cap] ∧ len ≤ cap ∧ cap ≤ maxLen ∧ SlOf Cmd.cells 7 w A len ps :=
  open_sl Tryz.underlying22 c_cmd (by decide) Cmd.cells_len (fun _ _ _ h => trod_cmd h) h
theorem open_calls {fuel : Nat} {cs : List Value} {x : DataW H × List MemPlace} (h : DataW.trod enc Tryz.prog w base spare held fuel 23 cs = some x) : ∃ (A : Option Addr) (len cap : Nat) (ps : List Call), cs = [.slice A len cap] ∧ len ≤ cap ∧ cap ≤ maxLen ∧ SlOf Call.cells 15 w A len ps :=
  open_sl Tryz.underlying23 c_call (by decide) Call.cells_len (fun _ _ _ h => trod_call h) h
end
end Go.Proofs.YtgcjmjhdnkffcaaGreatDoor
