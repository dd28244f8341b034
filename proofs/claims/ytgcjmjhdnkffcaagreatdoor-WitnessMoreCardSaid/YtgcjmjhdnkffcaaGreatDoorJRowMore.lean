/- A log that is a witness stays one with any call more that is open, and any command behind that is nobody's (WitnessMore): for every input; condition: the two tables of unicode/utf8 are as the program's text lays them (the card ties them). -/
import Derived.Test.YtgcjmjhdnkffcaaGreatDoorJLaw
import Derived.Test.YtgcjmjhdnkffcaaGreatDoorJOpenRow
import Derived.Test.YtgcjmjhdnkffcaaGreatDoorTie
import Derived.Test.YtgcjmjhdnkffcaaGreatDoorCards
import Derived.SevenTiedAt
import Derived.Lib.LaidIn
import Derived.Lib.LaidU8T
import Derived.Deep.DeepHandedRow
import Derived.Deep.DeepWitnessRowRef
import Derived.PinnedBridge
import Derived.ProofKit
import Derived.OpenShut
import Derived.SizedLaws
set_option linter.unusedVariables false
set_option linter.unusedSimpArgs false
namespace Go.Proofs.YtgcjmjhdnkffcaaGreatDoor
open Go.ChangeShapes Go.WideShapes Go.ChangeAt Go.RowKit Go.Lib Go.Shelf
theorem ownKn : ownKnob Tryz.prog.godebug = none := by kernel_rfl
theorem laidOut : laidOutB Tryz.prog = true := by kernel_rfl
/-- The settled world, the two variables holding what their initialisers lay. -/
noncomputable def laidWorld (os : Os) : World :=
  let w0 := World.holding Tryz.prog os ⟨#[], #[], []⟩
  let put (h : Array Obj) (g : Nat) (cs : Array Value) : Array Obj := h.modify g fun
    | .cells _ t frozen => .cells cs t frozen
    | o => o
  let h1 := put w0.heap 0 (Lib.firstTab.map fun z => Value.int .u8 z).toArray
  let h2 := put h1 1 ((List.range 16).flatMap fun i => [Value.int .u8 (Lib.accLo i), Value.int .u8 (Lib.accHi i)]).toArray
  { w0 with heap := h2 }
def zeroCall : Value := .agg call0.cells.toArray
def rowLaid : List (String × DataW Unit) := [("unicode/utf8.acceptRanges", Lib.acceptData), ("unicode/utf8.first", Lib.firstData)]
theorem row_laid : Rows.witnessMoreRow.laid = rowLaid := by kernel_rfl
theorem laid_met (os : Os) (args : Array Value) : laidMet Tryz.prog Rows.witnessMoreRow.laid ((laidWorld os).forCall (fun _ _ => 0) ⟨#[], args, []⟩).memory := by
  rw [row_laid]
  exact (LaidIn.of_run (l := rowLaid) [1, 0] 8 (by kernel_rfl) (by kernel_rfl) (by kernel_rfl) (by kernel_rfl)).met
theorem witness_row (os : Os) {H : Type} (enc : TypeId × Value → H) :
    (OpenSpec.ofChange Rows.witnessMoreSpec).preRow enc Tryz.prog Tryz.f3 Rows.witnessMoreRow.domain false Rows.witnessMoreRow.laid ((laidWorld os).forCall (fun _ _ => 0) ⟨#[], #[.slice none 0 0, .slice none 0 0, zeroCall], []⟩).memory #[.slice none 0 0, .slice none 0 0, zeroCall] := by
  have hw : (DataW.whole enc Tryz.prog ((laidWorld os).forCall (fun _ _ => 0) ⟨#[], #[.slice none 0 0, .slice none 0 0, zeroCall], []⟩).memory Tryz.f3.params.toList (OpenSpec.ofChange Rows.witnessMoreSpec).vars false #[Value.slice none 0 0, .slice none 0 0, zeroCall].toList 8).map (fun x => (x.1, x.2.1)) =
      some ([.nil, .nil, .agg [.agg [.lit (.int .i64 0), .lit (.int .i64 0), .lit (.int .i64 0), .lit (.string []), .lit (.string []), .lit (.string []), .lit (.int .i64 0)], .lit (.int .i64 0), .lit (.int .i64 0), .agg [.lit (.int .i64 0), .lit (.int .i64 0), .lit (.int .i64 0), .lit (.bool false), .lit (.string []), .lit (.int .i64 0)]]], []) := by kernel_rfl
  obtain ⟨⟨x1, x2, x3⟩, hx, hx1⟩ := Option.map_eq_some_iff.1 hw
  simp only [Prod.mk.injEq] at hx1
  obtain ⟨rfl, rfl⟩ := hx1
  exact OpenSpec.preRow_of_cond 8 hx (by kernel_rfl) (fun k hk => by cases hk) (by kernel_rfl) (laid_met os _)
theorem tabs_of {W : World} (hL : laidMet Tryz.prog Rows.witnessMoreRow.laid W) : Tabs W := by
  rw [row_laid] at hL
  exact utf8Tabs_of_readsT (ρ := Tryz.layDec_ren) { Tryz.layDec with } ⟨by kernel_rfl, by kernel_rfl, by kernel_rfl, by kernel_rfl, by kernel_rfl, by kernel_rfl, by kernel_rfl⟩ (Lib.laidMet.reads hL (.tail _ (.head _))) (Lib.laidMet.reads hL (.head _))
set_option maxRecDepth 100000 in
set_option maxHeartbeats 2000000 in
theorem lifted (os : Os) (started : os.Started) (H : Type) (enc : TypeId × Value → H) (F : Stop.Interp) :
    ReturnsInHanded {} Tryz.checked os 3 .any ((OpenSpec.ofChange Rows.witnessMoreSpec).preRow enc Tryz.prog Tryz.f3 Rows.witnessMoreRow.domain false Rows.witnessMoreRow.laid) (((OpenSpec.ofChange Rows.witnessMoreSpec).at F).post enc Tryz.prog Tryz.f3 false true false false) := by
  refine returnsInHanded_of_row (C := Tryz.checked) (s := OpenSpec.ofChange Rows.witnessMoreSpec) ownKn started (by kernel_rfl) Tryz.func3
    (witness_row_atRef (enc := enc) (C := Tryz.checked) false (laidWorld os) #[.slice none 0 0, .slice none 0 0, zeroCall] rfl (by kernel_rfl) (by kernel_rfl) (by kernel_rfl) (witness_row os enc)) ?_
  intro W base args ds gs before hval0 hW _ _ _ hL _ _
  have hval : ∀ (j : Nat) t v, Tryz.f3.params[j]? = some t → args[j]? = some v → Value.okWide Tryz.prog W .any base t v := hval0
  have hW' := hW
  obtain ⟨p, q, hA0, hV0, rfl, _, _⟩ := hW
  have hA : DataW.TrodAll enc Tryz.prog W 0 (fun _ => true) true Tryz.f3.params.toList args.toList ds p := hA0
  rw [Tryz.params3] at hA hval
  obtain ⟨v0, vs0, d0, ds0, p0, q0, hargs, rfl, rfl, h0, r0⟩ := trodAll_cons hA
  obtain ⟨v1, vs1, d1, ds1, p1, q1, rfl, rfl, rfl, h1, r1⟩ := trodAll_cons r0
  obtain ⟨v2, vs2, d2, ds2, p2, q2, rfl, rfl, rfl, h2, r2⟩ := trodAll_cons r1
  obtain ⟨rfl, rfl, rfl⟩ := trodAll_nil r2
  obtain rfl : args = #[v0, v1, v2] := by cases args; simp_all
  obtain ⟨rfl, rfl⟩ := trodVars_none hV0
  obtain ⟨a0, len, cap, rfl⟩ := okWide_slice Tryz.underlying22 (hval 0 22 v0 rfl rfl)
  obtain ⟨a1, n, m, rfl⟩ := okWide_slice Tryz.underlying23 (hval 1 23 v1 rfl rfl)
  obtain ⟨cs, rfl, hcs⟩ := okWide_struct Tryz.underlying30 (hval 2 30 v2 rfl rfl)
  have k0 := h0
  have k1 := h1
  have k2 := h2
  have lt0 : ∀ x ∈ p0, x.block < W.heap.size := by obtain ⟨m, hm⟩ := k0; exact DataW.trod_lt m _ _ _ hm
  have lt1 : ∀ x ∈ p1, x.block < W.heap.size := by obtain ⟨m, hm⟩ := k1; exact DataW.trod_lt m _ _ _ hm
  have lt2 : ∀ x ∈ p2, x.block < W.heap.size := by obtain ⟨m, hm⟩ := k2; exact DataW.trod_lt m _ _ _ hm
  obtain ⟨log, hcap, hmax, hl⟩ : ∃ log : List Cmd, len ≤ cap ∧ cap ≤ maxLen ∧ SlOf Cmd.cells 7 W a0 len log := by
    obtain ⟨fuel, hf⟩ := h0
    obtain ⟨A, l, c, ps, hc, h3, h4, h5⟩ := open_cmds hf
    simp [Value.cells] at hc
    obtain ⟨rfl, rfl, rfl⟩ := hc
    exact ⟨ps, h3, h4, h5⟩
  obtain ⟨calls, hcap1, hmax1, hl1⟩ : ∃ calls : List Call, n ≤ m ∧ m ≤ maxLen ∧ SlOf Call.cells 15 W a1 n calls := by
    obtain ⟨fuel, hf⟩ := h1
    obtain ⟨A, l, c, ps, hc, h3, h4, h5⟩ := open_calls hf
    simp [Value.cells] at hc
    obtain ⟨rfl, rfl, rfl⟩ := hc
    exact ⟨ps, h3, h4, h5⟩
  obtain ⟨c, rfl⟩ : ∃ c : Call, cs = c.cells.toArray := by
    obtain ⟨fuel, hf⟩ := h2
    obtain ⟨c, hc⟩ := trod_call hf
    have hc' : cs.toList = c.cells := by simpa [Value.cells] using hc
    exact ⟨c, by rw [← hc']⟩
  have hT := tabs_of hL
  clear hA0 hval0 hval hA
  unfold maxLen at hmax hmax1
  refine (law_any a0 a1 len cap n m log calls c W (by omega) (by omega) hcap hl hl1 hT).mono ?_
  rintro e W' ⟨rfl, ho⟩
  have bel := none_below ho
  refine ⟨_, rfl, _, _, _, [], p0 ++ (p1 ++ (p2 ++ [])), [], hW', trodAll_mk1 (shut_bool Tryz.underlying4 _), ?_, rfl, bel.frame _, fun h => by cases h⟩
  exact trodAll_cons_mk (Below.trod laidOut (by kernel_rfl) (of_decide_eq_true (by kernel_rfl)) k0 bel lt0) (trodAll_cons_mk (Below.trod laidOut (by kernel_rfl) (of_decide_eq_true (by kernel_rfl)) k1 bel lt1) (trodAll_cons_mk (Below.trod laidOut (by kernel_rfl) (of_decide_eq_true (by kernel_rfl)) k2 bel lt2) trodAll_mk0))
theorem over : Rows.WitnessMoreSaid :=
  OpenClaim.holds_of_cond 3 Tryz.f3 rfl rfl rfl rfl rfl rfl rfl ⟨rfl, rfl, rfl, rfl, rfl⟩ rfl rfl rfl rfl rfl (by kernel_rfl) Tryz.func3 (by kernel_rfl)
    (of_decide_eq_true (by kernel_rfl)) (by unfold Func.isWrapper; first | (rw [if_pos (by decide +kernel)]; kernel_rfl) | (rw [if_neg (by decide +kernel)]; exact ⟨rfl, rfl⟩))
    (fun os started H enc _ F0 => by rw [OpenClaim.pre_eq_preRow]; exact lifted os started H enc F0)
theorem params_free : ∀ (j : Nat) (t : TypeId), Tryz.f3.params[j]? = some t → Tryz.prog.wantsStandIn t = false := by
  intro j t ht
  rw [Tryz.params3] at ht
  rcases j with _ | j
  · obtain rfl : t = 22 := by simpa using ht.symm
    exact (show Tryz.prog.wantsStandIn 22 = false by kernel_rfl)
  · rcases j with _ | j
    · obtain rfl : t = 23 := by simpa using ht.symm
      exact (show Tryz.prog.wantsStandIn 23 = false by kernel_rfl)
    · rcases j with _ | j
      · obtain rfl : t = 30 := by simpa using ht.symm
        exact (show Tryz.prog.wantsStandIn 30 = false by kernel_rfl)
      · simp at ht
/-- THE STATEMENT: the tied card. -/
theorem proved : Rows.WitnessMoreCardSaid :=
  Claim7.holds_tied_plain_at .later [] [.data, .pinned] true (true, "81df6a9a11614189dd1c037bff4f71181fabbdec560e79111ed5da0421f3601b") true
    over (fun _ h => by cases h) (by kernel_rfl) (fun _ h => by cases h) witnessMore_row_tie rfl ⟨rfl, rfl⟩ (by kernel_rfl) rfl
    (fun f fn hf hfn => by
      obtain rfl : f = 3 := Option.some.inj ((show Tryz.prog.funcNamed "changeover/changeoverlaw43.WitnessMore" = some 3 by kernel_rfl).symm.trans hf) |>.symm
      obtain rfl : fn = Tryz.f3 := (Option.some.inj (Tryz.func3.symm.trans hfn)).symm
      exact ⟨by kernel_rfl, params_free⟩)
    (by kernel_rfl)
end Go.Proofs.YtgcjmjhdnkffcaaGreatDoor
