/- The program's machine (layer 29: spec): what its memory is. No condition. -/
import Derived.Test.YtgcjmjhdnkffcaaGreatDoorJPgChk
import Derived.Test.YtgcjmjhdnkffcaaGreatDoorJPgMap
import Derived.Test.YtgcjmjhdnkffcaaGreatDoorJRefDoAll
import Derived.WalkLawsBesides
set_option linter.unusedVariables false
set_option linter.unusedSimpArgs false
namespace Go.Proofs.YtgcjmjhdnkffcaaGreatDoor
open Go.RowKit
theorem Only.up {S : Nat → Prop} {a b : World} (h : Only nob a b) : Only S a b := h.mono (fun _ _ h => h.elim)
theorem only_put {w w' : World} (h : Only nob w w') (kb : Nat) (o : Obj) : Only (fun b => b = kb) w (putObj w' kb o) := (h.up (S := fun b => b = kb)).putO (.inl rfl) o
/-- The machine: keys with values and revisions, is it active, each client's last command. -/
structure Mach where
  keys : List (ByteArray × (ByteArray × Int))
  act : Bool
  done : Nat → Int × Ans
def valV (p : ByteArray × Int) : Value := .agg #[.string p.1, .int .i64 p.2]
def lastC (p : Int × Ans) : List Value := .int .i64 p.1 :: p.2.cells
theorem lastC_len (p : Int × Ans) : (lastC p).length = 7 := rfl
def doneC (d : Nat → Int × Ans) : List Value := ((List.range 9).map d).flatMap lastC
def machC (kb : Nat) (M : Mach) : List Value := .map (some kb) :: .bool M.act :: doneC M.done
theorem doneC_get (d : Nat → Int × Ans) (i j : Nat) (u : Value) (hi : i < 9) (hj : (lastC (d i))[j]? = some u) : (doneC d)[i * 7 + j]? = some u :=
  flat_get lastC_len _ i (d i) (by simp [hi]) j u hj
/-- A machine's memory: its block, its map's block. -/
structure MachAt (w : World) (mb kb : Nat) (M : Mach) : Prop where
  cells : w.heap[mb]? = some (.cells (machC kb M).toArray 85 (0, 0))
  map : MapAt Value.string valV w kb M.keys
  len : M.keys.length ≤ 64
  nod : (M.keys.map (·.1)).Nodup
  rev : ∀ p ∈ M.keys, 0 ≤ p.2.2 ∧ p.2.2 ≤ 4294967296
theorem MachAt.only {S : Nat → Prop} {w w' : World} {mb kb : Nat} {M : Mach} (h : MachAt w mb kb M) (ho : Only S w w') (h1 : ¬ S mb) (h2 : ¬ S kb) : MachAt w' mb kb M :=
  ⟨ho.heap h.cells h1, h.map.only ho h2, h.len, h.nod, h.rev⟩
theorem MachAt.nn {w w' : World} {mb kb : Nat} {M : Mach} (h : MachAt w mb kb M) (ho : Only nob w w') : MachAt w' mb kb M := h.only ho (fun h => h) (fun h => h)
theorem MachAt.ne {w : World} {mb kb : Nat} {M : Mach} (h : MachAt w mb kb M) : mb ≠ kb := by
  rintro rfl
  obtain ⟨es, clock, h1, _⟩ := h.map
  rw [h.cells] at h1; cases h1
theorem MachAt.c0 {w : World} {mb kb : Nat} {M : Mach} (h : MachAt w mb kb M) : w.cell? ⟨mb, 0, none⟩ = some (.map (some kb)) := (cells_cell h.cells 0).trans rfl
theorem MachAt.c1 {w : World} {mb kb : Nat} {M : Mach} (h : MachAt w mb kb M) : w.cell? ⟨mb, 1, none⟩ = some (.bool M.act) := (cells_cell h.cells 1).trans rfl
theorem MachAt.cd {w : World} {mb kb : Nat} {M : Mach} (h : MachAt w mb kb M) (i j : Nat) (u : Value) (hi : i < 9) (hj : (lastC (M.done i))[j]? = some u) : w.cell? ⟨mb, 2 + i * 7 + j, none⟩ = some u := by
  rw [cells_cell h.cells, List.getElem?_toArray]
  have := doneC_get M.done i j u hi hj
  rw [show 2 + i * 7 + j = (i * 7 + j) + 1 + 1 from by omega]
  exact this
theorem MachAt.free {w : World} {mb kb : Nat} {M : Mach} (h : MachAt w mb kb M) (i : Nat) : w.frozen? ⟨mb, i, none⟩ = false := cells_free h.cells i
theorem zero_val (w : World) : (zeroValue 92).run Tryz.prog w = .ok (valV (⟨#[]⟩, 0)) w := by kernel_rfl
theorem look_ok {w : World} {mb kb : Nat} {M : Mach} (h : MachAt w mb kb M) (k : ByteArray) : (Instr.lookup 80 (.map (some kb)) (.string k) true).run Tryz.prog w = .ok (.tuple #[valV ((lk k M.keys).getD (⟨#[]⟩, 0)), .bool (lk k M.keys).isSome]) w := by
  have := lookup_run (keyOk_str) (show Tryz.prog.underlying 80 = some (.map 9 92) from Tryz.underlying80) h.map (zero_val w) k true
  simpa using this
theorem look_val {w : World} {mb kb : Nat} {M : Mach} (h : MachAt w mb kb M) (k : ByteArray) : (Instr.lookup 80 (.map (some kb)) (.string k) false).run Tryz.prog w = .ok (valV ((lk k M.keys).getD (⟨#[]⟩, 0))) w := by
  have := lookup_run (keyOk_str) (show Tryz.prog.underlying 80 = some (.map 9 92) from Tryz.underlying80) h.map (zero_val w) k false
  simpa using this
theorem len_keys {w : World} {mb kb : Nat} {M : Mach} (h : MachAt w mb kb M) (ty : TypeId) : (Builtin.len_ #[80] ty #[.map (some kb)]).run Tryz.prog w = .ok (.int .i64 M.keys.length) w :=
  len_run (show Tryz.prog.underlying 80 = some (.map 9 92) from Tryz.underlying80) h.map ty
theorem MachAt.put {w : World} {mb kb : Nat} {M : Mach} {es' : Array MapEntry} {clock' : Nat} {keys : List (ByteArray × (ByteArray × Int))} (h : MachAt w mb kb M) (hI : MapIs Value.string valV es' clock' keys) (hl : keys.length ≤ 64) (hn : (keys.map (·.1)).Nodup) (hr : ∀ p ∈ keys, 0 ≤ p.2.2 ∧ p.2.2 ≤ 4294967296) :
    MachAt (putObj w kb (.map es' clock')) mb kb { M with keys := keys } := by
  obtain ⟨es, clock, h1, _⟩ := h.map
  have ho : Only (fun b => b = kb) w (putObj w kb (.map es' clock')) := (Only.refl (fun b => b = kb) w).putO (.inl rfl) _
  exact ⟨ho.heap h.cells h.ne, ⟨es', clock', putObj_heap h1, hI⟩, hl, hn, hr⟩
theorem field_val (a : ByteArray) (b : Int) (w : World) : (Instr.field 92 (.agg #[.string a, .int .i64 b]) 0).run Tryz.prog w = .ok (.string a) w := by kernel_rfl
theorem field_rev (a : ByteArray) (b : Int) (w : World) : (Instr.field 92 (.agg #[.string a, .int .i64 b]) 1).run Tryz.prog w = .ok (.int .i64 b) w := by kernel_rfl
def revP (act : Bool) (old : Int) : Int := if act then (if old < 4294967296 then old + 1 else 4294967296) else 0
theorem rev_any (mb kb : Nat) (M : Mach) (old : Int) (w : World) (h : MachAt w mb kb M) (h0 : 0 ≤ old) (h1 : old ≤ 4294967296) :
    Calls Tryz.prog 104 #[.pointer (some ⟨mb, 0, none⟩), .int .i64 old] w fun e w' => e = .returned (.int .i64 (revP M.act old)) ∧ w = w' := by
  have c1 := h.c1
  clear h
  cases ha : M.act with
  | false =>
    rw [ha] at c1
    clear ha
    have HR : Hid (revP false old = 0) := mk_hid rfl
    go_enter Tryz.func104, Tryz.ntmps104
    go_wp2
    go_ret
    exact ⟨ret_int HR.out.symm, rfl⟩
  | true =>
    rw [ha] at c1
    clear ha
    have HR : Hid (revP true old = if old < 4294967296 then old + 1 else 4294967296) := mk_hid rfl
    go_enter Tryz.func104, Tryz.ntmps104
    go_wp2
    go_ret
    refine ⟨ret_int ?_, rfl⟩
    rw [HR.out]
    split <;> omega
end Go.Proofs.YtgcjmjhdnkffcaaGreatDoor
