/- A row of calls in a block: stores of one element, zeroes behind. No condition. -/
import Derived.Test.YtgcjmjhdnkffcaaGreatDoorJEndClone
import Derived.Test.YtgcjmjhdnkffcaaGreatDoorJStbF
set_option linter.unusedVariables false
set_option linter.unusedSimpArgs false
namespace Go.Proofs.YtgcjmjhdnkffcaaGreatDoor
open Go.Shelf Go.RowKit Go.Lib Go.Sort
def call0 : Call := ⟨⟨0, 0, 0, ⟨#[]⟩, ⟨#[]⟩, ⟨#[]⟩, 0⟩, 0, 0, ⟨0, 0, 0, false, ⟨#[]⟩, 0⟩⟩
instance : Inhabited Call := ⟨call0⟩
theorem get_eq (L : List Call) (j : Nat) (hj : j < L.length) : L.toArray[j]! = L[j] := by simp [hj]
theorem flatK_setG {α : Type} [Inhabited α] (enc : α → List Value) (hk : ∀ x, (enc x).length = 15) (d : Array α) (i : Nat) (x : α) (hi : i < d.size) : setMany (flatK enc 15 d) (i * 15) (enc x) = flatK enc 15 (d.setIfInBounds i x) := by
  refine Array.ext (by rw [size_setMany, size_flatK, size_flatK]; simp) fun t h1 h2 => ?_
  have ht : t < d.size * 15 := by rw [size_setMany, size_flatK] at h1; exact h1
  have e1 := get_setMany (enc x) (i * 15) (flatK enc 15 d) t (by rw [size_flatK]; exact ht)
  have e2 := get_flatK enc 15 (d.setIfInBounds i x) t (by simpa using ht)
  rw [getElem!_pos _ t h1] at e1
  rw [getElem!_pos _ t h2] at e2
  rw [e1, e2, hk]
  by_cases hq : t / 15 = i
  · rw [if_pos (by omega), hq, getElem!_set_same d i x hi]
    congr 1
    omega
  · rw [if_neg (by omega), get_flatK enc 15 d t ht]
    have : (d.setIfInBounds i x)[t / 15]! = d[t / 15]! := by
      have hlt : t / 15 < d.size := by omega
      rw [getElem!_pos (d.setIfInBounds i x) (t / 15) (by simpa using hlt), getElem!_pos d (t / 15) hlt, Array.getElem_setIfInBounds]
      rw [if_neg (by omega)]
    rw [this]
theorem flatK_set (d : Array Call) (i : Nat) (x : Call) (hi : i < d.size) : setMany (flatK Call.cells 15 d) (i * 15) x.cells = flatK Call.cells 15 (d.setIfInBounds i x) := flatK_setG Call.cells Call.cells_len d i x hi
theorem holds_set {W : World} {g : Nat} {d : Array Call} (h : HoldsK Call.cells 15 W g 0 d) (i : Nat) (x : Call) (hi : i < d.size) : HoldsK Call.cells 15 (W.setCells g (i * 15) x.cells) g 0 (d.setIfInBounds i x) := by
  have hb : i * 15 + 15 ≤ d.size * 15 := by have := Nat.mul_le_mul_right 15 (show i + 1 ≤ d.size from hi); omega
  have := holds_setCells_c (blk := g) (off := 0) h (i * 15) x.cells (by rw [Call.cells_len]; simpa using hb)
  rw [flatK_set d i x hi, Nat.zero_add] at this
  exact this
theorem holds_at {W : World} {g : Nat} {d : Array Call} (h : HoldsK Call.cells 15 W g 0 d) (i : Nat) (hi : i < d.size) : At W ⟨g, i * 15, none⟩ (d[i]!).cells := by
  have := HoldsK.cells h Call.cells_len hi
  rw [Nat.zero_add] at this
  exact fun c u hu => this c u hu
theorem holds_free {W : World} {g : Nat} {d : Array Call} (h : HoldsK Call.cells 15 W g 0 d) (i c : Nat) (hi : i < d.size) (hc : c < 15) : W.frozen? ⟨g, i * 15 + c, none⟩ = false := by
  have := (HoldsK.cell h hi hc).2
  rwa [Nat.zero_add] at this
theorem Only.setCells {S : Nat → Prop} {w : World} {g : Nat} (hg : S g) : ∀ (vs : List Value) (o : Nat) (w' : World), Only S w w' → Only S w (w'.setCells g o vs)
  | [], _, _, h => h
  | v :: r, o, w', h => Only.setCells hg r (o + 1) _ (h.set (p := ⟨g, o, none⟩) (.inl hg) v)
theorem holds_only {S : Nat → Prop} {W W' : World} {g : Nat} {d : Array Call} (h : HoldsK Call.cells 15 W g 0 d) (ho : Only S W W') (hg : g < W.heap.size) (hS : ¬ S g) : HoldsK Call.cells 15 W' g 0 d := fun j hj => by
  have hb := ho.block g hg hS
  have := h j hj
  exact ⟨(World.cell?_of_block (w := W) (show W'.heap[(⟨g, 0 + j, none⟩ : Addr).block]? = _ from hb)).trans this.1, by have h2 := this.2; unfold World.frozen? at h2 ⊢; rw [hb]; exact h2⟩
/-- The first ones, whatever is stored behind them. -/
theorem holds_head {W : World} {g : Nat} {d : Array Call} (h : HoldsK Call.cells 15 W g 0 d) (i : Nat) (hi : i ≤ d.size) (vs : List Value) : HoldsK Call.cells 15 (W.setCells g (i * 15) vs) g 0 (d.toList.take i).toArray := fun t ht => by
  have ht' : t < i * 15 := by simp at ht; have : min i d.size = i := by omega
                              rw [this] at ht; exact ht
  have hlt : t < d.size * 15 := by have := Nat.mul_le_mul_right 15 hi; omega
  have e : (flatK Call.cells 15 (d.toList.take i).toArray)[t]! = (flatK Call.cells 15 d)[t]! := by
    rw [get_flatK _ _ _ t (by simpa using ht), get_flatK _ _ _ t hlt]
    have hq : t / 15 < i := by omega
    have : (d.toList.take i).toArray[t / 15]! = d[t / 15]! := by
      rw [getElem!_pos d _ (by omega), getElem!_pos _ _ (by simp; omega)]
      simp
    rw [this]
  have := h t (by simpa using hlt)
  rw [World.cell?_setCells_out g vs (i * 15) W _ (fun _ _ => .inl (by show 0 + t < i * 15; omega)), World.frozen?_setCells]
  rw [e]
  exact this
def zerosN (m : Nat) : List Value := (Builtin.zeroCells call0.cells.toArray m).toList
theorem clear_row {W : World} {g : Nat} {d : Array Call} (h : HoldsK Call.cells 15 W g 0 d) (i n cap : Nat) (hi : i < d.size) (hn : d.size = n) (ty : TypeId) :
    (Builtin.clear_ #[23] ty #[.slice (some ⟨g, i * 15, none⟩) (n - i) cap]).run Tryz.prog W = .ok (.tuple #[]) (W.setCells g (i * 15) (zerosN (n - i))) := by
  subst hn
  have hz : (zerosN (d.size - i)).length = (d.size - i) * 15 := by simp [zerosN, Builtin.zeroCells]; rfl
  have hone : ∀ v ∈ zerosN (d.size - i), v.oneCell' = true := fun v hv => by
    rw [zerosN, Array.mem_toList_iff, Builtin.zeroCells, Array.mem_map] at hv
    obtain ⟨t, _, rfl⟩ := hv
    have ht : t % call0.cells.toArray.size < call0.cells.toArray.size := Nat.mod_lt _ (by decide)
    rw [getElem!_pos call0.cells.toArray (t % call0.cells.toArray.size) ht]
    exact Call.cells_one call0 _ (by rw [List.getElem_toArray]; exact List.getElem_mem _)
  have hst := stores_of_holds Tryz.prog h (i * 15) _ (by rw [hz, size_flatK]; omega) hone
  rw [Nat.zero_add] at hst
  obtain ⟨m, hm⟩ : ∃ m, d.size - i = m + 1 := ⟨d.size - i - 1, by omega⟩
  rw [hm] at hst ⊢
  unfold zerosN at hst ⊢
  have hv := Tryz.zeroValue30 W
  have hu := run_underlying Tryz.underlying23 W
  simp only [Builtin.clear_, List.getElem?_toArray, List.getElem?_cons_zero, Sem.run_bind, hu, hv, Result.andThen]
  erw [hst]
  rfl
end Go.Proofs.YtgcjmjhdnkffcaaGreatDoor
