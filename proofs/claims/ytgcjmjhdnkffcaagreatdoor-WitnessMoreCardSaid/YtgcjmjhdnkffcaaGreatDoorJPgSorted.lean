/- The machine's keys, sorted: that the library's sort of them gives a row of texts. No condition but lengths. -/
import Derived.Test.YtgcjmjhdnkffcaaGreatDoorJPgStep
import Derived.Test.YtgcjmjhdnkffcaaGreatDoorJLay
import Derived.StringKeys
set_option linter.unusedVariables false
set_option linter.unusedSimpArgs false
namespace Go.Proofs.YtgcjmjhdnkffcaaGreatDoor
open Go.RowKit Go.Maps Go.Sort Go.Shelf
def KSz (M : Mach) : Prop := ∀ p ∈ M.keys, p.1.size ≤ 1000
def anyR (H : Type) : Value → Option (DataW H × List MemPlace) := fun _ => some (.nil, [])
theorem owns_any {w : World} {kb : Nat} {keys : List (ByteArray × (ByteArray × Int))} (h : MapAt Value.string valV w kb keys) (hl : keys.length ≤ 64) (hn : (keys.map (·.1)).Nodup) (hs : ∀ p ∈ keys, p.1.size ≤ 1000) :
    ∃ D : DataW Unit, w.ownsMap Tryz.prog 9 (anyR Unit) kb 64 D ∧ Maps.size D ≤ 64 := by
  obtain ⟨es, clock, h1, ⟨h2, h3, h4⟩⟩ := h
  have hlen : es.toList.length = keys.length := by have := congrArg List.length h2; simpa using this
  have hk : es.toList.map (·.key) = keys.map (fun p => Value.string p.1) := by
    have := congrArg (List.map Prod.fst) h2
    simpa [List.map_map, Function.comp_def] using this
  have hF : WideElems.Fit Tryz.prog 9 (anyR Unit) es clock := by
    refine ⟨by have : es.size = keys.length := by simpa using hlen
               unfold maxLen; omega, ⟨h4, h3, ?_⟩, ?_⟩
    · rw [hk]
      have : keys.map (fun p => Value.string p.1) = (keys.map (·.1)).map Value.string := by simp [List.map_map, Function.comp_def]
      rw [this]
      exact List.Pairwise.map Value.string (fun a b h e => h (by injection e)) hn
    · intro x hx
      have : x.key ∈ es.toList.map (·.key) := List.mem_map.2 ⟨x, hx, rfl⟩
      rw [hk] at this
      obtain ⟨p, hp, he⟩ := List.mem_map.1 this
      have hsz := hs p hp
      exact ⟨_, WideElems.rd_mk (kl := .string p.1.data.toList) (by rw [← he]; exact Go.WideMaps.keyOf_string_mk Tryz.underlying9 (by unfold maxLen; omega)) rfl⟩
  have hes : es.size ≤ 64 := by
    have : es.size = keys.length := by simpa using hlen
    omega
  refine ⟨_, ⟨es, clock, h1, hF, hes, rfl⟩, ?_⟩
  show ((es.toList.map _).foldr DataW.insert []).length ≤ 64
  rw [length_sorted, List.length_map]; omega
theorem sorts_in (m : Nat) : AnyZ.SortsIn Tryz.prog Tryz.laySorted_ren Fence.wide m :=
  ⟨fun blk off cap ss W hH hblk hsz => callsIn_wide.2 (AnyM.slices_Sort_string Tryz.laySort blk off cap ss W hH hblk hsz),
   fun p cap W => callsIn_wide.2 (AnyM.slices_Sort_string_none Tryz.laySort p cap W)⟩
theorem keys_any (mb : Option Nat) (W : World) : Calls Tryz.prog 44 #[.map mb] W fun e w' => e = .returned (.func (.func 58) #[] #[.pointer (some ⟨W.heap.size, 0, none⟩)]) ∧ w' = W.alloc (.cells #[.map mb] 80) :=
  callsIn_wide.1 (AnyZ.keys_in Tryz.layKeys Fence.wide 5 trivial rfl mb W)
theorem sorted_any {w : World} {mb kb : Nat} {M : Mach} (h : MachAt w mb kb M) (hz : KSz M) :
    Calls Tryz.prog 43 #[.func (.func 58) #[] #[.pointer (some ⟨w.heap.size, 0, none⟩)]] (w.alloc (.cells #[.map (some kb)] 80)) fun e w' =>
      ∃ (v : Value) (ss : List (List UInt8)), e = .returned v ∧ ss.length ≤ 64 ∧ w'.ownsRow (w.heap.size + 1) 9 1 v ss.length (ss.map encStr) ∧ Only nob w w' := by
  obtain ⟨D, hown, hsz⟩ := owns_any h.map h.len h.nod hz
  have hbl := hown.lt
  have hseq : SeqGives Fence.wide 2 Tryz.prog 58 #[.pointer (some ⟨w.heap.size, 0, none⟩)] encStr (fun ss => ss.Perm (strKeys D)) (Maps.size D) (w.alloc (.cells #[.map (some kb)] 80)) :=
    AnyZ.keys_gives (ρ := Tryz.layKeys_ren) { Tryz.layKeys with } Fence.wide _ trivial rfl (by omega) w.heap.size kb 64 D _ (by simp) (by simp) (by
      obtain ⟨es, clock, hb, Ft, hs, hD⟩ := hown
      exact ⟨es, clock, (Below.heap_alloc _ _ kb hbl).trans hb, Ft, hs, hD⟩)
  have cS := AnyZ.sorted_in Tryz.laySorted Fence.wide 5 trivial trivial trivial trivial rfl (by omega) (sorts_in _) (enters_of Tryz.func57 (by kernel_rfl) rfl) 58 #[.pointer (some ⟨w.heap.size, 0, none⟩)] trivial (enters_of Tryz.func58 (by kernel_rfl) rfl) _ _ (by unfold maxLen; omega) (by omega) _ hseq
  change CallsIn _ _ Tryz.prog 43 _ _ _ at cS
  refine (callsIn_wide.1 cS).mono ?_
  rintro e w' ⟨v, ss, rfl, hS, hrow, _, hb⟩
  refine ⟨v, ss.mergeSort (fun x y => decide (x ≤ y)), rfl, ?_, ?_, ?_⟩
  · rw [List.length_mergeSort]
    have h1 := hS.length_eq
    have h2 : (strKeys D).length ≤ 64 := by
      refine Nat.le_trans ?_ hsz
      cases D <;> simp [strKeys, Maps.size]
    omega
  · rw [List.length_mergeSort]
    have e : (w.alloc (.cells #[.map (some kb)] 80)).heap.size = w.heap.size + 1 := by simp
    rw [e] at hrow
    exact hrow
  · exact Only.trans ((Only.refl nob w).alloc _) (below_none hb)
theorem sorted_at {w : World} {mb kb : Nat} {M : Mach} (n : Nat) (h : MachAt w mb kb M) (hz : KSz M) (hn : n = w.heap.size) :
    Calls Tryz.prog 43 #[.func (.func 58) #[] #[.pointer (some ⟨n, 0, none⟩)]] (w.alloc (.cells #[.map (some kb)] 80)) fun e w' =>
      ∃ (v : Value) (ss : List (List UInt8)), e = .returned v ∧ ss.length ≤ 64 ∧ w'.ownsRow (n + 1) 9 1 v ss.length (ss.map encStr) ∧ Only nob w w' := by
  subst hn; exact sorted_any h hz
theorem keys_at (n : Nat) (mb : Option Nat) (W : World) (hn : n = W.heap.size) : Calls Tryz.prog 44 #[.map mb] W fun e w' => e = .returned (.func (.func 58) #[] #[.pointer (some ⟨n, 0, none⟩)]) ∧ w' = W.alloc (.cells #[.map mb] 80) := by
  subst hn; exact keys_any mb W
end Go.Proofs.YtgcjmjhdnkffcaaGreatDoor
