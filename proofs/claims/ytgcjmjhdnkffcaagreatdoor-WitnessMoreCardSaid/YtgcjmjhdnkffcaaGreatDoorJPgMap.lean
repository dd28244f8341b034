/- Maps as lists of keys and values: what look-ups, stores and deletes do. No condition but that keys are of a kind. -/
import Derived.Test.YtgcjmjhdnkffcaaGreatDoorJRefWith
import Derived.Laws.StructEq
import Derived.Maps.OwnOps
set_option linter.unusedVariables false
set_option linter.unusedSectionVars false
set_option linter.unusedSimpArgs false
namespace Go.Proofs.YtgcjmjhdnkffcaaGreatDoor
open Go.RowKit
section
variable {κ ν : Type} [DecidableEq κ]
def lk (k : κ) : List (κ × ν) → Option ν
  | [] => none
  | (a, v) :: l => if a = k then some v else lk k l
def upd (k : κ) (v : ν) : List (κ × ν) → List (κ × ν)
  | [] => [(k, v)]
  | (a, x) :: l => if a = k then (k, v) :: l else (a, x) :: upd k v l
def del (k : κ) : List (κ × ν) → List (κ × ν)
  | [] => []
  | (a, x) :: l => if a = k then l else (a, x) :: del k l
def ix (k : κ) : List (κ × ν) → Option Nat
  | [] => none
  | (a, _) :: l => if a = k then some 0 else (ix k l).map (· + 1)
theorem lk_upd_same (k : κ) (v : ν) : ∀ l : List (κ × ν), lk k (upd k v l) = some v := by
  intro l; induction l with
  | nil => simp [upd, lk]
  | cons p l ih => obtain ⟨a, x⟩ := p; unfold upd; split <;> simp_all [lk]
theorem lk_upd_other (k j : κ) (v : ν) (h : j ≠ k) : ∀ l : List (κ × ν), lk j (upd k v l) = lk j l := by
  intro l; induction l with
  | nil => simp [upd, lk, Ne.symm h]
  | cons p l ih =>
    obtain ⟨a, x⟩ := p
    unfold upd
    split
    · rename_i e; subst e; simp [lk, Ne.symm h]
    · simp only [lk]; rw [ih]
theorem keys_upd (k : κ) (v : ν) : ∀ l : List (κ × ν), (upd k v l).map (·.1) = if (lk k l).isSome then l.map (·.1) else l.map (·.1) ++ [k] := by
  intro l; induction l with
  | nil => simp [upd, lk]
  | cons p l ih =>
    obtain ⟨a, x⟩ := p
    unfold upd lk
    split
    · rename_i e; subst e; simp
    · simp only [List.map_cons, ih]; split <;> simp
theorem lk_none_iff (k : κ) : ∀ l : List (κ × ν), lk k l = none ↔ k ∉ l.map (·.1) := by
  intro l; induction l with
  | nil => simp [lk]
  | cons p l ih =>
    obtain ⟨a, x⟩ := p
    unfold lk
    split
    · rename_i e; subst e; simp
    · rename_i e; simp [ih, Ne.symm e]
theorem nodup_upd (k : κ) (v : ν) (l : List (κ × ν)) (h : (l.map (·.1)).Nodup) : ((upd k v l).map (·.1)).Nodup := by
  rw [keys_upd]
  split
  · exact h
  · rename_i hn
    have : lk k l = none := by simpa using hn
    rw [List.nodup_append]
    refine ⟨h, by simp, fun a ha b hb => ?_⟩
    simp at hb; subst hb
    rintro rfl
    exact (lk_none_iff _ _).1 this ha
theorem upd_length (k : κ) (v : ν) (l : List (κ × ν)) : (upd k v l).length = l.length + (if (lk k l).isSome then 0 else 1) := by
  have := congrArg List.length (keys_upd k v l)
  simp only [List.length_map] at this
  rw [this]; split <;> simp
theorem del_sub (k : κ) : ∀ l : List (κ × ν), (del k l).Sublist l := by
  intro l; induction l with
  | nil => simp [del]
  | cons p l ih => obtain ⟨a, x⟩ := p; unfold del; split; exact List.sublist_cons_self _ _; exact ih.cons_cons _
theorem lk_del_other (k j : κ) (h : j ≠ k) : ∀ l : List (κ × ν), lk j (del k l) = lk j l := by
  intro l; induction l with
  | nil => simp [del]
  | cons p l ih =>
    obtain ⟨a, x⟩ := p
    unfold del
    split
    · rename_i e; subst e; simp [lk, Ne.symm h]
    · simp only [lk]; rw [ih]
theorem lk_del_same (k : κ) : ∀ l : List (κ × ν), (l.map (·.1)).Nodup → lk k (del k l) = none := by
  intro l; induction l with
  | nil => simp [del, lk]
  | cons p l ih =>
    obtain ⟨a, x⟩ := p
    intro hn
    simp only [List.map_cons, List.nodup_cons] at hn
    unfold del
    split
    · rename_i e; subst e; exact (lk_none_iff _ _).2 hn.1
    · rename_i e; simp only [lk]; rw [if_neg e, ih hn.2]
theorem ix_lk (k : κ) : ∀ l : List (κ × ν), (ix k l).bind (fun i => l[i]?.map (·.2)) = lk k l := by
  intro l; induction l with
  | nil => rfl
  | cons p l ih =>
    obtain ⟨a, x⟩ := p
    unfold ix lk
    split
    · rfl
    · rw [← ih]; cases ix k l <;> rfl
theorem ix_lt {k : κ} : ∀ {l : List (κ × ν)} {i : Nat}, ix k l = some i → i < l.length := by
  intro l; induction l with
  | nil => intro i h; simp [ix] at h
  | cons p l ih =>
    obtain ⟨a, x⟩ := p
    intro i h
    unfold ix at h
    split at h
    · simp at h; subst h; simp
    · obtain ⟨j, hj, rfl⟩ := Option.map_eq_some_iff.1 h
      have := ih hj; simp; omega
theorem ix_key {k : κ} : ∀ {l : List (κ × ν)} {i : Nat}, ix k l = some i → l[i]?.map (·.1) = some k := by
  intro l; induction l with
  | nil => intro i h; simp [ix] at h
  | cons p l ih =>
    obtain ⟨a, x⟩ := p
    intro i h
    unfold ix at h
    split at h
    · rename_i e; simp at h; subst h; simp [e]
    · obtain ⟨j, hj, rfl⟩ := Option.map_eq_some_iff.1 h
      simpa using ih hj
theorem upd_ix (k : κ) (v : ν) : ∀ l : List (κ × ν), upd k v l = match ix k l with | some i => l.modify i (fun _ => (k, v)) | none => l ++ [(k, v)] := by
  intro l; induction l with
  | nil => rfl
  | cons p l ih =>
    obtain ⟨a, x⟩ := p
    unfold upd ix
    split
    · rfl
    · rw [ih]; cases ix k l <;> rfl
theorem del_ix (k : κ) : ∀ l : List (κ × ν), del k l = match ix k l with | some i => l.eraseIdx i | none => l := by
  intro l; induction l with
  | nil => rfl
  | cons p l ih =>
    obtain ⟨a, x⟩ := p
    unfold del ix
    split
    · rfl
    · rw [ih]; cases ix k l <;> rfl
omit [DecidableEq κ] in
theorem borns_modify (l : List MapEntry) (i : Nat) (f : MapEntry → MapEntry) (hf : ∀ e, (f e).born = e.born) : (l.modify i f).map (·.born) = l.map (·.born) := by
  refine List.ext_getElem? fun j => ?_
  simp only [List.getElem?_map, List.getElem?_modify]
  cases l[j]? with
  | none => simp
  | some e => simp; split <;> simp [hf]
/-- What the model asks of a kind of keys. -/
structure KeyOk (P : Program) (kt : TypeId) (kenc : κ → Value) : Prop where
  chk : ∀ (e : Bool) (k : κ) (w : World), (Instr.checkKey e 10000 kt (kenc k)).run P w = .ok () w
  find : ∀ (k : κ) (es : List MapEntry) (l : List (κ × ν)) (w : World), es.map (·.key) = l.map (fun p => kenc p.1) → (Instr.findKey kt (kenc k) es).run P w = .ok ((ix k l).bind fun i => (es[i]?).map fun e => (i, e.val)) w
  bits : ∀ k, Instr.sameBits 10000 (kenc k) (kenc k) = true
/-- Block b is a map that has just that. -/
structure MapIs (kenc : κ → Value) (venc : ν → Value) (es : Array MapEntry) (clock : Nat) (m : List (κ × ν)) : Prop where
  kv : es.toList.map (fun e => (e.key, e.val)) = m.map (fun p => (kenc p.1, venc p.2))
  bn : (es.toList.map (·.born)).Nodup
  lt : ∀ e ∈ es.toList, e.born < clock
def MapAt (kenc : κ → Value) (venc : ν → Value) (w : World) (b : Nat) (m : List (κ × ν)) : Prop := ∃ es clock, w.heap[b]? = some (.map es clock) ∧ MapIs kenc venc es clock m
/-- The world in which block b is another object. -/
def putObj (w : World) (b : Nat) (o : Obj) : World := { w with heap := w.heap.setIfInBounds b o }
theorem putObj_heap {w : World} {b : Nat} {o o' : Obj} (h : w.heap[b]? = some o') : (putObj w b o).heap[b]? = some o := by
  have := heap_lt h
  simp [putObj, this]
theorem Only.putO {S : Nat → Prop} {w w' : World} (h : Only S w w') {b : Nat} (hb : S b ∨ w.heap.size ≤ b) (o : Obj) : Only S w (putObj w' b o) :=
  ⟨h.os, h.tape, h.output, by simpa [putObj] using h.size, fun i hi hs => by
    have hne : b ≠ i := by rintro rfl; rcases hb with hb | hb; exact hs hb; omega
    have : (putObj w' b o).heap[i]? = w'.heap[i]? := by simp [putObj, hne]
    exact this.trans (h.block i hi hs)⟩
theorem MapAt.only {kenc : κ → Value} {venc : ν → Value} {S : Nat → Prop} {w w' : World} {b : Nat} {m : List (κ × ν)} (h : MapAt kenc venc w b m) (ho : Only S w w') (hb : ¬ S b) : MapAt kenc venc w' b m := by
  obtain ⟨es, clock, h1, h2⟩ := h
  exact ⟨es, clock, ho.heap h1 hb, h2⟩
theorem MapAt.lt {kenc : κ → Value} {venc : ν → Value} {w : World} {b : Nat} {m : List (κ × ν)} (h : MapAt kenc venc w b m) : b < w.heap.size := by
  obtain ⟨es, clock, h1, _⟩ := h
  exact heap_lt h1
theorem MapAt.new (kenc : κ → Value) (venc : ν → Value) (w : World) : MapAt kenc venc (w.alloc (.map #[] 0)) w.heap.size [] :=
  ⟨#[], 0, heap_alloc_new _ _, ⟨rfl, by simp, by simp⟩⟩
section
variable {P : Program} {kt vt t : TypeId} {kenc : κ → Value} {venc : ν → Value} (K : KeyOk (ν := ν) P kt kenc) (ht : P.underlying t = some (.map kt vt))
include K ht
theorem lookup_run {w : World} {b : Nat} {m : List (κ × ν)} (h : MapAt kenc venc w b m) {z : ν} (hz : (zeroValue vt).run P w = .ok (venc z) w) (k : κ) (ok : Bool) :
    (Instr.lookup t (.map (some b)) (kenc k) ok).run P w = .ok (if ok then .tuple #[venc ((lk k m).getD z), .bool (lk k m).isSome] else venc ((lk k m).getD z)) w := by
  obtain ⟨es, clock, h1, ⟨h2, _, _⟩⟩ := h
  have hk : es.toList.map (·.key) = m.map (fun p => kenc p.1) := by
    have := congrArg (List.map Prod.fst) h2
    simpa [List.map_map, Function.comp_def] using this
  have hf := K.find k es.toList m w hk
  have hv : ∀ i : Nat, (es.toList[i]?).map (fun e : MapEntry => e.val) = (m[i]?).map (fun p : κ × ν => venc p.2) := fun i => by
    have := congrArg (fun l : List (Value × Value) => (l[i]?).map Prod.snd) h2
    simpa [List.getElem?_map, Option.map_map, Function.comp_def] using this
  have hl := ix_lk k m
  cases hi : ix k m with
  | none =>
    rw [hi] at hl hf; simp only [Option.bind_none] at hl hf
    simp [Instr.lookup, run_underlying ht, MapKept.run_getObj_map h1, K.chk, hf, ← hl, hz, Result.andThen]
    try (cases ok <;> rfl)
  | some i =>
    rw [hi] at hl hf; simp only [Option.bind_some] at hl hf
    have hi' := ix_lt hi
    have he : i < es.toList.length := by have := congrArg List.length hk; simp at this; simp; omega
    have h3 := hv i
    rw [List.getElem?_eq_getElem he, List.getElem?_eq_getElem hi'] at h3
    rw [List.getElem?_eq_getElem hi'] at hl
    simp only [Option.map_some, Option.some.injEq] at h3 hl
    rw [List.getElem?_eq_getElem he] at hf
    simp only [Option.map_some] at hf
    simp [Instr.lookup, run_underlying ht, MapKept.run_getObj_map h1, K.chk, hf, ← hl, h3, Result.andThen]
    try (cases ok <;> simp_all)
theorem update_run {es : Array MapEntry} {clock : Nat} {m : List (κ × ν)} (h : MapIs kenc venc es clock m) (k : κ) (v : ν) :
    ∃ es' clock', MapIs kenc venc es' clock' (upd k v m) ∧ (∀ (b : Nat) (w : World), w.heap[b]? = some (.map es clock) → (Instr.mapUpdate t (.map (some b)) (kenc k) (venc v)).run P w = .ok () (putObj w b (.map es' clock'))) ∧ ((lk k m).isSome = true → es'.toList.map (·.born) = es.toList.map (·.born) ∧ clock' = clock) := by
  obtain ⟨h2, h3, h4⟩ := h
  have hk : es.toList.map (·.key) = m.map (fun p => kenc p.1) := by
    have := congrArg (List.map Prod.fst) h2
    simpa [List.map_map, Function.comp_def] using this
  have hf := fun w => K.find k es.toList m w hk
  have hu := upd_ix k v m
  cases hi : ix k m with
  | none =>
    rw [hi] at hu hf; simp only [Option.bind_none] at hu hf
    have hln : lk k m = none := by have := ix_lk k m; rw [hi] at this; exact this.symm
    refine ⟨es.push ⟨kenc k, venc v, clock⟩, clock + 1, ?_, fun b w h1 => ?_, fun h => by rw [hln] at h; cases h⟩
    rotate_left
    · simp [Instr.mapUpdate, run_underlying ht, MapKept.run_getObj_map h1, K.chk, hf, MapKept.run_setObj_map _ h1, Result.andThen, ChangeMaps.setBlock, putObj]
    · refine ⟨?_, ?_, ?_⟩
      · rw [hu]; simp [h2]
      · simp only [Array.toList_push, List.map_append, List.map_cons, List.map_nil]
        rw [List.nodup_append]
        refine ⟨h3, by simp, fun a ha c hc => ?_⟩
        simp at hc; subst hc
        obtain ⟨e, he, rfl⟩ := List.mem_map.1 ha
        have := h4 e he; omega
      · intro e he
        simp at he
        rcases he with he | rfl
        · have := h4 e (by simpa using he); omega
        · simp
  | some i =>
    rw [hi] at hu hf; simp only [Option.bind_some] at hu hf
    have hi' := ix_lt hi
    have hik := ix_key hi
    have he : i < es.toList.length := by have := congrArg List.length hk; simp at this; simp; omega
    rw [List.getElem?_eq_getElem he] at hf
    simp only [Option.map_some] at hf
    have hek : (es.toList[i]?).map (·.key) = some (kenc k) := by
      have := congrArg (fun l => l[i]?) hk
      simp only [List.getElem?_map] at this
      rw [this]
      rw [List.getElem?_eq_getElem hi'] at hik ⊢
      simp at hik ⊢; rw [hik]
    have hes : (es[i]?).map (·.key) = some (kenc k) := by simpa using hek
    refine ⟨es.modify i fun e => { e with key := kenc k, val := venc v }, clock, ?_, fun b w h1 => ?_, fun _ => ⟨by rw [Array.toList_modify, borns_modify _ _ (fun e => { e with key := kenc k, val := venc v }) (fun _ => rfl)], rfl⟩⟩
    rotate_left
    · simp [putObj, Instr.mapUpdate, run_underlying ht, MapKept.run_getObj_map h1, K.chk, hf, hes, Instr.keyThatStays, K.bits, MapKept.run_setObj_map _ h1, Result.andThen, ChangeMaps.setBlock]
    · refine ⟨?_, ?_, ?_⟩
      · rw [hu]
        refine List.ext_getElem? fun j => ?_
        have hj := congrArg (fun l : List (Value × Value) => l[j]?) h2
        simp only [List.getElem?_map] at hj
        simp only [Array.toList_modify, List.getElem?_map, List.getElem?_modify]
        by_cases hij : i = j
        · subst hij
          rw [List.getElem?_eq_getElem he, List.getElem?_eq_getElem hi']
          simp
        · simp only [if_neg hij]; cases e1 : es.toList[j]? <;> cases e2 : m[j]? <;> simp_all
      · rw [Array.toList_modify, borns_modify _ _ (fun e => { e with key := kenc k, val := venc v }) (fun _ => rfl)]; exact h3
      · intro e he2
        have : e.born ∈ (es.modify i fun e => { e with key := kenc k, val := venc v }).toList.map (·.born) := List.mem_map.2 ⟨e, he2, rfl⟩
        rw [Array.toList_modify, borns_modify _ _ (fun e => { e with key := kenc k, val := venc v }) (fun _ => rfl)] at this
        obtain ⟨e', he', hb'⟩ := List.mem_map.1 this
        rw [← hb']; exact h4 e' he'
theorem delete_run {es : Array MapEntry} {clock : Nat} {m : List (κ × ν)} (h : MapIs kenc venc es clock m) (k : κ) (ty : TypeId) (ats : Array TypeId) (hat : ats[0]? = some t) :
    ∃ es' clock', MapIs kenc venc es' clock' (del k m) ∧ ∀ (b : Nat) (w : World), w.heap[b]? = some (.map es clock) → (Builtin.delete_ ats ty #[.map (some b), kenc k]).run P w = .ok (.tuple #[]) (putObj w b (.map es' clock')) := by
  obtain ⟨h2, h3, h4⟩ := h
  have hk : es.toList.map (·.key) = m.map (fun p => kenc p.1) := by
    have := congrArg (List.map Prod.fst) h2
    simpa [List.map_map, Function.comp_def] using this
  have hf := fun w => K.find k es.toList m w hk
  have hd := del_ix k m
  have hat0 : ats[0]? = some t := hat
  simp only [Builtin.delete_, hat0]
  cases hi : ix k m with
  | none =>
    rw [hi] at hd hf; simp only [Option.bind_none] at hd hf
    refine ⟨es, clock, ?_, fun b w h1 => ?_⟩
    rotate_left
    · simp [putObj, run_underlying ht, MapKept.run_getObj_map h1, K.chk, hf, MapKept.run_setObj_map _ h1, Result.andThen, ChangeMaps.setBlock]
    · exact ⟨by rw [hd]; exact h2, h3, h4⟩
  | some i =>
    rw [hi] at hd hf; simp only [Option.bind_some] at hd hf
    have hi' := ix_lt hi
    have he : i < es.toList.length := by have := congrArg List.length hk; simp at this; simp; omega
    rw [List.getElem?_eq_getElem he] at hf
    simp only [Option.map_some] at hf
    have hes : i < es.size := by simpa using he
    refine ⟨es.eraseIdxIfInBounds i, clock, ?_, fun b w h1 => ?_⟩
    rotate_left
    · simp [putObj, run_underlying ht, MapKept.run_getObj_map h1, K.chk, hf, List.getElem?_eq_getElem he, hes, MapKept.run_setObj_map _ h1, Result.andThen, ChangeMaps.setBlock]
    · have e1 : (es.eraseIdxIfInBounds i).toList = es.toList.eraseIdx i := by simp [Array.eraseIdxIfInBounds, hes]
      refine ⟨?_, ?_, ?_⟩
      · rw [hd, e1, ChangeMaps.map_eraseIdx, h2, ChangeMaps.map_eraseIdx]
      · rw [e1]; rw [ChangeMaps.map_eraseIdx]; exact h3.sublist (List.eraseIdx_sublist _ _)
      · rw [e1]; intro e he3; exact h4 e ((List.eraseIdx_sublist _ _).subset he3)
omit K in
theorem len_run {w : World} {b : Nat} {m : List (κ × ν)} (h : MapAt kenc venc w b m) (ty : TypeId) : (Builtin.len_ #[t] ty #[.map (some b)]).run P w = .ok (.int .i64 m.length) w := by
  obtain ⟨es, clock, h1, ⟨h2, _, _⟩⟩ := h
  have hl : es.size = m.length := by have := congrArg List.length h2; simpa using this
  simp [Builtin.len_, Builtin.lenOf, run_underlying ht, MapKept.run_getObj_map h1, Result.andThen, hl, goInt]
end
end
/-! ### Kinds of keys: texts, pairs of numbers -/
theorem bytes_beq (a b : ByteArray) : (a == b) = decide (a = b) := by
  rw [Bool.eq_iff_iff, MapKept.bytes_beq]; simp
theorem findNow_str {ν : Type} (k : ByteArray) : ∀ (es : List MapEntry) (l : List (ByteArray × ν)) (n : Nat), es.map (·.key) = l.map (fun p => Value.string p.1) →
    Instr.findNow .string (.string k) es n = some ((ix k l).bind fun i => (es[i]?).map fun e => (n + i, e.val)) := by
  intro es
  induction es with
  | nil => intro l n h; cases l with
    | nil => rfl
    | cons p l => simp at h
  | cons e es ih =>
    intro l n h
    cases l with
    | nil => simp at h
    | cons p l =>
      obtain ⟨a, x⟩ := p
      simp only [List.map_cons, List.cons.injEq] at h
      unfold Instr.findNow
      rw [h.1]
      simp only [Instr.sameNow, ix]
      by_cases hk : a = k
      · subst hk; rw [show (a == a) = true from by rw [bytes_beq]; simp]; simp
      · have : (k == a) = false := by rw [bytes_beq]; simp [Ne.symm hk]
        rw [this, if_neg hk]
        simp only
        rw [ih l (n + 1) h.2]
        cases ix k l with
        | none => rfl
        | some i => simp; congr 1; funext e; congr 1; omega
theorem keyOk_str {ν : Type} : KeyOk (κ := ByteArray) (ν := ν) Tryz.prog 9 Value.string where
  chk := fun e k w => by kernel_rfl
  find := fun k es l w h => by
    have := findNow_str k es l 0 h
    simp only [Nat.zero_add] at this
    simp [Instr.findKey, run_underlying Tryz.underlying9, this]
  bits := fun k => by
    show (k == k) = true
    rw [bytes_beq]; simp
def pairV (p : Int × Int) : Value := .agg #[.int .i64 p.1, .int .i64 p.2]
theorem pair_eq (p q : Int × Int) (w : World) : (Op.equal 67 (pairV p) (pairV q)).run Tryz.prog w = .ok (decide (p = q)) w := by
  obtain ⟨a, b⟩ := p
  obtain ⟨c, d⟩ := q
  have e1 : (Op.equal 67 (pairV (a, b)) (pairV (c, d))).run Tryz.prog w = .ok (if a == c then b == d else false) w := by
    show (Op.equalIn (9999 + 1) 67 _ _).run Tryz.prog w = _
    unfold pairV
    obtain ⟨i, hi, _⟩ := Option.map_eq_some_iff.1 (show (Tryz.prog.info? 3).map (fun i => i.size) = some 1 from by kernel_rfl)
    rw [run_equalIn_array (w := w) 9999 _ _ (show Tryz.prog.underlying 67 = some (.array 2 3) from Tryz.underlying67) hi]
    have hc : Tryz.prog.cellsOf 3 = 1 := by kernel_rfl
    have u3 := Tryz.underlying3
    have a3 := Tryz.isAgg3
    have z3 := Tryz.sizeOf3
    rw [hc]
    simp only [List.range, List.range.loop, Op.eqItems]
    go_simp
    by_cases h : a = c <;> by_cases h2 : b = d <;> simp [h, h2]
  rw [e1]
  have e2 : (if a == c then b == d else false) = decide ((a, b) = (c, d)) := by
    by_cases h : a = c <;> by_cases h2 : b = d <;> simp [h, h2]
  rw [e2]
theorem findAsk_pair {ν : Type} (k : Int × Int) (w : World) : ∀ (es : List MapEntry) (l : List ((Int × Int) × ν)) (n : Nat), es.map (·.key) = l.map (fun p => pairV p.1) →
    (Instr.findAsking 67 (pairV k) es n).run Tryz.prog w = .ok ((ix k l).bind fun i => (es[i]?).map fun e => (n + i, e.val)) w := by
  intro es
  induction es with
  | nil => intro l n h; cases l with
    | nil => simp [Instr.findAsking, ix]
    | cons p l => simp at h
  | cons e es ih =>
    intro l n h
    cases l with
    | nil => simp at h
    | cons p l =>
      obtain ⟨a, x⟩ := p
      simp only [List.map_cons, List.cons.injEq] at h
      unfold Instr.findAsking
      rw [h.1]
      simp only [Sem.run_bind, pair_eq, Result.andThen_ok, ix]
      by_cases hk : a = k
      · subst hk; simp
      · rw [decide_eq_false (Ne.symm hk), if_neg hk]
        simp only [Bool.false_eq_true, if_false]
        rw [ih l (n + 1) h.2]
        cases ix k l with
        | none => rfl
        | some i => simp; congr 1; funext e; congr 1; omega
theorem keyOk_pair {ν : Type} : KeyOk (κ := Int × Int) (ν := ν) Tryz.prog 67 pairV where
  chk := fun e k w => by obtain ⟨a, b⟩ := k; unfold pairV; kernel_rfl
  find := fun k es l w h => by
    have h2 := findAsk_pair k w es l 0 h
    simp only [Nat.zero_add] at h2
    have hn : Instr.findNow (.array 2 3) (pairV k) es 0 = none ∨ es = [] := by
      cases es with
      | nil => exact .inr rfl
      | cons e es => exact .inl rfl
    rcases hn with hn | rfl
    · simp [Instr.findKey, run_underlying Tryz.underlying67, hn, h2]
    · cases l with
      | nil => simp [Instr.findKey, run_underlying Tryz.underlying67, Instr.findNow, ix]
      | cons p l => simp at h
  bits := fun k => by simp [Instr.sameBits, pairV]
end Go.Proofs.YtgcjmjhdnkffcaaGreatDoor
