/- The plain law (layer 43): from the reference's witness to what the program's check wants. Plain Lean, no program. -/
import Derived.Test.YtgcjmjhdnkffcaaGreatDoorJSimC
import Derived.Test.YtgcjmjhdnkffcaaGreatDoorJPgCheck
set_option linter.unusedVariables false
set_option linter.unusedSimpArgs false
namespace Go.Proofs.YtgcjmjhdnkffcaaGreatDoor
open Go.RowKit
/-- No late call, either way round. -/
def NoLate (s : Cnt) (a b : Call) : Prop := lateB s a b = false ∧ lateB s b a = false
theorem ord_pair {s : Cnt} {l : List Call} (h : l.Pairwise (NoLate s)) : OrdOk s l l.length := by
  intro i a hi ha
  rw [List.pairwise_iff_getElem] at h
  obtain ⟨hil, hai⟩ := List.getElem?_eq_some_iff.1 ha
  refine ⟨List.any_eq_false.2 (fun b hb => ?_), List.any_eq_false.2 (fun b hb => ?_)⟩
  · obtain ⟨j, hj, hbj⟩ := List.getElem_of_mem hb
    rw [List.getElem_drop] at hbj
    rw [List.length_drop] at hj
    have := (h i (i + 1 + j) hil (by omega) (by omega)).1
    rw [hai, hbj] at this; rw [this]; simp
  · obtain ⟨j, hj, hbj⟩ := List.getElem_of_mem hb
    rw [List.getElem_take] at hbj
    rw [List.length_take] at hj
    have := (h j i (by omega) hil (by omega)).2
    rw [hai, hbj] at this; rw [this]; simp
theorem pair_ord {s : Cnt} {l : List Call} (h : OrdOk s l l.length) : l.Pairwise (NoLate s) := by
  rw [List.pairwise_iff_getElem]
  intro i j hi hj hij
  have h1 := (h i l[i] hi (List.getElem?_eq_getElem hi)).1
  have h2 := (h j l[j] hj (List.getElem?_eq_getElem hj)).2
  constructor
  · have := List.any_eq_false.1 h1 l[j] (by
      rw [List.mem_iff_getElem]
      refine ⟨j - (i + 1), by rw [List.length_drop]; omega, ?_⟩
      rw [List.getElem_drop]; congr 1; omega)
    simpa using this
  · have := List.any_eq_false.1 h2 l[i] (by
      rw [List.mem_iff_getElem]
      refine ⟨i, by rw [List.length_take]; omega, ?_⟩
      rw [List.getElem_take])
    simpa using this
theorem noLate_symm {s : Cnt} {a b : Call} (h : NoLate s a b) : NoLate s b a := ⟨h.2, h.1⟩
theorem late_of {log : List Cmd} {a b : Call} (h : Ordered log a b) (ha : 0 < a.fin) (hb : 0 < b.fin) : lateB (cntP log) a b = false := by
  unfold lateB
  rw [plN_place, plN_place]
  by_cases hf : a.fin < b.beg
  · have := h ha hb hf
    simp; intro _; omega
  · simp [hf]
theorem open_not {c : Call} (h : (!open_ c) = true) : 0 < c.fin := by
  unfold open_ at h; simpa using h
theorem wit_pair {log : List Cmd} {calls : List Call} (h : Witness log calls) : (calls.filter fun x => !open_ x).Pairwise (NoLate (cntP log)) := by
  rw [List.pairwise_filter, List.pairwise_iff_getElem]
  intro i j hi hj hij ha hb
  have ha' := open_not ha
  have hb' := open_not hb
  exact ⟨late_of (h.order i j _ _ (by omega) (List.getElem?_eq_getElem hi) (List.getElem?_eq_getElem hj)) ha' hb', late_of (h.order j i _ _ (by omega) (List.getElem?_eq_getElem hj) (List.getElem?_eq_getElem hi)) hb' ha'⟩
theorem wit_ord {log : List Cmd} {calls : List Call} (h : Witness log calls) (l : List Call) (hl : l.Perm (calls.filter fun x => !open_ x)) : OrdOk (cntP log) l l.length :=
  ord_pair ((hl.pairwise_iff (fun h => noLate_symm h)).2 (wit_pair h))
theorem wit_one {log : List Cmd} {calls : List Call} (h : ∀ c ∈ calls, Said log c) : ∀ c ∈ calls, 0 < c.fin → ∃ p, OneOk log (cntP log) c p := by
  intro c hc hf
  obtain ⟨p, h1, h2, h3⟩ := h c hc hf
  exact ⟨p, by rw [plN_place, h1]; rfl, h2, by rw [ans_run]; exact h3⟩
theorem wit_inv {log : List Cmd} {calls : List Call} (h : Witness log calls) : InvOk log calls (cntP log) := by
  intro p hp
  obtain ⟨i, hi, h1, h2⟩ := (pl_all log).mem p hp
  obtain ⟨c, hc, e1, e2, _⟩ := counts_cmd h2
  exact ⟨i, c, h1, hc, fun ho => h.invoked i c hc ho (by rw [e1, e2]; exact place_of h2)⟩
/-- An open call more. -/
theorem wit_more {log : List Cmd} {calls : List Call} (h : Witness log calls) (c : Call) (hc : c.fin = 0) : Witness log (calls ++ [c]) := by
  refine ⟨fun k hk hf => ?_, fun i j a b hij ha hb h1 h2 => ?_, fun i d hd ho hp => ?_⟩
  · rcases List.mem_append.1 hk with hk | hk
    · exact h.said k hk hf
    · rw [List.mem_singleton.1 hk, hc] at hf; omega
  · have key : ∀ (n : Nat) (x : Call), (calls ++ [c])[n]? = some x → 0 < x.fin → calls[n]? = some x := by
      intro n x hx hf
      by_cases hn : n < calls.length
      · rwa [List.getElem?_append_left hn] at hx
      · rw [List.getElem?_append_right (by omega)] at hx
        obtain ⟨hl, he⟩ := List.getElem?_eq_some_iff.1 hx
        simp at hl
        rw [List.getElem_singleton] at he
        rw [← he, hc] at hf; omega
    exact h.order i j a b hij (key i a ha h1) (key j b hb h2) h1 h2
  · obtain ⟨k, hk, e⟩ := h.invoked i d hd ho hp
    exact ⟨k, List.mem_append.2 (.inl hk), e⟩
theorem counts_behind {log : List Cmd} {c : Cmd} (ho : ownB c.kind = false) (client seq : Int) (i : Nat) : countsAt (log ++ [c]) client seq i = countsAt log client seq i := by
  by_cases hi : i < log.length
  · unfold countsAt
    rw [List.getElem?_append_left hi, List.take_append_of_le_length (by omega)]
  · have h1 : countsAt log client seq i = false := by
      cases e : countsAt log client seq i
      · rfl
      · exact absurd (counts_lt e) hi
    rw [h1]
    cases e : countsAt (log ++ [c]) client seq i
    · rfl
    · exfalso
      obtain ⟨d, hd, _, _, hb⟩ := counts_cmd e
      rw [List.getElem?_append_right (by omega)] at hd
      obtain ⟨hl, he⟩ := List.getElem?_eq_some_iff.1 hd
      rw [List.getElem_singleton] at he
      rw [← he] at hb
      unfold countB at hb
      simp [ho] at hb
theorem place_behind {log : List Cmd} {c : Cmd} (ho : ownB c.kind = false) (client seq : Int) : placeC (log ++ [c]) client seq = placeC log client seq := by
  cases h : placeC log client seq with
  | zero =>
    cases h2 : placeC (log ++ [c]) client seq with
    | zero => rfl
    | succ i =>
      have := of_place h2
      rw [counts_behind ho] at this
      rw [place_of this] at h; omega
  | succ i =>
    have := of_place h
    rw [← counts_behind ho] at this
    exact place_of this
/-- A command behind that is nobody's. -/
theorem wit_behind {log : List Cmd} {calls : List Call} (h : Witness log calls) (c : Cmd) (ho : ownB c.kind = false) : Witness (log ++ [c]) calls := by
  refine ⟨fun k hk hf => ?_, fun i j a b hij ha hb h1 h2 h3 => ?_, fun i d hd hod hp => ?_⟩
  · obtain ⟨p, h1, h2, h3⟩ := h.said k hk hf
    have hp := (List.getElem?_eq_some_iff.1 h2).1
    refine ⟨p, by rw [place_behind ho]; exact h1, by rw [List.getElem?_append_left hp]; exact h2, ?_⟩
    rw [run_snoc]
    have : (runStep (runS log) c).2 = (runS log).2 ++ [if chk c = 0 then (applyS (runS log).1 c).2 else Ans.zero] := by unfold runStep; split <;> rfl
    rw [this, List.getElem?_append_left (by rw [run_len]; exact hp)]
    exact h3
  · rw [place_behind ho, place_behind ho]; exact h.order i j a b hij ha hb h1 h2 h3
  · rw [place_behind ho] at hp
    by_cases hi : i < log.length
    · rw [List.getElem?_append_left hi] at hd
      exact h.invoked i d hd hod hp
    · have := placeC_le log d.client d.seq
      omega
/-- Two answered calls the wrong way round: in no order are all in order. -/
theorem two_late {log : List Cmd} {a b : Call} (ha : 0 < a.fin) (hb : 0 < b.fin) (hf : a.fin < b.beg) (hp : placeC log b.cmd.client b.cmd.seq ≤ placeC log a.cmd.client a.cmd.seq) (l : List Call) (hl : l.Perm ([a, b].filter fun x => !open_ x)) : ¬ OrdOk (cntP log) l l.length := by
  intro h
  have e : [a, b].filter (fun x => !open_ x) = [a, b] := by simp [open_, ha, hb]
  rw [e] at hl
  have := (hl.pairwise_iff (R := NoLate (cntP log)) (fun h => noLate_symm h)).1 (pair_ord h)
  simp only [List.pairwise_cons, List.mem_singleton, forall_eq] at this
  have h1 := this.1.1
  unfold lateB at h1
  rw [plN_place, plN_place] at h1
  simp [hf] at h1
  omega
end Go.Proofs.YtgcjmjhdnkffcaaGreatDoor
/- The plain law (layer 43): the two fixed calls of awake. Plain Lean, no program. -/
set_option linter.unusedVariables false
set_option linter.unusedSimpArgs false
namespace Go.Proofs.YtgcjmjhdnkffcaaGreatDoor
open Go.RowKit
def putC : Cmd := ⟨2, 1, 1, ⟨#[97]⟩, ⟨#[49]⟩, ⟨#[]⟩, 0⟩
def getC : Cmd := ⟨3, 2, 1, ⟨#[97]⟩, ⟨#[]⟩, ⟨#[]⟩, 0⟩
def callA : Call := ⟨putC, 1, 2, ⟨1, 1, 0, false, ⟨#[]⟩, 0⟩⟩
def callB : Call := ⟨getC, 3, 4, ⟨2, 1, 0, false, ⟨#[]⟩, 0⟩⟩
theorem run_put (h : chk putC = 0) : runStep run0 putC = (⟨1, [⟨⟨#[97]⟩, ⟨#[49]⟩, 0⟩], [⟨1, 1, callA.ans⟩]⟩, [callA.ans]) := by
  unfold runStep
  rw [if_pos h]
  rfl
theorem run_get (h : chk getC = 0) : runStep run0 getC = (⟨1, [], [⟨2, 1, callB.ans⟩]⟩, [callB.ans]) := by
  unfold runStep
  rw [if_pos h]
  rfl
theorem run_two (h : chk putC = 0) : runStep (⟨1, [], [⟨2, 1, callB.ans⟩]⟩, [callB.ans]) putC = (⟨1, [⟨⟨#[97]⟩, ⟨#[49]⟩, 0⟩], [⟨1, 1, callA.ans⟩, ⟨2, 1, callB.ans⟩]⟩, [callB.ans, callA.ans]) := by
  unfold runStep
  rw [if_pos h]
  rfl
theorem runS_one (h : chk putC = 0) : (runS [putC]).2 = [callA.ans] := by
  show (runStep run0 putC).2 = _
  rw [run_put h]
theorem runS_two (hp : chk putC = 0) (hg : chk getC = 0) : (runS [getC, putC]).2 = [callB.ans, callA.ans] := by
  show (runStep (runStep run0 getC) putC).2 = _
  rw [run_get hg, run_two hp]
theorem count_put (hp : chk putC = 0) : countB run0.1 putC = true := by unfold countB; rw [hp]; rfl
theorem count_get (hg : chk getC = 0) : countB run0.1 getC = true := by unfold countB; rw [hg]; rfl
theorem count_put2 (hp : chk putC = 0) : countB (⟨1, [], [⟨2, 1, callB.ans⟩]⟩ : St) putC = true := by unfold countB; rw [hp]; rfl
theorem place_put (hp : chk putC = 0) : placeC [putC] 1 1 = 1 := by
  refine place_of ?_
  rw [counts_eq (c := putC) rfl]
  show (true && true && countB run0.1 putC) = true
  rw [count_put hp]; rfl
theorem place_get2 (hg : chk getC = 0) : placeC [getC, putC] 2 1 = 1 := by
  refine place_of ?_
  rw [counts_eq (c := getC) rfl]
  show (true && true && countB run0.1 getC) = true
  rw [count_get hg]; rfl
theorem place_put2 (hp : chk putC = 0) (hg : chk getC = 0) : placeC [getC, putC] 1 1 = 2 := by
  refine place_of (i := 1) ?_
  rw [counts_eq (c := putC) rfl]
  show (true && true && countB (runStep run0 getC).1 putC) = true
  rw [run_get hg, count_put2 hp]; rfl
theorem aw_one (hp : chk putC = 0) : Witness [putC] [callA] := by
  refine ⟨fun c hc _ => ?_, fun i j a b hij ha hb => ?_, fun i c hc _ _ => ?_⟩
  · obtain rfl := List.mem_singleton.1 hc
    exact ⟨0, place_put hp, rfl, by rw [runS_one hp]; rfl⟩
  · have h1 := (List.getElem?_eq_some_iff.1 ha).1
    have h2 := (List.getElem?_eq_some_iff.1 hb).1
    simp at h1 h2; omega
  · have h1 := List.mem_of_getElem? hc
    obtain rfl := List.mem_singleton.1 h1
    exact ⟨callA, List.mem_singleton.2 rfl, rfl⟩
theorem aw_said (hp : chk putC = 0) (hg : chk getC = 0) : ∀ c ∈ [callA, callB], Said [getC, putC] c := by
  intro c hc _
  rcases List.mem_cons.1 hc with rfl | hc
  · exact ⟨1, place_put2 hp hg, rfl, by rw [runS_two hp hg]; rfl⟩
  · obtain rfl := List.mem_singleton.1 hc
    exact ⟨0, place_get2 hg, rfl, by rw [runS_two hp hg]; rfl⟩
theorem aw_late (hp : chk putC = 0) (hg : chk getC = 0) (l : List Call) (hl : l.Perm ([callA, callB].filter fun x => !open_ x)) : ¬ OrdOk (cntP [getC, putC]) l l.length :=
  two_late (a := callA) (b := callB) (by decide) (by decide) (by decide) (by
    show placeC [getC, putC] 2 1 ≤ placeC [getC, putC] 1 1
    rw [place_put2 hp hg, place_get2 hg]; omega) l hl
end Go.Proofs.YtgcjmjhdnkffcaaGreatDoor
