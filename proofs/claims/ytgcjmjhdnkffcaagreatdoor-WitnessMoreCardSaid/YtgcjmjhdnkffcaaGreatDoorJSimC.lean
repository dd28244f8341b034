/- The plain law (layer 43): the program's machine against the reference's run: look-ups. Plain Lean, no program. -/
import Derived.Test.YtgcjmjhdnkffcaaGreatDoorJRefPlace
import Derived.Test.YtgcjmjhdnkffcaaGreatDoorJPgCount
set_option linter.unusedVariables false
set_option linter.unusedSimpArgs false
namespace Go.Proofs.YtgcjmjhdnkffcaaGreatDoor
open Go.RowKit
theorem beq_iff {a b : ByteArray} : beq a b = true ↔ a = b := ⟨fun h => bytes_ext h, fun h => by subst h; unfold beq; simp⟩
def lkP (k : ByteArray) : List Pair → Option (ByteArray × Int)
  | [] => none
  | p :: l => if p.key = k then some (p.val, p.rev) else lkP k l
theorem lkP_place (k : ByteArray) : ∀ l : List Pair, ((placeP k l).bind (l[·]?)).map (fun p => (p.val, p.rev)) = lkP k l := by
  intro l
  induction l with
  | nil => rfl
  | cons p l ih =>
    unfold placeP lkP
    by_cases h : p.key = k
    · rw [if_pos (beq_iff.2 h), if_pos h]; rfl
    · rw [if_neg (fun e => h (beq_iff.1 e)), if_neg h, ← ih]
      cases placeP k l <;> simp
theorem lkP_append (k : ByteArray) (a b : List Pair) : lkP k (a ++ b) = (lkP k a).or (lkP k b) := by
  induction a with
  | nil => rfl
  | cons p a ih =>
    rw [List.cons_append, lkP, lkP, ih]
    split <;> rfl
theorem lkP_without (k j : ByteArray) (l : List Pair) : lkP j (withoutP l k) = if j = k then none else lkP j l := by
  unfold withoutP
  induction l with
  | nil => simp [lkP]
  | cons p l ih =>
    rw [List.filter_cons]
    by_cases h : p.key = k
    · rw [show (!beq p.key k) = false from by rw [beq_iff.2 h]; rfl]
      simp only [Bool.false_eq_true, if_false]
      rw [ih, lkP]
      by_cases hj : j = k
      · rw [if_pos hj, if_pos hj]
      · rw [if_neg hj, if_neg hj, if_neg (fun e => hj (e.symm.trans h))]
    · rw [show (!beq p.key k) = true from by cases hb : beq p.key k; rfl; exact absurd (beq_iff.1 hb) h]
      simp only [if_true]
      rw [lkP, ih, lkP]
      by_cases hj : j = k
      · subst hj; rw [if_neg h, if_pos rfl, if_pos rfl]
      · rw [if_neg hj, if_neg hj]
theorem lkP_revs (k : ByteArray) (r : Int) (l : List Pair) : lkP k (revsP l r) = (lkP k l).map (fun v => (v.1, r)) := by
  unfold revsP
  induction l with
  | nil => rfl
  | cons p l ih =>
    rw [List.map_cons, lkP, lkP, ih]
    split <;> rfl
theorem lkP_none {k : ByteArray} {l : List Pair} (h : ∀ x ∈ l, x.key ≠ k) : lkP k l = none := by
  induction l with
  | nil => rfl
  | cons p l ih => rw [lkP, if_neg (h p (by simp)), ih (fun x hx => h x (by simp [hx]))]
theorem lkP_with (p : Pair) (j : ByteArray) (l : List Pair) : lkP j (withP l p) = if j = p.key then some (p.val, p.rev) else lkP j l := by
  rw [withP_eq, lkP_append, lkP]
  by_cases hj : j = p.key
  · subst hj
    rw [if_pos rfl, if_pos rfl, lkP_none (fun x hx e => by
      have h1 : blt x.key p.key = true := List.all_eq_true.1 (List.all_takeWhile (p := fun x : Pair => blt x.key p.key) (l := l)) x hx
      have h2 := blt_ne h1
      rw [beq_iff.2 e] at h2; cases h2)]
    rfl
  · rw [if_neg (fun e => hj e.symm), if_neg hj]
    have h3 : lkP j ((l.dropWhile (fun x => blt x.key p.key)).filter (fun x => !beq x.key p.key)) = lkP j (l.dropWhile (fun x => blt x.key p.key)) := by
      have := lkP_without p.key j (l.dropWhile (fun x => blt x.key p.key))
      rw [if_neg hj] at this; exact this
    rw [h3, ← lkP_append, List.takeWhile_append_dropWhile]
theorem lastOf_append (c : Int) (a b : List Sess) : lastOf c (a ++ b) = if ∃ x ∈ a, x.client = c then lastOf c a else lastOf c b := by
  induction a with
  | nil => simp
  | cons x a ih =>
    rw [List.cons_append, lastOf, lastOf]
    by_cases h : x.client = c
    · rw [if_pos h, if_pos ⟨x, by simp, h⟩, if_pos h]
    · rw [if_neg h, ih, if_neg h]
      by_cases hx : ∃ y ∈ a, y.client = c
      · obtain ⟨y, hy, he⟩ := hx
        rw [if_pos ⟨y, hy, he⟩, if_pos ⟨y, by simp [hy], he⟩]
      · rw [if_neg hx, if_neg (fun ⟨y, hy, he⟩ => by
          rcases List.mem_cons.1 hy with rfl | hy
          · exact h he
          · exact hx ⟨y, hy, he⟩)]
theorem lastOf_mid (c : Int) (y : Sess) (h : y.client ≠ c) (a b : List Sess) : lastOf c (a ++ y :: b) = lastOf c (a ++ b) := by
  induction a with
  | nil => rw [List.nil_append, lastOf, if_neg h, List.nil_append]
  | cons x a ih => rw [List.cons_append, List.cons_append, lastOf, lastOf, ih]
theorem lastOf_with_other (a : Ans) (c : Int) (hc : c ≠ a.client) : ∀ (l : List Sess) (st : List Sess × Bool), lastOf c (l.foldl (withSStep a) st).1 = lastOf c (st.1 ++ l) := by
  intro l
  induction l with
  | nil => intro st; simp
  | cons x l ih =>
    intro st
    rw [List.foldl_cons, ih]
    obtain ⟨o, b⟩ := st
    unfold withSStep
    simp only
    have hn : (⟨a.client, a.seq, a⟩ : Sess).client ≠ c := fun e => hc e.symm
    by_cases h1 : b = false ∧ a.client ≤ x.client
    · rw [if_pos h1]
      split
      · rename_i hx
        simp only [List.append_assoc, List.singleton_append]
        rw [lastOf_mid c _ hn, lastOf_mid c x (by rw [hx]; exact hn)]
      · simp only [List.append_assoc, List.singleton_append, List.cons_append, List.nil_append]
        rw [lastOf_mid c _ hn]
    · rw [if_neg h1]
      split
      · rename_i hx
        rw [lastOf_mid c x (by rw [hx]; exact hn)]
      · simp only [List.append_assoc, List.singleton_append]
def WsInv (a : Ans) (st : List Sess × Bool) : Prop := (st.2 = true → ∃ pre post, st.1 = pre ++ ⟨a.client, a.seq, a⟩ :: post ∧ ∀ x ∈ pre, x.client ≠ a.client) ∧ (st.2 = false → ∀ x ∈ st.1, x.client ≠ a.client)
theorem wsInv_step (a : Ans) (x : Sess) (st : List Sess × Bool) (h : WsInv a st) : WsInv a (withSStep a st x) := by
  obtain ⟨o, b⟩ := st
  obtain ⟨ht, hf⟩ := h
  unfold withSStep
  simp only at ht hf ⊢
  have key : WsInv a (if b = false ∧ a.client ≤ x.client then (o ++ [(⟨a.client, a.seq, a⟩ : Sess)], true) else (o, b)) := by
    split
    · rename_i h1
      exact ⟨fun _ => ⟨o, [], rfl, hf h1.1⟩, fun e => by cases e⟩
    · exact ⟨ht, hf⟩
  split
  · exact key
  · rename_i hx
    obtain ⟨k1, k2⟩ := key
    refine ⟨fun e => ?_, fun e y hy => ?_⟩
    · obtain ⟨pre, post, h1, h2⟩ := k1 e
      exact ⟨pre, post ++ [x], by rw [h1]; simp, h2⟩
    · rcases List.mem_append.1 hy with hy | hy
      · exact k2 e y hy
      · rw [List.mem_singleton.1 hy]; exact hx
theorem wsInv_fold (a : Ans) : ∀ (l : List Sess) (st : List Sess × Bool), WsInv a st → WsInv a (l.foldl (withSStep a) st) := by
  intro l
  induction l with
  | nil => intro st h; exact h
  | cons x l ih => intro st h; rw [List.foldl_cons]; exact ih _ (wsInv_step a x st h)
theorem lastOf_hit (c : Int) (y : Sess) (hy : y.client = c) : ∀ (pre post : List Sess), (∀ x ∈ pre, x.client ≠ c) → lastOf c (pre ++ y :: post) = (y.seq, y.last) := by
  intro pre
  induction pre with
  | nil => intro post _; rw [List.nil_append, lastOf, if_pos hy]
  | cons x pre ih => intro post h; rw [List.cons_append, lastOf, if_neg (h x (by simp)), ih post (fun z hz => h z (by simp [hz]))]
theorem lastOf_with_same (a : Ans) (l : List Sess) : lastOf a.client (withS l a) = (a.seq, a) := by
  have h0 : WsInv a (([] : List Sess), false) := ⟨fun e => Bool.noConfusion e, fun _ x hx => absurd hx (by simp)⟩
  obtain ⟨h1, h2⟩ := wsInv_fold a l ([], false) h0
  unfold withS
  simp only
  split
  · rename_i hb
    obtain ⟨pre, post, e, hp⟩ := h1 hb
    rw [e]; exact lastOf_hit a.client ⟨a.client, a.seq, a⟩ rfl pre post hp
  · rename_i hb
    exact lastOf_hit a.client ⟨a.client, a.seq, a⟩ rfl _ [] (h2 (by simpa using hb))
theorem lastOf_with (a : Ans) (c : Int) (hc : c ≠ a.client) (l : List Sess) : lastOf c (withS l a) = lastOf c l := by
  have h := lastOf_with_other a c hc l ([], false)
  unfold withS
  simp only
  split
  · exact h
  · rw [lastOf_mid c _ (fun e => hc e.symm)]
    simpa using h
theorem lkP_none_iff {k : ByteArray} : ∀ {l : List Pair}, lkP k l = none ↔ ∀ x ∈ l, x.key ≠ k := by
  intro l
  refine ⟨?_, lkP_none⟩
  induction l with
  | nil => intro _ x hx; simp at hx
  | cons p l ih =>
    intro h x hx
    rw [lkP] at h
    by_cases hp : p.key = k
    · rw [if_pos hp] at h; simp at h
    · rw [if_neg hp] at h
      rcases List.mem_cons.1 hx with rfl | hx
      · exact hp
      · exact ih h x hx
theorem withP_len_new (p : Pair) (l : List Pair) (h : lkP p.key l = none) : (withP l p).length = l.length + 1 := by
  have hk := lkP_none_iff.1 h
  rw [withP_eq, List.filter_eq_self.2 (fun x hx => by
    cases hb : beq x.key p.key
    · rfl
    · exact absurd (beq_iff.1 hb) (hk x (List.dropWhile_subset _ hx)))]
  have := congrArg List.length (List.takeWhile_append_dropWhile (p := fun x : Pair => blt x.key p.key) (l := l))
  simp only [List.length_append, List.length_cons] at this ⊢
  omega
theorem without_none {k : ByteArray} {l : List Pair} (h : lkP k l = none) : withoutP l k = l :=
  List.filter_eq_self.2 (fun x hx => by
    cases hb : beq x.key k
    · rfl
    · exact absurd (beq_iff.1 hb) (lkP_none_iff.1 h x hx))
theorem without_len : ∀ (k : ByteArray) (l : List Pair), (l.map (·.key)).Nodup → lkP k l ≠ none → (withoutP l k).length + 1 = l.length := by
  intro k l
  induction l with
  | nil => intro _ h; exact absurd rfl h
  | cons p l ih =>
    intro hn h
    simp only [List.map_cons, List.nodup_cons] at hn
    by_cases hp : p.key = k
    · have h0 : lkP k l = none := lkP_none (fun x hx e => hn.1 (List.mem_map.2 ⟨x, hx, e.trans hp.symm⟩))
      have e : withoutP (p :: l) k = withoutP l k := by unfold withoutP; rw [List.filter_cons, show (!beq p.key k) = false from by rw [beq_iff.2 hp]; rfl]; rfl
      rw [e, without_none h0]; rfl
    · have e : withoutP (p :: l) k = p :: withoutP l k := by
        unfold withoutP
        rw [List.filter_cons, show (!beq p.key k) = true from by cases hb : beq p.key k; rfl; exact absurd (beq_iff.1 hb) hp]; rfl
      rw [lkP, if_neg hp] at h
      rw [e, List.length_cons, List.length_cons, ih hn.2 h]
theorem tw_without (p : Pair) (l : List Pair) : withoutP (l.takeWhile (fun x => blt x.key p.key)) p.key = l.takeWhile (fun x => blt x.key p.key) :=
  List.filter_eq_self.2 (fun x hx => by
    have h1 : blt x.key p.key = true := List.all_eq_true.1 (List.all_takeWhile (p := fun x : Pair => blt x.key p.key) (l := l)) x hx
    rw [blt_ne h1]; rfl)
theorem withP_perm (p : Pair) (l : List Pair) : (withP l p).Perm (p :: withoutP l p.key) := by
  have h : withoutP l p.key = l.takeWhile (fun x => blt x.key p.key) ++ withoutP (l.dropWhile (fun x => blt x.key p.key)) p.key := by
    conv => lhs; rw [← List.takeWhile_append_dropWhile (p := fun x : Pair => blt x.key p.key) (l := l)]
    unfold withoutP
    rw [List.filter_append]
    congr 1
    exact tw_without p l
  rw [withP_eq, h]
  exact List.perm_middle
end Go.Proofs.YtgcjmjhdnkffcaaGreatDoor
/- The plain law (layer 43): the program's machine stands as the reference's state. Plain Lean, no program. -/
set_option linter.unusedVariables false
set_option linter.unusedSimpArgs false
namespace Go.Proofs.YtgcjmjhdnkffcaaGreatDoor
open Go.RowKit
structure Sim (s : St) (M : Mach) : Prop where
  schema : s.schema = 1 ∨ s.schema = 2
  act : M.act = decide (s.schema = 2)
  keys : ∀ k, lk k M.keys = lkP k s.pairs
  len : M.keys.length = s.pairs.length
  nod : (s.pairs.map (·.key)).Nodup
  nodM : (M.keys.map (·.1)).Nodup
  done : ∀ c : Int, 1 ≤ c → c ≤ 8 → M.done c.toNat = lastOf c s.sess
  pos : ∀ c : Int, 0 ≤ (lastOf c s.sess).1
theorem sim0 : Sim run0.1 mach0 := ⟨.inl rfl, rfl, fun _ => rfl, rfl, by simp [run0], by simp [mach0], fun _ _ _ => rfl, fun _ => by simp [run0, lastOf]⟩
theorem lk_upd (k j : ByteArray) (v : ByteArray × Int) (l : List (ByteArray × (ByteArray × Int))) : lk j (upd k v l) = if j = k then some v else lk j l := by
  by_cases h : j = k
  · subst h; rw [if_pos rfl, lk_upd_same]
  · rw [if_neg h, lk_upd_other k j v h]
theorem lk_del (k j : ByteArray) (l : List (ByteArray × (ByteArray × Int))) (hn : (l.map (·.1)).Nodup) : lk j (del k l) = if j = k then none else lk j l := by
  by_cases h : j = k
  · subst h; rw [if_pos rfl, lk_del_same _ _ hn]
  · rw [if_neg h, lk_del_other k j h]
theorem keys_put {s : St} {M : Mach} (h : Sim s M) (p : Pair) : (∀ k, lk k (upd p.key (p.val, p.rev) M.keys) = lkP k (withP s.pairs p)) ∧ ((withP s.pairs p).map (·.key)).Nodup ∧ ((upd p.key (p.val, p.rev) M.keys).map (·.1)).Nodup ∧ (upd p.key (p.val, p.rev) M.keys).length = (withP s.pairs p).length := by
  refine ⟨fun k => by rw [lk_upd, lkP_with, h.keys], ?_, nodup_upd _ _ _ h.nodM, ?_⟩
  · have hp := (withP_perm p s.pairs).map (·.key)
    rw [hp.nodup_iff, List.map_cons, List.nodup_cons]
    refine ⟨fun hm => ?_, ?_⟩
    · obtain ⟨x, hx, he⟩ := List.mem_map.1 hm
      have h2 := (List.mem_filter.1 hx).2
      rw [beq_iff.2 he] at h2; simp at h2
    · exact h.nod.sublist ((List.filter_sublist).map _)
  · rw [upd_length, h.keys, h.len]
    cases hl : lkP p.key s.pairs with
    | none => rw [withP_len_new p s.pairs hl]; rfl
    | some v =>
      have h1 := without_len p.key s.pairs h.nod (by rw [hl]; simp)
      have h2 := (withP_perm p s.pairs).length_eq
      simp at h2 ⊢
      omega
theorem del_length {k : ByteArray} : ∀ {l : List (ByteArray × (ByteArray × Int))}, (del k l).length = l.length - (if (lk k l).isSome then 1 else 0) := by
  intro l
  induction l with
  | nil => rfl
  | cons p l ih =>
    obtain ⟨a, x⟩ := p
    unfold del lk
    by_cases h : a = k
    · simp [h]
    · have hp : (lk k l).isSome = true → 0 < l.length := fun e => by cases l with
        | nil => simp [lk] at e
        | cons _ _ => simp
      simp only [h, if_false, List.length_cons, ih]
      split
      · rename_i hs; have := hp hs; omega
      · rfl
theorem keys_del {s : St} {M : Mach} (h : Sim s M) (k : ByteArray) : (∀ j, lk j (del k M.keys) = lkP j (withoutP s.pairs k)) ∧ ((withoutP s.pairs k).map (·.key)).Nodup ∧ ((del k M.keys).map (·.1)).Nodup ∧ (del k M.keys).length = (withoutP s.pairs k).length := by
  refine ⟨fun j => by rw [lk_del k j _ h.nodM, lkP_without, h.keys], h.nod.sublist ((List.filter_sublist).map _), h.nodM.sublist ((del_sub k M.keys).map _), ?_⟩
  rw [del_length, h.keys, h.len]
  cases hl : lkP k s.pairs with
  | none => rw [without_none hl]; rfl
  | some v =>
    have h1 := without_len k s.pairs h.nod (by rw [hl]; simp)
    simp
    omega
theorem sim_act {s : St} {M : Mach} (h : Sim s M) (h1 : s.schema = 1) : Sim ⟨2, revsP s.pairs 1, s.sess⟩ (actP M) := by
  have ha : M.act = false := by rw [h.act, h1]; rfl
  have e : actP M = { M with act := true, keys := M.keys.map fun p => (p.1, (p.2.1, 1)) } := by unfold actP; rw [ha]; rfl
  have hlk : ∀ (l : List (ByteArray × (ByteArray × Int))) (k : ByteArray), lk k (l.map fun p => (p.1, (p.2.1, (1 : Int)))) = (lk k l).map (fun v => (v.1, 1)) := fun l k => by
    induction l with
    | nil => rfl
    | cons p l ih =>
      obtain ⟨a, x⟩ := p
      rw [List.map_cons, lk, lk, ih]
      split <;> rfl
  rw [e]
  refine ⟨.inr rfl, rfl, fun k => by rw [hlk, h.keys, lkP_revs], by simp [revsP, h.len], ?_, ?_, h.done, h.pos⟩
  · have : (revsP s.pairs 1).map (·.key) = s.pairs.map (·.key) := by simp [revsP, List.map_map, Function.comp_def]
    rw [this]; exact h.nod
  · have : (M.keys.map fun p => (p.1, (p.2.1, (1 : Int)))).map (·.1) = M.keys.map (·.1) := by simp [List.map_map, Function.comp_def]
    rw [this]; exact h.nodM
theorem rev_same (s : St) (M : Mach) (ha : M.act = decide (s.schema = 2)) (old : Option Pair) (hr : ∀ p, old = some p → p.rev ≤ 4294967296) : revP M.act ((old.map (fun p => (p.val, p.rev))).getD (⟨#[]⟩, 0)).2 = nextRev s.schema old := by
  unfold revP nextRev
  rw [ha]
  by_cases h2 : s.schema = 2
  · simp only [h2, decide_true, if_true]
    cases old with
    | none => simp
    | some p =>
      have := hr p rfl
      simp only [Option.map_some, Option.getD_some]
      split
      · rfl
      · omega
  · simp [h2]
theorem done_with {s : St} {M : Mach} (h : Sim s M) (a : Ans) (h1 : 1 ≤ a.client) (h8 : a.client ≤ 8) : ∀ c : Int, 1 ≤ c → c ≤ 8 → setDone M.done a.client.toNat (a.seq, a) c.toNat = lastOf c (withS s.sess a) := by
  intro c hc1 hc8
  unfold setDone
  by_cases e : c = a.client
  · subst e; rw [if_pos rfl, lastOf_with_same]
  · rw [if_neg (by omega), lastOf_with a c e, h.done c hc1 hc8]
end Go.Proofs.YtgcjmjhdnkffcaaGreatDoor
/- The plain law (layer 43): a step of both machines. Plain Lean, no program. -/
set_option linter.unusedVariables false
set_option linter.unusedSimpArgs false
namespace Go.Proofs.YtgcjmjhdnkffcaaGreatDoor
open Go.RowKit
theorem old_lk {s : St} {M : Mach} (h : Sim s M) (k : ByteArray) : lk k M.keys = ((placeP k s.pairs).bind (s.pairs[·]?)).map (fun p => (p.val, p.rev)) := by
  rw [h.keys, lkP_place]
/-- A command of a client that counts: the pairs, the answer. -/
theorem fresh_sim {s : St} {M : Mach} (h : Sim s M) (hp : POk s.pairs) (c : Cmd) (ho : ownB c.kind = true) (h5 : c.kind = 5 → s.schema = 2) :
    (freshP M c).2 = (doP s.schema s.pairs c).2 ∧ (freshP M c).1.act = M.act ∧ (freshP M c).1.done = M.done ∧ (∀ k, lk k (freshP M c).1.keys = lkP k (doP s.schema s.pairs c).1) ∧ (freshP M c).1.keys.length = (doP s.schema s.pairs c).1.length ∧
      ((doP s.schema s.pairs c).1.map (·.key)).Nodup ∧ ((freshP M c).1.keys.map (·.1)).Nodup := by
  obtain ⟨old, hold⟩ : ∃ o, (placeP c.key s.pairs).bind (s.pairs[·]?) = o := ⟨_, rfl⟩
  have hlk := old_lk h c.key
  rw [hold] at hlk
  have hrev : ∀ p, old = some p → p.rev ≤ 4294967296 := fun p hq => (hp.rev p (old_mem (hold.trans hq)).1).2
  have hr := rev_same s M h.act old hrev
  have hlen := hp.len
  have hml := h.len
  have hk : c.kind = 2 ∨ c.kind = 3 ∨ c.kind = 4 ∨ c.kind = 5 := by unfold ownB at ho; simp at ho; omega
  have hput := keys_put h ⟨c.key, c.val, nextRev s.schema old⟩
  have hdel := keys_del h c.key
  have hov : (oldOf M c.key).1 = (old.map (·.val)).getD ⟨#[]⟩ := by unfold oldOf; rw [hlk]; cases old <;> rfl
  have his : (lk c.key M.keys).isSome = old.isSome := by rw [hlk]; cases old <;> rfl
  have hset : setP M c = if old = none ∧ 64 ≤ s.pairs.length then (M, false) else ({ M with keys := upd c.key (c.val, nextRev s.schema old) M.keys }, true) := by
    unfold setP
    rw [hlk, hr]
    have : (old.map (fun p => (p.val, p.rev)) = none ∧ M.keys.length = 64) ↔ (old = none ∧ 64 ≤ s.pairs.length) := by
      rw [Option.map_eq_none_iff, hml]
      exact ⟨fun ⟨a, b⟩ => ⟨a, by omega⟩, fun ⟨a, b⟩ => ⟨a, by omega⟩⟩
    by_cases hc : old = none ∧ 64 ≤ s.pairs.length
    · rw [if_pos (this.2 hc), if_pos hc]
    · rw [if_neg (fun e => hc (this.1 e)), if_neg hc]
  rcases hk with hk | hk | hk | hk
  · -- put
    by_cases hc : old = none ∧ 64 ≤ s.pairs.length
    · have e1 : freshP M c = (M, ⟨c.client, c.seq, 11, false, ⟨#[]⟩, 0⟩) := by unfold freshP; rw [if_neg (by omega), if_pos hk, hset, if_pos hc]; rfl
      have e2 : doP s.schema s.pairs c = (s.pairs, ⟨c.client, c.seq, 11, false, ⟨#[]⟩, 0⟩) := by unfold doP; simp only [hold]; rw [if_pos ⟨hk, hc.1, hc.2⟩]
      rw [e1, e2]; exact ⟨rfl, rfl, rfl, h.keys, h.len, h.nod, h.nodM⟩
    · have e1 : freshP M c = ({ M with keys := upd c.key (c.val, nextRev s.schema old) M.keys }, ⟨c.client, c.seq, 0, old.isSome, (old.map (·.val)).getD ⟨#[]⟩, 0⟩) := by
        unfold freshP; rw [if_neg (by omega), if_pos hk, hset, if_neg hc, his, hov]; rfl
      have e2 : doP s.schema s.pairs c = (withP s.pairs ⟨c.key, c.val, nextRev s.schema old⟩, ⟨c.client, c.seq, 0, old.isSome, (old.map (·.val)).getD ⟨#[]⟩, 0⟩) := by
        unfold doP; simp only [hold]; rw [if_neg (fun e => hc e.2), if_pos hk]
      rw [e1, e2]; exact ⟨rfl, rfl, rfl, hput.1, hput.2.2.2, hput.2.1, hput.2.2.1⟩
  · -- get
    have e1 : freshP M c = (M, ⟨c.client, c.seq, 0, old.isSome, (old.map (·.val)).getD ⟨#[]⟩, 0⟩) := by
      unfold freshP; rw [if_neg (by omega), if_neg (by omega), if_neg (by omega), his, hov]
    have e2 : doP s.schema s.pairs c = (s.pairs, ⟨c.client, c.seq, 0, old.isSome, (old.map (·.val)).getD ⟨#[]⟩, 0⟩) := by
      unfold doP; simp only [hold]; rw [if_neg (by omega), if_neg (by omega), if_neg (by omega), if_neg (by omega), if_pos hk]
    rw [e1, e2]; exact ⟨rfl, rfl, rfl, h.keys, h.len, h.nod, h.nodM⟩
  · -- del
    have e1 : freshP M c = ({ M with keys := del c.key M.keys }, ⟨c.client, c.seq, 0, old.isSome, (old.map (·.val)).getD ⟨#[]⟩, 0⟩) := by
      unfold freshP; rw [if_neg (by omega), if_neg (by omega), if_pos hk, his, hov]
    have e2 : doP s.schema s.pairs c = (withoutP s.pairs c.key, ⟨c.client, c.seq, 0, old.isSome, (old.map (·.val)).getD ⟨#[]⟩, 0⟩) := by
      unfold doP; simp only [hold]; rw [if_neg (by omega), if_neg (by omega), if_pos hk]
    rw [e1, e2]; exact ⟨rfl, rfl, rfl, hdel.1, hdel.2.2.2, hdel.2.1, hdel.2.2.1⟩
  · -- compare and swap
    have hs2 := h5 hk
    cases hol : old with
    | none =>
      have e1 : freshP M c = (M, ⟨c.client, c.seq, 10, false, ⟨#[]⟩, 0⟩) := by unfold freshP swapP; rw [if_pos hk, hlk, hol]; rfl
      have e2 : doP s.schema s.pairs c = (s.pairs, ⟨c.client, c.seq, 10, false, ⟨#[]⟩, 0⟩) := by
        unfold doP; simp only [hold]; rw [if_neg (by omega), if_neg (by omega), if_neg (by omega), if_pos ⟨hk, hs2⟩, hol]
      rw [e1, e2]; exact ⟨rfl, rfl, rfl, h.keys, h.len, h.nod, h.nodM⟩
    | some p =>
      cases hb : beq p.val c.old with
      | false =>
        have e1 : freshP M c = (M, ⟨c.client, c.seq, 15, true, p.val, p.rev⟩) := by unfold freshP swapP; rw [if_pos hk, hlk, hol]; simp [hb]
        have e2 : doP s.schema s.pairs c = (s.pairs, ⟨c.client, c.seq, 15, true, p.val, p.rev⟩) := by
          unfold doP; simp only [hold]; rw [if_neg (by omega), if_neg (by omega), if_neg (by omega), if_pos ⟨hk, hs2⟩, hol]; simp [hb]
        rw [e1, e2]; exact ⟨rfl, rfl, rfl, h.keys, h.len, h.nod, h.nodM⟩
      | true =>
        have hset' : setP M c = ({ M with keys := upd c.key (c.val, nextRev s.schema old) M.keys }, true) := by rw [hset, if_neg (by rw [hol]; simp)]
        have e1 : freshP M c = ({ M with keys := upd c.key (c.val, nextRev s.schema old) M.keys }, ⟨c.client, c.seq, 0, true, p.val, nextRev s.schema old⟩) := by
          unfold freshP swapP; rw [if_pos hk, hlk, hol]; simp only [Option.map_some, hb, if_true]
          rw [hset', ← hol]
          unfold oldOf
          simp only [lk_upd_same, Option.getD_some]
        have e2 : doP s.schema s.pairs c = (withP s.pairs ⟨c.key, c.val, nextRev s.schema old⟩, ⟨c.client, c.seq, 0, true, p.val, nextRev s.schema old⟩) := by
          unfold doP; simp only [hold]; rw [if_neg (by omega), if_neg (by omega), if_neg (by omega), if_pos ⟨hk, hs2⟩, hol]; simp [hb]
        rw [e1, e2]; exact ⟨rfl, rfl, rfl, hput.1, hput.2.2.2, hput.2.1, hput.2.2.1⟩
theorem doP_ans (schema : Int) (l : List Pair) (c : Cmd) : (doP schema l c).2.client = c.client ∧ (doP schema l c).2.seq = c.seq := by
  unfold doP
  simp only
  split
  · exact ⟨rfl, rfl⟩
  split
  · exact ⟨rfl, rfl⟩
  split
  · exact ⟨rfl, rfl⟩
  split
  · split
    · exact ⟨rfl, rfl⟩
    · split <;> exact ⟨rfl, rfl⟩
  split <;> exact ⟨rfl, rfl⟩
/-- Does a command count at a state? -/
def countB (s : St) (c : Cmd) : Bool := decide (chk c = 0) && ownB c.kind && decide ((lastOf c.client s.sess).1 < c.seq) && hasB s.schema c.kind
theorem has_own {s : St} {M : Mach} (h : Sim s M) {k : Int} (ho : ownB k = true) : hasB s.schema k = false ↔ (k = 5 ∧ M.act = false) := by
  rw [h.act]
  unfold ownB at ho
  simp at ho
  unfold hasB
  rcases h.schema with hs | hs <;> simp [hs] <;> omega
/-- A step of both machines. -/
theorem sim_step {s : St} {M : Mach} (h : Sim s M) (hp : POk s.pairs) (c : Cmd) (qs : List Ans) : Sim (runStep (s, qs) c).1 (doM M c).1 ∧ (runStep (s, qs) c).2 = qs ++ [(doM M c).2] ∧
    (countB s c = false → (doM M c).1.done = M.done) ∧ (countB s c = true → (doM M c).1.done c.client.toNat = (c.seq, (doM M c).2) ∧ 1 ≤ c.client ∧ c.client ≤ 8) := by
  unfold runStep doM
  by_cases hc : chk c = 0
  · rw [if_pos hc]
    cases ho : ownB c.kind with
    | false =>
      have hcb : countB s c = false := by unfold countB; simp [ho]
      rw [hcb]
      by_cases h6 : c.kind = 6
      · have e1 : stepP M c = (actP M, Ans.zero, false) := by unfold stepP; rw [if_neg (by simp [hc]), if_neg (by simp [ho]), if_pos h6]
        rw [e1]
        have had : (actP M).done = M.done := by unfold actP; split <;> rfl
        by_cases h1 : s.schema = 1
        · have e2 : applyS s c = (⟨2, revsP s.pairs 1, s.sess⟩, Ans.zero) := by unfold applyS; rw [if_pos ho, if_pos ⟨h6, h1⟩]
          rw [e2]; exact ⟨sim_act h h1, rfl, fun _ => had, fun e => by cases e⟩
        · have e2 : applyS s c = (s, Ans.zero) := by unfold applyS; rw [if_pos ho, if_neg (fun e => h1 e.2)]
          have e3 : actP M = M := by
            unfold actP; rw [h.act]
            rcases h.schema with hs | hs
            · exact absurd hs h1
            · simp [hs]
          rw [e2, e3]; exact ⟨h, rfl, fun _ => rfl, fun e => by cases e⟩
      · have e1 : stepP M c = (M, Ans.zero, false) := by unfold stepP; rw [if_neg (by simp [hc]), if_neg (by simp [ho]), if_neg h6]
        have e2 : applyS s c = (s, Ans.zero) := by unfold applyS; rw [if_pos ho, if_neg (fun e => h6 e.1)]
        rw [e1, e2]; exact ⟨h, rfl, fun _ => rfl, fun e => by cases e⟩
    | true =>
      obtain ⟨hc1, hc8, hq1, hq2⟩ := chk_client hc ho
      have hdn := h.done c.client hc1 hc8
      have hps := h.pos c.client
      have hho := has_own h ho
      have e1 : stepP M c = clientP M c := by unfold stepP; rw [if_neg (by simp [hc]), if_pos ho]
      rw [e1]
      unfold applyS clientP
      rw [if_neg (by simp [ho])]
      simp only [hdn]
      by_cases ha : c.seq = (lastOf c.client s.sess).1
      · have hcb : countB s c = false := by unfold countB; simp; intros; omega
        rw [if_pos ⟨by omega, ha⟩, if_pos ha, hcb]
        exact ⟨h, rfl, fun _ => rfl, fun e => by cases e⟩
      · rw [if_neg (fun e => ha e.2), if_neg ha]
        by_cases hb : c.seq < (lastOf c.client s.sess).1
        · have hcb : countB s c = false := by unfold countB; simp; intros; omega
          rw [if_pos hb, if_pos hb, hcb]
          exact ⟨h, rfl, fun _ => rfl, fun e => by cases e⟩
        · rw [if_neg hb, if_neg hb]
          cases hh : hasB s.schema c.kind with
          | false =>
            have hcb : countB s c = false := by unfold countB; simp [hh]
            rw [if_pos rfl, if_pos (hho.1 hh), hcb]
            exact ⟨h, rfl, fun _ => rfl, fun e => by cases e⟩
          | true =>
            have hcb : countB s c = true := by unfold countB; simp [hh, hc, ho]; omega
            rw [if_neg (by simp), if_neg (fun e => by rw [hho.2 e] at hh; cases hh), hcb]
            have h5 : c.kind = 5 → s.schema = 2 := fun e => by
              rcases h.schema with hs | hs
              · exfalso
                have : M.act = false := by rw [h.act, hs]; rfl
                have := hho.2 ⟨e, this⟩
                rw [hh] at this; cases this
              · exact hs
            obtain ⟨f1, f2, f3, f4, f5, f6, f7⟩ := fresh_sim h hp c ho h5
            obtain ⟨a1, a2⟩ := doP_ans s.schema s.pairs c
            rw [f1]
            have hdw := done_with h (doP s.schema s.pairs c).2 (by rw [a1]; exact hc1) (by rw [a1]; exact hc8)
            rw [a1, a2] at hdw
            refine ⟨⟨h.schema, f2.trans h.act, f4, f5, f6, f7, hdw, fun k => ?_⟩, rfl, fun e => (by cases e), fun _ => ⟨?_, hc1, hc8⟩⟩
            · by_cases hk : k = c.client
              · subst hk
                have := lastOf_with_same (doP s.schema s.pairs c).2 s.sess
                rw [a1, a2] at this; simp only; rw [this]; show (0 : Int) ≤ c.seq; omega
              · show 0 ≤ (lastOf k (withS s.sess (doP s.schema s.pairs c).2)).1
                rw [lastOf_with (doP s.schema s.pairs c).2 k (by rw [a1]; exact hk)]; exact h.pos k
            · simp [setDone]
  · rw [if_neg hc]
    have e1 : stepP M c = (M, Ans.zero, false) := by unfold stepP; rw [if_pos hc]
    have hcb : countB s c = false := by unfold countB; simp [hc]
    rw [e1, hcb]; exact ⟨h, rfl, fun _ => rfl, fun e => by cases e⟩
end Go.Proofs.YtgcjmjhdnkffcaaGreatDoor
/- The plain law (layer 43): what the program counts, and where, is what the reference says. Plain Lean, no program. -/
set_option linter.unusedVariables false
set_option linter.unusedSimpArgs false
namespace Go.Proofs.YtgcjmjhdnkffcaaGreatDoor
open Go.RowKit
theorem lastOf_sessAt (d : Nat → Int × Ans) (k i : Nat) : lastOf (k : Int) (sessAt d i) = if i = k ∧ 0 < (d i).1 then d i else (0, Ans.zero) := by
  unfold sessAt
  by_cases h : 0 < (d i).1
  · rw [if_pos h]
    unfold lastOf
    by_cases e : i = k
    · subst e; rw [if_pos rfl, if_pos ⟨rfl, h⟩]
    · rw [if_neg (by simp; omega), if_neg (fun x => e x.1)]; rfl
  · rw [if_neg h, if_neg (fun x => h x.2)]; rfl
theorem lastOf_sess (d : Nat → Int × Ans) (k : Nat) : ∀ n, lastOf (k : Int) (sessP d n) = if k < n ∧ 0 < (d k).1 then d k else (0, Ans.zero) := by
  intro n
  induction n with
  | zero => simp [sessP, lastOf]
  | succ n ih =>
    rw [sessP_succ, lastOf_append, ih, lastOf_sessAt]
    have hex : (∃ x ∈ sessP d n, x.client = (k : Int)) ↔ (k < n ∧ 0 < (d k).1) := by
      constructor
      · rintro ⟨x, hx, hc⟩
        unfold sessP at hx
        obtain ⟨i, hi, hxi⟩ := List.mem_flatMap.1 hx
        unfold sessAt at hxi
        split at hxi
        · rename_i hp
          have hx' := List.mem_singleton.1 hxi
          rw [hx'] at hc
          simp at hc
          obtain rfl : i = k := by omega
          exact ⟨List.mem_range.1 hi, hp⟩
        · simp at hxi
      · rintro ⟨h1, h2⟩
        refine ⟨⟨(k : Int), (d k).1, (d k).2⟩, ?_, rfl⟩
        unfold sessP
        exact List.mem_flatMap.2 ⟨k, List.mem_range.2 h1, by unfold sessAt; rw [if_pos h2]; exact List.mem_singleton.2 rfl⟩
    by_cases h : k < n ∧ 0 < (d k).1
    · rw [if_pos (hex.2 h), if_pos h, if_pos ⟨by omega, h.2⟩]
    · rw [if_neg (fun e => h (hex.1 e))]
      by_cases e : n = k ∧ 0 < (d n).1
      · obtain ⟨rfl, e2⟩ := e; rw [if_pos ⟨rfl, e2⟩, if_pos ⟨by omega, e2⟩]
      · rw [if_neg e, if_neg (fun x => by
          by_cases hk : k < n
          · exact h ⟨hk, x.2⟩
          · have : n = k := by omega
            subst this; exact e ⟨rfl, x.2⟩)]
theorem sess_ne {d d' : Nat → Int × Ans} {k : Nat} (hk : k < 9) (h0 : 0 ≤ (d k).1) (h : (d k).1 < (d' k).1) : sessP d 9 ≠ sessP d' 9 := by
  intro e
  have h1 := lastOf_sess d k 9
  have h2 := lastOf_sess d' k 9
  rw [e, h2, if_pos ⟨hk, by omega⟩] at h1
  split at h1
  · rw [h1] at h; omega
  · rw [h1] at h; simp at h; omega
/-- The run of both machines on a log. -/
theorem run_snoc (l : List Cmd) (c : Cmd) : runS (l ++ [c]) = runStep (runS l) c := by unfold runS; rw [List.foldl_append]; rfl
theorem cnt_snoc (l : List Cmd) (c : Cmd) : cntP (l ++ [c]) = cntStep (cntP l) c := by unfold cntP; rw [List.foldl_append]; rfl
theorem run_take {log : List Cmd} {k : Nat} {c : Cmd} (hk : log[k]? = some c) : runS (log.take (k + 1)) = runStep (runS (log.take k)) c := by
  rw [List.take_add_one, hk]; exact run_snoc _ _
theorem run_len (l : List Cmd) : (runS l).2.length = l.length := by
  have := runStep_ans l run0
  simpa [runS, run0] using this
theorem sim_run (log : List Cmd) : ∀ k, k ≤ log.length → Sim (runS (log.take k)).1 (cntP (log.take k)).M ∧ (cntP (log.take k)).ans = (runS (log.take k)).2 := by
  intro k
  induction k with
  | zero => intro _; rw [List.take_zero]; exact ⟨sim0, rfl⟩
  | succ k ih =>
    intro hk
    obtain ⟨h1, h2⟩ := ih (by omega)
    have hc : log[k]? = some log[k] := List.getElem?_eq_getElem (by omega)
    rw [run_take hc, cntP_take hc]
    have := sim_step h1 (runS_good (log.take k)).pairs log[k] (runS (log.take k)).2
    refine ⟨this.1, ?_⟩
    rw [this.2.1]
    unfold cntStep
    rw [h2]
theorem ans_run (log : List Cmd) : (cntP log).ans = (runS log).2 := by
  have := (sim_run log log.length (Nat.le_refl _)).2
  rwa [List.take_length] at this
theorem counts_eq {log : List Cmd} {k : Nat} {c : Cmd} (hk : log[k]? = some c) (client seq : Int) : countsAt log client seq k = (decide (c.client = client) && decide (c.seq = seq) && countB (runS (log.take k)).1 c) := by
  unfold countsAt countB
  rw [hk]
  simp only
  by_cases h1 : c.client = client
  · subst h1
    by_cases h2 : c.seq = seq
    · subst h2; simp [Bool.and_assoc]
    · simp [h2]
  · simp [h1]
theorem counts_lt {log : List Cmd} {client seq : Int} {k : Nat} (h : countsAt log client seq k = true) : k < log.length := by
  unfold countsAt at h
  cases e : log[k]? with
  | none => rw [e] at h; simp at h
  | some c => exact (List.getElem?_eq_some_iff.1 e).1
theorem counts_cmd {log : List Cmd} {client seq : Int} {k : Nat} (h : countsAt log client seq k = true) : ∃ c, log[k]? = some c ∧ c.client = client ∧ c.seq = seq ∧ countB (runS (log.take k)).1 c = true := by
  have hk : log[k]? = some (log[k]'(counts_lt h)) := List.getElem?_eq_getElem _
  refine ⟨_, hk, ?_⟩
  rw [counts_eq hk] at h
  simp only [Bool.and_eq_true, decide_eq_true_eq] at h
  exact ⟨h.1.1, h.1.2, h.2⟩
/-- What is behind a command that counts, or not. -/
theorem last_step (s : St) (qs : List Ans) (c : Cmd) (k : Int) : (lastOf k (runStep (s, qs) c).1.sess).1 = if countB s c = true ∧ k = c.client then c.seq else (lastOf k s.sess).1 := by
  unfold runStep
  by_cases hc : chk c = 0
  · rw [if_pos hc]
    unfold applyS
    cases ho : ownB c.kind with
    | false =>
      have hcb : countB s c = false := by unfold countB; simp [ho]
      rw [if_pos rfl, if_neg (c := countB s c = true ∧ k = c.client) (by rw [hcb]; simp)]
      split <;> rfl
    | true =>
      rw [if_neg (by simp)]
      simp only
      by_cases h1 : 0 < (lastOf c.client s.sess).1 ∧ c.seq = (lastOf c.client s.sess).1
      · have hcb : countB s c = false := by unfold countB; simp; intros; omega
        rw [if_pos h1, if_neg (by rw [hcb]; simp)]
      · rw [if_neg h1]
        by_cases h2 : c.seq < (lastOf c.client s.sess).1
        · have hcb : countB s c = false := by unfold countB; simp; intros; omega
          rw [if_pos h2, if_neg (by rw [hcb]; simp)]
        · rw [if_neg h2]
          obtain ⟨_, _, hq1, _⟩ := chk_client hc ho
          cases hh : hasB s.schema c.kind with
          | false =>
            have hcb : countB s c = false := by unfold countB; simp [hh]
            rw [if_pos rfl, if_neg (by rw [hcb]; simp)]
          | true =>
            have hcb : countB s c = true := by unfold countB; simp [hh, hc, ho]; omega
            rw [if_neg (by simp), hcb]
            obtain ⟨a1, a2⟩ := doP_ans s.schema s.pairs c
            simp only
            by_cases hk : k = c.client
            · subst hk
              have := lastOf_with_same (doP s.schema s.pairs c).2 s.sess
              rw [a1, a2] at this
              rw [if_pos ⟨trivial, rfl⟩, this]
            · rw [if_neg (fun e => hk e.2), lastOf_with _ _ (by rw [a1]; exact hk)]
  · have hcb : countB s c = false := by unfold countB; simp [hc]
    rw [if_neg hc, if_neg (by rw [hcb]; simp)]
theorem count_less {s : St} {c : Cmd} (h : countB s c = true) : (lastOf c.client s.sess).1 < c.seq := by
  unfold countB at h
  simp only [Bool.and_eq_true, decide_eq_true_eq] at h
  exact h.1.2
theorem last_mono {log : List Cmd} {k : Nat} (hk : k < log.length) (c : Int) : (lastOf c (runS (log.take k)).1.sess).1 ≤ (lastOf c (runS (log.take (k + 1))).1.sess).1 := by
  have hc : log[k]? = some log[k] := List.getElem?_eq_getElem hk
  rw [run_take hc, show runS (log.take k) = ((runS (log.take k)).1, (runS (log.take k)).2) from rfl, last_step]
  split
  · rename_i h
    obtain ⟨h1, rfl⟩ := h
    have := count_less h1
    exact Int.le_of_lt this
  · exact Int.le_refl _
theorem last_mono_le {log : List Cmd} (c : Int) : ∀ (n k : Nat), k + n ≤ log.length → (lastOf c (runS (log.take k)).1.sess).1 ≤ (lastOf c (runS (log.take (k + n))).1.sess).1 := by
  intro n
  induction n with
  | zero => intro k _; exact Int.le_refl _
  | succ n ih =>
    intro k h
    have := ih k (by omega)
    have h2 := last_mono (log := log) (k := k + n) (by omega) c
    exact Int.le_trans this h2
theorem counts_once {log : List Cmd} {client seq : Int} {i j : Nat} (hi : countsAt log client seq i = true) (hj : countsAt log client seq j = true) (hij : i < j) : False := by
  obtain ⟨c, hc, rfl, rfl, hb⟩ := counts_cmd hi
  obtain ⟨c', hc', h1, h2, hb'⟩ := counts_cmd hj
  have hjl := counts_lt hj
  have hm := last_mono_le (log := log) c.client (j - (i + 1)) (i + 1) (by omega)
  rw [show i + 1 + (j - (i + 1)) = j from by omega, run_take hc, show runS (log.take i) = ((runS (log.take i)).1, (runS (log.take i)).2) from rfl, last_step, if_pos ⟨hb, rfl⟩] at hm
  have := count_less hb'
  rw [h1, h2] at this
  omega
theorem counts_uniq {log : List Cmd} {client seq : Int} {i j : Nat} (hi : countsAt log client seq i = true) (hj : countsAt log client seq j = true) : i = j := by
  rcases Nat.lt_trichotomy i j with h | h | h
  · exact (counts_once hi hj h).elim
  · exact h
  · exact (counts_once hj hi h).elim
theorem place_of {log : List Cmd} {client seq : Int} {i : Nat} (h : countsAt log client seq i = true) : placeC log client seq = i + 1 :=
  placeC_some (counts_lt h) (fun j hj => by
    cases e : countsAt log client seq j
    · rfl
    · exact (counts_once e h hj).elim) h
theorem of_place {log : List Cmd} {client seq : Int} {i : Nat} (h : placeC log client seq = i + 1) : countsAt log client seq i = true := by
  unfold placeC at h
  split at h
  · rename_i j hj
    obtain rfl : j = i := by omega
    exact List.find?_some hj
  · omega
/-- What is counted of a log's first commands. -/
structure PlI (log : List Cmd) (k : Nat) (pl : List ((Int × Int) × Int)) : Prop where
  mem : ∀ p ∈ pl, ∃ i, i < k ∧ p.2 = (i : Int) + 1 ∧ countsAt log p.1.1 p.1.2 i = true
  hit : ∀ i c q, i < k → countsAt log c q i = true → lk (c, q) pl = some ((i : Int) + 1)
theorem pl_step {log : List Cmd} {k : Nat} (hk : k < log.length) (h : PlI log k (cntP (log.take k)).pl) : PlI log (k + 1) (cntP (log.take (k + 1))).pl := by
  have hc : log[k]? = some log[k] := List.getElem?_eq_getElem hk
  obtain ⟨c, hcc⟩ : ∃ c, log[k] = c := ⟨_, rfl⟩
  rw [hcc] at hc
  obtain ⟨hS, hA⟩ := sim_run log k (by omega)
  obtain ⟨hS', _, hn, hy⟩ := sim_step hS (runS_good (log.take k)).pairs c (runS (log.take k)).2
  rw [cntP_take hc]
  have hlen : ((cntP (log.take k)).ans.length : Int) = k := by rw [cnt_len, List.length_take]; omega
  unfold cntStep plStep
  simp only
  rw [hlen]
  cases hb : countB (runS (log.take k)).1 c with
  | false =>
    rw [if_pos (by rw [hn hb])]
    refine ⟨fun p hp => ?_, fun i a q hi hq => ?_⟩
    · obtain ⟨i, h1, h2⟩ := h.mem p hp; exact ⟨i, by omega, h2⟩
    · by_cases e : i = k
      · subst e
        rw [counts_eq hc, hb] at hq; simp at hq
      · exact h.hit i a q (by omega) hq
  | true =>
    obtain ⟨y1, y2, y3⟩ := hy hb
    have hlt := count_less hb
    have hne : sessP (cntP (log.take k)).M.done 9 ≠ sessP (doM (cntP (log.take k)).M c).1.done 9 :=
      sess_ne (k := c.client.toNat) (by omega) (by rw [hS.done c.client y2 y3]; exact hS.pos _) (by rw [y1, hS.done c.client y2 y3]; exact hlt)
    rw [if_neg hne]
    have hck : countsAt log c.client c.seq k = true := by rw [counts_eq hc, hb]; simp
    refine ⟨fun p hp => ?_, fun i a q hi hq => ?_⟩
    · rcases upd_mem hp with rfl | hp
      · exact ⟨k, by omega, rfl, hck⟩
      · obtain ⟨i, h1, h2⟩ := h.mem p hp; exact ⟨i, by omega, h2⟩
    · by_cases e : (a, q) = (c.client, c.seq)
      · obtain ⟨rfl, rfl⟩ := Prod.mk.inj e
        rw [lk_upd_same, counts_uniq hq hck]
      · rw [lk_upd_other _ _ _ e]
        have hik : i ≠ k := fun e2 => by
          subst e2
          obtain ⟨c', h1, h2, h3, _⟩ := counts_cmd hq
          rw [hc] at h1; cases h1
          exact e (by rw [h2, h3])
        exact h.hit i a q (by omega) hq
theorem pl_all (log : List Cmd) : PlI log log.length (cntP log).pl := by
  have : ∀ k, k ≤ log.length → PlI log k (cntP (log.take k)).pl := by
    intro k
    induction k with
    | zero => intro _; rw [List.take_zero]; exact ⟨fun p hp => by simp [cntP, cnt0] at hp, fun i _ _ hi => by omega⟩
    | succ k ih => intro hk; exact pl_step (by omega) (ih (by omega))
  have := this log.length (Nat.le_refl _)
  rwa [List.take_length] at this
theorem plN_place (log : List Cmd) (c q : Int) : plN (cntP log) c q = placeC log c q := by
  have hI := pl_all log
  unfold plN
  cases hp : placeC log c q with
  | zero =>
    cases hl : lk (c, q) (cntP log).pl with
    | none => rfl
    | some v =>
      obtain ⟨i, _, _, h3⟩ := hI.mem _ (lk_mem hl)
      rw [place_of h3] at hp; omega
  | succ i =>
    have := of_place hp
    rw [hI.hit i c q (counts_lt this) this]; simp
end Go.Proofs.YtgcjmjhdnkffcaaGreatDoor
