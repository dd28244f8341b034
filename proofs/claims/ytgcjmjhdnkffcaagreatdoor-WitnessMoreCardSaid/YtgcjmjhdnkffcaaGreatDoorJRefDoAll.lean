/- The reference's commands on pairs (layers 23, 25), walked: get; no condition but lengths, schemas and kinds. -/
import Derived.Test.YtgcjmjhdnkffcaaGreatDoorJRefWith
import Derived.Test.YtgcjmjhdnkffcaaGreatDoorJRefDel
import Derived.Test.YtgcjmjhdnkffcaaGreatDoorJRefCas
import Derived.Test.YtgcjmjhdnkffcaaGreatDoorJRefPut
set_option linter.unusedVariables false
namespace Go.Proofs.YtgcjmjhdnkffcaaGreatDoor
open Go.RowKit
set_option maxRecDepth 100000 in
set_option maxHeartbeats 4000000 in
theorem refdo_get (schema : Int) (A : Option Addr) (len cap : Nat) (l : List Pair) (client seq node : Int) (key val old : ByteArray) (w : World) (h : len ≤ 1000) (hl : SlOf Pair.cells 3 w A len l) (hs : schema = 1 ∨ schema = 2) (hrev : ∀ p ∈ l, 0 ≤ p.rev ∧ p.rev ≤ 4294967296) :
    Calls Tryz.prog 41 #[.int .i64 schema, .slice A len cap, .agg #[.int .i64 3, .int .i64 client, .int .i64 seq, .string key, .string val, .string old, .int .i64 node]] w fun e w' =>
      (∃ A' c', e = .returned (.tuple #[.slice A' (doP schema l ⟨3, client, seq, key, val, old, node⟩).1.length c', (doP schema l ⟨3, client, seq, key, val, old, node⟩).2.agg]) ∧ SlOf Pair.cells 3 w' A' (doP schema l ⟨3, client, seq, key, val, old, node⟩).1.length (doP schema l ⟨3, client, seq, key, val, old, node⟩).1 ∧ ∀ x, A' = some x → (A = some x ∧ (doP schema l ⟨3, client, seq, key, val, old, node⟩).1.length = len) ∨ w.heap.size ≤ x.block) ∧ Only nob w w' := by
  have hll := hl.1
  cases hp : placeP key l with
  | none =>
    have hD : Hid (doP schema l ⟨3, client, seq, key, val, old, node⟩ = (l, ⟨client, seq, 0, false, ⟨#[]⟩, 0⟩)) := mk_hid (by simp [doP, hp])
    have HP := mk_hid hp
    clear hp
    rcases hs with rfl | rfl
    all_goals
      go_enter Tryz.func41, Tryz.ntmps41
      go_wp2_with (go_at_call 53; refine (refplace_any A len cap l key _ h (hl.none (by (repeat (first | with_reducible exact Only.refl _ _ | with_reducible assumption | with_reducible refine Only.drew ?_ | with_reducible refine Only.drewN ?_ _ | with_reducible refine Only.alloc ?_ _))))).mono ?_; rw [HP.out]; rintro e w' ⟨rfl, rfl⟩; simp only [placeI])
      go_region
      go_wp2
      refine bodyPost_ret (v := .tuple #[.slice A len cap, (⟨client, seq, 0, false, ⟨#[]⟩, 0⟩ : Ans).agg]) (by simp [results, Tryz.results41, go_sem, Ans.agg]) rfl ⟨⟨A, cap, ?_, ?_, fun x hx => .inl ⟨hx, by rw [hD.out]; exact hll⟩⟩, by (repeat (first | with_reducible exact Only.refl _ _ | with_reducible assumption | with_reducible refine Only.drew ?_ | with_reducible refine Only.drewN ?_ _ | with_reducible refine Only.alloc ?_ _))⟩
      · rw [hD.out]; simp [hll]
      · rw [hD.out]; rw [hll]; exact hl.none (by (repeat (first | with_reducible exact Only.refl _ _ | with_reducible assumption | with_reducible refine Only.drew ?_ | with_reducible refine Only.drewN ?_ _ | with_reducible refine Only.alloc ?_ _)))
  | some i =>
    obtain ⟨s, hsi, hil⟩ := placeP_some hp
    obtain ⟨x, s', rfl, hp', hmem, hxb, hat⟩ := hl.get (show i < len by omega)
    obtain rfl : s = s' := by rw [hsi] at hp'; injection hp'
    obtain ⟨f0, f1, f2⟩ := Pair.facts hat
    have hxb' : (x.add (i * 3)).block < w.heap.size := by rw [add_block]; exact hxb
    have hr := hrev s hmem
    have hD : Hid (doP schema l ⟨3, client, seq, key, val, old, node⟩ = (l, ⟨client, seq, 0, true, s.val, 0⟩)) := mk_hid (by simp [doP, hp, hsi])
    have HP := mk_hid hp
    have h1 : (i : Int) < (len : Int) := by omega
    have h2 : (0 : Int) ≤ (i : Int) := by omega
    have g0 := fun (o1 o2 o3 o4 : Obj) => Only.cell (((((Only.refl nob w).alloc o1).alloc o2).alloc o3).alloc o4) f0 (fun h => h)
    have g1 := fun (o1 o2 o3 o4 : Obj) => Only.cell (((((Only.refl nob w).alloc o1).alloc o2).alloc o3).alloc o4) f1 (fun h => h)
    have g2 := fun (o1 o2 o3 o4 : Obj) => Only.cell (((((Only.refl nob w).alloc o1).alloc o2).alloc o3).alloc o4) f2 (fun h => h)
    clear hp hat hp' hsi f0 f1 f2
    rcases hs with rfl | rfl
    all_goals
      by_cases hrr : s.rev < 4294967296
    all_goals
      go_enter Tryz.func41, Tryz.ntmps41
      go_wp2_with (go_at_call 53; refine (refplace_any (some x) len cap l key _ h (hl.none (by (repeat (first | with_reducible exact Only.refl _ _ | with_reducible assumption | with_reducible refine Only.drew ?_ | with_reducible refine Only.drewN ?_ _ | with_reducible refine Only.alloc ?_ _))))).mono ?_; rw [HP.out]; rintro e w' ⟨rfl, rfl⟩; simp only [placeI])
      go_region
      go_wp2
      refine bodyPost_ret (v := .tuple #[.slice (some x) len cap, (⟨client, seq, 0, true, s.val, 0⟩ : Ans).agg]) (by simp [results, Tryz.results41, go_sem, Ans.agg]) rfl ⟨⟨some x, cap, ?_, ?_, fun x hx => .inl ⟨hx, by rw [hD.out]; exact hll⟩⟩, by (repeat (first | with_reducible exact Only.refl _ _ | with_reducible assumption | with_reducible refine Only.drew ?_ | with_reducible refine Only.drewN ?_ _ | with_reducible refine Only.alloc ?_ _))⟩
      · rw [hD.out]; simp [hll]
      · rw [hD.out]; rw [hll]; exact hl.none (by (repeat (first | with_reducible exact Only.refl _ _ | with_reducible assumption | with_reducible refine Only.drew ?_ | with_reducible refine Only.drewN ?_ _ | with_reducible refine Only.alloc ?_ _)))
end Go.Proofs.YtgcjmjhdnkffcaaGreatDoor
/- The reference's migration (layer 25), walked; no condition but lengths. -/
set_option linter.unusedVariables false
namespace Go.Proofs.YtgcjmjhdnkffcaaGreatDoor
open Go.RowKit
theorem own_form {w : World} {base : Nat} {e : TypeId} {size n : Nat} {v : Value} {xs : List Value} (h : w.ownsRow base e size v n xs) : ∃ A c, v = .slice A n c := by
  rcases h.2 with ⟨rfl, rfl⟩ | ⟨g, cap, cur, rfl, _⟩
  · exact ⟨none, 0, rfl⟩
  · exact ⟨_, cap, rfl⟩
/-- The loop's memory: the state that came in, the result's place, the state that is made, its row. -/
structure RevM (w wr : World) (sch r : Int) (A B : Option Addr) (len cap bl bc : Nat) (schema : Int) (v : Value) (out : List Pair) : Prop where
  own : wr.ownsRow (w.heap.size + 3) 94 3 v out.length (out.flatMap Pair.cells)
  only : Only nob w wr
  b0 : wr.heap[w.heap.size]? = some (.cells #[.int .i64 sch, .slice A len cap, .slice B bl bc] 39 (0, 0))
  b1 : wr.heap[w.heap.size + 1]? = some (.cells #[.int .i64 0, .slice none 0 0, .slice none 0 0] 39 (0, 0))
  b2 : wr.heap[w.heap.size + 1 + 1]? = some (.cells #[.int .i64 schema, v, .slice B bl bc] 39 (0, 0))
def RevPost (w : World) (schema r : Int) (B : Option Addr) (bl bc : Nat) (l : List Pair) (e : Ending) (w' : World) : Prop :=
  (∃ A' c', e = .returned (.agg #[.int .i64 schema, .slice A' (revsP l r).length c', .slice B bl bc]) ∧ SlOf Pair.cells 3 w' A' (revsP l r).length (revsP l r) ∧ ∀ x, A' = some x → w.heap.size ≤ x.block) ∧ Only nob w w'
theorem RevPost.fin {w wr W2 : World} {schema r : Int} {A' B : Option Addr} {bl bc c' : Nat} {l : List Pair} (ho : Only nob w wr) (hs : SlOf Pair.cells 3 wr A' (revsP l r).length (revsP l r)) (hf : ∀ x, A' = some x → w.heap.size + 3 ≤ x.block)
    (h2 : Only (fun i => i = w.heap.size + 1 ∨ i = w.heap.size + 1 + 1) wr W2) : RevPost w schema r B bl bc l (.returned (.agg #[.int .i64 schema, .slice A' (revsP l r).length c', .slice B bl bc])) W2 :=
  ⟨⟨A', c', rfl, hs.only h2 (fun x hx hh => by have := hf x hx; omega), fun x hx => by have := hf x hx; omega⟩, ho.then h2 (fun i hi hh => by omega)⟩
set_option maxRecDepth 100000 in
set_option maxHeartbeats 4000000 in
theorem refrevs_any (sch schema r : Int) (A B : Option Addr) (len cap bl bc : Nat) (l : List Pair) (w : World) (h : len ≤ 1000) (hl : SlOf Pair.cells 3 w A len l) :
    Calls Tryz.prog 40 #[.agg #[.int .i64 sch, .slice A len cap, .slice B bl bc], .int .i64 schema, .int .i64 r] w fun e w' =>
      RevPost w schema r B bl bc l e w' := by
  go_enter Tryz.func40, Tryz.ntmps40
  go_wp2
  go_loopw [8] (fun i wr => ∃ (k : Nat) (v : Value), k ≤ len ∧ i = .int .i64 k ∧ RevM w wr sch r A B len cap bl bc schema v (revsP (l.take k) r)) (fun i _ => len - (intOf i).toNat)
  case atStart =>
    exact ⟨0, .slice none 0 0, by omega, rfl, own_nil _ _ _ _, by (repeat (first | with_reducible exact Only.refl _ _ | with_reducible assumption | with_reducible refine Only.drew ?_ | with_reducible refine Only.drewN ?_ _ | with_reducible refine Only.alloc ?_ _)), heap_old _ (heap_old _ (heap_new _ rfl)), heap_old _ (heap_new _ (by simp)), heap_new _ (by simp)⟩
  case round =>
    obtain ⟨k, v, hk, rfl, hI⟩ := hrel
    have hlk := hl.1
    have hol : (revsP (l.take k) r).length ≤ k := by simp [revsP]; omega
    have hsz := heap_lt hI.b2
    obtain ⟨c0, e0⟩ := cells_all hI.b0
    obtain ⟨c1, e1⟩ := cells_all hI.b1
    obtain ⟨c2, e2⟩ := cells_all hI.b2
    by_cases hlt : k < len
    · obtain ⟨x, s, rfl, hp, hmem, hxb, hat⟩ := (hl.none hI.only).get hlt
      have hst : Hid (revsP (l.take (k + 1)) r = revsP (l.take k) r ++ [{ s with rev := r }]) := mk_hid (by unfold revsP; rw [List.take_add_one, hp]; simp)
      obtain ⟨f0, f1, f2⟩ := Pair.facts hat
      have h1 : (k : Int) < (len : Int) := by omega
      have h2 : ¬ (k : Int) < 0 := by omega
      have hown := hI.own
      obtain ⟨G, cG, rfl⟩ := own_form hown
      have d1 : wr.cell? ⟨w.heap.size + 1 + 1, 1, none⟩ = some (.slice G (revsP (l.take k) r).length cG) := by rw [c2]; rfl
      have D1 := fun (o1 : Obj) => Only.cell ((Only.refl nob wr).alloc o1) d1 (fun h => h)
      generalize revsP (l.take k) r = out at *
      clear hat hp hl c1 e1
      go_wp2_with (at_builtin; refine append_el (ys := ({ s with rev := r } : Pair).cells) (wr.heap.size + 1) Tryz.underlying36 infoPair rfl (by decide) (by decide) (own_alloc hown _) (by simp; omega) (by omega) rfl ({ s with rev := r } : Pair).cells_one (by simp) rfl rfl ?_; intro v1 w1 ho1 hg1; obtain ⟨G1, cG1, rfl⟩ := own_form ho1; have hk2 := keep_heap (heap_old _ hI.b2) hg1 (fun e => by have := own_ge hown _ e.symm; omega); obtain ⟨k2, K2⟩ := cells_all hk2)
      have hon1 : Only nob w w1 := only_grown (hI.only.alloc _) hg1 (fun j hj => .inl (by have := own_ge hown j hj; omega))
      have hk0 := keep_heap (heap_old _ hI.b0) hg1 (fun e => by have := own_ge hown _ e.symm; omega)
      have hk1 := keep_heap (heap_old _ hI.b1) hg1 (fun e => by have := own_ge hown _ e.symm; omega)
      have hI1 : RevM w (w1.setCell ⟨w.heap.size + 1 + 1, 1, none⟩ (.slice G1 (out.length + 1) cG1)) sch r (some x) B len cap bl bc schema (.slice G1 (out.length + 1) cG1) (out ++ [({ s with rev := r } : Pair)]) := by
        refine ⟨?_, hon1.set (.inr (by show w.heap.size ≤ w.heap.size + 1 + 1; omega)) _, heap_set_other hk0 _ _ (by omega), heap_set_other hk1 _ _ (by omega), ?_⟩
        · rw [flat_snoc, List.length_append]
          exact own_only ho1 (Only.set (S := fun i => i = w.heap.size + 1 + 1) (p := ⟨w.heap.size + 1 + 1, 1, none⟩) (Only.refl _ w1) (.inl rfl) _) (fun j hj e => by have := own_ge ho1 j hj; omega)
        · exact cells_set hk2 1 _
      go_roundw
      case rel => exact ⟨k + 1, _, by omega, by go_num, by rw [hst.out]; exact hI1⟩
      case measure => simp [intOf]; omega
    · obtain rfl : k = len := by omega
      have hE : Hid (revsP (l.take k) r = revsP l r) := mk_hid (by rw [List.take_of_length_le (by omega)])
      have hown := hI.own
      have honly := hI.only
      rw [hE.out] at hown
      obtain ⟨A', c', rfl, hsl, hfr⟩ := own_sl Pair.cells_len hown (by omega)
      have hsz1 := heap_lt hI.b1
      clear hI hown
      go_wp2
      refine bodyPost_ret (v := .agg #[.int .i64 schema, .slice A' (revsP l r).length c', .slice B bl bc]) (by simp [results, Tryz.results40, go_sem, *]) rfl ?_
      exact RevPost.fin honly hsl hfr (by (repeat (first | with_reducible exact Only.refl _ _ | with_reducible refine Only.drew ?_ | with_reducible refine Only.drewN ?_ _ | (with_reducible refine Only.set ?_ (.inl ?_) _; rotate_left; first | exact .inr rfl | exact .inl rfl))))
end Go.Proofs.YtgcjmjhdnkffcaaGreatDoor
/- The reference's commands on pairs, all kinds that the schema has; what a state is as a value. -/
set_option linter.unusedVariables false
namespace Go.Proofs.YtgcjmjhdnkffcaaGreatDoor
open Go.RowKit
theorem refdo_any (schema : Int) (A : Option Addr) (len cap : Nat) (l : List Pair) (c : Cmd) (w : World) (h : len ≤ 1000) (hl : SlOf Pair.cells 3 w A len l) (hs : schema = 1 ∨ schema = 2) (hrev : ∀ p ∈ l, 0 ≤ p.rev ∧ p.rev ≤ 4294967296) (ho : ownB c.kind = true) (hh : hasB schema c.kind = true) :
    Calls Tryz.prog 41 #[.int .i64 schema, .slice A len cap, c.agg] w (DoPost w A len (doP schema l c)) := by
  obtain ⟨kind, client, seq, key, val, old, node⟩ := c
  have hll := hl.1
  have hk : 2 ≤ kind ∧ kind ≤ 5 := by simpa [ownB] using ho
  have hk' : kind = 2 ∨ kind = 3 ∨ kind = 4 ∨ kind = 5 := by omega
  rcases hk' with rfl | rfl | rfl | rfl
  · cases hp : placeP key l with
    | none =>
      by_cases h64 : 64 ≤ len
      · rcases hs with rfl | rfl
        · exact refput_full_1 A len cap l client seq node key val old w h hl hrev hp h64
        · exact refput_full_2 A len cap l client seq node key val old w h hl hrev hp h64
      · rcases hs with rfl | rfl
        · exact refput_new_1 A len cap l client seq node key val old w h hl hrev hp (by omega)
        · exact refput_new_2 A len cap l client seq node key val old w h hl hrev hp (by omega)
    | some i =>
      obtain ⟨s, hsi, hil⟩ := placeP_some hp
      rcases hs with rfl | rfl
      · exact refput_old_1 A len cap l client seq node key val old w h hl hrev i s hp hsi
      · by_cases hrr : s.rev < 4294967296
        · exact refput_low_2 A len cap l client seq node key val old w h hl hrev i s hp hsi hrr
        · exact refput_high_2 A len cap l client seq node key val old w h hl hrev i s hp hsi hrr
  · exact refdo_get schema A len cap l client seq node key val old w h hl hs hrev
  · exact refdo_del schema A len cap l client seq node key val old w h hl hs hrev
  · have h2 : schema = 2 := by rcases hs with rfl | rfl; (simp [hasB] at hh); rfl
    subst h2
    cases hp : placeP key l with
    | none => exact refcas_none A len cap l client seq node key val old w h hl hrev hp
    | some i =>
      obtain ⟨s, hsi, hil⟩ := placeP_some hp
      by_cases hrr : s.rev < 4294967296
      · cases hne : beq s.val old with
        | false => exact refcas_stale_low A len cap l client seq node key val old w h hl hrev i s hp hsi hrr hne
        | true => exact refcas_done_low A len cap l client seq node key val old w h hl hrev i s hp hsi hrr hne
      · cases hne : beq s.val old with
        | false => exact refcas_stale_high A len cap l client seq node key val old w h hl hrev i s hp hsi hrr hne
        | true => exact refcas_done_high A len cap l client seq node key val old w h hl hrev i s hp hsi hrr hne
/-- A state as a value. -/
def StVal (w : World) (v : Value) (s : St) : Prop := ∃ A c B d, v = .agg #[.int .i64 s.schema, .slice A s.pairs.length c, .slice B s.sess.length d] ∧ SlOf Pair.cells 3 w A s.pairs.length s.pairs ∧ SlOf Sess.cells 8 w B s.sess.length s.sess
theorem StVal.none {w w' : World} {v : Value} {s : St} (h : StVal w v s) (ho : Only nob w w') : StVal w' v s := by
  obtain ⟨A, c, B, d, e, h1, h2⟩ := h; exact ⟨A, c, B, d, e, h1.none ho, h2.none ho⟩
/-- What a slice that comes out of a call is: the one that went in, or a new one. -/
def Outs (w : World) (A A' : Option Addr) (n n' : Nat) : Prop := ∀ x, A' = some x → (A = some x ∧ n' = n) ∨ w.heap.size ≤ x.block
theorem Outs.same (w : World) (A : Option Addr) (n : Nat) : Outs w A A n n := fun x hx => .inl ⟨hx, rfl⟩
def ApPost (w : World) (A B : Option Addr) (n m : Nat) (r : St × Ans) (e : Ending) (w' : World) : Prop :=
  (∃ A' c B' d, e = .returned (.tuple #[.agg #[.int .i64 r.1.schema, .slice A' r.1.pairs.length c, .slice B' r.1.sess.length d], r.2.agg]) ∧ SlOf Pair.cells 3 w' A' r.1.pairs.length r.1.pairs ∧ SlOf Sess.cells 8 w' B' r.1.sess.length r.1.sess ∧
    Outs w A A' n r.1.pairs.length ∧ Outs w B B' m r.1.sess.length) ∧ Only nob w w'
/-- What every state of the machine is. -/
structure St.ok (s : St) : Prop where
  schema : s.schema = 1 ∨ s.schema = 2
  pairs : s.pairs.length ≤ 64
  sess : s.sess.length ≤ 900
  rev : ∀ p ∈ s.pairs, 0 ≤ p.rev ∧ p.rev ≤ 4294967296
end Go.Proofs.YtgcjmjhdnkffcaaGreatDoor
/- The reference's run in plain Lean: what each state of it is (schema, lengths, revisions). -/
set_option linter.unusedVariables false
namespace Go.Proofs.YtgcjmjhdnkffcaaGreatDoor
open Go.RowKit
def runStep (st : St × List Ans) (c : Cmd) : St × List Ans :=
  if chk c = 0 then ((applyS st.1 c).1, st.2 ++ [(applyS st.1 c).2]) else (st.1, st.2 ++ [Ans.zero])
def run0 : St × List Ans := (⟨1, [], []⟩, [])
def runS (l : List Cmd) : St × List Ans := l.foldl runStep run0
theorem runStep_ans (l : List Cmd) : ∀ st, (l.foldl runStep st).2.length = st.2.length + l.length := by
  induction l with
  | nil => simp
  | cons c l ih => intro st; rw [List.foldl_cons, ih]; unfold runStep; split <;> simp <;> omega
/-- A list of pairs that may be. -/
structure POk (l : List Pair) : Prop where
  len : l.length ≤ 64
  rev : ∀ p ∈ l, 0 ≤ p.rev ∧ p.rev ≤ 4294967296
theorem bytesLess_irrefl : ∀ l : List UInt8, Op.bytesLess l l = false := by
  intro l
  induction l with
  | nil => rfl
  | cons a l ih => unfold Op.bytesLess; simp [ih]
theorem blt_ne {a b : ByteArray} (h : blt a b = true) : beq a b = false := by
  unfold blt at h; unfold beq
  cases hb : (a.toList == b.toList) with
  | false => rfl
  | true =>
    exfalso
    have := eq_of_beq hb
    rw [this] at h
    exact Bool.noConfusion (h.symm.trans (bytesLess_irrefl _))
theorem withP_true (p : Pair) : ∀ (l out : List Pair), l.foldl (withPStep p) (out, true) = (out ++ l.filter (fun x => !beq x.key p.key), true) := by
  intro l
  induction l with
  | nil => simp
  | cons x l ih =>
    intro out
    rw [List.foldl_cons]
    cases h : beq x.key p.key with
    | true => rw [show withPStep p (out, true) x = (out, true) by unfold withPStep; simp [h], ih]; simp [h]
    | false => rw [show withPStep p (out, true) x = (out ++ [x], true) by unfold withPStep; simp [h], ih]; simp [h]
theorem withP_false (p : Pair) : ∀ (l out : List Pair), (∀ x ∈ l, blt x.key p.key = true) → l.foldl (withPStep p) (out, false) = (out ++ l, false) := by
  intro l
  induction l with
  | nil => simp
  | cons x l ih =>
    intro out h
    have hx := h x (by simp)
    rw [List.foldl_cons]
    have : withPStep p (out, false) x = (out ++ [x], false) := by unfold withPStep; simp [hx, blt_ne hx]
    rw [this, ih _ (fun y hy => h y (by simp [hy]))]; simp
/-- What a list is with a pair, in one line. -/
theorem withP_eq (p : Pair) (l : List Pair) : withP l p = l.takeWhile (fun x => blt x.key p.key) ++ p :: (l.dropWhile (fun x => blt x.key p.key)).filter (fun x => !beq x.key p.key) := by
  have hsplit : l.foldl (withPStep p) ([], false) = (l.dropWhile (fun x => blt x.key p.key)).foldl (withPStep p) (l.takeWhile (fun x => blt x.key p.key), false) := by
    conv => lhs; rw [← List.takeWhile_append_dropWhile (p := fun x : Pair => blt x.key p.key) (l := l)]
    rw [List.foldl_append, withP_false p _ [] (fun x hx => List.all_eq_true.1 List.all_takeWhile x hx)]; simp
  unfold withP
  rw [hsplit]
  cases hd : l.dropWhile (fun x => blt x.key p.key) with
  | nil => simp
  | cons x r =>
    have hx : blt x.key p.key = false := by
      have := List.head?_dropWhile_not (fun x : Pair => blt x.key p.key) l
      rw [hd] at this; simpa using this
    rw [List.foldl_cons]
    cases hb : beq x.key p.key with
    | true =>
      have : withPStep p (l.takeWhile (fun x => blt x.key p.key), false) x = (l.takeWhile (fun x => blt x.key p.key) ++ [p], true) := by unfold withPStep; simp [hx, hb]
      rw [this, withP_true]; simp [hb]
    | false =>
      have : withPStep p (l.takeWhile (fun x => blt x.key p.key), false) x = (l.takeWhile (fun x => blt x.key p.key) ++ [p] ++ [x], true) := by unfold withPStep; simp [hx, hb]
      rw [this, withP_true]; simp [hb]
theorem withP_mem {p q : Pair} {l : List Pair} (h : q ∈ withP l p) : q = p ∨ q ∈ l := by
  rw [withP_eq] at h
  simp only [List.mem_append, List.mem_cons, List.mem_filter] at h
  rcases h with h | rfl | ⟨h, _⟩
  · exact .inr (List.takeWhile_subset _ h)
  · exact .inl rfl
  · exact .inr (List.dropWhile_subset _ h)
theorem withP_length (p : Pair) (l : List Pair) : (withP l p).length ≤ l.length + 1 := by
  rw [withP_eq]
  have h1 := List.length_filter_le (fun x : Pair => !beq x.key p.key) (l.dropWhile (fun x => blt x.key p.key))
  have h2 : l.length = (l.takeWhile (fun x => blt x.key p.key)).length + (l.dropWhile (fun x => blt x.key p.key)).length := by rw [← List.length_append, List.takeWhile_append_dropWhile]
  simp only [List.length_append, List.length_cons]; omega
theorem withP_len_old (p : Pair) (l : List Pair) (h : ∃ x ∈ l, beq x.key p.key = true) : (withP l p).length ≤ l.length := by
  obtain ⟨x, hx, hb⟩ := h
  rw [withP_eq]
  have h2 : l.length = (l.takeWhile (fun x => blt x.key p.key)).length + (l.dropWhile (fun x => blt x.key p.key)).length := by rw [← List.length_append, List.takeWhile_append_dropWhile]
  have hd : x ∈ l.dropWhile (fun x => blt x.key p.key) := by
    rw [← List.takeWhile_append_dropWhile (p := fun x : Pair => blt x.key p.key) (l := l), List.mem_append] at hx
    rcases hx with hx | hx
    · have := blt_ne (List.all_eq_true.1 (List.all_takeWhile (p := fun x : Pair => blt x.key p.key) (l := l)) x hx : blt x.key p.key = true); rw [hb] at this; cases this
    · exact hx
  have h1 : ((l.dropWhile (fun x => blt x.key p.key)).filter (fun x => !beq x.key p.key)).length < (l.dropWhile (fun x => blt x.key p.key)).length := by
    refine List.length_filter_lt_length_iff_exists.2 ⟨x, hd, by simp [hb]⟩
  simp only [List.length_append, List.length_cons]; omega
theorem placeP_hit {k : ByteArray} : ∀ {l : List Pair} {i : Nat} {s : Pair}, placeP k l = some i → l[i]? = some s → beq s.key k = true := by
  intro l
  induction l with
  | nil => intro i s h; simp [placeP] at h
  | cons p l ih =>
    intro i s h hs
    unfold placeP at h
    split at h
    · simp at h; subst h; simp at hs; subst hs; assumption
    · obtain ⟨j, hj, rfl⟩ := Option.map_eq_some_iff.1 h
      exact ih hj (by simpa using hs)
theorem nextRev_ok (schema : Int) (o : Option Pair) (h : ∀ p, o = some p → 0 ≤ p.rev ∧ p.rev ≤ 4294967296) : 0 ≤ nextRev schema o ∧ nextRev schema o ≤ 4294967296 := by
  unfold nextRev
  split
  · cases o with
    | none => simp
    | some p => have := h p rfl; simp only; split <;> omega
  · simp
theorem old_mem {k : ByteArray} {l : List Pair} {p : Pair} (h : (placeP k l).bind (l[·]?) = some p) : p ∈ l ∧ beq p.key k = true := by
  obtain ⟨i, h1, h2⟩ := Option.bind_eq_some_iff.1 h
  exact ⟨List.mem_of_getElem? h2, placeP_hit h1 h2⟩
theorem doP_ok (schema : Int) (l : List Pair) (c : Cmd) (h : POk l) : POk (doP schema l c).1 := by
  have hnr := nextRev_ok schema ((placeP c.key l).bind (l[·]?)) (fun p hp => h.rev p (old_mem hp).1)
  have hw : ∀ v, POk (withP l ⟨c.key, v, nextRev schema ((placeP c.key l).bind (l[·]?))⟩) ∨ ((placeP c.key l).bind (l[·]?) = none ∧ 64 ≤ l.length) := by
    intro v
    cases ho : (placeP c.key l).bind (l[·]?) with
    | none =>
      rw [ho] at hnr
      by_cases h64 : 64 ≤ l.length
      · exact .inr ⟨rfl, h64⟩
      · refine .inl ⟨?_, fun q hq => ?_⟩
        · have := withP_length ⟨c.key, v, nextRev schema none⟩ l; omega
        · rcases withP_mem hq with rfl | hq; exact hnr; exact h.rev q hq
    | some p =>
      rw [ho] at hnr
      refine .inl ⟨?_, fun q hq => ?_⟩
      · exact Nat.le_trans (withP_len_old _ l ⟨p, (old_mem ho).1, (old_mem ho).2⟩) h.len
      · rcases withP_mem hq with rfl | hq; exact hnr; exact h.rev q hq
  unfold doP
  simp only
  split
  · exact h
  · rename_i h1
    split
    · rename_i h2
      rcases hw c.val with h3 | ⟨h3, h4⟩
      · exact h3
      · exact absurd ⟨h2, h3, h4⟩ h1
    · split
      · refine ⟨Nat.le_trans (List.length_filter_le _ _) h.len, fun q hq => h.rev q ((List.mem_filter.1 hq).1)⟩
      · split
        · cases ho : (placeP c.key l).bind (l[·]?) with
          | none => exact h
          | some p =>
            simp only
            split
            · rcases hw c.val with h3 | ⟨h3, h4⟩
              · rw [ho] at h3; exact h3
              · rw [ho] at h3; cases h3
            · exact h
        · split <;> exact h
theorem withS_step (a : Ans) (x : Sess) (st : List Sess × Bool) : ((withSStep a st x).1.length + (if (withSStep a st x).2 then 0 else 1)) ≤ st.1.length + (if st.2 then 0 else 1) + 1 := by
  unfold withSStep
  obtain ⟨o, b⟩ := st
  simp only
  split <;> split <;> cases b <;> simp_all <;> omega
theorem withS_fold (a : Ans) : ∀ (l : List Sess) (st : List Sess × Bool), ((l.foldl (withSStep a) st).1.length + (if (l.foldl (withSStep a) st).2 then 0 else 1)) ≤ st.1.length + (if st.2 then 0 else 1) + l.length := by
  intro l
  induction l with
  | nil => simp
  | cons x l ih => intro st; rw [List.foldl_cons]; have h1 := ih (withSStep a st x); have h2 := withS_step a x st; simp only [List.length_cons]; omega
theorem withS_length (l : List Sess) (a : Ans) : (withS l a).length ≤ l.length + 1 := by
  have h := withS_fold a l ([], false)
  unfold withS
  simp only at h ⊢
  split
  · rename_i hb; simp [hb] at h; omega
  · rename_i hb; simp [hb] at h; simp; omega
/-- What every state behind n commands is. -/
structure St.good (n : Nat) (s : St) : Prop where
  schema : s.schema = 1 ∨ s.schema = 2
  pairs : POk s.pairs
  sess : s.sess.length ≤ n
theorem St.good.ok {n : Nat} {s : St} (h : s.good n) (hn : n ≤ 900) : s.ok := ⟨h.schema, h.pairs.len, Nat.le_trans h.sess hn, h.pairs.rev⟩
theorem revsP_ok {l : List Pair} (h : POk l) : POk (revsP l 1) := ⟨by simpa [revsP] using h.len, fun p hp => by
  obtain ⟨q, _, rfl⟩ := List.mem_map.1 hp
  simp⟩
theorem applyS_good {n : Nat} {s : St} (c : Cmd) (h : s.good n) : (applyS s c).1.good (n + 1) := by
  have h0 : s.good (n + 1) := ⟨h.schema, h.pairs, by have := h.sess; omega⟩
  unfold applyS
  simp only
  split
  · split
    · exact ⟨.inr rfl, revsP_ok h.pairs, h0.sess⟩
    · exact h0
  · split
    · exact h0
    · split
      · exact h0
      · split
        · exact h0
        · exact ⟨h.schema, doP_ok _ _ _ h.pairs, Nat.le_trans (withS_length _ _) (by have := h.sess; omega)⟩
theorem run_good (l : List Cmd) : ∀ (n : Nat) (st : St × List Ans), st.1.good n → (l.foldl runStep st).1.good (n + l.length) := by
  induction l with
  | nil => intro n st h; exact h
  | cons c l ih =>
    intro n st h
    rw [List.foldl_cons]
    have h1 : (runStep st c).1.good (n + 1) := by
      unfold runStep
      split
      · exact applyS_good c h
      · exact ⟨h.schema, h.pairs, Nat.le_trans h.sess (by omega)⟩
    have := ih (n + 1) _ h1
    simp only [List.length_cons]
    rw [show n + (l.length + 1) = n + 1 + l.length from by omega]; exact this
theorem runS_good (l : List Cmd) : (runS l).1.good l.length := by
  have := run_good l 0 run0 ⟨.inl rfl, ⟨by simp [run0], by simp [run0]⟩, by simp [run0]⟩
  simpa [runS] using this
end Go.Proofs.YtgcjmjhdnkffcaaGreatDoor
