/- slices.SortStableFunc's family (zsortanyfunc.go): symMerge. No condition. Printed by wip/genstb.py. -/
import Derived.Test.YtgcjmjhdnkffcaaGreatDoorJStbA
import Derived.Deep.DeepCutAuto
set_option linter.unusedVariables false
set_option linter.unusedSimpArgs false
namespace Go.Proofs.YtgcjmjhdnkffcaaGreatDoor
open Go.Shelf Go.RowKit Go.Lib Go.Sort
variable {P : Program} {α : Type} [Inhabited α] {enc : α → List Value} {k : Nat} {w0 : World} {blk off cap : Nat} {d0 : Array α}
set_option maxHeartbeats 8000000 in
set_option maxRecDepth 1000000 in
theorem merge_both (L : SortW P k) (cf : α → α → Int) (g : Nat) (cb : Array Value) (a m b N : Nat) (d : Array α) (w : World) (eg : ∀ args w, (callFunc g args).run P w = .ok (.enter g args) w) (hcmp : CmpLays P g cb enc k cf blk off N w0)
    (hN : d.size = N) (R : RowK enc k w0 blk off d0) (hs : d0.size = N) (S : SWK enc k w0 blk off d w) (ham : a < m) (hmb : m < b) (hb : b ≤ N) (hsz : N < 1000000) (h1 : ¬ m - a = 1) (h2 : ¬ b - m = 1)
    (ih : ∀ (a' m' b' : Nat) (d' : Array α) (w' : World), d'.size = N → SWK enc k w0 blk off d' w' → a' < m' → m' < b' → b' ≤ N → b' - a' < b - a → Calls P 63 #[.slice (some ⟨blk, off, none⟩) N cap, .int .i64 a', .int .i64 m', .int .i64 b', .func (.func g) #[] cb] w' (StPost enc k w0 blk off d')) :
    Calls P 63 #[.slice (some ⟨blk, off, none⟩) N cap, .int .i64 a, .int .i64 m, .int .i64 b, .func (.func g) #[] cb] w (StPost enc k w0 blk off d) := by
  have mixed := L.mixed; have t0 := L.t0; have a0 := L.a0; have z0 := L.z0; have v0 := L.v0; have t3 := L.t3; have a3 := L.a3; have z3 := L.z3; have v3 := L.v3; have t4 := L.t4; have a4 := L.a4; have z4 := L.z4; have v4 := L.v4; have tS := L.tS; have aS := L.aS; have zS := L.zS; have vS := L.vS; have tF := L.tF; have aF := L.aF; have zF := L.zF; have vF := L.vF; have aE := L.aE; have zE := L.zE; have tU := L.tU; have aU := L.aU; have zU := L.zU; have vU := L.vU
  have FG := L.fM
  have HC : Aside _ := hcmp
  have HI : Hid _ := ih
  have HL : Hid (SortW P k) := L
  have S0 : Aside (SWK enc k w0 blk off d w) := S
  have eR : ∀ args w, (callFunc 71 args).run P w = .ok (.enter 71 args) w := enters_of L.fR (by kernel_rfl) rfl
  have eM : ∀ args w, (callFunc 63 args).run P w = .ok (.enter 63 args) w := enters_of L.fM (by kernel_rfl) rfl
  clear S L hcmp ih
  have hds : Hid (d.size = N) := hN
  clear hN
  have c1' : ¬ (m : Int) - (a : Int) = 1 := by omega
  have c2' : ¬ (b : Int) - (m : Int) = 1 := by omega
  have c3 : IntKind.i64.wrap ((m : Int) - (a : Int)) = (m : Int) - (a : Int) := by rw [IntKind.wrap_i64]; omega
  have c4 : IntKind.i64.wrap ((b : Int) - (m : Int)) = (b : Int) - (m : Int) := by rw [IntKind.wrap_i64]; omega
  have c5 : ((m : Int) - (a : Int) == 1) = false := by simpa using c1'
  have c6 : ((b : Int) - (m : Int) == 1) = false := by simpa using c2'
  obtain ⟨mid, hm1, hm2, rmid⟩ : ∃ h : Nat, 2 * h ≤ a + b ∧ a + b ≤ 2 * h + 1 ∧ ((a : Int) + (b : Int)) / 2 = (h : Int) := ⟨(a + b) / 2, by omega, by omega, by omega⟩
  obtain ⟨n, hn1, hn2⟩ : ∃ n, n ≤ mid + m ∧ mid + m ≤ n := ⟨mid + m, by omega, by omega⟩
  have rn : (mid : Int) + (m : Int) = (n : Int) := by omega
  obtain ⟨p, hp1, hp2⟩ : ∃ p, p + 1 ≤ n ∧ n ≤ p + 1 := ⟨n - 1, by omega, by omega⟩
  have rp : (n : Int) - 1 = (p : Int) := by omega
  have rp2 : IntKind.i64.wrap ((n : Int) - 1) = (p : Int) := by rw [IntKind.wrap_i64]; omega
  go_enter FG, Tryz.ntmps63
  by_cases hgt : (mid : Int) < (m : Int)
  · obtain ⟨lo, hlo1, hlo2⟩ : ∃ lo, lo + b ≤ n ∧ n ≤ lo + b := ⟨n - b, by omega, by omega⟩
    have rlo : (n : Int) - (b : Int) = (lo : Int) := by omega
    have rlo2 : IntKind.i64.wrap ((n : Int) - (b : Int)) = (lo : Int) := by rw [IntKind.wrap_i64]; omega
    skip
    go_wp2
    go_loopg [20, 21] (mid - lo) (fun kx s8 s9 wr => ∃ (s r : Nat), s8 = .int .i64 s ∧ s9 = .int .i64 r ∧ lo ≤ s ∧ s ≤ r ∧ r ≤ mid ∧ r - s ≤ kx ∧ Aside (SWK enc k w0 blk off d wr))
    case atStart => exact ⟨lo, mid, by first | rfl | go_num, by first | rfl | go_num, by omega, by omega, by omega, by omega, S0⟩
    case round =>
      clear S0
      obtain ⟨s, r, rfl, rfl, hls, hsr, hrh, hkx, S1⟩ := hrel
      by_cases hlt : (s : Int) < (r : Int)
      · obtain ⟨c, hsc, hcr, rc⟩ : ∃ c : Nat, s ≤ c ∧ c < r ∧ ((s : Int) + (r : Int)) / 2 = (c : Int) := ⟨(s + r) / 2, by omega, by omega, by omega⟩
        obtain ⟨y, hy1, hy2⟩ : ∃ y : Nat, y + c ≤ p ∧ p ≤ y + c := ⟨p - c, by omega, by omega⟩
        have ry : (p : Int) - (c : Int) = (y : Int) := by omega
        have ry2 : IntKind.i64.wrap ((p : Int) - (c : Int)) = (y : Int) := by rw [IntKind.wrap_i64]; omega
        by_cases hl : cf d[y]! d[c]! < 0
        · have qey : ((y : Nat) : Int).toNat = y := by omega
          have qpy : (0 : Int) ≤ (y : Int) := by omega
          have qby : (y : Int) < (N : Int) := by omega
          have qvy : IntKind.i64.wrap ((y : Nat) : Int) = (y : Int) := by rw [IntKind.wrap_i64]; omega
          have qec : ((c : Nat) : Int).toNat = c := by omega
          have qpc : (0 : Int) ≤ (c : Int) := by omega
          have qbc : (c : Int) < (N : Int) := by omega
          have qvc : IntKind.i64.wrap ((c : Nat) : Int) = (c : Int) := by rw [IntKind.wrap_i64]; omega
          obtain ⟨xx, hxx⟩ : ∃ z, z = d[y]! := ⟨_, rfl⟩
          obtain ⟨yy, hyy⟩ : ∃ z, z = d[c]! := ⟨_, rfl⟩
          have la := S1.out.ld R (by have := hds.out; omega) P y (by have := hds.out; omega)
          have lb := S1.out.ld R (by have := hds.out; omega) P c (by have := hds.out; omega)
          rw [← hxx] at la hl
          rw [← hyy] at lb hl
          have hc := S1.out.cmp HC.out (by have := hds.out; omega) xx yy
          have hd : decide (cf xx yy < 0) = true := decide_eq_true hl
          clear hxx hyy
          go_wp2_with fail
          go_quiet_grown (first | (go_at_fn g; refine Calls.grown_of (hc _ _)))
          have S2 : Aside (SWK enc k w0 blk off d (grow (wr.drewN nq) osq)) := S1.out.grown nq osq
          clear la lb hc S1
          generalize grow (wr.drewN nq) osq = w2 at S2 ⊢
          clear nq osq
          go_wp2
          go_roundg (c - s)
          case measure => omega
          case rel => exact ⟨s, c, rfl, rfl, by omega, by omega, by omega, by omega, S2⟩
        · have qey : ((y : Nat) : Int).toNat = y := by omega
          have qpy : (0 : Int) ≤ (y : Int) := by omega
          have qby : (y : Int) < (N : Int) := by omega
          have qvy : IntKind.i64.wrap ((y : Nat) : Int) = (y : Int) := by rw [IntKind.wrap_i64]; omega
          have qec : ((c : Nat) : Int).toNat = c := by omega
          have qpc : (0 : Int) ≤ (c : Int) := by omega
          have qbc : (c : Int) < (N : Int) := by omega
          have qvc : IntKind.i64.wrap ((c : Nat) : Int) = (c : Int) := by rw [IntKind.wrap_i64]; omega
          obtain ⟨xx, hxx⟩ : ∃ z, z = d[y]! := ⟨_, rfl⟩
          obtain ⟨yy, hyy⟩ : ∃ z, z = d[c]! := ⟨_, rfl⟩
          have la := S1.out.ld R (by have := hds.out; omega) P y (by have := hds.out; omega)
          have lb := S1.out.ld R (by have := hds.out; omega) P c (by have := hds.out; omega)
          rw [← hxx] at la hl
          rw [← hyy] at lb hl
          have hc := S1.out.cmp HC.out (by have := hds.out; omega) xx yy
          have hd : decide (cf xx yy < 0) = false := decide_eq_false hl
          clear hxx hyy
          go_wp2_with fail
          go_quiet_grown (first | (go_at_fn g; refine Calls.grown_of (hc _ _)))
          have S2 : Aside (SWK enc k w0 blk off d (grow (wr.drewN nq) osq)) := S1.out.grown nq osq
          clear la lb hc S1
          generalize grow (wr.drewN nq) osq = w2 at S2 ⊢
          clear nq osq
          go_wp2
          go_roundg (r - (c + 1))
          case measure => omega
          case rel => exact ⟨c + 1, r, by go_num, rfl, by omega, by omega, by omega, by omega, S2⟩
      · obtain rfl : s = r := by omega
        obtain ⟨e, he1, he2⟩ : ∃ e, e + s ≤ n ∧ n ≤ e + s := ⟨n - s, by omega, by omega⟩
        have re : (n : Int) - (s : Int) = (e : Int) := by omega
        have re2 : IntKind.i64.wrap ((n : Int) - (s : Int)) = (e : Int) := by rw [IntKind.wrap_i64]; omega
        have HPc : Hid (PermIn 0 d.size d d) := permIn_refl _ _ _
        have hdc : Hid (d.size = N) := hds
        have SC := S1
        clear S1
        obtain ⟨dc, hdc, HPc, SC⟩ : ∃ dc : Array α, Hid (dc.size = N) ∧ Hid (PermIn 0 d.size d dc) ∧ Aside (SWK enc k w0 blk off dc wr) := ⟨d, hdc, HPc, SC⟩
        go_wp2_with (first
          | (go_at_call 71; refine (rotate_any HL.out g cb s m e N dc _ hdc.out R hs SC.out (by omega) (by omega) (by omega) hsz).mono ?_; rintro e2 w2 ⟨rfl, d2, hp2, S2⟩; obtain ⟨dc, hdc, HPc, SC⟩ : ∃ dc : Array α, Hid (dc.size = N) ∧ Hid (PermIn 0 d.size d dc) ∧ Aside (SWK enc k w0 blk off dc w2) := ⟨d2, (pm_size hp2).trans hdc.out, pm_tr HPc hp2, S2⟩; clear hp2 S2)
          | (go_at_call 63; refine (HI.out a s mid dc _ hdc.out SC.out (by omega) (by omega) (by omega) (by omega)).mono ?_; rintro e2 w2 ⟨rfl, d2, hp2, S2⟩; obtain ⟨dc, hdc, HPc, SC⟩ : ∃ dc : Array α, Hid (dc.size = N) ∧ Hid (PermIn 0 d.size d dc) ∧ Aside (SWK enc k w0 blk off dc w2) := ⟨d2, (pm_size hp2).trans hdc.out, pm_tr HPc hp2, S2⟩; clear hp2 S2)
          | (go_at_call 63; refine (HI.out mid e b dc _ hdc.out SC.out (by omega) (by omega) (by omega) (by omega)).mono ?_; rintro e2 w2 ⟨rfl, d2, hp2, S2⟩; obtain ⟨dc, hdc, HPc, SC⟩ : ∃ dc : Array α, Hid (dc.size = N) ∧ Hid (PermIn 0 d.size d dc) ∧ Aside (SWK enc k w0 blk off dc w2) := ⟨d2, (pm_size hp2).trans hdc.out, pm_tr HPc hp2, S2⟩; clear hp2 S2))
        all_goals (go_end0; exact ⟨rfl, dc, HPc, SC.out⟩)
  · skip
    skip
    go_wp2
    go_loopg [20, 21] (m - a) (fun kx s8 s9 wr => ∃ (s r : Nat), s8 = .int .i64 s ∧ s9 = .int .i64 r ∧ a ≤ s ∧ s ≤ r ∧ r ≤ m ∧ r - s ≤ kx ∧ Aside (SWK enc k w0 blk off d wr))
    case atStart => exact ⟨a, m, by first | rfl | go_num, by first | rfl | go_num, by omega, by omega, by omega, by omega, S0⟩
    case round =>
      clear S0
      obtain ⟨s, r, rfl, rfl, hls, hsr, hrh, hkx, S1⟩ := hrel
      by_cases hlt : (s : Int) < (r : Int)
      · obtain ⟨c, hsc, hcr, rc⟩ : ∃ c : Nat, s ≤ c ∧ c < r ∧ ((s : Int) + (r : Int)) / 2 = (c : Int) := ⟨(s + r) / 2, by omega, by omega, by omega⟩
        obtain ⟨y, hy1, hy2⟩ : ∃ y : Nat, y + c ≤ p ∧ p ≤ y + c := ⟨p - c, by omega, by omega⟩
        have ry : (p : Int) - (c : Int) = (y : Int) := by omega
        have ry2 : IntKind.i64.wrap ((p : Int) - (c : Int)) = (y : Int) := by rw [IntKind.wrap_i64]; omega
        by_cases hl : cf d[y]! d[c]! < 0
        · have qey : ((y : Nat) : Int).toNat = y := by omega
          have qpy : (0 : Int) ≤ (y : Int) := by omega
          have qby : (y : Int) < (N : Int) := by omega
          have qvy : IntKind.i64.wrap ((y : Nat) : Int) = (y : Int) := by rw [IntKind.wrap_i64]; omega
          have qec : ((c : Nat) : Int).toNat = c := by omega
          have qpc : (0 : Int) ≤ (c : Int) := by omega
          have qbc : (c : Int) < (N : Int) := by omega
          have qvc : IntKind.i64.wrap ((c : Nat) : Int) = (c : Int) := by rw [IntKind.wrap_i64]; omega
          obtain ⟨xx, hxx⟩ : ∃ z, z = d[y]! := ⟨_, rfl⟩
          obtain ⟨yy, hyy⟩ : ∃ z, z = d[c]! := ⟨_, rfl⟩
          have la := S1.out.ld R (by have := hds.out; omega) P y (by have := hds.out; omega)
          have lb := S1.out.ld R (by have := hds.out; omega) P c (by have := hds.out; omega)
          rw [← hxx] at la hl
          rw [← hyy] at lb hl
          have hc := S1.out.cmp HC.out (by have := hds.out; omega) xx yy
          have hd : decide (cf xx yy < 0) = true := decide_eq_true hl
          clear hxx hyy
          go_wp2_with fail
          go_quiet_grown (first | (go_at_fn g; refine Calls.grown_of (hc _ _)))
          have S2 : Aside (SWK enc k w0 blk off d (grow (wr.drewN nq) osq)) := S1.out.grown nq osq
          clear la lb hc S1
          generalize grow (wr.drewN nq) osq = w2 at S2 ⊢
          clear nq osq
          go_wp2
          go_roundg (c - s)
          case measure => omega
          case rel => exact ⟨s, c, rfl, rfl, by omega, by omega, by omega, by omega, S2⟩
        · have qey : ((y : Nat) : Int).toNat = y := by omega
          have qpy : (0 : Int) ≤ (y : Int) := by omega
          have qby : (y : Int) < (N : Int) := by omega
          have qvy : IntKind.i64.wrap ((y : Nat) : Int) = (y : Int) := by rw [IntKind.wrap_i64]; omega
          have qec : ((c : Nat) : Int).toNat = c := by omega
          have qpc : (0 : Int) ≤ (c : Int) := by omega
          have qbc : (c : Int) < (N : Int) := by omega
          have qvc : IntKind.i64.wrap ((c : Nat) : Int) = (c : Int) := by rw [IntKind.wrap_i64]; omega
          obtain ⟨xx, hxx⟩ : ∃ z, z = d[y]! := ⟨_, rfl⟩
          obtain ⟨yy, hyy⟩ : ∃ z, z = d[c]! := ⟨_, rfl⟩
          have la := S1.out.ld R (by have := hds.out; omega) P y (by have := hds.out; omega)
          have lb := S1.out.ld R (by have := hds.out; omega) P c (by have := hds.out; omega)
          rw [← hxx] at la hl
          rw [← hyy] at lb hl
          have hc := S1.out.cmp HC.out (by have := hds.out; omega) xx yy
          have hd : decide (cf xx yy < 0) = false := decide_eq_false hl
          clear hxx hyy
          go_wp2_with fail
          go_quiet_grown (first | (go_at_fn g; refine Calls.grown_of (hc _ _)))
          have S2 : Aside (SWK enc k w0 blk off d (grow (wr.drewN nq) osq)) := S1.out.grown nq osq
          clear la lb hc S1
          generalize grow (wr.drewN nq) osq = w2 at S2 ⊢
          clear nq osq
          go_wp2
          go_roundg (r - (c + 1))
          case measure => omega
          case rel => exact ⟨c + 1, r, by go_num, rfl, by omega, by omega, by omega, by omega, S2⟩
      · obtain rfl : s = r := by omega
        obtain ⟨e, he1, he2⟩ : ∃ e, e + s ≤ n ∧ n ≤ e + s := ⟨n - s, by omega, by omega⟩
        have re : (n : Int) - (s : Int) = (e : Int) := by omega
        have re2 : IntKind.i64.wrap ((n : Int) - (s : Int)) = (e : Int) := by rw [IntKind.wrap_i64]; omega
        have HPc : Hid (PermIn 0 d.size d d) := permIn_refl _ _ _
        have hdc : Hid (d.size = N) := hds
        have SC := S1
        clear S1
        obtain ⟨dc, hdc, HPc, SC⟩ : ∃ dc : Array α, Hid (dc.size = N) ∧ Hid (PermIn 0 d.size d dc) ∧ Aside (SWK enc k w0 blk off dc wr) := ⟨d, hdc, HPc, SC⟩
        go_wp2_with (first
          | (go_at_call 71; refine (rotate_any HL.out g cb s m e N dc _ hdc.out R hs SC.out (by omega) (by omega) (by omega) hsz).mono ?_; rintro e2 w2 ⟨rfl, d2, hp2, S2⟩; obtain ⟨dc, hdc, HPc, SC⟩ : ∃ dc : Array α, Hid (dc.size = N) ∧ Hid (PermIn 0 d.size d dc) ∧ Aside (SWK enc k w0 blk off dc w2) := ⟨d2, (pm_size hp2).trans hdc.out, pm_tr HPc hp2, S2⟩; clear hp2 S2)
          | (go_at_call 63; refine (HI.out a s mid dc _ hdc.out SC.out (by omega) (by omega) (by omega) (by omega)).mono ?_; rintro e2 w2 ⟨rfl, d2, hp2, S2⟩; obtain ⟨dc, hdc, HPc, SC⟩ : ∃ dc : Array α, Hid (dc.size = N) ∧ Hid (PermIn 0 d.size d dc) ∧ Aside (SWK enc k w0 blk off dc w2) := ⟨d2, (pm_size hp2).trans hdc.out, pm_tr HPc hp2, S2⟩; clear hp2 S2)
          | (go_at_call 63; refine (HI.out mid e b dc _ hdc.out SC.out (by omega) (by omega) (by omega) (by omega)).mono ?_; rintro e2 w2 ⟨rfl, d2, hp2, S2⟩; obtain ⟨dc, hdc, HPc, SC⟩ : ∃ dc : Array α, Hid (dc.size = N) ∧ Hid (PermIn 0 d.size d dc) ∧ Aside (SWK enc k w0 blk off dc w2) := ⟨d2, (pm_size hp2).trans hdc.out, pm_tr HPc hp2, S2⟩; clear hp2 S2))
        all_goals (go_end0; exact ⟨rfl, dc, HPc, SC.out⟩)
end Go.Proofs.YtgcjmjhdnkffcaaGreatDoor
/- slices.SortStableFunc's family (zsortanyfunc.go): symMerge whole, stable, SortStableFunc: the same elements in some order. No condition. Printed by wip/genstb.py. -/
set_option linter.unusedVariables false
set_option linter.unusedSimpArgs false
namespace Go.Proofs.YtgcjmjhdnkffcaaGreatDoor
open Go.Shelf Go.RowKit Go.Lib Go.Sort
variable {P : Program} {α : Type} [Inhabited α] {enc : α → List Value} {k : Nat} {w0 : World} {blk off cap : Nat} {d0 : Array α}

theorem merge_any (L : SortW P k) (cf : α → α → Int) (g : Nat) (cb : Array Value) (N : Nat) (eg : ∀ args w, (callFunc g args).run P w = .ok (.enter g args) w) (hcmp : CmpLays P g cb enc k cf blk off N w0) (R : RowK enc k w0 blk off d0) (hs : d0.size = N) (hsz : N < 1000000) :
    ∀ (n a m b : Nat) (d : Array α) (w : World), b - a ≤ n → d.size = N → SWK enc k w0 blk off d w → a < m → m < b → b ≤ N →
      Calls P 63 #[.slice (some ⟨blk, off, none⟩) N cap, .int .i64 a, .int .i64 m, .int .i64 b, .func (.func g) #[] cb] w (StPost enc k w0 blk off d) := by
  intro n
  induction n with
  | zero => intro a m b d w h; intros; omega
  | succ n ih =>
    intro a m b d w h hN S ham hmb hb
    by_cases h1 : m - a = 1
    · exact merge_left L cf g cb a m b N d w eg hcmp hN R hs S ham hmb hb hsz h1
    · by_cases h2 : b - m = 1
      · exact merge_right L cf g cb a m b N d w eg hcmp hN R hs S ham hmb hb hsz h1 h2
      · exact merge_both L cf g cb a m b N d w eg hcmp hN R hs S ham hmb hb hsz h1 h2 (fun a' m' b' d' w' h3 h4 h5 h6 h7 h8 => ih a' m' b' d' w' (by omega) h3 h4 h5 h6 h7)
set_option maxHeartbeats 4000000 in
set_option maxRecDepth 1000000 in
theorem stable_any (L : SortW P k) (cf : α → α → Int) (g : Nat) (cb : Array Value) (N : Nat) (d : Array α) (w : World) (eg : ∀ args w, (callFunc g args).run P w = .ok (.enter g args) w) (hcmp : CmpLays P g cb enc k cf blk off N w0)
    (hN : d.size = N) (R : RowK enc k w0 blk off d0) (hs : d0.size = N) (S : SWK enc k w0 blk off d w) (hsz : N < 1000000) :
    Calls P 47 #[.slice (some ⟨blk, off, none⟩) N cap, .int .i64 N, .func (.func g) #[] cb] w (StPost enc k w0 blk off d) := by
  have mixed := L.mixed; have t0 := L.t0; have a0 := L.a0; have z0 := L.z0; have v0 := L.v0; have t3 := L.t3; have a3 := L.a3; have z3 := L.z3; have v3 := L.v3; have t4 := L.t4; have a4 := L.a4; have z4 := L.z4; have v4 := L.v4; have tS := L.tS; have aS := L.aS; have zS := L.zS; have vS := L.vS; have tF := L.tF; have aF := L.aF; have zF := L.zF; have vF := L.vF; have aE := L.aE; have zE := L.zE
  have FG := L.fS
  have eI : ∀ args w, (callFunc 62 args).run P w = .ok (.enter 62 args) w := enters_of L.fI (by kernel_rfl) rfl
  have eM : ∀ args w, (callFunc 63 args).run P w = .ok (.enter 63 args) w := enters_of L.fM (by kernel_rfl) rfl
  have HC : Aside _ := hcmp
  have HL : Hid (SortW P k) := L
  have S0 : Aside (SWK enc k w0 blk off d w) := S
  have hdc : Hid (d.size = N) := hN
  have HP0 : Hid (PermIn 0 d.size d d) := permIn_refl _ _ _
  clear S L hcmp hN
  go_enter FG, Tryz.ntmps47
  go_wp2
  go_loopg [7, 8] (N + 1) (fun kx s7 s8 wr => ∃ (a b : Nat) (dk : Array α), s7 = .int .i64 a ∧ s8 = .int .i64 b ∧ b ≤ a + 20 ∧ a + 20 ≤ b ∧ a ≤ N ∧ N + 1 - a ≤ kx ∧ Hid (dk.size = N) ∧ Aside (SWK enc k w0 blk off dk wr) ∧ Hid (PermIn 0 d.size d dk))
  case atStart => exact ⟨0, 20, d, rfl, rfl, by omega, by omega, by omega, by omega, hdc, S0, HP0⟩
  case round =>
    clear S0 hdc HP0
    obtain ⟨a, b, dk, rfl, rfl, hab, hab2, haN, hkx, hdc, SC, HPc⟩ := hrel
    by_cases hlt : (b : Int) ≤ (N : Int)
    · have rb : IntKind.i64.wrap ((b : Int) + 20) = ((b + 20 : Nat) : Int) := by rw [IntKind.wrap_i64]; omega
      go_wp2_with (go_at_call 62; refine (insertion_any HL.out cf g cb a b N dk _ eg HC.out hdc.out R hs SC.out (by omega) (by omega) hsz).mono ?_; rintro e2 w2 ⟨rfl, d2, hp2, S2⟩)
      go_roundg (N + 1 - b)
      case measure => omega
      case rel => exact ⟨b, b + 20, d2, rfl, by go_num, by omega, by omega, by omega, by omega, (pm_size hp2).trans hdc.out, S2, pm_tr HPc hp2⟩
    · go_wp2_with (go_at_call 62; refine (insertion_any HL.out cf g cb a N N dk _ eg HC.out hdc.out R hs SC.out (by omega) (by omega) hsz).mono ?_; rintro e2 w2 ⟨rfl, d2, hp2, S2⟩; obtain ⟨dk, hdc, HPc, SC⟩ : ∃ dk : Array α, Hid (dk.size = N) ∧ Hid (PermIn 0 d.size d dk) ∧ Aside (SWK enc k w0 blk off dk w2) := ⟨d2, (pm_size hp2).trans hdc.out, pm_tr HPc hp2, S2⟩; clear hp2 S2)
      go_loopg [6, 7, 8, 9] N (fun kx s6 s7 s8 s9 wr => ∃ (bs : Nat) (dk : Array α), s6 = .int .i64 bs ∧ 0 < bs ∧ bs ≤ 2000000 ∧ N - bs ≤ kx ∧ Hid (dk.size = N) ∧ Aside (SWK enc k w0 blk off dk wr) ∧ Hid (PermIn 0 d.size d dk))
      case atStart => exact ⟨20, dk, rfl, by omega, by omega, by omega, hdc, SC, HPc⟩
      case round =>
        clear SC HPc hdc
        obtain ⟨bs, dk, rfl, hb0, hb1, hkx3, hdc, SC, HPc⟩ := hrel
        by_cases hlt2 : (bs : Int) < (N : Int)
        · have rb : IntKind.i64.wrap (2 * (bs : Int)) = ((2 * bs : Nat) : Int) := by rw [IntKind.wrap_i64]; omega
          have rb2 : IntKind.i64.wrap ((bs : Int) * 2) = ((2 * bs : Nat) : Int) := by rw [IntKind.wrap_i64]; omega
          have rb3 : (bs : Int) * 2 = ((2 * bs : Nat) : Int) := by omega
          obtain ⟨bb, hbb1, hbb2⟩ : ∃ bb, bb ≤ 2 * bs ∧ 2 * bs ≤ bb := ⟨2 * bs, by omega, by omega⟩
          have rb0 : ((2 * bs : Nat) : Int) = (bb : Int) := by omega
          have rb4 : 2 * (bs : Int) = (bb : Int) := by omega
          rw [rb0] at rb rb2 rb3
          clear rb0
          go_wp2
          go_loopg [7, 8] (N + 1) (fun kx s7 s8 wr => ∃ (a b : Nat) (dk : Array α), s7 = .int .i64 a ∧ s8 = .int .i64 b ∧ b ≤ a + bb ∧ a + bb ≤ b ∧ a ≤ N ∧ N + 1 - a ≤ kx ∧ Hid (dk.size = N) ∧ Aside (SWK enc k w0 blk off dk wr) ∧ Hid (PermIn 0 d.size d dk))
          case atStart => exact ⟨0, bb, dk, rfl, by first | rfl | go_num, by omega, by omega, by omega, by omega, hdc, SC, HPc⟩
          case round =>
            clear SC HPc hdc
            obtain ⟨a, b, dk, rfl, rfl, hab, hab2, haN, hkx4, hdc, SC, HPc⟩ := hrel
            obtain ⟨m, hm1, hm2⟩ : ∃ m, m ≤ a + bs ∧ a + bs ≤ m := ⟨a + bs, by omega, by omega⟩
            have rm : (a : Int) + (bs : Int) = (m : Int) := by omega
            have rm2 : IntKind.i64.wrap ((a : Int) + (bs : Int)) = (m : Int) := by rw [IntKind.wrap_i64]; omega
            by_cases hlt3 : (b : Int) ≤ (N : Int)
            · obtain ⟨b2, hb21, hb22⟩ : ∃ x, x ≤ b + bb ∧ b + bb ≤ x := ⟨b + bb, by omega, by omega⟩
              have rbb : (b : Int) + (bb : Int) = (b2 : Int) := by omega
              have rbb2 : IntKind.i64.wrap ((b : Int) + (bb : Int)) = (b2 : Int) := by rw [IntKind.wrap_i64]; omega
              go_wp2_with (go_at_call 63; refine (merge_any HL.out cf g cb N eg HC.out R hs hsz _ a m b dk _ (Nat.le_refl _) hdc.out SC.out (by omega) (by omega) (by omega)).mono ?_; rintro e2 w2 ⟨rfl, d2, hp2, S2⟩)
              go_roundg (N + 1 - b)
              case measure => omega
              case rel => exact ⟨b, b2, d2, rfl, by first | rfl | go_num, by omega, by omega, by omega, by omega, (pm_size hp2).trans hdc.out, S2, pm_tr HPc hp2⟩
            · by_cases hlt4 : (m : Int) < (N : Int)
              · go_wp2_with (go_at_call 63; refine (merge_any HL.out cf g cb N eg HC.out R hs hsz _ a m N dk _ (Nat.le_refl _) hdc.out SC.out (by omega) (by omega) (by omega)).mono ?_; rintro e2 w2 ⟨rfl, d2, hp2, S2⟩)
                go_roundg (N - bb)
                case measure => omega
                case rel => exact ⟨bb, d2, by first | rfl | go_num, by omega, by omega, by omega, (pm_size hp2).trans hdc.out, S2, pm_tr HPc hp2⟩
              · go_wp2
                go_roundg (N - bb)
                case measure => omega
                case rel => exact ⟨bb, dk, by first | rfl | go_num, by omega, by omega, by omega, hdc, SC, HPc⟩
        · go_wp2
          go_end0
          exact ⟨rfl, dk, HPc, SC.out⟩
set_option maxRecDepth 1000000 in
theorem sortStable_any (L : SortW P k) (cf : α → α → Int) (g : Nat) (cb : Array Value) (N : Nat) (d : Array α) (w : World) (eg : ∀ args w, (callFunc g args).run P w = .ok (.enter g args) w) (hcmp : CmpLays P g cb enc k cf blk off N w0)
    (hN : d.size = N) (R : RowK enc k w0 blk off d0) (hs : d0.size = N) (S : SWK enc k w0 blk off d w) (hsz : N < 1000000) :
    Calls P 32 #[.slice (some ⟨blk, off, none⟩) N cap, .func (.func g) #[] cb] w (StPost enc k w0 blk off d) := by
  have mixed := L.mixed; have t0 := L.t0; have a0 := L.a0; have z0 := L.z0; have v0 := L.v0; have t3 := L.t3; have a3 := L.a3; have z3 := L.z3; have v3 := L.v3; have t4 := L.t4; have a4 := L.a4; have z4 := L.z4; have v4 := L.v4; have tS := L.tS; have aS := L.aS; have zS := L.zS; have vS := L.vS; have tF := L.tF; have aF := L.aF; have zF := L.zF; have vF := L.vF; have aE := L.aE; have zE := L.zE
  have FG := L.fT
  have eI : ∀ args w, (callFunc 47 args).run P w = .ok (.enter 47 args) w := enters_of L.fS (by kernel_rfl) rfl
  have HC : Aside _ := hcmp
  have HL : Hid (SortW P k) := L
  have S0 : Aside (SWK enc k w0 blk off d w) := S
  have hdc : Hid (d.size = N) := hN
  clear S L hcmp hN
  go_enter FG, Tryz.ntmps32
  go_wp2_with (go_at_call 47; refine (stable_any HL.out cf g cb N d _ eg HC.out hdc.out R hs S0.out hsz).mono ?_; rintro e2 w2 ⟨rfl, d2, hp2, S2⟩)
  go_end0
  exact ⟨rfl, d2, hp2, S2⟩
end Go.Proofs.YtgcjmjhdnkffcaaGreatDoor
