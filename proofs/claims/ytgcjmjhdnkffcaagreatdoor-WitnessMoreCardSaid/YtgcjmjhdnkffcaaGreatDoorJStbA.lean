/- slices.SortStableFunc's family at the calls of this program (zsortanyfunc.go): exchanges. Said over any program that bears these bodies: an element's cells stay a variable. No condition. -/
import Derived.Test.YtgcjmjhdnkffcaaGreatDoorJEqS
import Derived.Shelf.SlSortCmp.KitK
import Derived.Sort.WalkB2
import Derived.Sort.WalkB12
import Derived.Deep.LoopGhost
set_option linter.unusedVariables false
set_option linter.unusedSimpArgs false
namespace Go.Proofs.YtgcjmjhdnkffcaaGreatDoor
open Go.Shelf Go.RowKit Go.Lib Go.Sort
/-- What these bodies want of a program. -/
structure SortW (P : Program) (k : Nat) : Prop where
  mixed : P.follows Departure.mixedOrders = true
  t0 : P.underlying 0 = some (TypeDesc.tuple #[])
  a0 : ∀ w, (isAgg 0).run P w = .ok false w
  z0 : ∀ w, (Go.sizeOf 0).run P w = .ok 1 w
  v0 : ∀ w, (zeroValue 0).run P w = .ok (.tuple #[]) w
  t3 : P.underlying 3 = some (TypeDesc.int IntKind.i64)
  a3 : ∀ w, (isAgg 3).run P w = .ok false w
  z3 : ∀ w, (Go.sizeOf 3).run P w = .ok 1 w
  v3 : ∀ w, (zeroValue 3).run P w = .ok (.int .i64 0) w
  t4 : P.underlying 4 = some TypeDesc.bool
  a4 : ∀ w, (isAgg 4).run P w = .ok false w
  z4 : ∀ w, (Go.sizeOf 4).run P w = .ok 1 w
  v4 : ∀ w, (zeroValue 4).run P w = .ok (.bool false) w
  tS : P.underlying 23 = some (TypeDesc.slice 30)
  aS : ∀ w, (isAgg 23).run P w = .ok false w
  zS : ∀ w, (Go.sizeOf 23).run P w = .ok 1 w
  vS : ∀ w, (zeroValue 23).run P w = .ok (.slice none 0 0) w
  tF : P.underlying 73 = some (TypeDesc.func #[30, 30] #[3] false)
  aF : ∀ w, (isAgg 73).run P w = .ok false w
  zF : ∀ w, (Go.sizeOf 73).run P w = .ok 1 w
  vF : ∀ w, (zeroValue 73).run P w = .ok Value.nilFunc w
  tU : P.underlying 113 = some (TypeDesc.int IntKind.u64)
  aU : ∀ w, (isAgg 113).run P w = .ok false w
  zU : ∀ w, (Go.sizeOf 113).run P w = .ok 1 w
  vU : ∀ w, (zeroValue 113).run P w = .ok (.int .u64 0) w
  aE : ∀ w, (isAgg 30).run P w = .ok true w
  zE : ∀ w, (Go.sizeOf 30).run P w = .ok k w
  fX : P.funcs[93]? = some Tryz.f93
  fR : P.funcs[71]? = some Tryz.f71
  fM : P.funcs[63]? = some Tryz.f63
  fS : P.funcs[47]? = some Tryz.f47
  fT : P.funcs[32]? = some Tryz.f32
  fI : P.funcs[62]? = some Tryz.f62
variable {P : Program} {α : Type} [Inhabited α] {enc : α → List Value} {k : Nat} {w0 : World} {blk off cap : Nat} {d0 : Array α}
/-- What each of them leaves: the same elements in some order; blocks that 'cmp' laid. -/
def StPost (enc : α → List Value) (k : Nat) (w0 : World) (blk off : Nat) (d : Array α) (e : Ending) (w' : World) : Prop := e = .returned (.tuple #[]) ∧ ∃ d', PermIn 0 d.size d d' ∧ SWK enc k w0 blk off d' w'
set_option maxHeartbeats 4000000 in
set_option maxRecDepth 1000000 in
theorem swapRange_any (L : SortW P k) (g : Nat) (cb : Array Value) (a b n : Nat) (d : Array α) (w : World) (R : RowK enc k w0 blk off d0) (hs : d0.size = d.size) (S : SWK enc k w0 blk off d w) (ha : a + n ≤ d.size) (hb : b + n ≤ d.size) (hsz : d.size < 1000000) :
    Calls P 93 #[.slice (some ⟨blk, off, none⟩) d.size cap, .int .i64 a, .int .i64 b, .int .i64 n, .func (.func g) #[] cb] w (StPost enc k w0 blk off d) := by
  have mixed := L.mixed; have t0 := L.t0; have a0 := L.a0; have z0 := L.z0; have v0 := L.v0; have t3 := L.t3; have a3 := L.a3; have z3 := L.z3; have v3 := L.v3; have t4 := L.t4; have a4 := L.a4; have z4 := L.z4; have v4 := L.v4; have tS := L.tS; have aS := L.aS; have zS := L.zS; have vS := L.vS; have tF := L.tF; have aF := L.aF; have zF := L.zF; have vF := L.vF; have aE := L.aE; have zE := L.zE
  have FG := L.fX
  have S0 : Aside (SWK enc k w0 blk off d w) := S
  clear S L
  go_enter FG, Tryz.ntmps93
  go_wp2
  go_loopg [10] n (fun kx s8 wr => ∃ (i : Nat) (dk : Array α), s8 = .int .i64 i ∧ i ≤ n ∧ n - i ≤ kx ∧ dk.size = d.size ∧ Aside (SWK enc k w0 blk off dk wr) ∧ Hid (PermIn 0 d.size d dk))
  case atStart => exact ⟨0, d, rfl, by omega, by omega, rfl, S0, permIn_refl _ _ _⟩
  case round =>
    clear S0
    obtain ⟨i, dk, rfl, hin, hkx, hds, S1, HP⟩ := hrel
    by_cases hlt : (i : Int) < (n : Int)
    · obtain ⟨x, hx⟩ : ∃ x, a + i = x := ⟨_, rfl⟩
      obtain ⟨y, hy⟩ : ∃ y, b + i = y := ⟨_, rfl⟩
      have hxl : x < d.size := by omega
      have hyl : y < d.size := by omega
      have rx : IntKind.i64.wrap ((a : Int) + (i : Int)) = (x : Int) := by rw [IntKind.wrap_i64]; omega
      have ry : IntKind.i64.wrap ((b : Int) + (i : Int)) = (y : Int) := by rw [IntKind.wrap_i64]; omega
      have ea : ((x : Nat) : Int).toNat = x := by omega
      have pa : (0 : Int) ≤ (x : Int) := by omega
      have ba : (x : Int) < (d.size : Int) := by omega
      have wa : IntKind.i64.wrap ((x : Nat) : Int) = (x : Int) := by rw [IntKind.wrap_i64]; omega
      have ec : ((y : Nat) : Int).toNat = y := by omega
      have pc : (0 : Int) ≤ (y : Int) := by omega
      have bc : (y : Int) < (d.size : Int) := by omega
      have wc : IntKind.i64.wrap ((y : Nat) : Int) = (y : Int) := by rw [IntKind.wrap_i64]; omega
      have S2 : Aside (SWK enc k w0 blk off (swp dk x y) ((wr.drew.setCells blk (off + x * k) (enc dk[y]!)).setCells blk (off + y * k) (enc dk[x]!))) := S1.out.swapped R x y (by omega) (by omega)
      have la := S1.out.ld1 R (by omega) P x (by omega)
      have lb := S1.out.ld1 R (by omega) P y (by omega)
      have sa := S1.out.st1 R (by omega) P x (by omega) dk[y]!
      have sb := S1.out.st2 R (by omega) P x y (by omega) (by omega) dk[y]! dk[x]!
      have na : (enc dk[x]!).length = k := R.hk _
      have nb : (enc dk[y]!).length = k := R.hk _
      generalize enc dk[x]! = cI at S2 la sb na
      generalize enc dk[y]! = cJ at S2 lb sa sb nb
      clear S1
      go_wp2_with fail
      go_big_region_o
      clear la lb sa sb
      generalize (wr.drew.setCells blk (off + x * k) cJ).setCells blk (off + y * k) cI = w2 at S2 ⊢
      go_wp2
      go_roundg (n - (i + 1))
      case measure => omega
      case rel => exact ⟨i + 1, swp dk x y, by go_num, by omega, Nat.le_refl _, by rw [size_swp]; exact hds, S2, permIn_trans _ _ _ _ _ HP (swp_permIn dk 0 d.size x y (by omega) (by omega) (by omega) (by omega) (by omega))⟩
    · go_wp2
      go_end0
      exact ⟨rfl, dk, HP, S1.out⟩
theorem swapRange_at (L : SortW P k) (g : Nat) (cb : Array Value) (a b n N : Nat) (d : Array α) (w : World) (hN : d.size = N) (R : RowK enc k w0 blk off d0) (hs : d0.size = N) (S : SWK enc k w0 blk off d w) (ha : a + n ≤ N) (hb : b + n ≤ N) (hsz : N < 1000000) :
    Calls P 93 #[.slice (some ⟨blk, off, none⟩) N cap, .int .i64 a, .int .i64 b, .int .i64 n, .func (.func g) #[] cb] w (StPost enc k w0 blk off d) := by
  subst hN; exact swapRange_any L g cb a b n d w R hs S ha hb hsz
end Go.Proofs.YtgcjmjhdnkffcaaGreatDoor
/- slices.SortStableFunc's family (zsortanyfunc.go): rotate. No condition. -/
set_option linter.unusedVariables false
set_option linter.unusedSimpArgs false
namespace Go.Proofs.YtgcjmjhdnkffcaaGreatDoor
open Go.Shelf Go.RowKit Go.Lib Go.Sort
variable {P : Program} {α : Type} [Inhabited α] {enc : α → List Value} {k : Nat} {w0 : World} {blk off cap : Nat} {d0 : Array α}
theorem pm_size {d d' : Array α} (h : PermIn 0 d.size d d') : d'.size = d.size := h.1
theorem pm_tr {d d1 d2 : Array α} (h : PermIn 0 d.size d d1) (h2 : PermIn 0 d1.size d1 d2) : PermIn 0 d.size d d2 := permIn_trans _ _ _ _ _ h (by rw [h.1] at h2; exact h2)
set_option maxHeartbeats 4000000 in
set_option maxRecDepth 1000000 in
theorem rotate_any (L : SortW P k) (g : Nat) (cb : Array Value) (a m b N : Nat) (d : Array α) (w : World) (hN : d.size = N) (R : RowK enc k w0 blk off d0) (hs : d0.size = N) (S : SWK enc k w0 blk off d w) (ham : a < m) (hmb : m < b) (hb : b ≤ N) (hsz : N < 1000000) :
    Calls P 71 #[.slice (some ⟨blk, off, none⟩) N cap, .int .i64 a, .int .i64 m, .int .i64 b, .func (.func g) #[] cb] w (StPost enc k w0 blk off d) := by
  have mixed := L.mixed; have t0 := L.t0; have a0 := L.a0; have z0 := L.z0; have v0 := L.v0; have t3 := L.t3; have a3 := L.a3; have z3 := L.z3; have v3 := L.v3; have t4 := L.t4; have a4 := L.a4; have z4 := L.z4; have v4 := L.v4; have tS := L.tS; have aS := L.aS; have zS := L.zS; have vS := L.vS; have tF := L.tF; have aF := L.aF; have zF := L.zF; have vF := L.vF; have aE := L.aE; have zE := L.zE
  have FG := L.fR
  have eX : ∀ args w, (callFunc 93 args).run P w = .ok (.enter 93 args) w := enters_of L.fX (by kernel_rfl) rfl
  have HL : Hid (SortW P k) := L
  have S0 : Aside (SWK enc k w0 blk off d w) := S
  clear S L
  have r1 : IntKind.i64.wrap ((m : Int) - (a : Int)) = ((m - a : Nat) : Int) := by rw [IntKind.wrap_i64]; omega
  have r2 : IntKind.i64.wrap ((b : Int) - (m : Int)) = ((b - m : Nat) : Int) := by rw [IntKind.wrap_i64]; omega
  obtain ⟨i0, hi0⟩ : ∃ x, m - a = x := ⟨_, rfl⟩
  obtain ⟨j0, hj0⟩ : ∃ x, b - m = x := ⟨_, rfl⟩
  rw [hi0] at r1
  rw [hj0] at r2
  go_enter FG, Tryz.ntmps71
  go_wp2
  go_loopg [10, 11] (i0 + j0) (fun kx s8 s9 wr => ∃ (i j : Nat) (dk : Array α), s8 = .int .i64 i ∧ s9 = .int .i64 j ∧ 0 < i ∧ 0 < j ∧ i ≤ i0 ∧ j ≤ j0 ∧ i + j ≤ kx ∧ Hid (dk.size = N) ∧ Aside (SWK enc k w0 blk off dk wr) ∧ Hid (PermIn 0 d.size d dk))
  case atStart => exact ⟨i0, j0, d, rfl, rfl, by omega, by omega, by omega, by omega, by omega, hN, S0, permIn_refl _ _ _⟩
  case round =>
    clear S0
    obtain ⟨i, j, dk, rfl, rfl, hi, hj, hii, hjj, hkx, hds, S1, HP⟩ := hrel
    obtain ⟨x, hx⟩ : ∃ x, m - i = x := ⟨_, rfl⟩
    have rx : IntKind.i64.wrap ((m : Int) - (i : Int)) = (x : Int) := by rw [IntKind.wrap_i64]; omega
    by_cases hij : (i : Int) = (j : Int)
    · obtain rfl : i = j := by omega
      go_wp2_with (go_at_call 93; refine (swapRange_at HL.out g cb x m i N dk _ hds.out R (by omega) S1.out (by omega) (by omega) (by omega)).mono ?_; rintro e w2 ⟨rfl, d2, hp2, S2⟩)
      go_end0
      exact ⟨rfl, d2, pm_tr HP hp2, S2⟩
    · by_cases hgt : (j : Int) < (i : Int)
      · have ri : IntKind.i64.wrap ((i : Int) - (j : Int)) = ((i - j : Nat) : Int) := by rw [IntKind.wrap_i64]; omega
        obtain ⟨y, hy⟩ : ∃ y, i - j = y := ⟨_, rfl⟩
        rw [hy] at ri
        go_wp2_with (go_at_call 93; refine (swapRange_at HL.out g cb x m j N dk _ hds.out R (by omega) S1.out (by omega) (by omega) (by omega)).mono ?_; rintro e w2 ⟨rfl, d2, hp2, S2⟩)
        go_roundg (y + j)
        case measure => omega
        case rel => exact ⟨y, j, d2, by go_num, rfl, by omega, by omega, by omega, by omega, by omega, (pm_size hp2).trans hds.out, S2, pm_tr HP hp2⟩
      · have ri : IntKind.i64.wrap ((j : Int) - (i : Int)) = ((j - i : Nat) : Int) := by rw [IntKind.wrap_i64]; omega
        have rm : IntKind.i64.wrap ((m : Int) + (j : Int)) = ((m + j : Nat) : Int) := by rw [IntKind.wrap_i64]; omega
        obtain ⟨y, hy⟩ : ∃ y, j - i = y := ⟨_, rfl⟩
        rw [hy] at ri
        obtain ⟨z, hz⟩ : ∃ z, m + j = z := ⟨_, rfl⟩
        rw [hz] at rm
        have rz : IntKind.i64.wrap ((z : Int) - (i : Int)) = ((z - i : Nat) : Int) := by rw [IntKind.wrap_i64]; omega
        obtain ⟨u, hu⟩ : ∃ u, z - i = u := ⟨_, rfl⟩
        rw [hu] at rz
        go_wp2_with (go_at_call 93; refine (swapRange_at HL.out g cb x u i N dk _ hds.out R (by omega) S1.out (by omega) (by omega) (by omega)).mono ?_; rintro e w2 ⟨rfl, d2, hp2, S2⟩)
        go_roundg (i + y)
        case measure => omega
        case rel => exact ⟨i, y, d2, rfl, by go_num, by omega, by omega, by omega, by omega, by omega, (pm_size hp2).trans hds.out, S2, pm_tr HP hp2⟩
end Go.Proofs.YtgcjmjhdnkffcaaGreatDoor
/- slices.SortStableFunc's family (zsortanyfunc.go): insertionSort. No condition. Printed by wip/genstb.py. -/
set_option linter.unusedVariables false
set_option linter.unusedSimpArgs false
namespace Go.Proofs.YtgcjmjhdnkffcaaGreatDoor
open Go.Shelf Go.RowKit Go.Lib Go.Sort
variable {P : Program} {α : Type} [Inhabited α] {enc : α → List Value} {k : Nat} {w0 : World} {blk off cap : Nat} {d0 : Array α}
set_option maxHeartbeats 4000000 in
set_option maxRecDepth 1000000 in
theorem insertion_any (L : SortW P k) (cf : α → α → Int) (g : Nat) (cb : Array Value) (a b N : Nat) (d : Array α) (w : World) (eg : ∀ args w, (callFunc g args).run P w = .ok (.enter g args) w) (hcmp : CmpLays P g cb enc k cf blk off N w0)
    (hN : d.size = N) (R : RowK enc k w0 blk off d0) (hs : d0.size = N) (S : SWK enc k w0 blk off d w) (hab : a ≤ b) (hb : b ≤ N) (hsz : N < 1000000) :
    Calls P 62 #[.slice (some ⟨blk, off, none⟩) N cap, .int .i64 a, .int .i64 b, .func (.func g) #[] cb] w (StPost enc k w0 blk off d) := by
  have mixed := L.mixed; have t0 := L.t0; have a0 := L.a0; have z0 := L.z0; have v0 := L.v0; have t3 := L.t3; have a3 := L.a3; have z3 := L.z3; have v3 := L.v3; have t4 := L.t4; have a4 := L.a4; have z4 := L.z4; have v4 := L.v4; have tS := L.tS; have aS := L.aS; have zS := L.zS; have vS := L.vS; have tF := L.tF; have aF := L.aF; have zF := L.zF; have vF := L.vF; have aE := L.aE; have zE := L.zE
  have FG := L.fI
  have HC : Aside _ := hcmp
  have S0 : Aside (SWK enc k w0 blk off d w) := S
  clear S L hcmp
  go_enter FG, Tryz.ntmps62
  go_wp2
  go_loopg [8] (b - a) (fun kx s8 wr => ∃ (i : Nat) (dk : Array α), s8 = .int .i64 i ∧ a < i ∧ i ≤ b + 1 ∧ b + 1 - i ≤ kx + 1 ∧ Hid (dk.size = N) ∧ Aside (SWK enc k w0 blk off dk wr) ∧ Hid (PermIn 0 d.size d dk))
  case atStart => exact ⟨a + 1, d, by go_num, by omega, by omega, by omega, hN, S0, permIn_refl _ _ _⟩
  case round =>
    clear S0
    obtain ⟨i, dk, rfl, hai, hib, hkx, hds, S1, HP⟩ := hrel
    by_cases hlt : (i : Int) < (b : Int)
    · go_wp2
      go_loopg [9] i (fun g2 vj wr2 => ∃ (j : Nat) (dj : Array α), vj = .int .i64 j ∧ a ≤ j ∧ j ≤ i ∧ j ≤ g2 ∧ Hid (dj.size = N) ∧ Aside (SWK enc k w0 blk off dj wr2) ∧ Hid (PermIn 0 d.size d dj))
      case atStart => exact ⟨i, dk, rfl, by omega, Nat.le_refl _, Nat.le_refl _, hds, S1, HP⟩
      case round =>
        clear S1 HP hds dk
        obtain ⟨j, dk, rfl, haj, hji, hg2, hds, S1, HP⟩ := hrel
        by_cases hja : a < j
        · have hjaz : (a : Int) < (j : Int) := by omega
          obtain ⟨jp, hjp1, hjp2⟩ : ∃ jp, jp < j ∧ j ≤ jp + 1 := ⟨j - 1, by omega, by omega⟩
          have rj : IntKind.i64.wrap ((j : Int) - 1) = (jp : Int) := by rw [IntKind.wrap_i64]; omega
          by_cases hl : cf dk[j]! dk[jp]! < 0
          · have qej : ((j : Nat) : Int).toNat = j := by omega
            have qpj : (0 : Int) ≤ (j : Int) := by omega
            have qbj : (j : Int) < (N : Int) := by omega
            have qvj : IntKind.i64.wrap ((j : Nat) : Int) = (j : Int) := by rw [IntKind.wrap_i64]; omega
            have qejp : ((jp : Nat) : Int).toNat = jp := by omega
            have qpjp : (0 : Int) ≤ (jp : Int) := by omega
            have qbjp : (jp : Int) < (N : Int) := by omega
            have qvjp : IntKind.i64.wrap ((jp : Nat) : Int) = (jp : Int) := by rw [IntKind.wrap_i64]; omega
            obtain ⟨xx, hxx⟩ : ∃ z, z = dk[j]! := ⟨_, rfl⟩
            obtain ⟨yy, hyy⟩ : ∃ z, z = dk[jp]! := ⟨_, rfl⟩
            have la := S1.out.ld R (by have := hds.out; omega) P j (by have := hds.out; omega)
            have lb := S1.out.ld R (by have := hds.out; omega) P jp (by have := hds.out; omega)
            rw [← hxx] at la hl
            rw [← hyy] at lb hl
            have hc := S1.out.cmp HC.out (by have := hds.out; omega) xx yy
            have hd : decide (cf xx yy < 0) = true := decide_eq_true hl
            clear hxx hyy
            go_wp2_with fail
            go_quiet_grown (first | (go_at_fn g; refine Calls.grown_of (hc _ _)))
            have S2 : Aside (SWK enc k w0 blk off dk (grow (wr.drewN nq) osq)) := S1.out.grown nq osq
            clear la lb hc S1
            generalize grow (wr.drewN nq) osq = w2 at S2 ⊢
            clear nq osq
            have S3 : Aside (SWK enc k w0 blk off (swp dk j jp) ((w2.drew.setCells blk (off + j * k) (enc dk[jp]!)).setCells blk (off + jp * k) (enc dk[j]!))) := S2.out.swapped R j jp (by have := hds.out; omega) (by have := hds.out; omega)
            have la := S2.out.ld1 R (by have := hds.out; omega) P j (by have := hds.out; omega)
            have lb := S2.out.ld1 R (by have := hds.out; omega) P jp (by have := hds.out; omega)
            have sa := S2.out.st1 R (by have := hds.out; omega) P j (by have := hds.out; omega) dk[jp]!
            have sb := S2.out.st2 R (by have := hds.out; omega) P j jp (by have := hds.out; omega) (by have := hds.out; omega) dk[jp]! dk[j]!
            have na : (enc dk[j]!).length = k := R.hk _
            have nb : (enc dk[jp]!).length = k := R.hk _
            generalize enc dk[j]! = cI at S3 la sb na
            generalize enc dk[jp]! = cJ at S3 lb sa sb nb
            clear S2
            go_wp2_with fail
            go_big_region_o
            clear la lb sa sb
            generalize (w2.drew.setCells blk (off + j * k) cJ).setCells blk (off + jp * k) cI = w3 at S3 ⊢
            go_wp2
            go_roundg jp
            case measure => omega
            case rel => exact ⟨jp, swp dk j jp, by first | rfl | go_num, by omega, by omega, Nat.le_refl _, (show Hid _ from by show _ = _; rw [size_swp]; exact hds), S3, permIn_trans _ _ _ _ _ HP (swp_permIn dk 0 d.size j jp (by omega) (by omega) (by omega) (by omega) (by have := hds.out; omega))⟩
          · have qej : ((j : Nat) : Int).toNat = j := by omega
            have qpj : (0 : Int) ≤ (j : Int) := by omega
            have qbj : (j : Int) < (N : Int) := by omega
            have qvj : IntKind.i64.wrap ((j : Nat) : Int) = (j : Int) := by rw [IntKind.wrap_i64]; omega
            have qejp : ((jp : Nat) : Int).toNat = jp := by omega
            have qpjp : (0 : Int) ≤ (jp : Int) := by omega
            have qbjp : (jp : Int) < (N : Int) := by omega
            have qvjp : IntKind.i64.wrap ((jp : Nat) : Int) = (jp : Int) := by rw [IntKind.wrap_i64]; omega
            obtain ⟨xx, hxx⟩ : ∃ z, z = dk[j]! := ⟨_, rfl⟩
            obtain ⟨yy, hyy⟩ : ∃ z, z = dk[jp]! := ⟨_, rfl⟩
            have la := S1.out.ld R (by have := hds.out; omega) P j (by have := hds.out; omega)
            have lb := S1.out.ld R (by have := hds.out; omega) P jp (by have := hds.out; omega)
            rw [← hxx] at la hl
            rw [← hyy] at lb hl
            have hc := S1.out.cmp HC.out (by have := hds.out; omega) xx yy
            have hd : decide (cf xx yy < 0) = false := decide_eq_false hl
            clear hxx hyy
            go_wp2_with fail
            go_quiet_grown (first | (go_at_fn g; refine Calls.grown_of (hc _ _)))
            have S2 : Aside (SWK enc k w0 blk off dk (grow (wr.drewN nq) osq)) := S1.out.grown nq osq
            clear la lb hc S1
            generalize grow (wr.drewN nq) osq = w2 at S2 ⊢
            clear nq osq
            go_wp2
            go_roundg (b - (i + 1))
            case measure => omega
            case rel => exact ⟨i + 1, dk, by go_num, by omega, by omega, by omega, hds, S2, HP⟩
        · have hjaz : decide ((j : Int) > (a : Int)) = false := decide_eq_false (by omega)
          have hjaz' : ¬ (a : Int) < (j : Int) := by omega
          have S2 : Aside (SWK enc k w0 blk off dk wr.drew) := S1.out.drew
          clear S1
          go_wp2_with fail
          go_big_region_o
          all_goals go_wp2
          go_roundg (b - (i + 1))
          case measure => omega
          case rel => exact ⟨i + 1, dk, by go_num, by omega, by omega, by omega, hds, S2, HP⟩
    · go_wp2
      go_end0
      exact ⟨rfl, dk, HP, S1.out⟩
end Go.Proofs.YtgcjmjhdnkffcaaGreatDoor
/- slices.SortStableFunc's family (zsortanyfunc.go): symMerge, where one part is one element. No condition. Printed by wip/genstb.py. -/
set_option linter.unusedVariables false
set_option linter.unusedSimpArgs false
namespace Go.Proofs.YtgcjmjhdnkffcaaGreatDoor
open Go.Shelf Go.RowKit Go.Lib Go.Sort
variable {P : Program} {α : Type} [Inhabited α] {enc : α → List Value} {k : Nat} {w0 : World} {blk off cap : Nat} {d0 : Array α}
set_option maxHeartbeats 4000000 in
set_option maxRecDepth 1000000 in
theorem merge_left (L : SortW P k) (cf : α → α → Int) (g : Nat) (cb : Array Value) (a m b N : Nat) (d : Array α) (w : World) (eg : ∀ args w, (callFunc g args).run P w = .ok (.enter g args) w) (hcmp : CmpLays P g cb enc k cf blk off N w0)
    (hN : d.size = N) (R : RowK enc k w0 blk off d0) (hs : d0.size = N) (S : SWK enc k w0 blk off d w) (ham : a < m) (hmb : m < b) (hb : b ≤ N) (hsz : N < 1000000) (h1 : m - a = 1) :
    Calls P 63 #[.slice (some ⟨blk, off, none⟩) N cap, .int .i64 a, .int .i64 m, .int .i64 b, .func (.func g) #[] cb] w (StPost enc k w0 blk off d) := by
  have mixed := L.mixed; have t0 := L.t0; have a0 := L.a0; have z0 := L.z0; have v0 := L.v0; have t3 := L.t3; have a3 := L.a3; have z3 := L.z3; have v3 := L.v3; have t4 := L.t4; have a4 := L.a4; have z4 := L.z4; have v4 := L.v4; have tS := L.tS; have aS := L.aS; have zS := L.zS; have vS := L.vS; have tF := L.tF; have aF := L.aF; have zF := L.zF; have vF := L.vF; have aE := L.aE; have zE := L.zE; have tU := L.tU; have aU := L.aU; have zU := L.zU; have vU := L.vU
  have FG := L.fM
  have HC : Aside _ := hcmp
  have S0 : Aside (SWK enc k w0 blk off d w) := S
  clear S L hcmp
  have hds : Hid (d.size = N) := hN
  clear hN
  have c1 : IntKind.i64.wrap ((m : Int) - (a : Int)) = 1 := by rw [IntKind.wrap_i64]; omega
  have c1' : (m : Int) - (a : Int) = 1 := by omega
  go_enter FG, Tryz.ntmps63
  go_wp2
  go_loopg [10, 11] (b - m) (fun kx s8 s9 wr => ∃ (i j : Nat), s8 = .int .i64 i ∧ s9 = .int .i64 j ∧ m ≤ i ∧ i ≤ j ∧ j ≤ b ∧ j - i ≤ kx ∧ Aside (SWK enc k w0 blk off d wr))
  case atStart => exact ⟨m, b, rfl, rfl, by omega, by omega, by omega, by omega, S0⟩
  case round =>
    clear S0
    obtain ⟨i, j, rfl, rfl, hmi, hij, hjb, hkx, S1⟩ := hrel
    by_cases hlt : (i : Int) < (j : Int)
    · obtain ⟨h, hih, hhj, rh⟩ : ∃ h : Nat, i ≤ h ∧ h < j ∧ ((i : Int) + (j : Int)) / 2 = (h : Int) := ⟨(i + j) / 2, by omega, by omega, by omega⟩
      by_cases hl : cf d[h]! d[a]! < 0
      · have qeh : ((h : Nat) : Int).toNat = h := by omega
        have qph : (0 : Int) ≤ (h : Int) := by omega
        have qbh : (h : Int) < (N : Int) := by omega
        have qvh : IntKind.i64.wrap ((h : Nat) : Int) = (h : Int) := by rw [IntKind.wrap_i64]; omega
        have qea : ((a : Nat) : Int).toNat = a := by omega
        have qpa : (0 : Int) ≤ (a : Int) := by omega
        have qba : (a : Int) < (N : Int) := by omega
        have qva : IntKind.i64.wrap ((a : Nat) : Int) = (a : Int) := by rw [IntKind.wrap_i64]; omega
        obtain ⟨xx, hxx⟩ : ∃ z, z = d[h]! := ⟨_, rfl⟩
        obtain ⟨yy, hyy⟩ : ∃ z, z = d[a]! := ⟨_, rfl⟩
        have la := S1.out.ld R (by have := hds.out; omega) P h (by have := hds.out; omega)
        have lb := S1.out.ld R (by have := hds.out; omega) P a (by have := hds.out; omega)
        rw [← hxx] at la hl
        rw [← hyy] at lb hl
        have hc := S1.out.cmp HC.out (by have := hds.out; omega) xx yy
        have hd : decide (cf xx yy < 0) = true := decide_eq_true hl
        clear hxx hyy
        go_wp2_with fail
        go_quiet_grown (first | (go_at_fn g; refine Calls.grown_of (hc _ _)))
        have S2 : Aside (SWK enc k w0 blk off d (grow (wr.drewN nq) osq)) := S1.out.grown nq osq
        clear la lb hc S1
        generalize grow (wr.drewN nq) osq = w2 at S2 ⊢
        clear nq osq
        go_wp2
        go_roundg (j - (h + 1))
        case measure => omega
        case rel => exact ⟨h + 1, j, by go_num, rfl, by omega, by omega, by omega, by omega, S2⟩
      · have qeh : ((h : Nat) : Int).toNat = h := by omega
        have qph : (0 : Int) ≤ (h : Int) := by omega
        have qbh : (h : Int) < (N : Int) := by omega
        have qvh : IntKind.i64.wrap ((h : Nat) : Int) = (h : Int) := by rw [IntKind.wrap_i64]; omega
        have qea : ((a : Nat) : Int).toNat = a := by omega
        have qpa : (0 : Int) ≤ (a : Int) := by omega
        have qba : (a : Int) < (N : Int) := by omega
        have qva : IntKind.i64.wrap ((a : Nat) : Int) = (a : Int) := by rw [IntKind.wrap_i64]; omega
        obtain ⟨xx, hxx⟩ : ∃ z, z = d[h]! := ⟨_, rfl⟩
        obtain ⟨yy, hyy⟩ : ∃ z, z = d[a]! := ⟨_, rfl⟩
        have la := S1.out.ld R (by have := hds.out; omega) P h (by have := hds.out; omega)
        have lb := S1.out.ld R (by have := hds.out; omega) P a (by have := hds.out; omega)
        rw [← hxx] at la hl
        rw [← hyy] at lb hl
        have hc := S1.out.cmp HC.out (by have := hds.out; omega) xx yy
        have hd : decide (cf xx yy < 0) = false := decide_eq_false hl
        clear hxx hyy
        go_wp2_with fail
        go_quiet_grown (first | (go_at_fn g; refine Calls.grown_of (hc _ _)))
        have S2 : Aside (SWK enc k w0 blk off d (grow (wr.drewN nq) osq)) := S1.out.grown nq osq
        clear la lb hc S1
        generalize grow (wr.drewN nq) osq = w2 at S2 ⊢
        clear nq osq
        go_wp2
        go_roundg (h - i)
        case measure => omega
        case rel => exact ⟨i, h, rfl, rfl, by omega, by omega, by omega, by omega, S2⟩
    · obtain rfl : i = j := by omega
      have ri : IntKind.i64.wrap ((i : Int) - 1) = (i : Int) - 1 := by rw [IntKind.wrap_i64]; omega
      have hP0 : Hid (PermIn 0 d.size d d) := permIn_refl _ _ _
      go_wp2
      go_loopg [13] (i - 1 - a) (fun kx s8 wr => ∃ (x : Nat) (dk : Array α), s8 = .int .i64 x ∧ a ≤ x ∧ x ≤ i - 1 ∧ i - 1 - x ≤ kx ∧ Hid (dk.size = N) ∧ Aside (SWK enc k w0 blk off dk wr) ∧ Hid (PermIn 0 d.size d dk))
      case atStart => exact ⟨a, d, rfl, by omega, by omega, by omega, hds, S1, hP0⟩
      case round =>
        clear S1 hP0
        have HD0 := hds
        clear hds
        obtain ⟨x, dk, rfl, hax, hxi, hkx2, hds, S1, HP⟩ := hrel
        by_cases hlx : (x : Int) < (i : Int) - 1
        · obtain ⟨y, hy1, hy2⟩ : ∃ y, x < y ∧ y ≤ x + 1 := ⟨x + 1, by omega, by omega⟩
          have ry : (x : Int) + 1 = (y : Int) := by omega
          have qex : ((x : Nat) : Int).toNat = x := by omega
          have qpx : (0 : Int) ≤ (x : Int) := by omega
          have qbx : (x : Int) < (N : Int) := by omega
          have qvx : IntKind.i64.wrap ((x : Nat) : Int) = (x : Int) := by rw [IntKind.wrap_i64]; omega
          have qey : ((y : Nat) : Int).toNat = y := by omega
          have qpy : (0 : Int) ≤ (y : Int) := by omega
          have qby : (y : Int) < (N : Int) := by omega
          have qvy : IntKind.i64.wrap ((y : Nat) : Int) = (y : Int) := by rw [IntKind.wrap_i64]; omega
          have S2 : Aside (SWK enc k w0 blk off (swp dk x y) ((wr.drew.setCells blk (off + x * k) (enc dk[y]!)).setCells blk (off + y * k) (enc dk[x]!))) := S1.out.swapped R x y (by have := hds.out; omega) (by have := hds.out; omega)
          have la := S1.out.ld1 R (by have := hds.out; omega) P x (by have := hds.out; omega)
          have lb := S1.out.ld1 R (by have := hds.out; omega) P y (by have := hds.out; omega)
          have sa := S1.out.st1 R (by have := hds.out; omega) P x (by have := hds.out; omega) dk[y]!
          have sb := S1.out.st2 R (by have := hds.out; omega) P x y (by have := hds.out; omega) (by have := hds.out; omega) dk[y]! dk[x]!
          have na : (enc dk[x]!).length = k := R.hk _
          have nb : (enc dk[y]!).length = k := R.hk _
          generalize enc dk[x]! = cI at S2 la sb na
          generalize enc dk[y]! = cJ at S2 lb sa sb nb
          clear S1
          go_wp2_with fail
          go_big_region_o
          clear la lb sa sb
          generalize (wr.drew.setCells blk (off + x * k) cJ).setCells blk (off + y * k) cI = w2 at S2 ⊢
          go_wp2
          go_roundg (i - 1 - y)
          case measure => omega
          case rel => exact ⟨y, swp dk x y, by first | rfl | go_num, by omega, by omega, Nat.le_refl _, (show Hid _ from by show _ = _; rw [size_swp]; exact hds), S2, permIn_trans _ _ _ _ _ HP (swp_permIn dk 0 d.size x y (by omega) (by have := HD0.out; omega) (by omega) (by have := HD0.out; omega) (by have := hds.out; have := HD0.out; omega))⟩
        · go_wp2
          go_end0
          exact ⟨rfl, dk, HP, S1.out⟩
end Go.Proofs.YtgcjmjhdnkffcaaGreatDoor
/- slices.SortStableFunc's family (zsortanyfunc.go): symMerge, where the right part is one element. No condition. Printed by wip/genstb.py. -/
set_option linter.unusedVariables false
set_option linter.unusedSimpArgs false
namespace Go.Proofs.YtgcjmjhdnkffcaaGreatDoor
open Go.Shelf Go.RowKit Go.Lib Go.Sort
variable {P : Program} {α : Type} [Inhabited α] {enc : α → List Value} {k : Nat} {w0 : World} {blk off cap : Nat} {d0 : Array α}
set_option maxHeartbeats 4000000 in
set_option maxRecDepth 1000000 in
theorem merge_right (L : SortW P k) (cf : α → α → Int) (g : Nat) (cb : Array Value) (a m b N : Nat) (d : Array α) (w : World) (eg : ∀ args w, (callFunc g args).run P w = .ok (.enter g args) w) (hcmp : CmpLays P g cb enc k cf blk off N w0)
    (hN : d.size = N) (R : RowK enc k w0 blk off d0) (hs : d0.size = N) (S : SWK enc k w0 blk off d w) (ham : a < m) (hmb : m < b) (hb : b ≤ N) (hsz : N < 1000000) (h1 : ¬ m - a = 1) (h2 : b - m = 1) :
    Calls P 63 #[.slice (some ⟨blk, off, none⟩) N cap, .int .i64 a, .int .i64 m, .int .i64 b, .func (.func g) #[] cb] w (StPost enc k w0 blk off d) := by
  have mixed := L.mixed; have t0 := L.t0; have a0 := L.a0; have z0 := L.z0; have v0 := L.v0; have t3 := L.t3; have a3 := L.a3; have z3 := L.z3; have v3 := L.v3; have t4 := L.t4; have a4 := L.a4; have z4 := L.z4; have v4 := L.v4; have tS := L.tS; have aS := L.aS; have zS := L.zS; have vS := L.vS; have tF := L.tF; have aF := L.aF; have zF := L.zF; have vF := L.vF; have aE := L.aE; have zE := L.zE; have tU := L.tU; have aU := L.aU; have zU := L.zU; have vU := L.vU
  have FG := L.fM
  have HC : Aside _ := hcmp
  have S0 : Aside (SWK enc k w0 blk off d w) := S
  clear S L hcmp
  have hds : Hid (d.size = N) := hN
  clear hN
  have c1' : ¬ (m : Int) - (a : Int) = 1 := by omega
  have c2' : (b : Int) - (m : Int) = 1 := by omega
  have c3 : IntKind.i64.wrap ((m : Int) - (a : Int)) = (m : Int) - (a : Int) := by rw [IntKind.wrap_i64]; omega
  have c4 : IntKind.i64.wrap ((b : Int) - (m : Int)) = 1 := by rw [IntKind.wrap_i64]; omega
  have c5 : ((m : Int) - (a : Int) == 1) = false := by simpa using c1'
  go_enter FG, Tryz.ntmps63
  go_wp2
  go_loopg [14, 15] (m - a) (fun kx s8 s9 wr => ∃ (i j : Nat), s8 = .int .i64 i ∧ s9 = .int .i64 j ∧ a ≤ i ∧ i ≤ j ∧ j ≤ m ∧ j - i ≤ kx ∧ Aside (SWK enc k w0 blk off d wr))
  case atStart => exact ⟨a, m, rfl, rfl, by omega, by omega, by omega, by omega, S0⟩
  case round =>
    clear S0
    obtain ⟨i, j, rfl, rfl, hmi, hij, hjb, hkx, S1⟩ := hrel
    by_cases hlt : (i : Int) < (j : Int)
    · obtain ⟨h, hih, hhj, rh⟩ : ∃ h : Nat, i ≤ h ∧ h < j ∧ ((i : Int) + (j : Int)) / 2 = (h : Int) := ⟨(i + j) / 2, by omega, by omega, by omega⟩
      by_cases hl : cf d[m]! d[h]! < 0
      · have qem : ((m : Nat) : Int).toNat = m := by omega
        have qpm : (0 : Int) ≤ (m : Int) := by omega
        have qbm : (m : Int) < (N : Int) := by omega
        have qvm : IntKind.i64.wrap ((m : Nat) : Int) = (m : Int) := by rw [IntKind.wrap_i64]; omega
        have qeh : ((h : Nat) : Int).toNat = h := by omega
        have qph : (0 : Int) ≤ (h : Int) := by omega
        have qbh : (h : Int) < (N : Int) := by omega
        have qvh : IntKind.i64.wrap ((h : Nat) : Int) = (h : Int) := by rw [IntKind.wrap_i64]; omega
        obtain ⟨xx, hxx⟩ : ∃ z, z = d[m]! := ⟨_, rfl⟩
        obtain ⟨yy, hyy⟩ : ∃ z, z = d[h]! := ⟨_, rfl⟩
        have la := S1.out.ld R (by have := hds.out; omega) P m (by have := hds.out; omega)
        have lb := S1.out.ld R (by have := hds.out; omega) P h (by have := hds.out; omega)
        rw [← hxx] at la hl
        rw [← hyy] at lb hl
        have hc := S1.out.cmp HC.out (by have := hds.out; omega) xx yy
        have hd : decide (cf xx yy < 0) = true := decide_eq_true hl
        clear hxx hyy
        go_wp2_with fail
        go_quiet_grown (first | (go_at_fn g; refine Calls.grown_of (hc _ _)))
        have S2 : Aside (SWK enc k w0 blk off d (grow (wr.drewN nq) osq)) := S1.out.grown nq osq
        clear la lb hc S1
        generalize grow (wr.drewN nq) osq = w2 at S2 ⊢
        clear nq osq
        go_wp2
        go_roundg (h - i)
        case measure => omega
        case rel => exact ⟨i, h, rfl, rfl, by omega, by omega, by omega, by omega, S2⟩
      · have qem : ((m : Nat) : Int).toNat = m := by omega
        have qpm : (0 : Int) ≤ (m : Int) := by omega
        have qbm : (m : Int) < (N : Int) := by omega
        have qvm : IntKind.i64.wrap ((m : Nat) : Int) = (m : Int) := by rw [IntKind.wrap_i64]; omega
        have qeh : ((h : Nat) : Int).toNat = h := by omega
        have qph : (0 : Int) ≤ (h : Int) := by omega
        have qbh : (h : Int) < (N : Int) := by omega
        have qvh : IntKind.i64.wrap ((h : Nat) : Int) = (h : Int) := by rw [IntKind.wrap_i64]; omega
        obtain ⟨xx, hxx⟩ : ∃ z, z = d[m]! := ⟨_, rfl⟩
        obtain ⟨yy, hyy⟩ : ∃ z, z = d[h]! := ⟨_, rfl⟩
        have la := S1.out.ld R (by have := hds.out; omega) P m (by have := hds.out; omega)
        have lb := S1.out.ld R (by have := hds.out; omega) P h (by have := hds.out; omega)
        rw [← hxx] at la hl
        rw [← hyy] at lb hl
        have hc := S1.out.cmp HC.out (by have := hds.out; omega) xx yy
        have hd : decide (cf xx yy < 0) = false := decide_eq_false hl
        clear hxx hyy
        go_wp2_with fail
        go_quiet_grown (first | (go_at_fn g; refine Calls.grown_of (hc _ _)))
        have S2 : Aside (SWK enc k w0 blk off d (grow (wr.drewN nq) osq)) := S1.out.grown nq osq
        clear la lb hc S1
        generalize grow (wr.drewN nq) osq = w2 at S2 ⊢
        clear nq osq
        go_wp2
        go_roundg (j - (h + 1))
        case measure => omega
        case rel => exact ⟨h + 1, j, by go_num, rfl, by omega, by omega, by omega, by omega, S2⟩
    · obtain rfl : i = j := by omega
      have hP0 : Hid (PermIn 0 d.size d d) := permIn_refl _ _ _
      go_wp2
      go_loopg [17] (m - i) (fun kx s8 wr => ∃ (x : Nat) (dk : Array α), s8 = .int .i64 x ∧ i ≤ x ∧ x ≤ m ∧ x - i ≤ kx ∧ Hid (dk.size = N) ∧ Aside (SWK enc k w0 blk off dk wr) ∧ Hid (PermIn 0 d.size d dk))
      case atStart => exact ⟨m, d, rfl, by omega, by omega, by omega, hds, S1, hP0⟩
      case round =>
        clear S1 hP0
        have HD0 := hds
        clear hds
        obtain ⟨x, dk, rfl, hax, hxi, hkx2, hds, S1, HP⟩ := hrel
        by_cases hlx : (i : Int) < (x : Int)
        · obtain ⟨y, hy1, hy2⟩ : ∃ y, y < x ∧ x ≤ y + 1 := ⟨x - 1, by omega, by omega⟩
          have ry : (x : Int) - 1 = (y : Int) := by omega
          have ry2 : IntKind.i64.wrap ((x : Int) - 1) = (y : Int) := by rw [IntKind.wrap_i64]; omega
          have qex : ((x : Nat) : Int).toNat = x := by omega
          have qpx : (0 : Int) ≤ (x : Int) := by omega
          have qbx : (x : Int) < (N : Int) := by omega
          have qvx : IntKind.i64.wrap ((x : Nat) : Int) = (x : Int) := by rw [IntKind.wrap_i64]; omega
          have qey : ((y : Nat) : Int).toNat = y := by omega
          have qpy : (0 : Int) ≤ (y : Int) := by omega
          have qby : (y : Int) < (N : Int) := by omega
          have qvy : IntKind.i64.wrap ((y : Nat) : Int) = (y : Int) := by rw [IntKind.wrap_i64]; omega
          have S2 : Aside (SWK enc k w0 blk off (swp dk x y) ((wr.drew.setCells blk (off + x * k) (enc dk[y]!)).setCells blk (off + y * k) (enc dk[x]!))) := S1.out.swapped R x y (by have := hds.out; omega) (by have := hds.out; omega)
          have la := S1.out.ld1 R (by have := hds.out; omega) P x (by have := hds.out; omega)
          have lb := S1.out.ld1 R (by have := hds.out; omega) P y (by have := hds.out; omega)
          have sa := S1.out.st1 R (by have := hds.out; omega) P x (by have := hds.out; omega) dk[y]!
          have sb := S1.out.st2 R (by have := hds.out; omega) P x y (by have := hds.out; omega) (by have := hds.out; omega) dk[y]! dk[x]!
          have na : (enc dk[x]!).length = k := R.hk _
          have nb : (enc dk[y]!).length = k := R.hk _
          generalize enc dk[x]! = cI at S2 la sb na
          generalize enc dk[y]! = cJ at S2 lb sa sb nb
          clear S1
          go_wp2_with fail
          go_big_region_o
          clear la lb sa sb
          generalize (wr.drew.setCells blk (off + x * k) cJ).setCells blk (off + y * k) cI = w2 at S2 ⊢
          go_wp2
          go_roundg (y - i)
          case measure => omega
          case rel => exact ⟨y, swp dk x y, by first | rfl | go_num, by omega, by omega, Nat.le_refl _, (show Hid _ from by show _ = _; rw [size_swp]; exact hds), S2, permIn_trans _ _ _ _ _ HP (swp_permIn dk 0 d.size x y (by omega) (by have := HD0.out; omega) (by omega) (by have := HD0.out; omega) (by have := hds.out; have := HD0.out; omega))⟩
        · go_wp2
          go_end0
          exact ⟨rfl, dk, HP, S1.out⟩
end Go.Proofs.YtgcjmjhdnkffcaaGreatDoor
