/- Contract: the document's alikeBy: two asks, by all ways in which the atoms that are left may be. -/
import Derived.Test.YtkelkpfjkjcmgaaDoorAskBy
import Derived.Test.YtkelkpfjkjcmgaaDoorAskNorm
import Derived.Test.YtkelkpfjkjcmgaaDoorFullStep
import Derived.Deep.RegionHeld3
namespace Go.Proofs.YtkelkpfjkjcmgaaDoor
open Go.ChangeShapes Go.WideShapes Go.ChangeAt Go.RowKit
set_option linter.unusedVariables false
open Tp
theorem one_val (w : World) (S : ByteArray) (t : TypeId) : Vals (w.alloc (.cells #[.string S] t)) (some ⟨w.heap.size, 0, none⟩) [.string S] := fun _ => ⟨w.heap.size, 0, rfl, by simp, fun i v hi => by
  cases i with
  | zero => rw [← hi]; exact (cell_top _ _ _ _ _ rfl).trans rfl
  | succ i => simp at hi⟩
/-- by all ways in which the atoms of L may be, those of R being so -/
def alikeR (x y : Ask) : List Bs → List Bs → Bool
  | [], R => x.ev (inR R) == y.ev (inR R)
  | t :: L, R => alikeR x y L R && alikeR x y L (R ++ [t])
set_option maxRecDepth 20000 in
set_option maxHeartbeats 64000000 in
theorem alikeBy_all (x y : Ask) (hex : x.err = 0) (hey : y.err = 0) : ∀ (L R : List Bs) (vx vy : Value) (w : World) (la : Option Addr) (ln lc : Nat) (ra : Option Addr) (rm rc : Nat), ln = L.length → ln ≤ lc → lc ≤ 9223372036854775807 → rm = R.length → rm + ln ≤ 1000 → rm ≤ rc → rc ≤ 9223372036854775807 → (ra = none → rm = 0 ∧ rc = 0) → (∀ p, ra = some p → p.spot = none) → Vals w la (txv L) → Vals w ra (txv R) → AskV w x vx → AskV w y vy →
    Calls Tryd.prog 29 #[vx, vy, .slice la ln lc, .slice ra rm rc] w fun e w' => e = .returned (.bool (alikeR x y L R)) ∧ Below w.heap.size w w' := by
  intro L
  induction L with
  | nil =>
    intro R vx vy w la ln lc ra rm rc hln hlc hlc2 hrm hbig hrc hrc2 hra hrs hlv hrv hx hy
    obtain rfl : ln = 0 := hln
    obtain ⟨k, a1, a2, nu, ad, n, cap, rfl⟩ := hx.form
    obtain ⟨k', a1', a2', nu', ad', n', cap', rfl⟩ := hy.form
    obtain ⟨W0, hW0⟩ : ∃ W, W = (w.alloc (.cells #[.int .i64 k, .string a1, .string a2, .int .i64 nu, .slice ad n cap] 24)).alloc (.cells #[.int .i64 k', .string a1', .string a2', .int .i64 nu', .slice ad' n' cap'] 24) := ⟨_, rfl⟩
    have hb9' : Below w.heap.size w W0 := by rw [hW0]; exact ((Below.refl _ _).alloc (Nat.le_refl _) _).alloc (by simp) _
    have HB9 := Lib.hid hb9'
    have hsz : W0.heap.size = w.heap.size + 2 := by rw [hW0]; simp
    obtain ⟨cx, hcx⟩ : ∃ c, c = w.heap.size := ⟨_, rfl⟩
    have d0 : W0.cell? ⟨cx, 0, none⟩ = some (.int .i64 k) := by rw [hW0, hcx]; simp
    have d1 : W0.cell? ⟨cx, 1, none⟩ = some (.string a1) := by rw [hW0, hcx]; simp
    have d2 : W0.cell? ⟨cx, 2, none⟩ = some (.string a2) := by rw [hW0, hcx]; simp
    have d3 : W0.cell? ⟨cx, 3, none⟩ = some (.int .i64 nu) := by rw [hW0, hcx]; simp
    have d4 : W0.cell? ⟨cx, 4, none⟩ = some (.slice ad n cap) := by rw [hW0, hcx]; simp
    have g0 : W0.cell? ⟨cx + 1, 0, none⟩ = some (.int .i64 k') := by rw [hW0, hcx]; simp
    have g1 : W0.cell? ⟨cx + 1, 1, none⟩ = some (.string a1') := by rw [hW0, hcx]; simp
    have g2 : W0.cell? ⟨cx + 1, 2, none⟩ = some (.string a2') := by rw [hW0, hcx]; simp
    have g3 : W0.cell? ⟨cx + 1, 3, none⟩ = some (.int .i64 nu') := by rw [hW0, hcx]; simp
    have g4 : W0.cell? ⟨cx + 1, 4, none⟩ = some (.slice ad' n' cap') := by rw [hW0, hcx]; simp
    have hcx0 : cx < W0.heap.size := by omega
    have hcx1 : cx + 1 < W0.heap.size := by omega
    have HXV := Lib.hid (AskV.below hb9' _ _ hx)
    have HYV := Lib.hid (AskV.below hb9' _ _ hy)
    clear hb9' hx hy hsz
    have hb9 := HB9.out
    have HV0 : Hid (∀ W, Below W0.heap.size W0 W → Calls Tryd.prog 37 #[.agg #[.int .i64 k, .string a1, .string a2, .int .i64 nu, .slice ad n cap], .slice ra rm rc] W fun e w' => e = .returned (.bool (x.ev (inR R))) ∧ Below W.heap.size W w') := Lib.hid (fun W hW => holdsBy_all R ra rm rc hrm (by omega) x.size x _ W (Nat.le_refl _) hex (hrv.below (hb9.trans (hW.mono hb9.size)) (Nat.le_refl _)) (AskV.below hW _ _ HXV.out))
    have HV1 : Hid (∀ W, Below W0.heap.size W0 W → Calls Tryd.prog 37 #[.agg #[.int .i64 k', .string a1', .string a2', .int .i64 nu', .slice ad' n' cap'], .slice ra rm rc] W fun e w' => e = .returned (.bool (y.ev (inR R))) ∧ Below W.heap.size W w') := Lib.hid (fun W hW => holdsBy_all R ra rm rc hrm (by omega) y.size y _ W (Nat.le_refl _) hey (hrv.below (hb9.trans (hW.mono hb9.size)) (Nat.le_refl _)) (AskV.below hW _ _ HYV.out))
    obtain ⟨bx, hbx⟩ : ∃ b, x.ev (inR R) = b := ⟨_, rfl⟩
    obtain ⟨by', hby⟩ : ∃ b, y.ev (inR R) = b := ⟨_, rfl⟩
    obtain ⟨V, hV⟩ : ∃ V, alikeR x y [] R = V := ⟨_, rfl⟩
    have HV : Hid ((bx == by') = V) := Lib.hid (by rw [← hV, alikeR, hbx, hby])
    rw [hbx] at HV0
    rw [hby] at HV1
    rw [hV]
    have d0d : W0.drew.cell? ⟨cx, 0, none⟩ = some (.int .i64 k) := d0
    have d1d : W0.drew.cell? ⟨cx, 1, none⟩ = some (.string a1) := d1
    have d2d : W0.drew.cell? ⟨cx, 2, none⟩ = some (.string a2) := d2
    have d3d : W0.drew.cell? ⟨cx, 3, none⟩ = some (.int .i64 nu) := d3
    have d4d : W0.drew.cell? ⟨cx, 4, none⟩ = some (.slice ad n cap) := d4
    have g0d : W0.drew.cell? ⟨cx + 1, 0, none⟩ = some (.int .i64 k') := g0
    have g1d : W0.drew.cell? ⟨cx + 1, 1, none⟩ = some (.string a1') := g1
    have g2d : W0.drew.cell? ⟨cx + 1, 2, none⟩ = some (.string a2') := g2
    have g3d : W0.drew.cell? ⟨cx + 1, 3, none⟩ = some (.int .i64 nu') := g3
    have g4d : W0.drew.cell? ⟨cx + 1, 4, none⟩ = some (.slice ad' n' cap') := g4
    clear hex hey hrm hra hrs hlv hrv hbx hby hV hb9 hrc hrc2 hlc hlc2 hbig
    go_enter Tryd.func29, Tryd.ntmps29
    go_upto_region 1 with fail
    rw [← hW0, ← hcx]
    clear hW0 hcx
    go_upto_region 2 with fail
    (go_region_held3 (fun W => W.cell? ⟨cx, 0, none⟩ = some (.int .i64 k) ∧ W.cell? ⟨cx, 1, none⟩ = some (.string a1) ∧ W.cell? ⟨cx, 2, none⟩ = some (.string a2) ∧ W.cell? ⟨cx, 3, none⟩ = some (.int .i64 nu) ∧ W.cell? ⟨cx, 4, none⟩ = some (.slice ad n cap) ∧ W.cell? ⟨cx + 1, 0, none⟩ = some (.int .i64 k') ∧ W.cell? ⟨cx + 1, 1, none⟩ = some (.string a1') ∧ W.cell? ⟨cx + 1, 2, none⟩ = some (.string a2') ∧ W.cell? ⟨cx + 1, 3, none⟩ = some (.int .i64 nu') ∧ W.cell? ⟨cx + 1, 4, none⟩ = some (.slice ad' n' cap')) (first | with_reducible exact ⟨d0, d1, d2, d3, d4, g0, g1, g2, g3, g4⟩ | with_reducible exact ⟨d0d, d1d, d2d, d3d, d4d, g0d, g1d, g2d, g3d, g4d⟩ | with_reducible exact ⟨d0a, d1a, d2a, d3a, d4a, g0a, g1a, g2a, g3a, g4a⟩ | with_reducible exact ⟨d0b, d1b, d2b, d3b, d4b, g0b, g1b, g2b, g3b, g4b⟩ | go_keep) (first | (go_at_call 37; have hxx := hb1.size; clear hxx; refine Calls.mono (HV1.out _ ((show Below W0.heap.size W0 W0.drew from by go_grown).trans hb1)) ?_; rintro e w2 ⟨rfl, hb2⟩; have d0b : w2.cell? ⟨cx, 0, none⟩ = some (.int .i64 k) := (hb2.cell (p := ⟨cx, 0, none⟩) (Nat.lt_of_lt_of_le hcx0 hb1.size)).trans d0a; have d1b : w2.cell? ⟨cx, 1, none⟩ = some (.string a1) := (hb2.cell (p := ⟨cx, 1, none⟩) (Nat.lt_of_lt_of_le hcx0 hb1.size)).trans d1a; have d2b : w2.cell? ⟨cx, 2, none⟩ = some (.string a2) := (hb2.cell (p := ⟨cx, 2, none⟩) (Nat.lt_of_lt_of_le hcx0 hb1.size)).trans d2a; have d3b : w2.cell? ⟨cx, 3, none⟩ = some (.int .i64 nu) := (hb2.cell (p := ⟨cx, 3, none⟩) (Nat.lt_of_lt_of_le hcx0 hb1.size)).trans d3a; have d4b : w2.cell? ⟨cx, 4, none⟩ = some (.slice ad n cap) := (hb2.cell (p := ⟨cx, 4, none⟩) (Nat.lt_of_lt_of_le hcx0 hb1.size)).trans d4a; have g0b : w2.cell? ⟨cx + 1, 0, none⟩ = some (.int .i64 k') := (hb2.cell (p := ⟨cx + 1, 0, none⟩) (Nat.lt_of_lt_of_le hcx1 hb1.size)).trans g0a; have g1b : w2.cell? ⟨cx + 1, 1, none⟩ = some (.string a1') := (hb2.cell (p := ⟨cx + 1, 1, none⟩) (Nat.lt_of_lt_of_le hcx1 hb1.size)).trans g1a; have g2b : w2.cell? ⟨cx + 1, 2, none⟩ = some (.string a2') := (hb2.cell (p := ⟨cx + 1, 2, none⟩) (Nat.lt_of_lt_of_le hcx1 hb1.size)).trans g2a; have g3b : w2.cell? ⟨cx + 1, 3, none⟩ = some (.int .i64 nu') := (hb2.cell (p := ⟨cx + 1, 3, none⟩) (Nat.lt_of_lt_of_le hcx1 hb1.size)).trans g3a; have g4b : w2.cell? ⟨cx + 1, 4, none⟩ = some (.slice ad' n' cap') := (hb2.cell (p := ⟨cx + 1, 4, none⟩) (Nat.lt_of_lt_of_le hcx1 hb1.size)).trans g4a) | (go_at_call 37; refine Calls.mono (HV0.out _ (by first | exact Below.refl _ _ | go_grown)) ?_; rintro e w1 ⟨rfl, hb1⟩; have d0a : w1.cell? ⟨cx, 0, none⟩ = some (.int .i64 k) := (hb1.cell (p := ⟨cx, 0, none⟩) hcx0).trans d0; have d1a : w1.cell? ⟨cx, 1, none⟩ = some (.string a1) := (hb1.cell (p := ⟨cx, 1, none⟩) hcx0).trans d1; have d2a : w1.cell? ⟨cx, 2, none⟩ = some (.string a2) := (hb1.cell (p := ⟨cx, 2, none⟩) hcx0).trans d2; have d3a : w1.cell? ⟨cx, 3, none⟩ = some (.int .i64 nu) := (hb1.cell (p := ⟨cx, 3, none⟩) hcx0).trans d3; have d4a : w1.cell? ⟨cx, 4, none⟩ = some (.slice ad n cap) := (hb1.cell (p := ⟨cx, 4, none⟩) hcx0).trans d4; have g0a : w1.cell? ⟨cx + 1, 0, none⟩ = some (.int .i64 k') := (hb1.cell (p := ⟨cx + 1, 0, none⟩) hcx1).trans g0; have g1a : w1.cell? ⟨cx + 1, 1, none⟩ = some (.string a1') := (hb1.cell (p := ⟨cx + 1, 1, none⟩) hcx1).trans g1; have g2a : w1.cell? ⟨cx + 1, 2, none⟩ = some (.string a2') := (hb1.cell (p := ⟨cx + 1, 2, none⟩) hcx1).trans g2; have g3a : w1.cell? ⟨cx + 1, 3, none⟩ = some (.int .i64 nu') := (hb1.cell (p := ⟨cx + 1, 3, none⟩) hcx1).trans g3; have g4a : w1.cell? ⟨cx + 1, 4, none⟩ = some (.slice ad' n' cap') := (hb1.cell (p := ⟨cx + 1, 4, none⟩) hcx1).trans g4)))
    all_goals
      go_wp2_with fail
      go_ret
      exact ⟨by rw [← HV.out]; rfl, HB9.out.trans ((((show Below W0.heap.size W0 W0.drew from by go_grown).trans hb1).trans (hb2.mono (by have := hb1.size; exact this))).mono HB9.out.size)⟩
  | cons t L ih =>
    intro R vx vy w la ln lc ra rm rc hln hlc hlc2 hrm hbig hrc hrc2 hra hrs hlv hrv hx hy
    obtain ⟨n1, rfl⟩ : ∃ n, ln = n + 1 := ⟨L.length, hln⟩
    obtain ⟨c1, rfl⟩ : ∃ c, lc = c + 1 := ⟨lc - 1, by omega⟩
    have hn1 : n1 = L.length := by simpa using hln
    obtain ⟨lb, lo, rfl, hlb0, hlcell⟩ := hlv (by simp [txv])
    obtain ⟨k, a1, a2, nu, ad, n, cap, rfl⟩ := hx.form
    obtain ⟨k', a1', a2', nu', ad', n', cap', rfl⟩ := hy.form
    obtain ⟨W0, hW0⟩ : ∃ W, W = (w.alloc (.cells #[.int .i64 k, .string a1, .string a2, .int .i64 nu, .slice ad n cap] 24)).alloc (.cells #[.int .i64 k', .string a1', .string a2', .int .i64 nu', .slice ad' n' cap'] 24) := ⟨_, rfl⟩
    have hb9' : Below w.heap.size w W0 := by rw [hW0]; exact ((Below.refl _ _).alloc (Nat.le_refl _) _).alloc (by simp) _
    have HB9 := Lib.hid hb9'
    have hsz : W0.heap.size = w.heap.size + 2 := by rw [hW0]; simp
    obtain ⟨cx, hcx⟩ : ∃ c, c = w.heap.size := ⟨_, rfl⟩
    have d0 : W0.cell? ⟨cx, 0, none⟩ = some (.int .i64 k) := by rw [hW0, hcx]; simp
    have d1 : W0.cell? ⟨cx, 1, none⟩ = some (.string a1) := by rw [hW0, hcx]; simp
    have d2 : W0.cell? ⟨cx, 2, none⟩ = some (.string a2) := by rw [hW0, hcx]; simp
    have d3 : W0.cell? ⟨cx, 3, none⟩ = some (.int .i64 nu) := by rw [hW0, hcx]; simp
    have d4 : W0.cell? ⟨cx, 4, none⟩ = some (.slice ad n cap) := by rw [hW0, hcx]; simp
    have g0 : W0.cell? ⟨cx + 1, 0, none⟩ = some (.int .i64 k') := by rw [hW0, hcx]; simp
    have g1 : W0.cell? ⟨cx + 1, 1, none⟩ = some (.string a1') := by rw [hW0, hcx]; simp
    have g2 : W0.cell? ⟨cx + 1, 2, none⟩ = some (.string a2') := by rw [hW0, hcx]; simp
    have g3 : W0.cell? ⟨cx + 1, 3, none⟩ = some (.int .i64 nu') := by rw [hW0, hcx]; simp
    have g4 : W0.cell? ⟨cx + 1, 4, none⟩ = some (.slice ad' n' cap') := by rw [hW0, hcx]; simp
    have hcx0 : cx < W0.heap.size := by omega
    have hcx1 : cx + 1 < W0.heap.size := by omega
    have HXV := Lib.hid (AskV.below hb9' _ _ hx)
    have HYV := Lib.hid (AskV.below hb9' _ _ hy)
    clear hb9' hx hy hsz
    have hb9 := HB9.out
    have HLC := Lib.hid hlcell
    obtain ⟨S, hS⟩ : ∃ S, bts t = S := ⟨_, rfl⟩
    have m0 : W0.cell? ⟨lb, lo, none⟩ = some (.string S) := by
      rw [hb9.cell (p := ⟨lb, lo, none⟩) hlb0, ← hS]
      simpa using hlcell 0 _ rfl
    have hlb : lb < W0.heap.size := Nat.lt_of_lt_of_le hlb0 hb9.size
    have HTL : Hid (∀ W, Below w.heap.size w W → ∀ d, (0 < n1 → d = lo + 1) → Vals W (some ⟨lb, d, none⟩) (txv L)) := Lib.hid (fun W hW d hd hp => by
      have hp' : 0 < n1 := by rw [txv_length] at hp; omega
      refine ⟨lb, d, rfl, Nat.lt_of_lt_of_le hlb0 hW.size, fun i v hi => ?_⟩
      rw [hd hp', hW.cell (p := ⟨lb, _, none⟩) hlb0, Nat.add_assoc, Nat.add_comm 1 i]
      exact hlcell (i + 1) v (by simpa [txv] using hi))
    have HC0 : Hid (∀ W d, Below W0.heap.size W0 W → (0 < n1 → d = lo + 1) → Calls Tryd.prog 29 #[.agg #[.int .i64 k, .string a1, .string a2, .int .i64 nu, .slice ad n cap], .agg #[.int .i64 k', .string a1', .string a2', .int .i64 nu', .slice ad' n' cap'], .slice (some ⟨lb, d, none⟩) n1 c1, .slice ra rm rc] W fun e w' => e = .returned (.bool (alikeR x y L R)) ∧ Below W.heap.size W w') := Lib.hid (fun W d hW hd => ih R _ _ W _ n1 c1 ra rm rc hn1 (by omega) (by omega) hrm (by omega) hrc hrc2 hra hrs (HTL.out W (hb9.trans (hW.mono hb9.size)) d hd) (hrv.below (hb9.trans (hW.mono hb9.size)) (Nat.le_refl _)) (AskV.below hW _ _ HXV.out) (AskV.below hW _ _ HYV.out))
    have HC1 : Hid (∀ W d ga gc, Below W0.heap.size W0 W → (0 < n1 → d = lo + 1) → rm + 1 ≤ gc → gc ≤ 9223372036854775807 → (ga = none → rm + 1 = 0 ∧ gc = 0) → (∀ p, ga = some p → p.spot = none) → Vals W ga (txv (R ++ [t])) → Calls Tryd.prog 29 #[.agg #[.int .i64 k, .string a1, .string a2, .int .i64 nu, .slice ad n cap], .agg #[.int .i64 k', .string a1', .string a2', .int .i64 nu', .slice ad' n' cap'], .slice (some ⟨lb, d, none⟩) n1 c1, .slice ga (rm + 1) gc] W fun e w' => e = .returned (.bool (alikeR x y L (R ++ [t]))) ∧ Below W.heap.size W w') := Lib.hid (fun W d ga gc hW hd h1 h2 h3 h4 hv => ih (R ++ [t]) _ _ W _ n1 c1 ga (rm + 1) gc hn1 (by omega) (by omega) (by simp; omega) (by omega) h1 h2 h3 h4 (HTL.out W (hb9.trans (hW.mono hb9.size)) d hd) hv (AskV.below hW _ _ HXV.out) (AskV.below hW _ _ HYV.out))
    obtain ⟨b1, hb1'⟩ : ∃ b, alikeR x y L R = b := ⟨_, rfl⟩
    obtain ⟨b2, hb2'⟩ : ∃ b, alikeR x y L (R ++ [t]) = b := ⟨_, rfl⟩
    obtain ⟨V, hV⟩ : ∃ V, alikeR x y (t :: L) R = V := ⟨_, rfl⟩
    have HV : Hid ((b1 && b2) = V) := Lib.hid (by rw [← hV, alikeR, hb1', hb2'])
    rw [hb1'] at HC0
    rw [hb2'] at HC1
    rw [hV]
    have d0d : W0.drew.cell? ⟨cx, 0, none⟩ = some (.int .i64 k) := d0
    have d1d : W0.drew.cell? ⟨cx, 1, none⟩ = some (.string a1) := d1
    have d2d : W0.drew.cell? ⟨cx, 2, none⟩ = some (.string a2) := d2
    have d3d : W0.drew.cell? ⟨cx, 3, none⟩ = some (.int .i64 nu) := d3
    have d4d : W0.drew.cell? ⟨cx, 4, none⟩ = some (.slice ad n cap) := d4
    have g0d : W0.drew.cell? ⟨cx + 1, 0, none⟩ = some (.int .i64 k') := g0
    have g1d : W0.drew.cell? ⟨cx + 1, 1, none⟩ = some (.string a1') := g1
    have g2d : W0.drew.cell? ⟨cx + 1, 2, none⟩ = some (.string a2') := g2
    have g3d : W0.drew.cell? ⟨cx + 1, 3, none⟩ = some (.int .i64 nu') := g3
    have g4d : W0.drew.cell? ⟨cx + 1, 4, none⟩ = some (.slice ad' n' cap') := g4
    have m0d : W0.drew.cell? ⟨lb, lo, none⟩ = some (.string S) := m0
    have HRV : Hid (∀ W, Below W0.heap.size W0 W → Vals W ra (txv R)) := Lib.hid (fun W hW => hrv.below (hb9.trans (hW.mono hb9.size)) (Nat.le_refl _))
    have HRM : Hid (rm = R.length) := Lib.hid hrm
    have HSS := Lib.hid hS
    have hl0 : (n1 : Int) + 1 ≠ 0 := by omega
    have hl1 : ((n1 + 1 : Nat) : Int) ≠ 0 := by omega
    have i1 : (0 : Int) < (n1 : Int) + 1 := by omega
    have i2 : (1 : Int) ≤ (n1 : Int) + 1 := by omega
    have i3 : (n1 : Int) + 1 ≤ (c1 : Int) + 1 := by omega
    have i4 : (1 : Int) ≤ (c1 : Int) + 1 := by omega
    have hrm9 : rm ≤ 1000 := by omega
    have i5 : (rm : Int) ≤ (rc : Int) := by omega
    have i6 : (0 : Int) ≤ (rm : Int) := by omega
    have hq1 : n1 ≤ 1000 := by omega
    clear ih hex hey hln hn1 hrm hlv hrv hlcell hlb0 hb1' hb2' hV hb9 hS hrc hlc hbig
    have HTX : Hid (txv R ++ [.string S] = txv (R ++ [t])) := Lib.hid (by rw [txv_push, HSS.out])
    cases ra with
    | none =>
      obtain ⟨rfl, rfl⟩ := hra rfl
      clear hra hrs
      cases c1 with
      | zero =>
        obtain rfl : n1 = 0 := by omega
        cases b1 with
        | false =>
          go_enter Tryd.func29, Tryd.ntmps29
          go_upto_region 1 with fail
          rw [← hW0, ← hcx]
          clear hW0 hcx
          go_upto_region 3 with fail
          refine wp_region_held_drew (S := fun W => W.cell? ⟨cx, 0, none⟩ = some (.int .i64 k) ∧ W.cell? ⟨cx, 1, none⟩ = some (.string a1) ∧ W.cell? ⟨cx, 2, none⟩ = some (.string a2) ∧ W.cell? ⟨cx, 3, none⟩ = some (.int .i64 nu) ∧ W.cell? ⟨cx, 4, none⟩ = some (.slice ad n cap) ∧ W.cell? ⟨cx + 1, 0, none⟩ = some (.int .i64 k') ∧ W.cell? ⟨cx + 1, 1, none⟩ = some (.string a1') ∧ W.cell? ⟨cx + 1, 2, none⟩ = some (.string a2') ∧ W.cell? ⟨cx + 1, 3, none⟩ = some (.int .i64 nu') ∧ W.cell? ⟨cx + 1, 4, none⟩ = some (.slice ad' n' cap') ∧ W.cell? ⟨lb, lo, none⟩ = some (.string S)) (by kernel_rfl) (by with_reducible exact ⟨d0d, d1d, d2d, d3d, d4d, g0d, g1d, g2d, g3d, g4d, m0d⟩) (fun hHeld => ?_)
          refine wpAnyH_take (i := 0) (v := ?vx1x0) rfl (by kernel_rfl) (by kernel_rfl) (by kernel_rfl) (fun _ _ _ h => h) (Or.inl ⟨by rfl, ?hyx1x0⟩) (by assumption) ?restx1x0
          case hyx1x0 =>
            intro w hSw
            (try dsimp only at hSw)
            go_simp
            (try with_reducible rfl)
          change wpAnyH _ _ _ _ _ _ _ (Act.put _ (some 19) _) _
          try simp only [Act.put, List.setIfInBounds_toArray, List.set_cons_zero, List.set_cons_succ]
          refine wpAnyH_take (i := 1) (v := ?vx1x1) rfl (by kernel_rfl) (by kernel_rfl) (by kernel_rfl) (fun _ _ _ h => h) (Or.inl ⟨by rfl, ?hyx1x1⟩) (by assumption) ?restx1x1
          case hyx1x1 =>
            intro w hSw
            (try dsimp only at hSw)
            go_simp
            (try with_reducible rfl)
          change wpAnyH _ _ _ _ _ _ _ (Act.put _ (some 20) _) _
          try simp only [Act.put, List.setIfInBounds_toArray, List.set_cons_zero, List.set_cons_succ]
          refine wpAnyH_take (i := 2) (v := ?vx1x2) rfl (by kernel_rfl) (by kernel_rfl) (by kernel_rfl) (fun _ _ _ h => h) (Or.inl ⟨by rfl, ?hyx1x2⟩) (by assumption) ?restx1x2
          case hyx1x2 =>
            intro w hSw
            (try dsimp only at hSw)
            go_simp
            (try with_reducible rfl)
          change wpAnyH _ _ _ _ _ _ _ (Act.put _ (some 21) _) _
          try simp only [Act.put, List.setIfInBounds_toArray, List.set_cons_zero, List.set_cons_succ]
          refine wpAnyH_take (i := 3) (v := ?vx1x3) rfl (by kernel_rfl) (by kernel_rfl) (by kernel_rfl) (fun _ _ _ h => h) (Or.inl ⟨by rfl, ?hyx1x3⟩) (by assumption) ?restx1x3
          case hyx1x3 =>
            intro w hSw
            (try dsimp only at hSw)
            go_simp
            (try with_reducible rfl)
          change wpAnyH _ _ _ _ _ _ _ (Act.put _ (some 22) _) _
          try simp only [Act.put, List.setIfInBounds_toArray, List.set_cons_zero, List.set_cons_succ]
          refine wpAnyH_take (i := 4) (v := ?vx1x4) rfl (by kernel_rfl) (by kernel_rfl) (by kernel_rfl) (fun _ _ _ h => h) (Or.inl ⟨by rfl, ?hyx1x4⟩) (by assumption) ?restx1x4
          case hyx1x4 =>
            intro w hSw
            (try dsimp only at hSw)
            go_simp
            (try with_reducible rfl)
          change wpAnyH _ _ _ _ _ _ _ (Act.put _ (some 23) _) _
          try simp only [Act.put, List.setIfInBounds_toArray, List.set_cons_zero, List.set_cons_succ]
          refine wpAnyH_ready (rs := [5]) (by kernel_rfl) (by simp) ?_
          refine AllReadyH.cons rfl (fun K hK => ?_) AllReadyH.nil
          go_simp
          go_at_call 29
          refine Calls.mono (HC0.out _ (lo) (by first | exact Below.refl _ _ | go_grown) (fun h => absurd h (by omega))) ?_
          rintro e w1 ⟨rfl, hb1⟩
          have hb01 := (show Below W0.heap.size W0 W0.drew from by go_grown).trans hb1
          have d0a : w1.cell? ⟨cx, 0, none⟩ = some (.int .i64 k) := (hb01.cell (p := ⟨cx, 0, none⟩) hcx0).trans d0
          have d1a : w1.cell? ⟨cx, 1, none⟩ = some (.string a1) := (hb01.cell (p := ⟨cx, 1, none⟩) hcx0).trans d1
          have d2a : w1.cell? ⟨cx, 2, none⟩ = some (.string a2) := (hb01.cell (p := ⟨cx, 2, none⟩) hcx0).trans d2
          have d3a : w1.cell? ⟨cx, 3, none⟩ = some (.int .i64 nu) := (hb01.cell (p := ⟨cx, 3, none⟩) hcx0).trans d3
          have d4a : w1.cell? ⟨cx, 4, none⟩ = some (.slice ad n cap) := (hb01.cell (p := ⟨cx, 4, none⟩) hcx0).trans d4
          have g0a : w1.cell? ⟨cx + 1, 0, none⟩ = some (.int .i64 k') := (hb01.cell (p := ⟨cx + 1, 0, none⟩) hcx1).trans g0
          have g1a : w1.cell? ⟨cx + 1, 1, none⟩ = some (.string a1') := (hb01.cell (p := ⟨cx + 1, 1, none⟩) hcx1).trans g1
          have g2a : w1.cell? ⟨cx + 1, 2, none⟩ = some (.string a2') := (hb01.cell (p := ⟨cx + 1, 2, none⟩) hcx1).trans g2
          have g3a : w1.cell? ⟨cx + 1, 3, none⟩ = some (.int .i64 nu') := (hb01.cell (p := ⟨cx + 1, 3, none⟩) hcx1).trans g3
          have g4a : w1.cell? ⟨cx + 1, 4, none⟩ = some (.slice ad' n' cap') := (hb01.cell (p := ⟨cx + 1, 4, none⟩) hcx1).trans g4
          have m0a : w1.cell? ⟨lb, lo, none⟩ = some (.string S) := (hb01.cell (p := ⟨lb, lo, none⟩) hlb).trans m0
          have hcx01 : cx < w1.heap.size := Nat.lt_of_lt_of_le hcx0 hb01.size
          have hcx11 : cx + 1 < w1.heap.size := Nat.lt_of_lt_of_le hcx1 hb01.size
          have hlb1 : lb < w1.heap.size := Nat.lt_of_lt_of_le hlb hb01.size
          (try go_wp2_with fail)
          refine hK.out _ _ (by with_reducible exact ⟨d0a, d1a, d2a, d3a, d4a, g0a, g1a, g2a, g3a, g4a, m0a⟩) (fun hHeld => ?_)
          clear hK K
          try simp only [Act.put, List.setIfInBounds_toArray, List.set_cons_zero, List.set_cons_succ]
          refine wpAnyH_take (i := 6) (v := ?vx1x6) rfl (by kernel_rfl) (by kernel_rfl) (by kernel_rfl) (fun _ _ _ h => h) (Or.inl ⟨by rfl, ?hyx1x6⟩) (by assumption) ?restx1x6
          case hyx1x6 =>
            intro w hSw
            (try dsimp only at hSw)
            go_simp
            (try with_reducible rfl)
          change wpAnyH _ _ _ _ _ _ _ (Act.put _ (some 25) _) _
          try simp only [Act.put, List.setIfInBounds_toArray, List.set_cons_zero, List.set_cons_succ]
          refine wpAnyH_take (i := 7) (v := undef) rfl (by kernel_rfl) (by kernel_rfl) (by kernel_rfl) (fun _ _ _ h => h) (Or.inr ⟨by rfl, rfl⟩) (by assumption) ?_
          change wpAnyH _ _ _ _ _ _ _ (Act.put _ (some 26) _) _
          try simp only [Act.put, List.setIfInBounds_toArray, List.set_cons_zero, List.set_cons_succ]
          refine wpAnyH_take (i := 8) (v := undef) rfl (by kernel_rfl) (by kernel_rfl) (by kernel_rfl) (fun _ _ _ h => h) (Or.inr ⟨by rfl, rfl⟩) (by assumption) ?_
          change wpAnyH _ _ _ _ _ _ _ (Act.put _ (some 27) _) _
          try simp only [Act.put, List.setIfInBounds_toArray, List.set_cons_zero, List.set_cons_succ]
          refine wpAnyH_take (i := 9) (v := undef) rfl (by kernel_rfl) (by kernel_rfl) (by kernel_rfl) (fun _ _ _ h => h) (Or.inr ⟨by rfl, rfl⟩) (by assumption) ?_
          change wpAnyH _ _ _ _ _ _ _ (Act.put _ (some 28) _) _
          try simp only [Act.put, List.setIfInBounds_toArray, List.set_cons_zero, List.set_cons_succ]
          refine wpAnyH_take (i := 10) (v := undef) rfl (by kernel_rfl) (by kernel_rfl) (by kernel_rfl) (fun _ _ _ h => h) (Or.inr ⟨by rfl, rfl⟩) (by assumption) ?_
          change wpAnyH _ _ _ _ _ _ _ (Act.put _ (some 29) _) _
          try simp only [Act.put, List.setIfInBounds_toArray, List.set_cons_zero, List.set_cons_succ]
          refine wpAnyH_take (i := 11) (v := undef) rfl (by kernel_rfl) (by kernel_rfl) (by kernel_rfl) (fun _ _ _ h => h) (Or.inr ⟨by rfl, rfl⟩) (by assumption) ?_
          change wpAnyH _ _ _ _ _ _ _ (Act.put _ (some 30) _) _
          try simp only [Act.put, List.setIfInBounds_toArray, List.set_cons_zero, List.set_cons_succ]
          refine wpAnyH_take (i := 12) (v := undef) rfl (by kernel_rfl) (by kernel_rfl) (by kernel_rfl) (fun _ _ _ h => h) (Or.inr ⟨by rfl, rfl⟩) (by assumption) ?_
          change wpAnyH _ _ _ _ _ _ _ (Act.put _ (some 31) _) _
          try simp only [Act.put, List.setIfInBounds_toArray, List.set_cons_zero, List.set_cons_succ]
          refine wpAnyH_take (i := 13) (v := undef) rfl (by kernel_rfl) (by kernel_rfl) (by kernel_rfl) (fun _ _ _ h => h) (Or.inr ⟨by rfl, rfl⟩) (by assumption) ?_
          change wpAnyH _ _ _ _ _ _ _ (Act.put _ (some 32) _) _
          try simp only [Act.put, List.setIfInBounds_toArray, List.set_cons_zero, List.set_cons_succ]
          refine wpAnyH_take (i := 14) (v := undef) rfl (by kernel_rfl) (by kernel_rfl) (by kernel_rfl) (fun _ _ _ h => h) (Or.inr ⟨by rfl, rfl⟩) (by assumption) ?_
          change wpAnyH _ _ _ _ _ _ _ (Act.put _ (some 33) _) _
          try simp only [Act.put, List.setIfInBounds_toArray, List.set_cons_zero, List.set_cons_succ]
          refine wpAnyH_take (i := 15) (v := undef) rfl (by kernel_rfl) (by kernel_rfl) (by kernel_rfl) (fun _ _ _ h => h) (Or.inr ⟨by rfl, rfl⟩) (by assumption) ?_
          change wpAnyH _ _ _ _ _ _ _ (Act.put _ (some 34) _) _
          try simp only [Act.put, List.setIfInBounds_toArray, List.set_cons_zero, List.set_cons_succ]
          refine wpAnyH_take (i := 16) (v := undef) rfl (by kernel_rfl) (by kernel_rfl) (by kernel_rfl) (fun _ _ _ h => h) (Or.inr ⟨by rfl, rfl⟩) (by assumption) ?_
          change wpAnyH _ _ _ _ _ _ _ (Act.put _ (some 35) _) _
          try simp only [Act.put, List.setIfInBounds_toArray, List.set_cons_zero, List.set_cons_succ]
          refine wpAnyH_take (i := 17) (v := undef) rfl (by kernel_rfl) (by kernel_rfl) (by kernel_rfl) (fun _ _ _ h => h) (Or.inr ⟨by rfl, rfl⟩) (by assumption) ?_
          change wpAnyH _ _ _ _ _ _ _ (Act.put _ (some 36) _) _
          try simp only [Act.put, List.setIfInBounds_toArray, List.set_cons_zero, List.set_cons_succ]
          refine wpAnyH_take (i := 18) (v := undef) rfl (by kernel_rfl) (by kernel_rfl) (by kernel_rfl) (fun _ _ _ h => h) (Or.inr ⟨by rfl, rfl⟩) (by assumption) ?_
          change wpAnyH _ _ _ _ _ _ _ (Act.put _ (some 37) _) _
          try simp only [Act.put, List.setIfInBounds_toArray, List.set_cons_zero, List.set_cons_succ]
          refine wpAnyH_take (i := 19) (v := undef) rfl (by kernel_rfl) (by kernel_rfl) (by kernel_rfl) (fun _ _ _ h => h) (Or.inr ⟨by rfl, rfl⟩) (by assumption) ?_
          change wpAnyH _ _ _ _ _ _ _ (Act.put _ (some 38) _) _
          try simp only [Act.put, List.setIfInBounds_toArray, List.set_cons_zero, List.set_cons_succ]
          refine wpAnyH_take (i := 20) (v := undef) rfl (by kernel_rfl) (by kernel_rfl) (by kernel_rfl) (fun _ _ _ h => h) (Or.inr ⟨by rfl, rfl⟩) (by assumption) ?_
          change wpAnyH _ _ _ _ _ _ _ (Act.put _ (some 39) _) _
          try simp only [Act.put, List.setIfInBounds_toArray, List.set_cons_zero, List.set_cons_succ]
          refine wpAnyH_take (i := 21) (v := undef) rfl (by kernel_rfl) (by kernel_rfl) (by kernel_rfl) (fun _ _ _ h => h) (Or.inr ⟨by rfl, rfl⟩) (by assumption) ?_
          change wpAnyH _ _ _ _ _ _ _ (Act.put _ (some 40) _) _
          try simp only [Act.put, List.setIfInBounds_toArray, List.set_cons_zero, List.set_cons_succ]
          refine wpAnyH_take (i := 22) (v := undef) rfl (by kernel_rfl) (by kernel_rfl) (by kernel_rfl) (fun _ _ _ h => h) (Or.inr ⟨by rfl, rfl⟩) (by assumption) ?_
          change wpAnyH _ _ _ _ _ _ _ (Act.put _ (some 41) _) _
          try simp only [Act.put, List.setIfInBounds_toArray, List.set_cons_zero, List.set_cons_succ]
          refine wpAnyH_take (i := 23) (v := ?vx1x23) rfl (by kernel_rfl) (by kernel_rfl) (by kernel_rfl) (fun _ _ _ h => h) (Or.inl ⟨by rfl, ?hyx1x23⟩) (by assumption) ?restx1x23
          case hyx1x23 =>
            intro w hSw
            (try dsimp only at hSw)
            go_simp
            (try with_reducible rfl)
          change wpAnyH _ _ _ _ _ _ _ (Act.put _ (some 42) _) _
          try simp only [Act.put, List.setIfInBounds_toArray, List.set_cons_zero, List.set_cons_succ]
          refine wpAnyH_take (i := 24) (v := ?vx1x24) rfl (by kernel_rfl) (by kernel_rfl) (by kernel_rfl) (fun _ _ _ h => h) (Or.inl ⟨by rfl, ?hyx1x24⟩) (by assumption) ?restx1x24
          case hyx1x24 =>
            intro w hSw
            (try dsimp only at hSw)
            go_simp
            (try with_reducible rfl)
          change wpAnyH _ _ _ _ _ _ _ (Act.put _ (some 8) _) _
          try simp only [Act.put, List.setIfInBounds_toArray, List.set_cons_zero, List.set_cons_succ]
          refine wpAnyH_done (by kernel_rfl) ?_ _
          go_wp2_with fail
          go_ret
          exact ⟨by rw [← HV.out]; rfl, HB9.out.trans (hb01.mono HB9.out.size)⟩
        | true =>
          go_enter Tryd.func29, Tryd.ntmps29
          go_upto_region 1 with fail
          rw [← hW0, ← hcx]
          clear hW0 hcx
          go_upto_region 3 with fail
          first | (go_region_held3 (fun W => W.cell? ⟨cx, 0, none⟩ = some (.int .i64 k) ∧ W.cell? ⟨cx, 1, none⟩ = some (.string a1) ∧ W.cell? ⟨cx, 2, none⟩ = some (.string a2) ∧ W.cell? ⟨cx, 3, none⟩ = some (.int .i64 nu) ∧ W.cell? ⟨cx, 4, none⟩ = some (.slice ad n cap) ∧ W.cell? ⟨cx + 1, 0, none⟩ = some (.int .i64 k') ∧ W.cell? ⟨cx + 1, 1, none⟩ = some (.string a1') ∧ W.cell? ⟨cx + 1, 2, none⟩ = some (.string a2') ∧ W.cell? ⟨cx + 1, 3, none⟩ = some (.int .i64 nu') ∧ W.cell? ⟨cx + 1, 4, none⟩ = some (.slice ad' n' cap') ∧ W.cell? ⟨lb, lo, none⟩ = some (.string S)) (first | with_reducible exact ⟨d0, d1, d2, d3, d4, g0, g1, g2, g3, g4, m0⟩ | with_reducible exact ⟨d0d, d1d, d2d, d3d, d4d, g0d, g1d, g2d, g3d, g4d, m0d⟩ | with_reducible exact ⟨d0a, d1a, d2a, d3a, d4a, g0a, g1a, g2a, g3a, g4a, m0a⟩ | with_reducible exact ⟨(World.cell?_alloc_lt _ _ ⟨cx, 0, none⟩ hcx01).trans d0a, (World.cell?_alloc_lt _ _ ⟨cx, 1, none⟩ hcx01).trans d1a, (World.cell?_alloc_lt _ _ ⟨cx, 2, none⟩ hcx01).trans d2a, (World.cell?_alloc_lt _ _ ⟨cx, 3, none⟩ hcx01).trans d3a, (World.cell?_alloc_lt _ _ ⟨cx, 4, none⟩ hcx01).trans d4a, (World.cell?_alloc_lt _ _ ⟨cx + 1, 0, none⟩ hcx11).trans g0a, (World.cell?_alloc_lt _ _ ⟨cx + 1, 1, none⟩ hcx11).trans g1a, (World.cell?_alloc_lt _ _ ⟨cx + 1, 2, none⟩ hcx11).trans g2a, (World.cell?_alloc_lt _ _ ⟨cx + 1, 3, none⟩ hcx11).trans g3a, (World.cell?_alloc_lt _ _ ⟨cx + 1, 4, none⟩ hcx11).trans g4a, (World.cell?_alloc_lt _ _ ⟨lb, lo, none⟩ hlb1).trans m0a⟩ | with_reducible exact ⟨d0c, d1c, d2c, d3c, d4c, g0c, g1c, g2c, g3c, g4c, m0c⟩ | with_reducible exact ⟨d0b, d1b, d2b, d3b, d4b, g0b, g1b, g2b, g3b, g4b, m0b⟩ | go_keep) (first | (go_at_call 29; have hxx := hb3.size; clear hxx; refine Calls.mono (HC1.out _ (lo) _ _ hb03 (fun h => absurd h (by omega)) hgc.1 (by have h := hgc.2; unfold maxLen at h; exact h) hgn hgs hgv) ?_; rintro e w2 ⟨rfl, hb2⟩; have hb02 := hb03.trans (hb2.mono hb03.size); have d0b : w2.cell? ⟨cx, 0, none⟩ = some (.int .i64 k) := (hb02.cell (p := ⟨cx, 0, none⟩) hcx0).trans d0; have d1b : w2.cell? ⟨cx, 1, none⟩ = some (.string a1) := (hb02.cell (p := ⟨cx, 1, none⟩) hcx0).trans d1; have d2b : w2.cell? ⟨cx, 2, none⟩ = some (.string a2) := (hb02.cell (p := ⟨cx, 2, none⟩) hcx0).trans d2; have d3b : w2.cell? ⟨cx, 3, none⟩ = some (.int .i64 nu) := (hb02.cell (p := ⟨cx, 3, none⟩) hcx0).trans d3; have d4b : w2.cell? ⟨cx, 4, none⟩ = some (.slice ad n cap) := (hb02.cell (p := ⟨cx, 4, none⟩) hcx0).trans d4; have g0b : w2.cell? ⟨cx + 1, 0, none⟩ = some (.int .i64 k') := (hb02.cell (p := ⟨cx + 1, 0, none⟩) hcx1).trans g0; have g1b : w2.cell? ⟨cx + 1, 1, none⟩ = some (.string a1') := (hb02.cell (p := ⟨cx + 1, 1, none⟩) hcx1).trans g1; have g2b : w2.cell? ⟨cx + 1, 2, none⟩ = some (.string a2') := (hb02.cell (p := ⟨cx + 1, 2, none⟩) hcx1).trans g2; have g3b : w2.cell? ⟨cx + 1, 3, none⟩ = some (.int .i64 nu') := (hb02.cell (p := ⟨cx + 1, 3, none⟩) hcx1).trans g3; have g4b : w2.cell? ⟨cx + 1, 4, none⟩ = some (.slice ad' n' cap') := (hb02.cell (p := ⟨cx + 1, 4, none⟩) hcx1).trans g4; have m0b : w2.cell? ⟨lb, lo, none⟩ = some (.string S) := (hb02.cell (p := ⟨lb, lo, none⟩) hlb).trans m0) | (rw [if_pos (rfl : Region.wanted _ _ = true)]; refine oper_append_full _ (.tmp 35) (.tmp 39) 41 rfl 9 (.string ⟨#[]⟩) 1 16 Tryd.underlying41 infoStr rfl (by decide) (none) 0 (txv R) rfl (fun _ => rfl) (fun b h => by cases h) (by rw [txv_length, HRM.out, Nat.mul_one]) (HRV.out _ (hb01.alloc hb01.size _)) (some ⟨w1.heap.size, 0, none⟩) 1 1 [.string S] rfl (fun h => by cases h) (fun b h => by cases h; rfl) rfl (one_val _ _ _) (by unfold maxLen; omega) (by omega) ?_; intro ga gc w3 hgc hgn hgs hgv hb3 hgo; clear hgo; have hb03 := (hb01.alloc hb01.size (.cells #[.string S] 9)).trans (hb3.mono (hb01.alloc hb01.size (.cells #[.string S] 9)).size); rw [HTX.out] at hgv; have d0c : w3.cell? ⟨cx, 0, none⟩ = some (.int .i64 k) := (hb03.cell (p := ⟨cx, 0, none⟩) hcx0).trans d0; have d1c : w3.cell? ⟨cx, 1, none⟩ = some (.string a1) := (hb03.cell (p := ⟨cx, 1, none⟩) hcx0).trans d1; have d2c : w3.cell? ⟨cx, 2, none⟩ = some (.string a2) := (hb03.cell (p := ⟨cx, 2, none⟩) hcx0).trans d2; have d3c : w3.cell? ⟨cx, 3, none⟩ = some (.int .i64 nu) := (hb03.cell (p := ⟨cx, 3, none⟩) hcx0).trans d3; have d4c : w3.cell? ⟨cx, 4, none⟩ = some (.slice ad n cap) := (hb03.cell (p := ⟨cx, 4, none⟩) hcx0).trans d4; have g0c : w3.cell? ⟨cx + 1, 0, none⟩ = some (.int .i64 k') := (hb03.cell (p := ⟨cx + 1, 0, none⟩) hcx1).trans g0; have g1c : w3.cell? ⟨cx + 1, 1, none⟩ = some (.string a1') := (hb03.cell (p := ⟨cx + 1, 1, none⟩) hcx1).trans g1; have g2c : w3.cell? ⟨cx + 1, 2, none⟩ = some (.string a2') := (hb03.cell (p := ⟨cx + 1, 2, none⟩) hcx1).trans g2; have g3c : w3.cell? ⟨cx + 1, 3, none⟩ = some (.int .i64 nu') := (hb03.cell (p := ⟨cx + 1, 3, none⟩) hcx1).trans g3; have g4c : w3.cell? ⟨cx + 1, 4, none⟩ = some (.slice ad' n' cap') := (hb03.cell (p := ⟨cx + 1, 4, none⟩) hcx1).trans g4; have m0c : w3.cell? ⟨lb, lo, none⟩ = some (.string S) := (hb03.cell (p := ⟨lb, lo, none⟩) hlb).trans m0) | (go_at_call 29; refine Calls.mono (HC0.out _ (lo) (by first | exact Below.refl _ _ | go_grown) (fun h => absurd h (by omega))) ?_; rintro e w1 ⟨rfl, hb1⟩; have hb01 := (show Below W0.heap.size W0 W0.drew from by go_grown).trans hb1; have d0a : w1.cell? ⟨cx, 0, none⟩ = some (.int .i64 k) := (hb01.cell (p := ⟨cx, 0, none⟩) hcx0).trans d0; have d1a : w1.cell? ⟨cx, 1, none⟩ = some (.string a1) := (hb01.cell (p := ⟨cx, 1, none⟩) hcx0).trans d1; have d2a : w1.cell? ⟨cx, 2, none⟩ = some (.string a2) := (hb01.cell (p := ⟨cx, 2, none⟩) hcx0).trans d2; have d3a : w1.cell? ⟨cx, 3, none⟩ = some (.int .i64 nu) := (hb01.cell (p := ⟨cx, 3, none⟩) hcx0).trans d3; have d4a : w1.cell? ⟨cx, 4, none⟩ = some (.slice ad n cap) := (hb01.cell (p := ⟨cx, 4, none⟩) hcx0).trans d4; have g0a : w1.cell? ⟨cx + 1, 0, none⟩ = some (.int .i64 k') := (hb01.cell (p := ⟨cx + 1, 0, none⟩) hcx1).trans g0; have g1a : w1.cell? ⟨cx + 1, 1, none⟩ = some (.string a1') := (hb01.cell (p := ⟨cx + 1, 1, none⟩) hcx1).trans g1; have g2a : w1.cell? ⟨cx + 1, 2, none⟩ = some (.string a2') := (hb01.cell (p := ⟨cx + 1, 2, none⟩) hcx1).trans g2; have g3a : w1.cell? ⟨cx + 1, 3, none⟩ = some (.int .i64 nu') := (hb01.cell (p := ⟨cx + 1, 3, none⟩) hcx1).trans g3; have g4a : w1.cell? ⟨cx + 1, 4, none⟩ = some (.slice ad' n' cap') := (hb01.cell (p := ⟨cx + 1, 4, none⟩) hcx1).trans g4; have m0a : w1.cell? ⟨lb, lo, none⟩ = some (.string S) := (hb01.cell (p := ⟨lb, lo, none⟩) hlb).trans m0; have hcx01 : cx < w1.heap.size := Nat.lt_of_lt_of_le hcx0 hb01.size; have hcx11 : cx + 1 < w1.heap.size := Nat.lt_of_lt_of_le hcx1 hb01.size; have hlb1 : lb < w1.heap.size := Nat.lt_of_lt_of_le hlb hb01.size))) | fail
          all_goals
            go_wp2_with fail
            go_ret
            exact ⟨by rw [← HV.out]; rfl, HB9.out.trans (hb02.mono HB9.out.size)⟩
      | succ c2 =>
        cases b1 with
        | false =>
          go_enter Tryd.func29, Tryd.ntmps29
          go_upto_region 1 with fail
          rw [← hW0, ← hcx]
          clear hW0 hcx
          go_upto_region 3 with fail
          refine wp_region_held_drew (S := fun W => W.cell? ⟨cx, 0, none⟩ = some (.int .i64 k) ∧ W.cell? ⟨cx, 1, none⟩ = some (.string a1) ∧ W.cell? ⟨cx, 2, none⟩ = some (.string a2) ∧ W.cell? ⟨cx, 3, none⟩ = some (.int .i64 nu) ∧ W.cell? ⟨cx, 4, none⟩ = some (.slice ad n cap) ∧ W.cell? ⟨cx + 1, 0, none⟩ = some (.int .i64 k') ∧ W.cell? ⟨cx + 1, 1, none⟩ = some (.string a1') ∧ W.cell? ⟨cx + 1, 2, none⟩ = some (.string a2') ∧ W.cell? ⟨cx + 1, 3, none⟩ = some (.int .i64 nu') ∧ W.cell? ⟨cx + 1, 4, none⟩ = some (.slice ad' n' cap') ∧ W.cell? ⟨lb, lo, none⟩ = some (.string S)) (by kernel_rfl) (by with_reducible exact ⟨d0d, d1d, d2d, d3d, d4d, g0d, g1d, g2d, g3d, g4d, m0d⟩) (fun hHeld => ?_)
          refine wpAnyH_take (i := 0) (v := ?vx2x0) rfl (by kernel_rfl) (by kernel_rfl) (by kernel_rfl) (fun _ _ _ h => h) (Or.inl ⟨by rfl, ?hyx2x0⟩) (by assumption) ?restx2x0
          case hyx2x0 =>
            intro w hSw
            (try dsimp only at hSw)
            go_simp
            (try with_reducible rfl)
          change wpAnyH _ _ _ _ _ _ _ (Act.put _ (some 19) _) _
          try simp only [Act.put, List.setIfInBounds_toArray, List.set_cons_zero, List.set_cons_succ]
          refine wpAnyH_take (i := 1) (v := ?vx2x1) rfl (by kernel_rfl) (by kernel_rfl) (by kernel_rfl) (fun _ _ _ h => h) (Or.inl ⟨by rfl, ?hyx2x1⟩) (by assumption) ?restx2x1
          case hyx2x1 =>
            intro w hSw
            (try dsimp only at hSw)
            go_simp
            (try with_reducible rfl)
          change wpAnyH _ _ _ _ _ _ _ (Act.put _ (some 20) _) _
          try simp only [Act.put, List.setIfInBounds_toArray, List.set_cons_zero, List.set_cons_succ]
          refine wpAnyH_take (i := 2) (v := ?vx2x2) rfl (by kernel_rfl) (by kernel_rfl) (by kernel_rfl) (fun _ _ _ h => h) (Or.inl ⟨by rfl, ?hyx2x2⟩) (by assumption) ?restx2x2
          case hyx2x2 =>
            intro w hSw
            (try dsimp only at hSw)
            go_simp
            (try with_reducible rfl)
          change wpAnyH _ _ _ _ _ _ _ (Act.put _ (some 21) _) _
          try simp only [Act.put, List.setIfInBounds_toArray, List.set_cons_zero, List.set_cons_succ]
          refine wpAnyH_take (i := 3) (v := ?vx2x3) rfl (by kernel_rfl) (by kernel_rfl) (by kernel_rfl) (fun _ _ _ h => h) (Or.inl ⟨by rfl, ?hyx2x3⟩) (by assumption) ?restx2x3
          case hyx2x3 =>
            intro w hSw
            (try dsimp only at hSw)
            go_simp
            (try with_reducible rfl)
          change wpAnyH _ _ _ _ _ _ _ (Act.put _ (some 22) _) _
          try simp only [Act.put, List.setIfInBounds_toArray, List.set_cons_zero, List.set_cons_succ]
          refine wpAnyH_take (i := 4) (v := ?vx2x4) rfl (by kernel_rfl) (by kernel_rfl) (by kernel_rfl) (fun _ _ _ h => h) (Or.inl ⟨by rfl, ?hyx2x4⟩) (by assumption) ?restx2x4
          case hyx2x4 =>
            intro w hSw
            (try dsimp only at hSw)
            go_simp
            (try with_reducible rfl)
          change wpAnyH _ _ _ _ _ _ _ (Act.put _ (some 23) _) _
          try simp only [Act.put, List.setIfInBounds_toArray, List.set_cons_zero, List.set_cons_succ]
          refine wpAnyH_ready (rs := [5]) (by kernel_rfl) (by simp) ?_
          refine AllReadyH.cons rfl (fun K hK => ?_) AllReadyH.nil
          go_simp
          go_at_call 29
          refine Calls.mono (HC0.out _ (lo + 1) (by first | exact Below.refl _ _ | go_grown) (fun _ => rfl)) ?_
          rintro e w1 ⟨rfl, hb1⟩
          have hb01 := (show Below W0.heap.size W0 W0.drew from by go_grown).trans hb1
          have d0a : w1.cell? ⟨cx, 0, none⟩ = some (.int .i64 k) := (hb01.cell (p := ⟨cx, 0, none⟩) hcx0).trans d0
          have d1a : w1.cell? ⟨cx, 1, none⟩ = some (.string a1) := (hb01.cell (p := ⟨cx, 1, none⟩) hcx0).trans d1
          have d2a : w1.cell? ⟨cx, 2, none⟩ = some (.string a2) := (hb01.cell (p := ⟨cx, 2, none⟩) hcx0).trans d2
          have d3a : w1.cell? ⟨cx, 3, none⟩ = some (.int .i64 nu) := (hb01.cell (p := ⟨cx, 3, none⟩) hcx0).trans d3
          have d4a : w1.cell? ⟨cx, 4, none⟩ = some (.slice ad n cap) := (hb01.cell (p := ⟨cx, 4, none⟩) hcx0).trans d4
          have g0a : w1.cell? ⟨cx + 1, 0, none⟩ = some (.int .i64 k') := (hb01.cell (p := ⟨cx + 1, 0, none⟩) hcx1).trans g0
          have g1a : w1.cell? ⟨cx + 1, 1, none⟩ = some (.string a1') := (hb01.cell (p := ⟨cx + 1, 1, none⟩) hcx1).trans g1
          have g2a : w1.cell? ⟨cx + 1, 2, none⟩ = some (.string a2') := (hb01.cell (p := ⟨cx + 1, 2, none⟩) hcx1).trans g2
          have g3a : w1.cell? ⟨cx + 1, 3, none⟩ = some (.int .i64 nu') := (hb01.cell (p := ⟨cx + 1, 3, none⟩) hcx1).trans g3
          have g4a : w1.cell? ⟨cx + 1, 4, none⟩ = some (.slice ad' n' cap') := (hb01.cell (p := ⟨cx + 1, 4, none⟩) hcx1).trans g4
          have m0a : w1.cell? ⟨lb, lo, none⟩ = some (.string S) := (hb01.cell (p := ⟨lb, lo, none⟩) hlb).trans m0
          have hcx01 : cx < w1.heap.size := Nat.lt_of_lt_of_le hcx0 hb01.size
          have hcx11 : cx + 1 < w1.heap.size := Nat.lt_of_lt_of_le hcx1 hb01.size
          have hlb1 : lb < w1.heap.size := Nat.lt_of_lt_of_le hlb hb01.size
          (try go_wp2_with fail)
          refine hK.out _ _ (by with_reducible exact ⟨d0a, d1a, d2a, d3a, d4a, g0a, g1a, g2a, g3a, g4a, m0a⟩) (fun hHeld => ?_)
          clear hK K
          try simp only [Act.put, List.setIfInBounds_toArray, List.set_cons_zero, List.set_cons_succ]
          refine wpAnyH_take (i := 6) (v := ?vx2x6) rfl (by kernel_rfl) (by kernel_rfl) (by kernel_rfl) (fun _ _ _ h => h) (Or.inl ⟨by rfl, ?hyx2x6⟩) (by assumption) ?restx2x6
          case hyx2x6 =>
            intro w hSw
            (try dsimp only at hSw)
            go_simp
            (try with_reducible rfl)
          change wpAnyH _ _ _ _ _ _ _ (Act.put _ (some 25) _) _
          try simp only [Act.put, List.setIfInBounds_toArray, List.set_cons_zero, List.set_cons_succ]
          refine wpAnyH_take (i := 7) (v := undef) rfl (by kernel_rfl) (by kernel_rfl) (by kernel_rfl) (fun _ _ _ h => h) (Or.inr ⟨by rfl, rfl⟩) (by assumption) ?_
          change wpAnyH _ _ _ _ _ _ _ (Act.put _ (some 26) _) _
          try simp only [Act.put, List.setIfInBounds_toArray, List.set_cons_zero, List.set_cons_succ]
          refine wpAnyH_take (i := 8) (v := undef) rfl (by kernel_rfl) (by kernel_rfl) (by kernel_rfl) (fun _ _ _ h => h) (Or.inr ⟨by rfl, rfl⟩) (by assumption) ?_
          change wpAnyH _ _ _ _ _ _ _ (Act.put _ (some 27) _) _
          try simp only [Act.put, List.setIfInBounds_toArray, List.set_cons_zero, List.set_cons_succ]
          refine wpAnyH_take (i := 9) (v := undef) rfl (by kernel_rfl) (by kernel_rfl) (by kernel_rfl) (fun _ _ _ h => h) (Or.inr ⟨by rfl, rfl⟩) (by assumption) ?_
          change wpAnyH _ _ _ _ _ _ _ (Act.put _ (some 28) _) _
          try simp only [Act.put, List.setIfInBounds_toArray, List.set_cons_zero, List.set_cons_succ]
          refine wpAnyH_take (i := 10) (v := undef) rfl (by kernel_rfl) (by kernel_rfl) (by kernel_rfl) (fun _ _ _ h => h) (Or.inr ⟨by rfl, rfl⟩) (by assumption) ?_
          change wpAnyH _ _ _ _ _ _ _ (Act.put _ (some 29) _) _
          try simp only [Act.put, List.setIfInBounds_toArray, List.set_cons_zero, List.set_cons_succ]
          refine wpAnyH_take (i := 11) (v := undef) rfl (by kernel_rfl) (by kernel_rfl) (by kernel_rfl) (fun _ _ _ h => h) (Or.inr ⟨by rfl, rfl⟩) (by assumption) ?_
          change wpAnyH _ _ _ _ _ _ _ (Act.put _ (some 30) _) _
          try simp only [Act.put, List.setIfInBounds_toArray, List.set_cons_zero, List.set_cons_succ]
          refine wpAnyH_take (i := 12) (v := undef) rfl (by kernel_rfl) (by kernel_rfl) (by kernel_rfl) (fun _ _ _ h => h) (Or.inr ⟨by rfl, rfl⟩) (by assumption) ?_
          change wpAnyH _ _ _ _ _ _ _ (Act.put _ (some 31) _) _
          try simp only [Act.put, List.setIfInBounds_toArray, List.set_cons_zero, List.set_cons_succ]
          refine wpAnyH_take (i := 13) (v := undef) rfl (by kernel_rfl) (by kernel_rfl) (by kernel_rfl) (fun _ _ _ h => h) (Or.inr ⟨by rfl, rfl⟩) (by assumption) ?_
          change wpAnyH _ _ _ _ _ _ _ (Act.put _ (some 32) _) _
          try simp only [Act.put, List.setIfInBounds_toArray, List.set_cons_zero, List.set_cons_succ]
          refine wpAnyH_take (i := 14) (v := undef) rfl (by kernel_rfl) (by kernel_rfl) (by kernel_rfl) (fun _ _ _ h => h) (Or.inr ⟨by rfl, rfl⟩) (by assumption) ?_
          change wpAnyH _ _ _ _ _ _ _ (Act.put _ (some 33) _) _
          try simp only [Act.put, List.setIfInBounds_toArray, List.set_cons_zero, List.set_cons_succ]
          refine wpAnyH_take (i := 15) (v := undef) rfl (by kernel_rfl) (by kernel_rfl) (by kernel_rfl) (fun _ _ _ h => h) (Or.inr ⟨by rfl, rfl⟩) (by assumption) ?_
          change wpAnyH _ _ _ _ _ _ _ (Act.put _ (some 34) _) _
          try simp only [Act.put, List.setIfInBounds_toArray, List.set_cons_zero, List.set_cons_succ]
          refine wpAnyH_take (i := 16) (v := undef) rfl (by kernel_rfl) (by kernel_rfl) (by kernel_rfl) (fun _ _ _ h => h) (Or.inr ⟨by rfl, rfl⟩) (by assumption) ?_
          change wpAnyH _ _ _ _ _ _ _ (Act.put _ (some 35) _) _
          try simp only [Act.put, List.setIfInBounds_toArray, List.set_cons_zero, List.set_cons_succ]
          refine wpAnyH_take (i := 17) (v := undef) rfl (by kernel_rfl) (by kernel_rfl) (by kernel_rfl) (fun _ _ _ h => h) (Or.inr ⟨by rfl, rfl⟩) (by assumption) ?_
          change wpAnyH _ _ _ _ _ _ _ (Act.put _ (some 36) _) _
          try simp only [Act.put, List.setIfInBounds_toArray, List.set_cons_zero, List.set_cons_succ]
          refine wpAnyH_take (i := 18) (v := undef) rfl (by kernel_rfl) (by kernel_rfl) (by kernel_rfl) (fun _ _ _ h => h) (Or.inr ⟨by rfl, rfl⟩) (by assumption) ?_
          change wpAnyH _ _ _ _ _ _ _ (Act.put _ (some 37) _) _
          try simp only [Act.put, List.setIfInBounds_toArray, List.set_cons_zero, List.set_cons_succ]
          refine wpAnyH_take (i := 19) (v := undef) rfl (by kernel_rfl) (by kernel_rfl) (by kernel_rfl) (fun _ _ _ h => h) (Or.inr ⟨by rfl, rfl⟩) (by assumption) ?_
          change wpAnyH _ _ _ _ _ _ _ (Act.put _ (some 38) _) _
          try simp only [Act.put, List.setIfInBounds_toArray, List.set_cons_zero, List.set_cons_succ]
          refine wpAnyH_take (i := 20) (v := undef) rfl (by kernel_rfl) (by kernel_rfl) (by kernel_rfl) (fun _ _ _ h => h) (Or.inr ⟨by rfl, rfl⟩) (by assumption) ?_
          change wpAnyH _ _ _ _ _ _ _ (Act.put _ (some 39) _) _
          try simp only [Act.put, List.setIfInBounds_toArray, List.set_cons_zero, List.set_cons_succ]
          refine wpAnyH_take (i := 21) (v := undef) rfl (by kernel_rfl) (by kernel_rfl) (by kernel_rfl) (fun _ _ _ h => h) (Or.inr ⟨by rfl, rfl⟩) (by assumption) ?_
          change wpAnyH _ _ _ _ _ _ _ (Act.put _ (some 40) _) _
          try simp only [Act.put, List.setIfInBounds_toArray, List.set_cons_zero, List.set_cons_succ]
          refine wpAnyH_take (i := 22) (v := undef) rfl (by kernel_rfl) (by kernel_rfl) (by kernel_rfl) (fun _ _ _ h => h) (Or.inr ⟨by rfl, rfl⟩) (by assumption) ?_
          change wpAnyH _ _ _ _ _ _ _ (Act.put _ (some 41) _) _
          try simp only [Act.put, List.setIfInBounds_toArray, List.set_cons_zero, List.set_cons_succ]
          refine wpAnyH_take (i := 23) (v := ?vx2x23) rfl (by kernel_rfl) (by kernel_rfl) (by kernel_rfl) (fun _ _ _ h => h) (Or.inl ⟨by rfl, ?hyx2x23⟩) (by assumption) ?restx2x23
          case hyx2x23 =>
            intro w hSw
            (try dsimp only at hSw)
            go_simp
            (try with_reducible rfl)
          change wpAnyH _ _ _ _ _ _ _ (Act.put _ (some 42) _) _
          try simp only [Act.put, List.setIfInBounds_toArray, List.set_cons_zero, List.set_cons_succ]
          refine wpAnyH_take (i := 24) (v := ?vx2x24) rfl (by kernel_rfl) (by kernel_rfl) (by kernel_rfl) (fun _ _ _ h => h) (Or.inl ⟨by rfl, ?hyx2x24⟩) (by assumption) ?restx2x24
          case hyx2x24 =>
            intro w hSw
            (try dsimp only at hSw)
            go_simp
            (try with_reducible rfl)
          change wpAnyH _ _ _ _ _ _ _ (Act.put _ (some 8) _) _
          try simp only [Act.put, List.setIfInBounds_toArray, List.set_cons_zero, List.set_cons_succ]
          refine wpAnyH_done (by kernel_rfl) ?_ _
          go_wp2_with fail
          go_ret
          exact ⟨by rw [← HV.out]; rfl, HB9.out.trans (hb01.mono HB9.out.size)⟩
        | true =>
          go_enter Tryd.func29, Tryd.ntmps29
          go_upto_region 1 with fail
          rw [← hW0, ← hcx]
          clear hW0 hcx
          go_upto_region 3 with fail
          first | (go_region_held3 (fun W => W.cell? ⟨cx, 0, none⟩ = some (.int .i64 k) ∧ W.cell? ⟨cx, 1, none⟩ = some (.string a1) ∧ W.cell? ⟨cx, 2, none⟩ = some (.string a2) ∧ W.cell? ⟨cx, 3, none⟩ = some (.int .i64 nu) ∧ W.cell? ⟨cx, 4, none⟩ = some (.slice ad n cap) ∧ W.cell? ⟨cx + 1, 0, none⟩ = some (.int .i64 k') ∧ W.cell? ⟨cx + 1, 1, none⟩ = some (.string a1') ∧ W.cell? ⟨cx + 1, 2, none⟩ = some (.string a2') ∧ W.cell? ⟨cx + 1, 3, none⟩ = some (.int .i64 nu') ∧ W.cell? ⟨cx + 1, 4, none⟩ = some (.slice ad' n' cap') ∧ W.cell? ⟨lb, lo, none⟩ = some (.string S)) (first | with_reducible exact ⟨d0, d1, d2, d3, d4, g0, g1, g2, g3, g4, m0⟩ | with_reducible exact ⟨d0d, d1d, d2d, d3d, d4d, g0d, g1d, g2d, g3d, g4d, m0d⟩ | with_reducible exact ⟨d0a, d1a, d2a, d3a, d4a, g0a, g1a, g2a, g3a, g4a, m0a⟩ | with_reducible exact ⟨(World.cell?_alloc_lt _ _ ⟨cx, 0, none⟩ hcx01).trans d0a, (World.cell?_alloc_lt _ _ ⟨cx, 1, none⟩ hcx01).trans d1a, (World.cell?_alloc_lt _ _ ⟨cx, 2, none⟩ hcx01).trans d2a, (World.cell?_alloc_lt _ _ ⟨cx, 3, none⟩ hcx01).trans d3a, (World.cell?_alloc_lt _ _ ⟨cx, 4, none⟩ hcx01).trans d4a, (World.cell?_alloc_lt _ _ ⟨cx + 1, 0, none⟩ hcx11).trans g0a, (World.cell?_alloc_lt _ _ ⟨cx + 1, 1, none⟩ hcx11).trans g1a, (World.cell?_alloc_lt _ _ ⟨cx + 1, 2, none⟩ hcx11).trans g2a, (World.cell?_alloc_lt _ _ ⟨cx + 1, 3, none⟩ hcx11).trans g3a, (World.cell?_alloc_lt _ _ ⟨cx + 1, 4, none⟩ hcx11).trans g4a, (World.cell?_alloc_lt _ _ ⟨lb, lo, none⟩ hlb1).trans m0a⟩ | with_reducible exact ⟨d0c, d1c, d2c, d3c, d4c, g0c, g1c, g2c, g3c, g4c, m0c⟩ | with_reducible exact ⟨d0b, d1b, d2b, d3b, d4b, g0b, g1b, g2b, g3b, g4b, m0b⟩ | go_keep) (first | (go_at_call 29; have hxx := hb3.size; clear hxx; refine Calls.mono (HC1.out _ (lo + 1) _ _ hb03 (fun _ => rfl) hgc.1 (by have h := hgc.2; unfold maxLen at h; exact h) hgn hgs hgv) ?_; rintro e w2 ⟨rfl, hb2⟩; have hb02 := hb03.trans (hb2.mono hb03.size); have d0b : w2.cell? ⟨cx, 0, none⟩ = some (.int .i64 k) := (hb02.cell (p := ⟨cx, 0, none⟩) hcx0).trans d0; have d1b : w2.cell? ⟨cx, 1, none⟩ = some (.string a1) := (hb02.cell (p := ⟨cx, 1, none⟩) hcx0).trans d1; have d2b : w2.cell? ⟨cx, 2, none⟩ = some (.string a2) := (hb02.cell (p := ⟨cx, 2, none⟩) hcx0).trans d2; have d3b : w2.cell? ⟨cx, 3, none⟩ = some (.int .i64 nu) := (hb02.cell (p := ⟨cx, 3, none⟩) hcx0).trans d3; have d4b : w2.cell? ⟨cx, 4, none⟩ = some (.slice ad n cap) := (hb02.cell (p := ⟨cx, 4, none⟩) hcx0).trans d4; have g0b : w2.cell? ⟨cx + 1, 0, none⟩ = some (.int .i64 k') := (hb02.cell (p := ⟨cx + 1, 0, none⟩) hcx1).trans g0; have g1b : w2.cell? ⟨cx + 1, 1, none⟩ = some (.string a1') := (hb02.cell (p := ⟨cx + 1, 1, none⟩) hcx1).trans g1; have g2b : w2.cell? ⟨cx + 1, 2, none⟩ = some (.string a2') := (hb02.cell (p := ⟨cx + 1, 2, none⟩) hcx1).trans g2; have g3b : w2.cell? ⟨cx + 1, 3, none⟩ = some (.int .i64 nu') := (hb02.cell (p := ⟨cx + 1, 3, none⟩) hcx1).trans g3; have g4b : w2.cell? ⟨cx + 1, 4, none⟩ = some (.slice ad' n' cap') := (hb02.cell (p := ⟨cx + 1, 4, none⟩) hcx1).trans g4; have m0b : w2.cell? ⟨lb, lo, none⟩ = some (.string S) := (hb02.cell (p := ⟨lb, lo, none⟩) hlb).trans m0) | (rw [if_pos (rfl : Region.wanted _ _ = true)]; refine oper_append_full _ (.tmp 35) (.tmp 39) 41 rfl 9 (.string ⟨#[]⟩) 1 16 Tryd.underlying41 infoStr rfl (by decide) (none) 0 (txv R) rfl (fun _ => rfl) (fun b h => by cases h) (by rw [txv_length, HRM.out, Nat.mul_one]) (HRV.out _ (hb01.alloc hb01.size _)) (some ⟨w1.heap.size, 0, none⟩) 1 1 [.string S] rfl (fun h => by cases h) (fun b h => by cases h; rfl) rfl (one_val _ _ _) (by unfold maxLen; omega) (by omega) ?_; intro ga gc w3 hgc hgn hgs hgv hb3 hgo; clear hgo; have hb03 := (hb01.alloc hb01.size (.cells #[.string S] 9)).trans (hb3.mono (hb01.alloc hb01.size (.cells #[.string S] 9)).size); rw [HTX.out] at hgv; have d0c : w3.cell? ⟨cx, 0, none⟩ = some (.int .i64 k) := (hb03.cell (p := ⟨cx, 0, none⟩) hcx0).trans d0; have d1c : w3.cell? ⟨cx, 1, none⟩ = some (.string a1) := (hb03.cell (p := ⟨cx, 1, none⟩) hcx0).trans d1; have d2c : w3.cell? ⟨cx, 2, none⟩ = some (.string a2) := (hb03.cell (p := ⟨cx, 2, none⟩) hcx0).trans d2; have d3c : w3.cell? ⟨cx, 3, none⟩ = some (.int .i64 nu) := (hb03.cell (p := ⟨cx, 3, none⟩) hcx0).trans d3; have d4c : w3.cell? ⟨cx, 4, none⟩ = some (.slice ad n cap) := (hb03.cell (p := ⟨cx, 4, none⟩) hcx0).trans d4; have g0c : w3.cell? ⟨cx + 1, 0, none⟩ = some (.int .i64 k') := (hb03.cell (p := ⟨cx + 1, 0, none⟩) hcx1).trans g0; have g1c : w3.cell? ⟨cx + 1, 1, none⟩ = some (.string a1') := (hb03.cell (p := ⟨cx + 1, 1, none⟩) hcx1).trans g1; have g2c : w3.cell? ⟨cx + 1, 2, none⟩ = some (.string a2') := (hb03.cell (p := ⟨cx + 1, 2, none⟩) hcx1).trans g2; have g3c : w3.cell? ⟨cx + 1, 3, none⟩ = some (.int .i64 nu') := (hb03.cell (p := ⟨cx + 1, 3, none⟩) hcx1).trans g3; have g4c : w3.cell? ⟨cx + 1, 4, none⟩ = some (.slice ad' n' cap') := (hb03.cell (p := ⟨cx + 1, 4, none⟩) hcx1).trans g4; have m0c : w3.cell? ⟨lb, lo, none⟩ = some (.string S) := (hb03.cell (p := ⟨lb, lo, none⟩) hlb).trans m0) | (go_at_call 29; refine Calls.mono (HC0.out _ (lo + 1) (by first | exact Below.refl _ _ | go_grown) (fun _ => rfl)) ?_; rintro e w1 ⟨rfl, hb1⟩; have hb01 := (show Below W0.heap.size W0 W0.drew from by go_grown).trans hb1; have d0a : w1.cell? ⟨cx, 0, none⟩ = some (.int .i64 k) := (hb01.cell (p := ⟨cx, 0, none⟩) hcx0).trans d0; have d1a : w1.cell? ⟨cx, 1, none⟩ = some (.string a1) := (hb01.cell (p := ⟨cx, 1, none⟩) hcx0).trans d1; have d2a : w1.cell? ⟨cx, 2, none⟩ = some (.string a2) := (hb01.cell (p := ⟨cx, 2, none⟩) hcx0).trans d2; have d3a : w1.cell? ⟨cx, 3, none⟩ = some (.int .i64 nu) := (hb01.cell (p := ⟨cx, 3, none⟩) hcx0).trans d3; have d4a : w1.cell? ⟨cx, 4, none⟩ = some (.slice ad n cap) := (hb01.cell (p := ⟨cx, 4, none⟩) hcx0).trans d4; have g0a : w1.cell? ⟨cx + 1, 0, none⟩ = some (.int .i64 k') := (hb01.cell (p := ⟨cx + 1, 0, none⟩) hcx1).trans g0; have g1a : w1.cell? ⟨cx + 1, 1, none⟩ = some (.string a1') := (hb01.cell (p := ⟨cx + 1, 1, none⟩) hcx1).trans g1; have g2a : w1.cell? ⟨cx + 1, 2, none⟩ = some (.string a2') := (hb01.cell (p := ⟨cx + 1, 2, none⟩) hcx1).trans g2; have g3a : w1.cell? ⟨cx + 1, 3, none⟩ = some (.int .i64 nu') := (hb01.cell (p := ⟨cx + 1, 3, none⟩) hcx1).trans g3; have g4a : w1.cell? ⟨cx + 1, 4, none⟩ = some (.slice ad' n' cap') := (hb01.cell (p := ⟨cx + 1, 4, none⟩) hcx1).trans g4; have m0a : w1.cell? ⟨lb, lo, none⟩ = some (.string S) := (hb01.cell (p := ⟨lb, lo, none⟩) hlb).trans m0; have hcx01 : cx < w1.heap.size := Nat.lt_of_lt_of_le hcx0 hb01.size; have hcx11 : cx + 1 < w1.heap.size := Nat.lt_of_lt_of_le hcx1 hb01.size; have hlb1 : lb < w1.heap.size := Nat.lt_of_lt_of_le hlb hb01.size))) | fail
          all_goals
            go_wp2_with fail
            go_ret
            exact ⟨by rw [← HV.out]; rfl, HB9.out.trans (hb02.mono HB9.out.size)⟩
    | some rp =>
      obtain ⟨rb, ro, rs⟩ := rp
      obtain rfl : rs = none := hrs _ rfl
      clear hra hrs
      cases c1 with
      | zero =>
        obtain rfl : n1 = 0 := by omega
        cases b1 with
        | false =>
          go_enter Tryd.func29, Tryd.ntmps29
          go_upto_region 1 with fail
          rw [← hW0, ← hcx]
          clear hW0 hcx
          go_upto_region 3 with fail
          refine wp_region_held_drew (S := fun W => W.cell? ⟨cx, 0, none⟩ = some (.int .i64 k) ∧ W.cell? ⟨cx, 1, none⟩ = some (.string a1) ∧ W.cell? ⟨cx, 2, none⟩ = some (.string a2) ∧ W.cell? ⟨cx, 3, none⟩ = some (.int .i64 nu) ∧ W.cell? ⟨cx, 4, none⟩ = some (.slice ad n cap) ∧ W.cell? ⟨cx + 1, 0, none⟩ = some (.int .i64 k') ∧ W.cell? ⟨cx + 1, 1, none⟩ = some (.string a1') ∧ W.cell? ⟨cx + 1, 2, none⟩ = some (.string a2') ∧ W.cell? ⟨cx + 1, 3, none⟩ = some (.int .i64 nu') ∧ W.cell? ⟨cx + 1, 4, none⟩ = some (.slice ad' n' cap') ∧ W.cell? ⟨lb, lo, none⟩ = some (.string S)) (by kernel_rfl) (by with_reducible exact ⟨d0d, d1d, d2d, d3d, d4d, g0d, g1d, g2d, g3d, g4d, m0d⟩) (fun hHeld => ?_)
          refine wpAnyH_take (i := 0) (v := ?vx3x0) rfl (by kernel_rfl) (by kernel_rfl) (by kernel_rfl) (fun _ _ _ h => h) (Or.inl ⟨by rfl, ?hyx3x0⟩) (by assumption) ?restx3x0
          case hyx3x0 =>
            intro w hSw
            (try dsimp only at hSw)
            go_simp
            (try with_reducible rfl)
          change wpAnyH _ _ _ _ _ _ _ (Act.put _ (some 19) _) _
          try simp only [Act.put, List.setIfInBounds_toArray, List.set_cons_zero, List.set_cons_succ]
          refine wpAnyH_take (i := 1) (v := ?vx3x1) rfl (by kernel_rfl) (by kernel_rfl) (by kernel_rfl) (fun _ _ _ h => h) (Or.inl ⟨by rfl, ?hyx3x1⟩) (by assumption) ?restx3x1
          case hyx3x1 =>
            intro w hSw
            (try dsimp only at hSw)
            go_simp
            (try with_reducible rfl)
          change wpAnyH _ _ _ _ _ _ _ (Act.put _ (some 20) _) _
          try simp only [Act.put, List.setIfInBounds_toArray, List.set_cons_zero, List.set_cons_succ]
          refine wpAnyH_take (i := 2) (v := ?vx3x2) rfl (by kernel_rfl) (by kernel_rfl) (by kernel_rfl) (fun _ _ _ h => h) (Or.inl ⟨by rfl, ?hyx3x2⟩) (by assumption) ?restx3x2
          case hyx3x2 =>
            intro w hSw
            (try dsimp only at hSw)
            go_simp
            (try with_reducible rfl)
          change wpAnyH _ _ _ _ _ _ _ (Act.put _ (some 21) _) _
          try simp only [Act.put, List.setIfInBounds_toArray, List.set_cons_zero, List.set_cons_succ]
          refine wpAnyH_take (i := 3) (v := ?vx3x3) rfl (by kernel_rfl) (by kernel_rfl) (by kernel_rfl) (fun _ _ _ h => h) (Or.inl ⟨by rfl, ?hyx3x3⟩) (by assumption) ?restx3x3
          case hyx3x3 =>
            intro w hSw
            (try dsimp only at hSw)
            go_simp
            (try with_reducible rfl)
          change wpAnyH _ _ _ _ _ _ _ (Act.put _ (some 22) _) _
          try simp only [Act.put, List.setIfInBounds_toArray, List.set_cons_zero, List.set_cons_succ]
          refine wpAnyH_take (i := 4) (v := ?vx3x4) rfl (by kernel_rfl) (by kernel_rfl) (by kernel_rfl) (fun _ _ _ h => h) (Or.inl ⟨by rfl, ?hyx3x4⟩) (by assumption) ?restx3x4
          case hyx3x4 =>
            intro w hSw
            (try dsimp only at hSw)
            go_simp
            (try with_reducible rfl)
          change wpAnyH _ _ _ _ _ _ _ (Act.put _ (some 23) _) _
          try simp only [Act.put, List.setIfInBounds_toArray, List.set_cons_zero, List.set_cons_succ]
          refine wpAnyH_ready (rs := [5]) (by kernel_rfl) (by simp) ?_
          refine AllReadyH.cons rfl (fun K hK => ?_) AllReadyH.nil
          go_simp
          go_at_call 29
          refine Calls.mono (HC0.out _ (lo) (by first | exact Below.refl _ _ | go_grown) (fun h => absurd h (by omega))) ?_
          rintro e w1 ⟨rfl, hb1⟩
          have hb01 := (show Below W0.heap.size W0 W0.drew from by go_grown).trans hb1
          have d0a : w1.cell? ⟨cx, 0, none⟩ = some (.int .i64 k) := (hb01.cell (p := ⟨cx, 0, none⟩) hcx0).trans d0
          have d1a : w1.cell? ⟨cx, 1, none⟩ = some (.string a1) := (hb01.cell (p := ⟨cx, 1, none⟩) hcx0).trans d1
          have d2a : w1.cell? ⟨cx, 2, none⟩ = some (.string a2) := (hb01.cell (p := ⟨cx, 2, none⟩) hcx0).trans d2
          have d3a : w1.cell? ⟨cx, 3, none⟩ = some (.int .i64 nu) := (hb01.cell (p := ⟨cx, 3, none⟩) hcx0).trans d3
          have d4a : w1.cell? ⟨cx, 4, none⟩ = some (.slice ad n cap) := (hb01.cell (p := ⟨cx, 4, none⟩) hcx0).trans d4
          have g0a : w1.cell? ⟨cx + 1, 0, none⟩ = some (.int .i64 k') := (hb01.cell (p := ⟨cx + 1, 0, none⟩) hcx1).trans g0
          have g1a : w1.cell? ⟨cx + 1, 1, none⟩ = some (.string a1') := (hb01.cell (p := ⟨cx + 1, 1, none⟩) hcx1).trans g1
          have g2a : w1.cell? ⟨cx + 1, 2, none⟩ = some (.string a2') := (hb01.cell (p := ⟨cx + 1, 2, none⟩) hcx1).trans g2
          have g3a : w1.cell? ⟨cx + 1, 3, none⟩ = some (.int .i64 nu') := (hb01.cell (p := ⟨cx + 1, 3, none⟩) hcx1).trans g3
          have g4a : w1.cell? ⟨cx + 1, 4, none⟩ = some (.slice ad' n' cap') := (hb01.cell (p := ⟨cx + 1, 4, none⟩) hcx1).trans g4
          have m0a : w1.cell? ⟨lb, lo, none⟩ = some (.string S) := (hb01.cell (p := ⟨lb, lo, none⟩) hlb).trans m0
          have hcx01 : cx < w1.heap.size := Nat.lt_of_lt_of_le hcx0 hb01.size
          have hcx11 : cx + 1 < w1.heap.size := Nat.lt_of_lt_of_le hcx1 hb01.size
          have hlb1 : lb < w1.heap.size := Nat.lt_of_lt_of_le hlb hb01.size
          (try go_wp2_with fail)
          refine hK.out _ _ (by with_reducible exact ⟨d0a, d1a, d2a, d3a, d4a, g0a, g1a, g2a, g3a, g4a, m0a⟩) (fun hHeld => ?_)
          clear hK K
          try simp only [Act.put, List.setIfInBounds_toArray, List.set_cons_zero, List.set_cons_succ]
          refine wpAnyH_take (i := 6) (v := ?vx3x6) rfl (by kernel_rfl) (by kernel_rfl) (by kernel_rfl) (fun _ _ _ h => h) (Or.inl ⟨by rfl, ?hyx3x6⟩) (by assumption) ?restx3x6
          case hyx3x6 =>
            intro w hSw
            (try dsimp only at hSw)
            go_simp
            (try with_reducible rfl)
          change wpAnyH _ _ _ _ _ _ _ (Act.put _ (some 25) _) _
          try simp only [Act.put, List.setIfInBounds_toArray, List.set_cons_zero, List.set_cons_succ]
          refine wpAnyH_take (i := 7) (v := undef) rfl (by kernel_rfl) (by kernel_rfl) (by kernel_rfl) (fun _ _ _ h => h) (Or.inr ⟨by rfl, rfl⟩) (by assumption) ?_
          change wpAnyH _ _ _ _ _ _ _ (Act.put _ (some 26) _) _
          try simp only [Act.put, List.setIfInBounds_toArray, List.set_cons_zero, List.set_cons_succ]
          refine wpAnyH_take (i := 8) (v := undef) rfl (by kernel_rfl) (by kernel_rfl) (by kernel_rfl) (fun _ _ _ h => h) (Or.inr ⟨by rfl, rfl⟩) (by assumption) ?_
          change wpAnyH _ _ _ _ _ _ _ (Act.put _ (some 27) _) _
          try simp only [Act.put, List.setIfInBounds_toArray, List.set_cons_zero, List.set_cons_succ]
          refine wpAnyH_take (i := 9) (v := undef) rfl (by kernel_rfl) (by kernel_rfl) (by kernel_rfl) (fun _ _ _ h => h) (Or.inr ⟨by rfl, rfl⟩) (by assumption) ?_
          change wpAnyH _ _ _ _ _ _ _ (Act.put _ (some 28) _) _
          try simp only [Act.put, List.setIfInBounds_toArray, List.set_cons_zero, List.set_cons_succ]
          refine wpAnyH_take (i := 10) (v := undef) rfl (by kernel_rfl) (by kernel_rfl) (by kernel_rfl) (fun _ _ _ h => h) (Or.inr ⟨by rfl, rfl⟩) (by assumption) ?_
          change wpAnyH _ _ _ _ _ _ _ (Act.put _ (some 29) _) _
          try simp only [Act.put, List.setIfInBounds_toArray, List.set_cons_zero, List.set_cons_succ]
          refine wpAnyH_take (i := 11) (v := undef) rfl (by kernel_rfl) (by kernel_rfl) (by kernel_rfl) (fun _ _ _ h => h) (Or.inr ⟨by rfl, rfl⟩) (by assumption) ?_
          change wpAnyH _ _ _ _ _ _ _ (Act.put _ (some 30) _) _
          try simp only [Act.put, List.setIfInBounds_toArray, List.set_cons_zero, List.set_cons_succ]
          refine wpAnyH_take (i := 12) (v := undef) rfl (by kernel_rfl) (by kernel_rfl) (by kernel_rfl) (fun _ _ _ h => h) (Or.inr ⟨by rfl, rfl⟩) (by assumption) ?_
          change wpAnyH _ _ _ _ _ _ _ (Act.put _ (some 31) _) _
          try simp only [Act.put, List.setIfInBounds_toArray, List.set_cons_zero, List.set_cons_succ]
          refine wpAnyH_take (i := 13) (v := undef) rfl (by kernel_rfl) (by kernel_rfl) (by kernel_rfl) (fun _ _ _ h => h) (Or.inr ⟨by rfl, rfl⟩) (by assumption) ?_
          change wpAnyH _ _ _ _ _ _ _ (Act.put _ (some 32) _) _
          try simp only [Act.put, List.setIfInBounds_toArray, List.set_cons_zero, List.set_cons_succ]
          refine wpAnyH_take (i := 14) (v := undef) rfl (by kernel_rfl) (by kernel_rfl) (by kernel_rfl) (fun _ _ _ h => h) (Or.inr ⟨by rfl, rfl⟩) (by assumption) ?_
          change wpAnyH _ _ _ _ _ _ _ (Act.put _ (some 33) _) _
          try simp only [Act.put, List.setIfInBounds_toArray, List.set_cons_zero, List.set_cons_succ]
          refine wpAnyH_take (i := 15) (v := undef) rfl (by kernel_rfl) (by kernel_rfl) (by kernel_rfl) (fun _ _ _ h => h) (Or.inr ⟨by rfl, rfl⟩) (by assumption) ?_
          change wpAnyH _ _ _ _ _ _ _ (Act.put _ (some 34) _) _
          try simp only [Act.put, List.setIfInBounds_toArray, List.set_cons_zero, List.set_cons_succ]
          refine wpAnyH_take (i := 16) (v := undef) rfl (by kernel_rfl) (by kernel_rfl) (by kernel_rfl) (fun _ _ _ h => h) (Or.inr ⟨by rfl, rfl⟩) (by assumption) ?_
          change wpAnyH _ _ _ _ _ _ _ (Act.put _ (some 35) _) _
          try simp only [Act.put, List.setIfInBounds_toArray, List.set_cons_zero, List.set_cons_succ]
          refine wpAnyH_take (i := 17) (v := undef) rfl (by kernel_rfl) (by kernel_rfl) (by kernel_rfl) (fun _ _ _ h => h) (Or.inr ⟨by rfl, rfl⟩) (by assumption) ?_
          change wpAnyH _ _ _ _ _ _ _ (Act.put _ (some 36) _) _
          try simp only [Act.put, List.setIfInBounds_toArray, List.set_cons_zero, List.set_cons_succ]
          refine wpAnyH_take (i := 18) (v := undef) rfl (by kernel_rfl) (by kernel_rfl) (by kernel_rfl) (fun _ _ _ h => h) (Or.inr ⟨by rfl, rfl⟩) (by assumption) ?_
          change wpAnyH _ _ _ _ _ _ _ (Act.put _ (some 37) _) _
          try simp only [Act.put, List.setIfInBounds_toArray, List.set_cons_zero, List.set_cons_succ]
          refine wpAnyH_take (i := 19) (v := undef) rfl (by kernel_rfl) (by kernel_rfl) (by kernel_rfl) (fun _ _ _ h => h) (Or.inr ⟨by rfl, rfl⟩) (by assumption) ?_
          change wpAnyH _ _ _ _ _ _ _ (Act.put _ (some 38) _) _
          try simp only [Act.put, List.setIfInBounds_toArray, List.set_cons_zero, List.set_cons_succ]
          refine wpAnyH_take (i := 20) (v := undef) rfl (by kernel_rfl) (by kernel_rfl) (by kernel_rfl) (fun _ _ _ h => h) (Or.inr ⟨by rfl, rfl⟩) (by assumption) ?_
          change wpAnyH _ _ _ _ _ _ _ (Act.put _ (some 39) _) _
          try simp only [Act.put, List.setIfInBounds_toArray, List.set_cons_zero, List.set_cons_succ]
          refine wpAnyH_take (i := 21) (v := undef) rfl (by kernel_rfl) (by kernel_rfl) (by kernel_rfl) (fun _ _ _ h => h) (Or.inr ⟨by rfl, rfl⟩) (by assumption) ?_
          change wpAnyH _ _ _ _ _ _ _ (Act.put _ (some 40) _) _
          try simp only [Act.put, List.setIfInBounds_toArray, List.set_cons_zero, List.set_cons_succ]
          refine wpAnyH_take (i := 22) (v := undef) rfl (by kernel_rfl) (by kernel_rfl) (by kernel_rfl) (fun _ _ _ h => h) (Or.inr ⟨by rfl, rfl⟩) (by assumption) ?_
          change wpAnyH _ _ _ _ _ _ _ (Act.put _ (some 41) _) _
          try simp only [Act.put, List.setIfInBounds_toArray, List.set_cons_zero, List.set_cons_succ]
          refine wpAnyH_take (i := 23) (v := ?vx3x23) rfl (by kernel_rfl) (by kernel_rfl) (by kernel_rfl) (fun _ _ _ h => h) (Or.inl ⟨by rfl, ?hyx3x23⟩) (by assumption) ?restx3x23
          case hyx3x23 =>
            intro w hSw
            (try dsimp only at hSw)
            go_simp
            (try with_reducible rfl)
          change wpAnyH _ _ _ _ _ _ _ (Act.put _ (some 42) _) _
          try simp only [Act.put, List.setIfInBounds_toArray, List.set_cons_zero, List.set_cons_succ]
          refine wpAnyH_take (i := 24) (v := ?vx3x24) rfl (by kernel_rfl) (by kernel_rfl) (by kernel_rfl) (fun _ _ _ h => h) (Or.inl ⟨by rfl, ?hyx3x24⟩) (by assumption) ?restx3x24
          case hyx3x24 =>
            intro w hSw
            (try dsimp only at hSw)
            go_simp
            (try with_reducible rfl)
          change wpAnyH _ _ _ _ _ _ _ (Act.put _ (some 8) _) _
          try simp only [Act.put, List.setIfInBounds_toArray, List.set_cons_zero, List.set_cons_succ]
          refine wpAnyH_done (by kernel_rfl) ?_ _
          go_wp2_with fail
          go_ret
          exact ⟨by rw [← HV.out]; rfl, HB9.out.trans (hb01.mono HB9.out.size)⟩
        | true =>
          go_enter Tryd.func29, Tryd.ntmps29
          go_upto_region 1 with fail
          rw [← hW0, ← hcx]
          clear hW0 hcx
          go_upto_region 3 with fail
          first | (go_region_held3 (fun W => W.cell? ⟨cx, 0, none⟩ = some (.int .i64 k) ∧ W.cell? ⟨cx, 1, none⟩ = some (.string a1) ∧ W.cell? ⟨cx, 2, none⟩ = some (.string a2) ∧ W.cell? ⟨cx, 3, none⟩ = some (.int .i64 nu) ∧ W.cell? ⟨cx, 4, none⟩ = some (.slice ad n cap) ∧ W.cell? ⟨cx + 1, 0, none⟩ = some (.int .i64 k') ∧ W.cell? ⟨cx + 1, 1, none⟩ = some (.string a1') ∧ W.cell? ⟨cx + 1, 2, none⟩ = some (.string a2') ∧ W.cell? ⟨cx + 1, 3, none⟩ = some (.int .i64 nu') ∧ W.cell? ⟨cx + 1, 4, none⟩ = some (.slice ad' n' cap') ∧ W.cell? ⟨lb, lo, none⟩ = some (.string S)) (first | with_reducible exact ⟨d0, d1, d2, d3, d4, g0, g1, g2, g3, g4, m0⟩ | with_reducible exact ⟨d0d, d1d, d2d, d3d, d4d, g0d, g1d, g2d, g3d, g4d, m0d⟩ | with_reducible exact ⟨d0a, d1a, d2a, d3a, d4a, g0a, g1a, g2a, g3a, g4a, m0a⟩ | with_reducible exact ⟨(World.cell?_alloc_lt _ _ ⟨cx, 0, none⟩ hcx01).trans d0a, (World.cell?_alloc_lt _ _ ⟨cx, 1, none⟩ hcx01).trans d1a, (World.cell?_alloc_lt _ _ ⟨cx, 2, none⟩ hcx01).trans d2a, (World.cell?_alloc_lt _ _ ⟨cx, 3, none⟩ hcx01).trans d3a, (World.cell?_alloc_lt _ _ ⟨cx, 4, none⟩ hcx01).trans d4a, (World.cell?_alloc_lt _ _ ⟨cx + 1, 0, none⟩ hcx11).trans g0a, (World.cell?_alloc_lt _ _ ⟨cx + 1, 1, none⟩ hcx11).trans g1a, (World.cell?_alloc_lt _ _ ⟨cx + 1, 2, none⟩ hcx11).trans g2a, (World.cell?_alloc_lt _ _ ⟨cx + 1, 3, none⟩ hcx11).trans g3a, (World.cell?_alloc_lt _ _ ⟨cx + 1, 4, none⟩ hcx11).trans g4a, (World.cell?_alloc_lt _ _ ⟨lb, lo, none⟩ hlb1).trans m0a⟩ | with_reducible exact ⟨d0c, d1c, d2c, d3c, d4c, g0c, g1c, g2c, g3c, g4c, m0c⟩ | with_reducible exact ⟨d0b, d1b, d2b, d3b, d4b, g0b, g1b, g2b, g3b, g4b, m0b⟩ | go_keep) (first | (go_at_call 29; have hxx := hb3.size; clear hxx; refine Calls.mono (HC1.out _ (lo) _ _ hb03 (fun h => absurd h (by omega)) hgc.1 (by have h := hgc.2; unfold maxLen at h; exact h) hgn hgs hgv) ?_; rintro e w2 ⟨rfl, hb2⟩; have hb02 := hb03.trans (hb2.mono hb03.size); have d0b : w2.cell? ⟨cx, 0, none⟩ = some (.int .i64 k) := (hb02.cell (p := ⟨cx, 0, none⟩) hcx0).trans d0; have d1b : w2.cell? ⟨cx, 1, none⟩ = some (.string a1) := (hb02.cell (p := ⟨cx, 1, none⟩) hcx0).trans d1; have d2b : w2.cell? ⟨cx, 2, none⟩ = some (.string a2) := (hb02.cell (p := ⟨cx, 2, none⟩) hcx0).trans d2; have d3b : w2.cell? ⟨cx, 3, none⟩ = some (.int .i64 nu) := (hb02.cell (p := ⟨cx, 3, none⟩) hcx0).trans d3; have d4b : w2.cell? ⟨cx, 4, none⟩ = some (.slice ad n cap) := (hb02.cell (p := ⟨cx, 4, none⟩) hcx0).trans d4; have g0b : w2.cell? ⟨cx + 1, 0, none⟩ = some (.int .i64 k') := (hb02.cell (p := ⟨cx + 1, 0, none⟩) hcx1).trans g0; have g1b : w2.cell? ⟨cx + 1, 1, none⟩ = some (.string a1') := (hb02.cell (p := ⟨cx + 1, 1, none⟩) hcx1).trans g1; have g2b : w2.cell? ⟨cx + 1, 2, none⟩ = some (.string a2') := (hb02.cell (p := ⟨cx + 1, 2, none⟩) hcx1).trans g2; have g3b : w2.cell? ⟨cx + 1, 3, none⟩ = some (.int .i64 nu') := (hb02.cell (p := ⟨cx + 1, 3, none⟩) hcx1).trans g3; have g4b : w2.cell? ⟨cx + 1, 4, none⟩ = some (.slice ad' n' cap') := (hb02.cell (p := ⟨cx + 1, 4, none⟩) hcx1).trans g4; have m0b : w2.cell? ⟨lb, lo, none⟩ = some (.string S) := (hb02.cell (p := ⟨lb, lo, none⟩) hlb).trans m0) | (rw [if_pos (rfl : Region.wanted _ _ = true)]; refine oper_append_full _ (.tmp 35) (.tmp 39) 41 rfl 9 (.string ⟨#[]⟩) 1 16 Tryd.underlying41 infoStr rfl (by decide) (some ⟨rb, ro, none⟩) rm (txv R) rfl (fun h => by cases h) (fun b h => by cases h; rfl) (by rw [txv_length, HRM.out, Nat.mul_one]) (HRV.out _ (hb01.alloc hb01.size _)) (some ⟨w1.heap.size, 0, none⟩) 1 1 [.string S] rfl (fun h => by cases h) (fun b h => by cases h; rfl) rfl (one_val _ _ _) (by unfold maxLen; omega) (by omega) ?_; intro ga gc w3 hgc hgn hgs hgv hb3 hgo; clear hgo; have hb03 := (hb01.alloc hb01.size (.cells #[.string S] 9)).trans (hb3.mono (hb01.alloc hb01.size (.cells #[.string S] 9)).size); rw [HTX.out] at hgv; have d0c : w3.cell? ⟨cx, 0, none⟩ = some (.int .i64 k) := (hb03.cell (p := ⟨cx, 0, none⟩) hcx0).trans d0; have d1c : w3.cell? ⟨cx, 1, none⟩ = some (.string a1) := (hb03.cell (p := ⟨cx, 1, none⟩) hcx0).trans d1; have d2c : w3.cell? ⟨cx, 2, none⟩ = some (.string a2) := (hb03.cell (p := ⟨cx, 2, none⟩) hcx0).trans d2; have d3c : w3.cell? ⟨cx, 3, none⟩ = some (.int .i64 nu) := (hb03.cell (p := ⟨cx, 3, none⟩) hcx0).trans d3; have d4c : w3.cell? ⟨cx, 4, none⟩ = some (.slice ad n cap) := (hb03.cell (p := ⟨cx, 4, none⟩) hcx0).trans d4; have g0c : w3.cell? ⟨cx + 1, 0, none⟩ = some (.int .i64 k') := (hb03.cell (p := ⟨cx + 1, 0, none⟩) hcx1).trans g0; have g1c : w3.cell? ⟨cx + 1, 1, none⟩ = some (.string a1') := (hb03.cell (p := ⟨cx + 1, 1, none⟩) hcx1).trans g1; have g2c : w3.cell? ⟨cx + 1, 2, none⟩ = some (.string a2') := (hb03.cell (p := ⟨cx + 1, 2, none⟩) hcx1).trans g2; have g3c : w3.cell? ⟨cx + 1, 3, none⟩ = some (.int .i64 nu') := (hb03.cell (p := ⟨cx + 1, 3, none⟩) hcx1).trans g3; have g4c : w3.cell? ⟨cx + 1, 4, none⟩ = some (.slice ad' n' cap') := (hb03.cell (p := ⟨cx + 1, 4, none⟩) hcx1).trans g4; have m0c : w3.cell? ⟨lb, lo, none⟩ = some (.string S) := (hb03.cell (p := ⟨lb, lo, none⟩) hlb).trans m0) | (go_at_call 29; refine Calls.mono (HC0.out _ (lo) (by first | exact Below.refl _ _ | go_grown) (fun h => absurd h (by omega))) ?_; rintro e w1 ⟨rfl, hb1⟩; have hb01 := (show Below W0.heap.size W0 W0.drew from by go_grown).trans hb1; have d0a : w1.cell? ⟨cx, 0, none⟩ = some (.int .i64 k) := (hb01.cell (p := ⟨cx, 0, none⟩) hcx0).trans d0; have d1a : w1.cell? ⟨cx, 1, none⟩ = some (.string a1) := (hb01.cell (p := ⟨cx, 1, none⟩) hcx0).trans d1; have d2a : w1.cell? ⟨cx, 2, none⟩ = some (.string a2) := (hb01.cell (p := ⟨cx, 2, none⟩) hcx0).trans d2; have d3a : w1.cell? ⟨cx, 3, none⟩ = some (.int .i64 nu) := (hb01.cell (p := ⟨cx, 3, none⟩) hcx0).trans d3; have d4a : w1.cell? ⟨cx, 4, none⟩ = some (.slice ad n cap) := (hb01.cell (p := ⟨cx, 4, none⟩) hcx0).trans d4; have g0a : w1.cell? ⟨cx + 1, 0, none⟩ = some (.int .i64 k') := (hb01.cell (p := ⟨cx + 1, 0, none⟩) hcx1).trans g0; have g1a : w1.cell? ⟨cx + 1, 1, none⟩ = some (.string a1') := (hb01.cell (p := ⟨cx + 1, 1, none⟩) hcx1).trans g1; have g2a : w1.cell? ⟨cx + 1, 2, none⟩ = some (.string a2') := (hb01.cell (p := ⟨cx + 1, 2, none⟩) hcx1).trans g2; have g3a : w1.cell? ⟨cx + 1, 3, none⟩ = some (.int .i64 nu') := (hb01.cell (p := ⟨cx + 1, 3, none⟩) hcx1).trans g3; have g4a : w1.cell? ⟨cx + 1, 4, none⟩ = some (.slice ad' n' cap') := (hb01.cell (p := ⟨cx + 1, 4, none⟩) hcx1).trans g4; have m0a : w1.cell? ⟨lb, lo, none⟩ = some (.string S) := (hb01.cell (p := ⟨lb, lo, none⟩) hlb).trans m0; have hcx01 : cx < w1.heap.size := Nat.lt_of_lt_of_le hcx0 hb01.size; have hcx11 : cx + 1 < w1.heap.size := Nat.lt_of_lt_of_le hcx1 hb01.size; have hlb1 : lb < w1.heap.size := Nat.lt_of_lt_of_le hlb hb01.size))) | fail
          all_goals
            go_wp2_with fail
            go_ret
            exact ⟨by rw [← HV.out]; rfl, HB9.out.trans (hb02.mono HB9.out.size)⟩
      | succ c2 =>
        cases b1 with
        | false =>
          go_enter Tryd.func29, Tryd.ntmps29
          go_upto_region 1 with fail
          rw [← hW0, ← hcx]
          clear hW0 hcx
          go_upto_region 3 with fail
          refine wp_region_held_drew (S := fun W => W.cell? ⟨cx, 0, none⟩ = some (.int .i64 k) ∧ W.cell? ⟨cx, 1, none⟩ = some (.string a1) ∧ W.cell? ⟨cx, 2, none⟩ = some (.string a2) ∧ W.cell? ⟨cx, 3, none⟩ = some (.int .i64 nu) ∧ W.cell? ⟨cx, 4, none⟩ = some (.slice ad n cap) ∧ W.cell? ⟨cx + 1, 0, none⟩ = some (.int .i64 k') ∧ W.cell? ⟨cx + 1, 1, none⟩ = some (.string a1') ∧ W.cell? ⟨cx + 1, 2, none⟩ = some (.string a2') ∧ W.cell? ⟨cx + 1, 3, none⟩ = some (.int .i64 nu') ∧ W.cell? ⟨cx + 1, 4, none⟩ = some (.slice ad' n' cap') ∧ W.cell? ⟨lb, lo, none⟩ = some (.string S)) (by kernel_rfl) (by with_reducible exact ⟨d0d, d1d, d2d, d3d, d4d, g0d, g1d, g2d, g3d, g4d, m0d⟩) (fun hHeld => ?_)
          refine wpAnyH_take (i := 0) (v := ?vx4x0) rfl (by kernel_rfl) (by kernel_rfl) (by kernel_rfl) (fun _ _ _ h => h) (Or.inl ⟨by rfl, ?hyx4x0⟩) (by assumption) ?restx4x0
          case hyx4x0 =>
            intro w hSw
            (try dsimp only at hSw)
            go_simp
            (try with_reducible rfl)
          change wpAnyH _ _ _ _ _ _ _ (Act.put _ (some 19) _) _
          try simp only [Act.put, List.setIfInBounds_toArray, List.set_cons_zero, List.set_cons_succ]
          refine wpAnyH_take (i := 1) (v := ?vx4x1) rfl (by kernel_rfl) (by kernel_rfl) (by kernel_rfl) (fun _ _ _ h => h) (Or.inl ⟨by rfl, ?hyx4x1⟩) (by assumption) ?restx4x1
          case hyx4x1 =>
            intro w hSw
            (try dsimp only at hSw)
            go_simp
            (try with_reducible rfl)
          change wpAnyH _ _ _ _ _ _ _ (Act.put _ (some 20) _) _
          try simp only [Act.put, List.setIfInBounds_toArray, List.set_cons_zero, List.set_cons_succ]
          refine wpAnyH_take (i := 2) (v := ?vx4x2) rfl (by kernel_rfl) (by kernel_rfl) (by kernel_rfl) (fun _ _ _ h => h) (Or.inl ⟨by rfl, ?hyx4x2⟩) (by assumption) ?restx4x2
          case hyx4x2 =>
            intro w hSw
            (try dsimp only at hSw)
            go_simp
            (try with_reducible rfl)
          change wpAnyH _ _ _ _ _ _ _ (Act.put _ (some 21) _) _
          try simp only [Act.put, List.setIfInBounds_toArray, List.set_cons_zero, List.set_cons_succ]
          refine wpAnyH_take (i := 3) (v := ?vx4x3) rfl (by kernel_rfl) (by kernel_rfl) (by kernel_rfl) (fun _ _ _ h => h) (Or.inl ⟨by rfl, ?hyx4x3⟩) (by assumption) ?restx4x3
          case hyx4x3 =>
            intro w hSw
            (try dsimp only at hSw)
            go_simp
            (try with_reducible rfl)
          change wpAnyH _ _ _ _ _ _ _ (Act.put _ (some 22) _) _
          try simp only [Act.put, List.setIfInBounds_toArray, List.set_cons_zero, List.set_cons_succ]
          refine wpAnyH_take (i := 4) (v := ?vx4x4) rfl (by kernel_rfl) (by kernel_rfl) (by kernel_rfl) (fun _ _ _ h => h) (Or.inl ⟨by rfl, ?hyx4x4⟩) (by assumption) ?restx4x4
          case hyx4x4 =>
            intro w hSw
            (try dsimp only at hSw)
            go_simp
            (try with_reducible rfl)
          change wpAnyH _ _ _ _ _ _ _ (Act.put _ (some 23) _) _
          try simp only [Act.put, List.setIfInBounds_toArray, List.set_cons_zero, List.set_cons_succ]
          refine wpAnyH_ready (rs := [5]) (by kernel_rfl) (by simp) ?_
          refine AllReadyH.cons rfl (fun K hK => ?_) AllReadyH.nil
          go_simp
          go_at_call 29
          refine Calls.mono (HC0.out _ (lo + 1) (by first | exact Below.refl _ _ | go_grown) (fun _ => rfl)) ?_
          rintro e w1 ⟨rfl, hb1⟩
          have hb01 := (show Below W0.heap.size W0 W0.drew from by go_grown).trans hb1
          have d0a : w1.cell? ⟨cx, 0, none⟩ = some (.int .i64 k) := (hb01.cell (p := ⟨cx, 0, none⟩) hcx0).trans d0
          have d1a : w1.cell? ⟨cx, 1, none⟩ = some (.string a1) := (hb01.cell (p := ⟨cx, 1, none⟩) hcx0).trans d1
          have d2a : w1.cell? ⟨cx, 2, none⟩ = some (.string a2) := (hb01.cell (p := ⟨cx, 2, none⟩) hcx0).trans d2
          have d3a : w1.cell? ⟨cx, 3, none⟩ = some (.int .i64 nu) := (hb01.cell (p := ⟨cx, 3, none⟩) hcx0).trans d3
          have d4a : w1.cell? ⟨cx, 4, none⟩ = some (.slice ad n cap) := (hb01.cell (p := ⟨cx, 4, none⟩) hcx0).trans d4
          have g0a : w1.cell? ⟨cx + 1, 0, none⟩ = some (.int .i64 k') := (hb01.cell (p := ⟨cx + 1, 0, none⟩) hcx1).trans g0
          have g1a : w1.cell? ⟨cx + 1, 1, none⟩ = some (.string a1') := (hb01.cell (p := ⟨cx + 1, 1, none⟩) hcx1).trans g1
          have g2a : w1.cell? ⟨cx + 1, 2, none⟩ = some (.string a2') := (hb01.cell (p := ⟨cx + 1, 2, none⟩) hcx1).trans g2
          have g3a : w1.cell? ⟨cx + 1, 3, none⟩ = some (.int .i64 nu') := (hb01.cell (p := ⟨cx + 1, 3, none⟩) hcx1).trans g3
          have g4a : w1.cell? ⟨cx + 1, 4, none⟩ = some (.slice ad' n' cap') := (hb01.cell (p := ⟨cx + 1, 4, none⟩) hcx1).trans g4
          have m0a : w1.cell? ⟨lb, lo, none⟩ = some (.string S) := (hb01.cell (p := ⟨lb, lo, none⟩) hlb).trans m0
          have hcx01 : cx < w1.heap.size := Nat.lt_of_lt_of_le hcx0 hb01.size
          have hcx11 : cx + 1 < w1.heap.size := Nat.lt_of_lt_of_le hcx1 hb01.size
          have hlb1 : lb < w1.heap.size := Nat.lt_of_lt_of_le hlb hb01.size
          (try go_wp2_with fail)
          refine hK.out _ _ (by with_reducible exact ⟨d0a, d1a, d2a, d3a, d4a, g0a, g1a, g2a, g3a, g4a, m0a⟩) (fun hHeld => ?_)
          clear hK K
          try simp only [Act.put, List.setIfInBounds_toArray, List.set_cons_zero, List.set_cons_succ]
          refine wpAnyH_take (i := 6) (v := ?vx4x6) rfl (by kernel_rfl) (by kernel_rfl) (by kernel_rfl) (fun _ _ _ h => h) (Or.inl ⟨by rfl, ?hyx4x6⟩) (by assumption) ?restx4x6
          case hyx4x6 =>
            intro w hSw
            (try dsimp only at hSw)
            go_simp
            (try with_reducible rfl)
          change wpAnyH _ _ _ _ _ _ _ (Act.put _ (some 25) _) _
          try simp only [Act.put, List.setIfInBounds_toArray, List.set_cons_zero, List.set_cons_succ]
          refine wpAnyH_take (i := 7) (v := undef) rfl (by kernel_rfl) (by kernel_rfl) (by kernel_rfl) (fun _ _ _ h => h) (Or.inr ⟨by rfl, rfl⟩) (by assumption) ?_
          change wpAnyH _ _ _ _ _ _ _ (Act.put _ (some 26) _) _
          try simp only [Act.put, List.setIfInBounds_toArray, List.set_cons_zero, List.set_cons_succ]
          refine wpAnyH_take (i := 8) (v := undef) rfl (by kernel_rfl) (by kernel_rfl) (by kernel_rfl) (fun _ _ _ h => h) (Or.inr ⟨by rfl, rfl⟩) (by assumption) ?_
          change wpAnyH _ _ _ _ _ _ _ (Act.put _ (some 27) _) _
          try simp only [Act.put, List.setIfInBounds_toArray, List.set_cons_zero, List.set_cons_succ]
          refine wpAnyH_take (i := 9) (v := undef) rfl (by kernel_rfl) (by kernel_rfl) (by kernel_rfl) (fun _ _ _ h => h) (Or.inr ⟨by rfl, rfl⟩) (by assumption) ?_
          change wpAnyH _ _ _ _ _ _ _ (Act.put _ (some 28) _) _
          try simp only [Act.put, List.setIfInBounds_toArray, List.set_cons_zero, List.set_cons_succ]
          refine wpAnyH_take (i := 10) (v := undef) rfl (by kernel_rfl) (by kernel_rfl) (by kernel_rfl) (fun _ _ _ h => h) (Or.inr ⟨by rfl, rfl⟩) (by assumption) ?_
          change wpAnyH _ _ _ _ _ _ _ (Act.put _ (some 29) _) _
          try simp only [Act.put, List.setIfInBounds_toArray, List.set_cons_zero, List.set_cons_succ]
          refine wpAnyH_take (i := 11) (v := undef) rfl (by kernel_rfl) (by kernel_rfl) (by kernel_rfl) (fun _ _ _ h => h) (Or.inr ⟨by rfl, rfl⟩) (by assumption) ?_
          change wpAnyH _ _ _ _ _ _ _ (Act.put _ (some 30) _) _
          try simp only [Act.put, List.setIfInBounds_toArray, List.set_cons_zero, List.set_cons_succ]
          refine wpAnyH_take (i := 12) (v := undef) rfl (by kernel_rfl) (by kernel_rfl) (by kernel_rfl) (fun _ _ _ h => h) (Or.inr ⟨by rfl, rfl⟩) (by assumption) ?_
          change wpAnyH _ _ _ _ _ _ _ (Act.put _ (some 31) _) _
          try simp only [Act.put, List.setIfInBounds_toArray, List.set_cons_zero, List.set_cons_succ]
          refine wpAnyH_take (i := 13) (v := undef) rfl (by kernel_rfl) (by kernel_rfl) (by kernel_rfl) (fun _ _ _ h => h) (Or.inr ⟨by rfl, rfl⟩) (by assumption) ?_
          change wpAnyH _ _ _ _ _ _ _ (Act.put _ (some 32) _) _
          try simp only [Act.put, List.setIfInBounds_toArray, List.set_cons_zero, List.set_cons_succ]
          refine wpAnyH_take (i := 14) (v := undef) rfl (by kernel_rfl) (by kernel_rfl) (by kernel_rfl) (fun _ _ _ h => h) (Or.inr ⟨by rfl, rfl⟩) (by assumption) ?_
          change wpAnyH _ _ _ _ _ _ _ (Act.put _ (some 33) _) _
          try simp only [Act.put, List.setIfInBounds_toArray, List.set_cons_zero, List.set_cons_succ]
          refine wpAnyH_take (i := 15) (v := undef) rfl (by kernel_rfl) (by kernel_rfl) (by kernel_rfl) (fun _ _ _ h => h) (Or.inr ⟨by rfl, rfl⟩) (by assumption) ?_
          change wpAnyH _ _ _ _ _ _ _ (Act.put _ (some 34) _) _
          try simp only [Act.put, List.setIfInBounds_toArray, List.set_cons_zero, List.set_cons_succ]
          refine wpAnyH_take (i := 16) (v := undef) rfl (by kernel_rfl) (by kernel_rfl) (by kernel_rfl) (fun _ _ _ h => h) (Or.inr ⟨by rfl, rfl⟩) (by assumption) ?_
          change wpAnyH _ _ _ _ _ _ _ (Act.put _ (some 35) _) _
          try simp only [Act.put, List.setIfInBounds_toArray, List.set_cons_zero, List.set_cons_succ]
          refine wpAnyH_take (i := 17) (v := undef) rfl (by kernel_rfl) (by kernel_rfl) (by kernel_rfl) (fun _ _ _ h => h) (Or.inr ⟨by rfl, rfl⟩) (by assumption) ?_
          change wpAnyH _ _ _ _ _ _ _ (Act.put _ (some 36) _) _
          try simp only [Act.put, List.setIfInBounds_toArray, List.set_cons_zero, List.set_cons_succ]
          refine wpAnyH_take (i := 18) (v := undef) rfl (by kernel_rfl) (by kernel_rfl) (by kernel_rfl) (fun _ _ _ h => h) (Or.inr ⟨by rfl, rfl⟩) (by assumption) ?_
          change wpAnyH _ _ _ _ _ _ _ (Act.put _ (some 37) _) _
          try simp only [Act.put, List.setIfInBounds_toArray, List.set_cons_zero, List.set_cons_succ]
          refine wpAnyH_take (i := 19) (v := undef) rfl (by kernel_rfl) (by kernel_rfl) (by kernel_rfl) (fun _ _ _ h => h) (Or.inr ⟨by rfl, rfl⟩) (by assumption) ?_
          change wpAnyH _ _ _ _ _ _ _ (Act.put _ (some 38) _) _
          try simp only [Act.put, List.setIfInBounds_toArray, List.set_cons_zero, List.set_cons_succ]
          refine wpAnyH_take (i := 20) (v := undef) rfl (by kernel_rfl) (by kernel_rfl) (by kernel_rfl) (fun _ _ _ h => h) (Or.inr ⟨by rfl, rfl⟩) (by assumption) ?_
          change wpAnyH _ _ _ _ _ _ _ (Act.put _ (some 39) _) _
          try simp only [Act.put, List.setIfInBounds_toArray, List.set_cons_zero, List.set_cons_succ]
          refine wpAnyH_take (i := 21) (v := undef) rfl (by kernel_rfl) (by kernel_rfl) (by kernel_rfl) (fun _ _ _ h => h) (Or.inr ⟨by rfl, rfl⟩) (by assumption) ?_
          change wpAnyH _ _ _ _ _ _ _ (Act.put _ (some 40) _) _
          try simp only [Act.put, List.setIfInBounds_toArray, List.set_cons_zero, List.set_cons_succ]
          refine wpAnyH_take (i := 22) (v := undef) rfl (by kernel_rfl) (by kernel_rfl) (by kernel_rfl) (fun _ _ _ h => h) (Or.inr ⟨by rfl, rfl⟩) (by assumption) ?_
          change wpAnyH _ _ _ _ _ _ _ (Act.put _ (some 41) _) _
          try simp only [Act.put, List.setIfInBounds_toArray, List.set_cons_zero, List.set_cons_succ]
          refine wpAnyH_take (i := 23) (v := ?vx4x23) rfl (by kernel_rfl) (by kernel_rfl) (by kernel_rfl) (fun _ _ _ h => h) (Or.inl ⟨by rfl, ?hyx4x23⟩) (by assumption) ?restx4x23
          case hyx4x23 =>
            intro w hSw
            (try dsimp only at hSw)
            go_simp
            (try with_reducible rfl)
          change wpAnyH _ _ _ _ _ _ _ (Act.put _ (some 42) _) _
          try simp only [Act.put, List.setIfInBounds_toArray, List.set_cons_zero, List.set_cons_succ]
          refine wpAnyH_take (i := 24) (v := ?vx4x24) rfl (by kernel_rfl) (by kernel_rfl) (by kernel_rfl) (fun _ _ _ h => h) (Or.inl ⟨by rfl, ?hyx4x24⟩) (by assumption) ?restx4x24
          case hyx4x24 =>
            intro w hSw
            (try dsimp only at hSw)
            go_simp
            (try with_reducible rfl)
          change wpAnyH _ _ _ _ _ _ _ (Act.put _ (some 8) _) _
          try simp only [Act.put, List.setIfInBounds_toArray, List.set_cons_zero, List.set_cons_succ]
          refine wpAnyH_done (by kernel_rfl) ?_ _
          go_wp2_with fail
          go_ret
          exact ⟨by rw [← HV.out]; rfl, HB9.out.trans (hb01.mono HB9.out.size)⟩
        | true =>
          go_enter Tryd.func29, Tryd.ntmps29
          go_upto_region 1 with fail
          rw [← hW0, ← hcx]
          clear hW0 hcx
          go_upto_region 3 with fail
          first | (go_region_held3 (fun W => W.cell? ⟨cx, 0, none⟩ = some (.int .i64 k) ∧ W.cell? ⟨cx, 1, none⟩ = some (.string a1) ∧ W.cell? ⟨cx, 2, none⟩ = some (.string a2) ∧ W.cell? ⟨cx, 3, none⟩ = some (.int .i64 nu) ∧ W.cell? ⟨cx, 4, none⟩ = some (.slice ad n cap) ∧ W.cell? ⟨cx + 1, 0, none⟩ = some (.int .i64 k') ∧ W.cell? ⟨cx + 1, 1, none⟩ = some (.string a1') ∧ W.cell? ⟨cx + 1, 2, none⟩ = some (.string a2') ∧ W.cell? ⟨cx + 1, 3, none⟩ = some (.int .i64 nu') ∧ W.cell? ⟨cx + 1, 4, none⟩ = some (.slice ad' n' cap') ∧ W.cell? ⟨lb, lo, none⟩ = some (.string S)) (first | with_reducible exact ⟨d0, d1, d2, d3, d4, g0, g1, g2, g3, g4, m0⟩ | with_reducible exact ⟨d0d, d1d, d2d, d3d, d4d, g0d, g1d, g2d, g3d, g4d, m0d⟩ | with_reducible exact ⟨d0a, d1a, d2a, d3a, d4a, g0a, g1a, g2a, g3a, g4a, m0a⟩ | with_reducible exact ⟨(World.cell?_alloc_lt _ _ ⟨cx, 0, none⟩ hcx01).trans d0a, (World.cell?_alloc_lt _ _ ⟨cx, 1, none⟩ hcx01).trans d1a, (World.cell?_alloc_lt _ _ ⟨cx, 2, none⟩ hcx01).trans d2a, (World.cell?_alloc_lt _ _ ⟨cx, 3, none⟩ hcx01).trans d3a, (World.cell?_alloc_lt _ _ ⟨cx, 4, none⟩ hcx01).trans d4a, (World.cell?_alloc_lt _ _ ⟨cx + 1, 0, none⟩ hcx11).trans g0a, (World.cell?_alloc_lt _ _ ⟨cx + 1, 1, none⟩ hcx11).trans g1a, (World.cell?_alloc_lt _ _ ⟨cx + 1, 2, none⟩ hcx11).trans g2a, (World.cell?_alloc_lt _ _ ⟨cx + 1, 3, none⟩ hcx11).trans g3a, (World.cell?_alloc_lt _ _ ⟨cx + 1, 4, none⟩ hcx11).trans g4a, (World.cell?_alloc_lt _ _ ⟨lb, lo, none⟩ hlb1).trans m0a⟩ | with_reducible exact ⟨d0c, d1c, d2c, d3c, d4c, g0c, g1c, g2c, g3c, g4c, m0c⟩ | with_reducible exact ⟨d0b, d1b, d2b, d3b, d4b, g0b, g1b, g2b, g3b, g4b, m0b⟩ | go_keep) (first | (go_at_call 29; have hxx := hb3.size; clear hxx; refine Calls.mono (HC1.out _ (lo + 1) _ _ hb03 (fun _ => rfl) hgc.1 (by have h := hgc.2; unfold maxLen at h; exact h) hgn hgs hgv) ?_; rintro e w2 ⟨rfl, hb2⟩; have hb02 := hb03.trans (hb2.mono hb03.size); have d0b : w2.cell? ⟨cx, 0, none⟩ = some (.int .i64 k) := (hb02.cell (p := ⟨cx, 0, none⟩) hcx0).trans d0; have d1b : w2.cell? ⟨cx, 1, none⟩ = some (.string a1) := (hb02.cell (p := ⟨cx, 1, none⟩) hcx0).trans d1; have d2b : w2.cell? ⟨cx, 2, none⟩ = some (.string a2) := (hb02.cell (p := ⟨cx, 2, none⟩) hcx0).trans d2; have d3b : w2.cell? ⟨cx, 3, none⟩ = some (.int .i64 nu) := (hb02.cell (p := ⟨cx, 3, none⟩) hcx0).trans d3; have d4b : w2.cell? ⟨cx, 4, none⟩ = some (.slice ad n cap) := (hb02.cell (p := ⟨cx, 4, none⟩) hcx0).trans d4; have g0b : w2.cell? ⟨cx + 1, 0, none⟩ = some (.int .i64 k') := (hb02.cell (p := ⟨cx + 1, 0, none⟩) hcx1).trans g0; have g1b : w2.cell? ⟨cx + 1, 1, none⟩ = some (.string a1') := (hb02.cell (p := ⟨cx + 1, 1, none⟩) hcx1).trans g1; have g2b : w2.cell? ⟨cx + 1, 2, none⟩ = some (.string a2') := (hb02.cell (p := ⟨cx + 1, 2, none⟩) hcx1).trans g2; have g3b : w2.cell? ⟨cx + 1, 3, none⟩ = some (.int .i64 nu') := (hb02.cell (p := ⟨cx + 1, 3, none⟩) hcx1).trans g3; have g4b : w2.cell? ⟨cx + 1, 4, none⟩ = some (.slice ad' n' cap') := (hb02.cell (p := ⟨cx + 1, 4, none⟩) hcx1).trans g4; have m0b : w2.cell? ⟨lb, lo, none⟩ = some (.string S) := (hb02.cell (p := ⟨lb, lo, none⟩) hlb).trans m0) | (rw [if_pos (rfl : Region.wanted _ _ = true)]; refine oper_append_full _ (.tmp 35) (.tmp 39) 41 rfl 9 (.string ⟨#[]⟩) 1 16 Tryd.underlying41 infoStr rfl (by decide) (some ⟨rb, ro, none⟩) rm (txv R) rfl (fun h => by cases h) (fun b h => by cases h; rfl) (by rw [txv_length, HRM.out, Nat.mul_one]) (HRV.out _ (hb01.alloc hb01.size _)) (some ⟨w1.heap.size, 0, none⟩) 1 1 [.string S] rfl (fun h => by cases h) (fun b h => by cases h; rfl) rfl (one_val _ _ _) (by unfold maxLen; omega) (by omega) ?_; intro ga gc w3 hgc hgn hgs hgv hb3 hgo; clear hgo; have hb03 := (hb01.alloc hb01.size (.cells #[.string S] 9)).trans (hb3.mono (hb01.alloc hb01.size (.cells #[.string S] 9)).size); rw [HTX.out] at hgv; have d0c : w3.cell? ⟨cx, 0, none⟩ = some (.int .i64 k) := (hb03.cell (p := ⟨cx, 0, none⟩) hcx0).trans d0; have d1c : w3.cell? ⟨cx, 1, none⟩ = some (.string a1) := (hb03.cell (p := ⟨cx, 1, none⟩) hcx0).trans d1; have d2c : w3.cell? ⟨cx, 2, none⟩ = some (.string a2) := (hb03.cell (p := ⟨cx, 2, none⟩) hcx0).trans d2; have d3c : w3.cell? ⟨cx, 3, none⟩ = some (.int .i64 nu) := (hb03.cell (p := ⟨cx, 3, none⟩) hcx0).trans d3; have d4c : w3.cell? ⟨cx, 4, none⟩ = some (.slice ad n cap) := (hb03.cell (p := ⟨cx, 4, none⟩) hcx0).trans d4; have g0c : w3.cell? ⟨cx + 1, 0, none⟩ = some (.int .i64 k') := (hb03.cell (p := ⟨cx + 1, 0, none⟩) hcx1).trans g0; have g1c : w3.cell? ⟨cx + 1, 1, none⟩ = some (.string a1') := (hb03.cell (p := ⟨cx + 1, 1, none⟩) hcx1).trans g1; have g2c : w3.cell? ⟨cx + 1, 2, none⟩ = some (.string a2') := (hb03.cell (p := ⟨cx + 1, 2, none⟩) hcx1).trans g2; have g3c : w3.cell? ⟨cx + 1, 3, none⟩ = some (.int .i64 nu') := (hb03.cell (p := ⟨cx + 1, 3, none⟩) hcx1).trans g3; have g4c : w3.cell? ⟨cx + 1, 4, none⟩ = some (.slice ad' n' cap') := (hb03.cell (p := ⟨cx + 1, 4, none⟩) hcx1).trans g4; have m0c : w3.cell? ⟨lb, lo, none⟩ = some (.string S) := (hb03.cell (p := ⟨lb, lo, none⟩) hlb).trans m0) | (go_at_call 29; refine Calls.mono (HC0.out _ (lo + 1) (by first | exact Below.refl _ _ | go_grown) (fun _ => rfl)) ?_; rintro e w1 ⟨rfl, hb1⟩; have hb01 := (show Below W0.heap.size W0 W0.drew from by go_grown).trans hb1; have d0a : w1.cell? ⟨cx, 0, none⟩ = some (.int .i64 k) := (hb01.cell (p := ⟨cx, 0, none⟩) hcx0).trans d0; have d1a : w1.cell? ⟨cx, 1, none⟩ = some (.string a1) := (hb01.cell (p := ⟨cx, 1, none⟩) hcx0).trans d1; have d2a : w1.cell? ⟨cx, 2, none⟩ = some (.string a2) := (hb01.cell (p := ⟨cx, 2, none⟩) hcx0).trans d2; have d3a : w1.cell? ⟨cx, 3, none⟩ = some (.int .i64 nu) := (hb01.cell (p := ⟨cx, 3, none⟩) hcx0).trans d3; have d4a : w1.cell? ⟨cx, 4, none⟩ = some (.slice ad n cap) := (hb01.cell (p := ⟨cx, 4, none⟩) hcx0).trans d4; have g0a : w1.cell? ⟨cx + 1, 0, none⟩ = some (.int .i64 k') := (hb01.cell (p := ⟨cx + 1, 0, none⟩) hcx1).trans g0; have g1a : w1.cell? ⟨cx + 1, 1, none⟩ = some (.string a1') := (hb01.cell (p := ⟨cx + 1, 1, none⟩) hcx1).trans g1; have g2a : w1.cell? ⟨cx + 1, 2, none⟩ = some (.string a2') := (hb01.cell (p := ⟨cx + 1, 2, none⟩) hcx1).trans g2; have g3a : w1.cell? ⟨cx + 1, 3, none⟩ = some (.int .i64 nu') := (hb01.cell (p := ⟨cx + 1, 3, none⟩) hcx1).trans g3; have g4a : w1.cell? ⟨cx + 1, 4, none⟩ = some (.slice ad' n' cap') := (hb01.cell (p := ⟨cx + 1, 4, none⟩) hcx1).trans g4; have m0a : w1.cell? ⟨lb, lo, none⟩ = some (.string S) := (hb01.cell (p := ⟨lb, lo, none⟩) hlb).trans m0; have hcx01 : cx < w1.heap.size := Nat.lt_of_lt_of_le hcx0 hb01.size; have hcx11 : cx + 1 < w1.heap.size := Nat.lt_of_lt_of_le hcx1 hb01.size; have hlb1 : lb < w1.heap.size := Nat.lt_of_lt_of_le hlb hb01.size))) | fail
          all_goals
            go_wp2_with fail
            go_ret
            exact ⟨by rw [← HV.out]; rfl, HB9.out.trans (hb02.mono HB9.out.size)⟩
end Go.Proofs.YtkelkpfjkjcmgaaDoor
