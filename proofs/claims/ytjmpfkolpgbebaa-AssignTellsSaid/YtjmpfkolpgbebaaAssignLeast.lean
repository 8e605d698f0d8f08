/- Contract: the cheapest row of jobs. -/
import Derived.Test.YtjmpfkolpgbebaaAssignSolve
import Derived.Test.YtjmpfkolpgbebaaAssignCost
namespace Go.Proofs.Ytjmpfkolpgbebaa
open Go.ChangeShapes Go.WideShapes Go.ChangeAt Go.RowKit
set_option linter.unusedVariables false
open As
theorem As.Mat.full {n : Nat} {b : Nat → Nat} (h : Mat n n b) {k : Nat} (h1 : 1 ≤ k) (h2 : k ≤ n) : b k ≠ 0 := fun h0 => by
  have hch : ∀ p, ∃ c, p < n → 1 ≤ c ∧ c ≤ n ∧ b c = p + 1 := fun p => by
    by_cases hp : p < n
    · obtain ⟨c, c1, c2, c3⟩ := h.all (p + 1) (by omega) (by omega)
      exact ⟨c, fun _ => ⟨c1, c2, c3⟩⟩
    · exact ⟨0, fun h => absurd h hp⟩
  obtain ⟨c, hc⟩ := Classical.axiomOfChoice hch
  have hne : ∀ p, p < n → c p ≠ k := fun p hp e => by
    have := (hc p hp).2.2
    rw [e, h0] at this
    omega
  have := pigeon (n := n) (m := n - 1) (fun p => if c p < k then c p - 1 else c p - 2) (fun p hp => by
    have h3 := hc p hp
    have h4 := hne p hp
    split <;> omega) (fun p q hp hq e => by
    have h3 := hc p hp
    have h4 := hne p hp
    have h5 := hc q hq
    have h6 := hne q hq
    have : c p = c q := by split at e <;> split at e <;> omega
    rw [this] at h3
    omega)
  omega
def LeastP (n : Nat) (C : Nat → Nat → Int) (w : World) (e : Ending) (w' : World) : Prop := ∃ gt t m, e = .returned (.tuple #[.slice (some ⟨gt, 0, none⟩) n n, .int .i64 m, .int .i64 0]) ∧ Give n n t ∧ m = sm (fun p => C p (t p)) n ∧ IsLeast n C m ∧ Vals w' (some ⟨gt, 0, none⟩) (ints64 (rowT t n)) ∧ Below w.heap.size w w'
theorem aLeast_bad (R : List (List Int)) (a : Option Addr) (n cap : Nat) (w : World) (hn : n = R.length) (hmax : n ≤ 9223372036854775807) (hT : Tbl w a R) (hb : costsE R ≠ 0) :
    Calls Try.prog 4 #[.slice a n cap] w fun e w' => e = .returned (.tuple #[.slice none 0 0, .int .i64 0, .int .i64 (costsE R)]) ∧ Below w.heap.size w w' := by
  have C := Lib.hid (aCheck_any R a n cap w hn hmax hT)
  obtain ⟨z, hz⟩ : ∃ z, costsE R = z := ⟨_, rfl⟩
  rw [hz] at C hb ⊢
  have hb2 : (z != 0) = true := by simpa using hb
  clear hT hn hz
  go_enter Try.func4, Try.ntmps4
  go_wp2_with (go_at_call 8; refine Calls.mono C.out ?_; rintro e w1 ⟨rfl, h1⟩; have HB := Lib.hid h1; clear h1)
  go_ret3
  exact ⟨rfl, HB.out⟩
theorem rowT_vals {n : Nat} {t : Nat → Nat} : (List.range n).map (natsI t) = ints64 (rowT t n) := by
  simp [rowT, ints64, natsI, Function.comp_def]
set_option maxRecDepth 20000 in
set_option maxHeartbeats 4000000 in
theorem aLeast_good (R : List (List Int)) (a : Option Addr) (n cap : Nat) (w : World) (hn : n = R.length) (hmax : n ≤ 9223372036854775807) (hcap : n ≤ cap) (hcap2 : cap ≤ 9223372036854775807) (hT : Tbl w a R) (hE : costsE R = 0) :
    Calls Try.prog 4 #[.slice a n cap] w fun e w' => LeastP n (cst R) w e w' := by
  have C := Lib.hid (aCheck_any R a n cap w hn hmax hT)
  obtain ⟨h12, _, _⟩ := costsE_good hE
  rw [← hn] at h12
  have HTW : Hid (∀ W, Below w.heap.size w W → Tbl W a R) := Lib.hid (fun W h => hT.below h (Nat.le_refl _))
  have CS := Lib.hid (fun W h => solve_any R a n cap W hn hcap hcap2 (HTW.out W h) hE)
  have CC := Lib.hid (fun W T a2 n2 c2 h (h1 : n2 = T.length) h2 => aCost_good R T a a2 n cap n2 c2 W hn hmax (HTW.out W h) hE h1 h2)
  rw [hE] at C
  clear hn hT hE hmax
  have hmkJ := run_make_row' (P := Try.prog) 23 3 (.int .i64 0) 8 Try.underlying23 infoInt rfl .i64 .i64 n (by omega) (by omega)
  go_enter Try.func4, Try.ntmps4
  go_upto_region 6 with (first
    | (go_at_call 8; refine Calls.mono C.out ?_; rintro e w1 ⟨rfl, h1⟩; have HB1 := Lib.hid h1; clear h1)
    | (go_at_call 12; refine Calls.mono (CS.out _ HB1.out) ?_; rintro e w2 ⟨gs, gu, gv, gb, u, v, b, rfl, h1, h2⟩; have HS2 := Lib.hid h1; have HG := Lib.hid h2; clear h1 h2))
  obtain ⟨gt, hgt⟩ : ∃ g, g = w2.heap.size := ⟨_, rfl⟩
  obtain ⟨W3, hW3⟩ : ∃ W, W = w2.alloc (.cells (madeCells #[.int .i64 0] n) 3) := ⟨_, rfl⟩
  have HR0 : Hid (W3.rowIs gt 3 n (natsI fun _ => 0)) := Lib.hid (by rw [hW3]; exact rowIs_made_at _ _ _ _ hgt.symm)
  have HS0 : Hid (SW n gs gu gv gb a cap u v b w1 W3) := Lib.hid (by rw [hW3]; exact HS2.out.step ((Below.refl _ _).alloc (Nat.le_refl _) _))
  have HGT : Hid (w1.heap.size ≤ gt ∧ gs < gt ∧ gu < gt ∧ gv < gt ∧ gb < gt) := Lib.hid (by
    have h1 := HS2.out.var.lt
    have h2 := HS2.out.ru.lt
    have h3 := HS2.out.rv.lt
    have h4 := HS2.out.rb.lt
    have h5 := HS2.out.below.size
    omega)
  rw [← hW3, ← hgt]
  clear hW3 hgt hmkJ HS2
  go_wp2_with fail
  go_loopg [8] n (fun g y wr => ∃ (k : Nat) (t : Nat → Nat), k + g = n + 1 ∧ 1 ≤ k ∧ y = .int .i64 (k : Int) ∧ Hid (∀ j, 1 ≤ j → j < k → t (b j - 1) = j - 1) ∧ Hid (wr.rowIs gt 3 n (natsI t)) ∧ Hid (SW n gs gu gv gb a cap u v b w1 wr))
  case atStart => exact ⟨1, fun _ => 0, by omega, by omega, rfl, Lib.hid (fun j h1 h2 => by omega), HR0, HS0⟩
  case round =>
    clear HR0 HS0
    obtain ⟨k, t, hk, hk1, rfl, HI, HR, HS⟩ := hrel
    by_cases hkn : k ≤ n
    · have hk2 : (k : Int) ≤ (n : Int) := by omega
      obtain ⟨y, hy⟩ : ∃ y, b k = y := ⟨_, rfl⟩
      have hyn : 1 ≤ y ∧ y ≤ n := by
        have h1 := HG.out.mat.le k hk1 hkn
        have h2 := HG.out.mat.full hk1 hkn
        omega
      obtain ⟨yk, hyk⟩ : ∃ x, x = y - 1 := ⟨_, rfl⟩
      obtain ⟨kk, hkk⟩ : ∃ x, x = k - 1 := ⟨_, rfl⟩
      have p3 : wr.cell? ⟨gs, 3, none⟩ = some (.slice (some ⟨gb, 0, none⟩) (n + 1) (n + 1)) := HS.out.var.cell (i := 3) (by omega)
      have lgs := HS.out.var.lt
      have lgb := HS.out.rb.lt
      have cb : wr.cell? ⟨gb, k, none⟩ = some (.int .i64 (y : Int)) := by rw [HS.out.rb.cell (i := k) (by omega), natsI, hy]
      have ct := HR.out.cell (i := yk) (by omega)
      unfold natsI at ct
      have ft := HR.out.frozen yk
      have lt := HR.out.lt
      have hw1 : IntKind.i64.wrap ((y : Int) - 1) = (yk : Int) := by rw [IntWalk.i64_in _ (by omega)]; omega
      have hw2 : IntKind.i64.wrap ((k : Int) - 1) = (kk : Int) := by rw [IntWalk.i64_in _ (by omega)]; omega
      have hk3 : (0 : Int) ≤ (k : Int) := by omega
      have hk4 : (k : Int) < (n : Int) + 1 := by omega
      have hy1 : (0 : Int) ≤ (yk : Int) := by omega
      have hy2 : (yk : Int) < (n : Int) := by omega
      have HI2 : Hid (∀ j, 1 ≤ j → j < k + 1 → put t yk kk (b j - 1) = j - 1) := Lib.hid (fun j h1 h2 => by
        unfold put
        by_cases e : j = k
        · subst e
          rw [if_pos (by omega)]; exact hkk
        · have hj := HG.out.mat.full h1 (show j ≤ n by omega)
          have hne : b j ≠ b k := fun e2 => e (HG.out.mat.inj j k h1 (by omega) hk1 hkn e2 hj)
          rw [if_neg (by omega)]
          exact HI.out j h1 (by omega))
      have HR2 : Hid ((wr.setCell ⟨gt, yk, none⟩ (.int .i64 (kk : Int))).rowIs gt 3 n (natsI (put t yk kk))) := Lib.hid ((HR.out.set yk (.int .i64 (kk : Int))).congr (fun j _ => by unfold natsI put; split <;> rfl))
      have HS3 := Lib.hid (HS.out.other (g := gt) (i := yk) (y := .int .i64 (kk : Int)) HGT.out.1 (by have := HGT.out; omega) (by have := HGT.out; omega) (by have := HGT.out; omega) (by have := HGT.out; omega))
      clear hy hyk hkk
      go_wp2_with fail
      go_roundg (n + 1 - (k + 1))
      case measure => omega
      case rel => exact ⟨k + 1, _, by omega, by omega, by simp, HI2, HR2, HS3⟩
    · obtain rfl : k = n + 1 := by omega
      have hkb : ¬ ((n : Int) + 1 ≤ (n : Int)) := by omega
      have HGV := Lib.hid (HG.out.gives ⟨fun k h1 h2 => HI.out k h1 (by omega)⟩)
      have HV : Hid (Vals wr (some ⟨gt, 0, none⟩) (ints64 (rowT t n))) := Lib.hid (by
        obtain ⟨a', c', e, hv⟩ := IsVals.row (cap := n) HR.out
        rw [rowT_vals] at hv
        injection e with e1 e2 e3
        rw [e1]
        exact hv)
      have HBW : Hid (Below w.heap.size w wr) := Lib.hid (HB1.out.trans (HS.out.below.mono HB1.out.size))
      go_wp2_with (go_at_call 6; refine Calls.mono (CC.out _ (rowT t n) _ _ _ HBW.out (by simp [rowT]) HV.out) ?_; rintro e w5 ⟨s, z, rfl, h1, h2⟩; have HCQ := Lib.hid h1; have HB5 := Lib.hid (HBW.out.trans (h2.mono HBW.out.size)); have HV5 := Lib.hid (HV.out.below h2 (Nat.le_refl _)); clear h1 h2)
      go_ret3
      refine ⟨gt, t, s, rfl, HGV.out.1, ?_, ?_, HV5.out, HB5.out⟩
      · rcases HCQ.out with ⟨h1, _⟩ | ⟨h1, _⟩
        · rw [rowT_costE HGV.out.1] at h1; exact (Option.some.inj h1).symm
        · rw [rowT_costE HGV.out.1] at h1; cases h1
      · rcases HCQ.out with ⟨h1, _⟩ | ⟨h1, _⟩
        · rw [rowT_costE HGV.out.1] at h1; rw [← Option.some.inj h1]; exact HGV.out.2.2
        · rw [rowT_costE HGV.out.1] at h1; cases h1
end Go.Proofs.Ytjmpfkolpgbebaa
