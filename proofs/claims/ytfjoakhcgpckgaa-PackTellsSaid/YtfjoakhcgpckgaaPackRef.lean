/- Contracts: the document's boxes: the room in one; Packed. -/
import Derived.Test.YtfjoakhcgpckgaaPackFirst
namespace Go.Proofs.Ytfjoakhcgpckgaa
open Go.ChangeShapes Go.WideShapes Go.ChangeAt Go.RowKit
set_option linter.unusedVariables false
open Wk St
theorem fl_bound {n : Nat} {D : List Int} {size : Int} {on : Nat → Option Nat} (hD : ∀ x, x ∈ D → 0 ≤ x) (k : Nat) (h : fl D on n k ≤ size) {q : Nat} (hq : q ≤ n) : 0 ≤ fl D on q k ∧ fl D on q k ≤ size :=
  ⟨fl_nonneg hD on q k, Int.le_trans (fl_le hD on k hq) h⟩
set_option maxRecDepth 20000 in
set_option maxHeartbeats 1600000 in
theorem room_any (n k gi c1 ci : Nat) (D : List Int) (size : Int) (a1 : Option Addr) (on : Nat → Option Nat) (w : World) (hn : n = D.length) (h4 : n ≤ 100) (hs1 : 1 ≤ size) (hs2 : size ≤ 1099511627776) (hD : Vals w a1 (ints64 D)) (hok : ∀ x, x ∈ D → 0 ≤ x) (hin : RowN w gi n (fun i => onZ (-1) (on i))) (hfl : fl D on n k ≤ size) :
    Calls Try.prog 127 #[.slice a1 n c1, .int .i64 size, .slice (some ⟨gi, 0, none⟩) n ci, .int .i64 k] w fun e w' => e = .returned (.int .i64 (size - fl D on n k)) ∧ w' = w := by
  have HD := Lib.hid hD
  have HN := Lib.hid hn
  have HI := Lib.hid hin
  have HB := Lib.hid (fun q (hq : q ≤ n) => fl_bound hok k hfl hq)
  have HV0 : Hid (size = size - fl D on 0 k) := Lib.hid (by simp [fl])
  clear hD hn hin hok hfl
  go_enter Try.func127, Try.ntmps127
  go_wp2_with fail
  go_loopg [1, 13] n (fun gk v x wr => ∃ (q : Nat) (z : Int), q + gk = n ∧ x = .int .i64 (q : Int) ∧ v = .int .i64 z ∧ Hid (z = size - fl D on q k) ∧ wr = w)
  case atStart => exact ⟨0, size, by omega, rfl, rfl, HV0, rfl⟩
  case round =>
    clear HV0
    obtain ⟨q, z, hq, rfl, rfl, HZ, rfl⟩ := hrel
    by_cases hqn : q < n
    · have hqn2 : (q : Int) < (n : Int) := by omega
      have hq0 : (0 : Int) ≤ (q : Int) := by omega
      obtain ⟨x, hx⟩ : ∃ x, D[q]? = some x := ⟨_, List.getElem?_eq_getElem (by have := HN.out; omega)⟩
      obtain ⟨b1, o1, rfl, hb1, d1⟩ := i64at HD.out hx
      have i1 : wr.cell? ⟨gi, q, none⟩ = some (.int .i64 (onZ (-1) (on q))) := World.rowIs.cell HI.out hqn
      have HX : Hid (D.getD q 0 = x) := Lib.hid (by rw [List.getD_eq_getElem?_getD, hx]; rfl)
      obtain ⟨y, hy⟩ : ∃ y, onZ (-1) (on q) = y := ⟨_, rfl⟩
      rw [hy] at i1
      by_cases hon : on q = some k
      · have hyk : y = (k : Int) := by rw [← hy, hon]; rfl
        have hb : (y == (k : Int)) = true := by simp [hyk]
        have HFL : Hid (fl D on (q + 1) k = fl D on q k + x) := Lib.hid (by simp only [fl]; rw [if_pos hon, HX.out])
        have HZ2 : Hid (z - x = size - fl D on (q + 1) k) := Lib.hid (by rw [HFL.out, HZ.out]; omega)
        have b1' := HB.out q (by omega)
        have b2' := HB.out (q + 1) hqn
        have hz1 := HZ.out
        have hz2 := HZ2.out
        have wz : IntKind.i64.wrap (z - x) = z - x := IntWalk.i64_in _ (by omega)
        clear hz1 hz2 hx hy hyk hon b1' b2'
        go_wp2_with fail
        go_roundg (gk - 1)
        case measure => omega
        case rel => exact ⟨q + 1, z - x, by omega, by simp, rfl, HZ2, rfl⟩
      · have hyk : ¬ y = (k : Int) := by
          rw [← hy]
          intro e
          cases h : on q with
          | none => rw [h] at e; simp only [onZ] at e; omega
          | some j =>
            rw [h] at e; simp only [onZ] at e
            exact hon (by rw [h]; congr 1; omega)
        have hb : (y == (k : Int)) = false := by simp [hyk]
        have HZ2 : Hid (z = size - fl D on (q + 1) k) := Lib.hid (by simp only [fl]; rw [if_neg hon, HZ.out]; omega)
        clear hx hy hyk hon
        go_wp2_with fail
        go_roundg (gk - 1)
        case measure => omega
        case rel => exact ⟨q + 1, z, by omega, by simp, rfl, HZ2, rfl⟩
    · have hqn2 : ¬ (q : Int) < (n : Int) := by omega
      obtain rfl : q = n := by omega
      go_wp2_with fail
      go_ret
      exact ⟨ret_int HZ.out, rfl⟩
/-- the memory of the loop -/
structure PakI (gi n : Nat) (s : (Nat → Option Nat) × Nat) (w0 w : World) : Prop where
  inr : RowN w gi n (fun i => onZ (-1) (s.1 i))
  bel : Below gi w0 w
theorem PakI.drewN {gi n : Nat} {s : (Nat → Option Nat) × Nat} {w0 w : World} (h : PakI gi n s w0 w) (z : Nat) : PakI gi n s w0 (w.drewN z) :=
  ⟨rowIs_drewN h.inr z, h.bel.trans ((Drawn.drewN w z).below _)⟩
theorem PakI.step {gi n c' k o : Nat} {D : List Int} {size : Int} {s : (Nat → Option Nat) × Nat} {w0 w : World} (h : PakI gi n s w0 w) (hk : ffk (fits n D size s.1 (D.getD o 0)) s.2 = k) :
    PakI gi n (pstep n D size s (o : Int)) w0 (w.setCell ⟨gi, o, none⟩ (.int .i64 k)) := by
  have e : pstep n D size s (o : Int) = (updo s.1 o k, max s.2 (k + 1)) := by
    unfold pstep
    simp only [Int.toNat_natCast]
    rw [hk]
  rw [e]
  refine ⟨?_, h.bel.setCell (p := ⟨gi, o, none⟩) (Nat.le_refl _) _⟩
  refine (World.rowIs.set h.inr o (.int .i64 (k : Int))).congr fun j hj => ?_
  simp only [updo]
  by_cases e : j = o
  · simp [e, onZ]
  · simp [e]
def PackedPost (n : Nat) (D : List Int) (size : Int) (os : List Int) (w : World) (e : Ending) (w' : World) : Prop :=
  ∃ v, e = .returned (.tuple #[v, .int .i64 ((ps n D size os).2 : Int)]) ∧ IsVals w' v (ints64 (pin n (-1) (ps n D size os))) ∧ Below w.heap.size w w'
set_option maxRecDepth 20000 in
set_option maxHeartbeats 6400000 in
theorem packed_any (n r : Nat) (D os : List Int) (size : Int) (a1 a2 : Option Addr) (c1 c2 : Nat) (w : World) (hn : n = D.length) (h4 : n ≤ 100) (hs1 : 1 ≤ size) (hs2 : size ≤ 1099511627776) (hD : Vals w a1 (ints64 D)) (hok : ∀ x, x ∈ D → 1 ≤ x ∧ x ≤ size) (hr : r = os.length) (hos : Vals w a2 (ints64 os)) (hob : ∀ o, o ∈ os → 0 ≤ o ∧ o < n) (hnd : os.Nodup) (hr2 : r ≤ 100) :
    Calls Try.prog 42 #[.slice a1 n c1, .int .i64 size, .slice a2 r c2] w fun e w' => PackedPost n D size os w e w' := by
  have HD := Lib.hid hD
  have HN := Lib.hid hn
  have HO := Lib.hid hok
  have HO0 := Lib.hid (fun (x : Int) (hx : x ∈ D) => (show 0 ≤ x from by have := hok x hx; omega))
  have HS := Lib.hid hos
  have HR := Lib.hid hr
  have HB := Lib.hid hob
  have HPI := Lib.hid (ps_inv (n := n) (D := D) (os := os) (size := size) (by omega) (fun x hx => (hok x hx).2) hnd hob hn)
  have hmk := run_make_row' (P := Try.prog) 58 3 (.int .i64 0) 8 Try.underlying58 infoIntD rfl .i64 .i64 n (by omega) (by omega)
  obtain ⟨gi, hgi⟩ : ∃ g, g = w.heap.size := ⟨_, rfl⟩
  obtain ⟨W1, hW1⟩ : ∃ W, W = w.alloc (.cells (madeCells #[.int .i64 0] n) 3) := ⟨_, rfl⟩
  have HR1 : Hid (RowN W1 gi n (fun j => if j < 0 then -1 else 0)) := Lib.hid (by rw [hW1, hgi]; exact (rowIs_made_at w (.int .i64 0) n 3 rfl).congr fun j hj => by simp)
  have HB1 : Hid (Below gi w W1) := Lib.hid (by rw [hW1, hgi]; exact (Below.refl _ _).alloc (Nat.le_refl _) _)
  have HGL := Lib.hid hgi
  clear hD hn hok hos hr hob hnd
  go_enter Try.func42, Try.ntmps42
  go_upto_region 2 with fail
  rw [← hW1, ← hgi]
  clear hmk hW1 hgi
  obtain ⟨w0, rfl⟩ : ∃ x, x = w := ⟨_, rfl⟩
  go_wp2_with fail
  go_loopg [19] n (fun gk x wr => ∃ q : Nat, q + gk = n ∧ x = .int .i64 (q : Int) ∧ Hid (RowN wr gi n (fun j => if j < q then -1 else 0)) ∧ Hid (Below gi w0 wr))
  case atStart => exact ⟨0, by omega, rfl, HR1, HB1⟩
  case round =>
    clear HR1 HB1
    obtain ⟨q, hq, rfl, HR1, HB1⟩ := hrel
    by_cases hqn : q < n
    · have hqn2 : (q : Int) < (n : Int) := by omega
      have hq0 : (0 : Int) ≤ (q : Int) := by omega
      have k0 := World.rowIs.cell HR1.out hqn
      have k1 := World.rowIs.frozen HR1.out q
      have k2 := World.rowIs.lt HR1.out
      have HR2 : Hid (RowN (wr.setCell ⟨gi, q, none⟩ (.int .i64 (-1))) gi n (fun j => if j < q + 1 then -1 else 0)) := Lib.hid ((World.rowIs.set HR1.out q (.int .i64 (-1))).congr fun j hj => by
        by_cases e : j = q
        · subst e; simp
        · rw [if_neg e]
          show Value.int .i64 (if j < q then -1 else 0) = .int .i64 (if j < q + 1 then -1 else 0)
          by_cases h : j < q
          · rw [if_pos h, if_pos (by omega)]
          · rw [if_neg h, if_neg (by omega)])
      have HB2 := Lib.hid (HB1.out.setCell (p := ⟨gi, q, none⟩) (Nat.le_refl _) (.int .i64 (-1)))
      go_wp2_with fail
      go_roundg (gk - 1)
      case measure => omega
      case rel => exact ⟨q + 1, by omega, by simp, HR2, HB2⟩
    · have hqn2 : ¬ (q : Int) < (n : Int) := by omega
      obtain rfl : q = n := by omega
      have HI0 : Hid (PakI gi q (ps q D size (os.take 0)) w0 wr) := Lib.hid ⟨(HR1.out).congr fun j hj => by
        show Value.int .i64 (if j < q then -1 else 0) = .int .i64 (-1)
        rw [if_pos hj], HB1.out⟩
      clear HR1 HB1 hqn hqn2 hq
      obtain ⟨n, rfl⟩ : ∃ n, n = q := ⟨_, rfl⟩
      go_wp2_with fail
      go_loopg [10, 28] r (fun gk v x wr => ∃ q : Nat, q + gk = r ∧ x = .int .i64 (q : Int) ∧ v = .int .i64 ((ps n D size (os.take q)).2 : Int) ∧ Hid (PakI gi n (ps n D size (os.take q)) w0 wr))
      case atStart => exact ⟨0, by omega, rfl, rfl, HI0⟩
      case round =>
        clear HI0
        obtain ⟨q, hq, rfl, rfl, HI⟩ := hrel
        by_cases hqr : q < r
        · obtain ⟨o, ho⟩ : ∃ o, os[q]? = some o := ⟨_, List.getElem?_eq_getElem (by have := HR.out; omega)⟩
          have hob := HB.out o (List.mem_of_getElem? ho)
          obtain ⟨p, rfl⟩ : ∃ p : Nat, o = (p : Int) := ⟨o.toNat, (Int.toNat_of_nonneg hob.1).symm⟩
          obtain ⟨x, hx⟩ : ∃ x, D[p]? = some x := ⟨_, List.getElem?_eq_getElem (by have := HN.out; omega)⟩
          have HGE := Lib.hid (Nat.le_of_eq HGL.out.symm)
          obtain ⟨b1, o1, rfl, hb1, d0⟩ := i64at HD.out hx
          obtain ⟨b2, o2, rfl, hb2, d2⟩ := i64at (HS.out.below HI.out.bel HGE.out) ho
          have hb1g : b1 < gi := by have := HGL.out; omega
          have HST := Lib.hid (ps_take (n := n) (D := D) (size := size) ho)
          have HPQ := Lib.hid (HPI.out q)
          obtain ⟨s, hs⟩ : ∃ s, ps n D size (os.take q) = s := ⟨_, rfl⟩
          rw [hs] at HI HST HPQ
          rw [hs]
          have HX : Hid (D.getD p 0 = x) := Lib.hid (by rw [List.getD_eq_getElem?_getD, hx]; rfl)
          have hxb := HO.out x (List.mem_of_getElem? hx)
          have hp0 : (0 : Int) ≤ (p : Int) := by omega
          have hp2 : (p : Int) < (n : Int) := by omega
          have hp3 : p < n := by omega
          have hqr2 : (q : Int) < (r : Int) := by omega
          have HD0 := Lib.hid (fun (W : World) (h : Below gi w0 W) => (h.cell (p := ⟨b1, o1 + p, none⟩) hb1g).trans d0)
          have hcnt : s.2 ≤ 100 := by have := HPQ.out.cnt; rw [List.length_take] at this; have := HR.out; omega
          obtain ⟨cnt, hcn⟩ : ∃ c, s.2 = c := ⟨_, rfl⟩
          have HCN := Lib.hid hcn
          rw [hcn] at hcnt
          rw [hcn]
          clear hx ho hs d0 hcn
          obtain ⟨gq, rfl⟩ : ∃ g, g = gk := ⟨_, rfl⟩
          obtain ⟨wq, rfl⟩ : ∃ x, x = wr := ⟨_, rfl⟩
          go_wp2_with fail
          go_loopg [13] (cnt + 1) (fun gk y wr => ∃ k : Nat, k + gk = cnt + 1 ∧ k ≤ cnt ∧ y = .int .i64 (k : Int) ∧ Hid (∀ j, j < k → fits n D size s.1 (D.getD p 0) j = false) ∧ Hid (PakI gi n s w0 wr))
          case atStart => exact ⟨0, by omega, by omega, rfl, Lib.hid (fun j hj => by omega), HI⟩
          case round =>
            clear HI
            obtain ⟨k, hk, hkc, rfl, HF, HI⟩ := hrel
            have d1 := HD0.out wr HI.out.bel
            have hbw : b1 < wr.heap.size := by have := HI.out.bel.size; have := hb1; omega
            have hk0 : (0 : Int) ≤ (k : Int) := by omega
            have HRM : Hid (∀ z, Calls Try.prog 127 #[.slice (some ⟨b1, o1, none⟩) n c1, .int .i64 size, .slice (some ⟨gi, 0, none⟩) n n, .int .i64 k] (wr.drewN z) fun e w' => e = .returned (.int .i64 (size - fl D s.1 n k)) ∧ w' = wr.drewN z) := Lib.hid (fun z => room_any n k gi c1 n D size _ s.1 (wr.drewN z) HN.out h4 hs1 hs2 (HD.out.below ((HI.out.drewN z).bel) HGE.out) HO0.out (HI.out.drewN z).inr (HPQ.out.le k))
            obtain ⟨u, hu⟩ : ∃ u, fl D s.1 n k = u := ⟨_, rfl⟩
            have HU := Lib.hid hu
            rw [hu] at HRM
            obtain ⟨rm, hrm⟩ : ∃ rm, size - u = rm := ⟨_, rfl⟩
            rw [hrm] at HRM
            have HI3 := Lib.hid (fun z => HI.out.drewN z)
            by_cases hfit : u + x ≤ size
            · have hcb : decide (rm < x) = false := by simp; omega
              have HKF : Hid (ffk (fits n D size s.1 (D.getD p 0)) s.2 = k) := Lib.hid (ffk_uniq (by rw [HCN.out]; omega) HF.out (fun _ => by show decide (fl D s.1 n k + D.getD p 0 ≤ size) = true; rw [HU.out, HX.out]; simp; omega))
              have HC2 : Hid (((ps n D size (os.take (q + 1))).2 : Int) = max (cnt : Int) ((k : Int) + 1)) := Lib.hid (by
                rw [HST.out]
                unfold pstep
                simp only [Int.toNat_natCast]
                rw [HKF.out, HCN.out]
                omega)
              clear hu hrm
              rcases Int.lt_trichotomy (cnt : Int) ((k : Int) + 1) with h | h | h
              · have HMV : Hid (max (cnt : Int) ((k : Int) + 1) = (k : Int) + 1) := Lib.hid (by omega)
                have e1 : ¬ (k : Int) + 1 < (cnt : Int) := by omega
                have e2 : ¬ (k : Int) + 1 ≤ (cnt : Int) := by omega
                go_wp2_with fail
                go_quiet ((go_at_call 127; exact quiet_drawn ((HRM.out _).mono fun e w' ⟨h1, h2⟩ => ⟨h1, h2 ▸ Drawn.refl _⟩)))
                obtain ⟨wz, hwz⟩ : ∃ W, W = wr.drewN nq := ⟨_, rfl⟩
                have HI4 := Lib.hid (HI3.out nq)
                rw [← hwz] at HI4 ⊢
                clear hwz
                obtain ⟨z, k5⟩ : ∃ z, wz.cell? ⟨gi, p, none⟩ = some (.int .i64 z) := ⟨_, World.rowIs.cell HI4.out.inr hp3⟩
                have k3 := World.rowIs.frozen HI4.out.inr p
                have k4 := World.rowIs.lt HI4.out.inr
                have HNX : Hid (PakI gi n (ps n D size (os.take (q + 1))) w0 (wz.setCell ⟨gi, p, none⟩ (.int .i64 (k : Int)))) := Lib.hid (by rw [HST.out]; exact PakI.step (c' := 0) HI4.out HKF.out)
                have HCV := Lib.hid (HC2.out.trans HMV.out)
                go_wp2_with fail
                go_roundg (gq - 1)
                case measure => omega
                case rel => exact ⟨q + 1, by omega, by simp, by rw [HCV.out], HNX⟩
              · have HMV : Hid (max (cnt : Int) ((k : Int) + 1) = (k : Int) + 1) := Lib.hid (by omega)
                have e1 : ¬ (cnt : Int) < (k : Int) + 1 := by omega
                have e2 : ¬ (k : Int) + 1 < (cnt : Int) := by omega
                go_wp2_with fail
                go_quiet ((go_at_call 127; exact quiet_drawn ((HRM.out _).mono fun e w' ⟨h1, h2⟩ => ⟨h1, h2 ▸ Drawn.refl _⟩)))
                obtain ⟨wz, hwz⟩ : ∃ W, W = wr.drewN nq := ⟨_, rfl⟩
                have HI4 := Lib.hid (HI3.out nq)
                rw [← hwz] at HI4 ⊢
                clear hwz
                obtain ⟨z, k5⟩ : ∃ z, wz.cell? ⟨gi, p, none⟩ = some (.int .i64 z) := ⟨_, World.rowIs.cell HI4.out.inr hp3⟩
                have k3 := World.rowIs.frozen HI4.out.inr p
                have k4 := World.rowIs.lt HI4.out.inr
                have HNX : Hid (PakI gi n (ps n D size (os.take (q + 1))) w0 (wz.setCell ⟨gi, p, none⟩ (.int .i64 (k : Int)))) := Lib.hid (by rw [HST.out]; exact PakI.step (c' := 0) HI4.out HKF.out)
                have HCV := Lib.hid (HC2.out.trans HMV.out)
                go_wp2_with fail
                go_roundg (gq - 1)
                case measure => omega
                case rel => exact ⟨q + 1, by omega, by simp, by rw [HCV.out], HNX⟩
              · have HMV : Hid (max (cnt : Int) ((k : Int) + 1) = (cnt : Int)) := Lib.hid (by omega)
                have e1 : ¬ (cnt : Int) < (k : Int) + 1 := by omega
                have e2 : ¬ (cnt : Int) ≤ (k : Int) + 1 := by omega
                go_wp2_with fail
                go_quiet ((go_at_call 127; exact quiet_drawn ((HRM.out _).mono fun e w' ⟨h1, h2⟩ => ⟨h1, h2 ▸ Drawn.refl _⟩)))
                obtain ⟨wz, hwz⟩ : ∃ W, W = wr.drewN nq := ⟨_, rfl⟩
                have HI4 := Lib.hid (HI3.out nq)
                rw [← hwz] at HI4 ⊢
                clear hwz
                obtain ⟨z, k5⟩ : ∃ z, wz.cell? ⟨gi, p, none⟩ = some (.int .i64 z) := ⟨_, World.rowIs.cell HI4.out.inr hp3⟩
                have k3 := World.rowIs.frozen HI4.out.inr p
                have k4 := World.rowIs.lt HI4.out.inr
                have HNX : Hid (PakI gi n (ps n D size (os.take (q + 1))) w0 (wz.setCell ⟨gi, p, none⟩ (.int .i64 (k : Int)))) := Lib.hid (by rw [HST.out]; exact PakI.step (c' := 0) HI4.out HKF.out)
                have HCV := Lib.hid (HC2.out.trans HMV.out)
                go_wp2_with fail
                go_roundg (gq - 1)
                case measure => omega
                case rel => exact ⟨q + 1, by omega, by simp, by rw [HCV.out], HNX⟩
            · have hcb : decide (rm < x) = true := by simp; omega
              have hkm : k < cnt := by
                rcases Nat.lt_or_ge k cnt with h1 | h1
                · exact h1
                · have := HPQ.out.beyond (b := k) (by rw [HCN.out]; omega) n
                  rw [HU.out] at this; omega
              have HF2 : Hid (∀ j, j < k + 1 → fits n D size s.1 (D.getD p 0) j = false) := Lib.hid (fun j hj => by
                rcases Nat.lt_or_ge j k with h1 | h1
                · exact HF.out j h1
                · obtain rfl : j = k := by omega
                  show decide (fl D s.1 n j + D.getD p 0 ≤ size) = false
                  rw [HU.out, HX.out]; simp; omega)
              clear hu hrm
              go_wp2_with fail
              go_quiet ((go_at_call 127; exact quiet_drawn ((HRM.out _).mono fun e w' ⟨h1, h2⟩ => ⟨h1, h2 ▸ Drawn.refl _⟩)))
              go_wp2_with fail
              go_roundg (gk - 1)
              case measure => omega
              case rel => exact ⟨k + 1, by omega, by omega, by simp, HF2, Lib.hid (HI3.out _)⟩
        · have hqr2 : ¬ (q : Int) < (r : Int) := by omega
          obtain rfl : q = r := by omega
          have hI := HI.out
          rw [List.take_of_length_le (by have := HR.out; omega)] at hI ⊢
          have HE := Lib.hid (pinRow (cap := n) hI.inr)
          have HBL := Lib.hid hI.bel
          clear hI
          go_wp2_with fail
          go_ret2
          exact ⟨_, rfl, HE.out, by have h := HBL.out; rwa [HGL.out] at h⟩
end Go.Proofs.Ytfjoakhcgpckgaa
