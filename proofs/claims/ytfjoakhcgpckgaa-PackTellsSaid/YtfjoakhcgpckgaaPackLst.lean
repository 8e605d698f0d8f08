/- Contract: the program's least number of boxes by trying each. -/
import Derived.Test.YtfjoakhcgpckgaaPackClone
import Derived.Test.YtfjoakhcgpckgaaWorkLeast
import Derived.StillTailTactics
import Derived.Deep.RegionHeld3
namespace Go.Proofs.Ytfjoakhcgpckgaa
open Go.ChangeShapes Go.WideShapes Go.ChangeAt Go.RowKit
set_option linter.unusedVariables false
open Wk St
def LstQ (size : Int) (H cnt : Nat) (vf : Value) (D : List Int) (f : Nat → Int) (best : Nat) (w : World) (e : Ending) (w' : World) : Prop :=
  ∃ r : Nat, e = .returned (.int .i64 (r : Int)) ∧ Lst size f cnt D best r ∧ w'.ownsRow H 2 1 vf cnt (rowV cnt f) ∧ Below H w w'
def LstP (size : Int) (D : List Int) : Prop := ∀ (f : Nat → Int) (best H cnt : Nat) (vf : Value) (a : Option Addr) (n cap : Nat) (w : World), n = D.length → n ≤ cap → VB H w a D → w.ownsRow H 2 1 vf cnt (rowV cnt f) → (cnt = 0 → vf = .slice none 0 0) → (∀ b, 0 ≤ f b ∧ f b ≤ size) → (∀ b, cnt ≤ b → f b = 0) → cnt + n ≤ 100 → H ≤ w.heap.size →
  Calls Try.prog 126 #[.slice a n cap, .int .i64 size, vf, .int .i64 (best : Int)] w fun e w' => LstQ size H cnt vf D f best w e w'
theorem own_slice {w : World} {H cnt : Nat} {vf : Value} {f : Nat → Int} (h : w.ownsRow H 2 1 vf cnt (rowV cnt f)) : ∃ a c, vf = .slice a cnt c := by
  obtain ⟨a, c, e, _⟩ := IsVals.own h
  rw [rowV_length] at e
  exact ⟨a, c, e⟩
theorem own_put {w : World} {H cnt g cp : Nat} {f : Nat → Int} (h : w.ownsRow H 2 1 (.slice (some ⟨g, 0, none⟩) cnt cp) cnt (rowV cnt f)) (k : Nat) (x : Int) : (w.setCell ⟨g, k, none⟩ (.int .i64 (f k + x))).ownsRow H 2 1 (.slice (some ⟨g, 0, none⟩) cnt cp) cnt (rowV cnt (put f k x)) := by
  have h1 : ownF w H g cp cnt 2 (fun j => .int .i64 (f j)) := h
  refine (h1.set k (.int .i64 (f k + x))).congr fun j hj => ?_
  unfold put
  by_cases e : j = k
  · subst e; simp
  · simp [e]
set_option maxRecDepth 20000 in
set_option maxHeartbeats 3200000 in
theorem plst_stop (size : Int) (H cnt : Nat) (vf : Value) (D : List Int) (f : Nat → Int) (best : Nat) (a : Option Addr) (n cap : Nat) (w : World) (hown : w.ownsRow H 2 1 vf cnt (rowV cnt f)) (hb : best ≤ cnt) :
    Calls Try.prog 126 #[.slice a n cap, .int .i64 size, vf, .int .i64 (best : Int)] w fun e w' => LstQ size H cnt vf D f best w e w' := by
  obtain ⟨a9, c9, rfl⟩ := own_slice hown
  have HO := Lib.hid hown
  have HL := Lib.hid (Lst.cut (size := size) (f := f) (D := D) hb)
  have hb1 : decide ((best : Int) ≤ (cnt : Int)) = true := by simp; omega
  have hb2 : (best : Int) ≤ (cnt : Int) := by omega
  clear hown
  go_enter Try.func126, Try.ntmps126
  go_wp2_with fail
  go_ret
  exact ⟨best, rfl, HL.out, HO.out, Below.refl _ _⟩
set_option maxRecDepth 20000 in
set_option maxHeartbeats 3200000 in
theorem plst_nil (size : Int) (H cnt : Nat) (vf : Value) (f : Nat → Int) (best : Nat) (a : Option Addr) (cap : Nat) (w : World) (hown : w.ownsRow H 2 1 vf cnt (rowV cnt f)) (hb : cnt < best) (hf : ∀ b, f b ≤ size) :
    Calls Try.prog 126 #[.slice a 0 cap, .int .i64 size, vf, .int .i64 (best : Int)] w fun e w' => LstQ size H cnt vf [] f best w e w' := by
  obtain ⟨a9, c9, rfl⟩ := own_slice hown
  have HO := Lib.hid hown
  have HL := Lib.hid (Lst.nil (size := size) (f := f) hb hf)
  have hb2 : ¬ (best : Int) ≤ (cnt : Int) := by omega
  clear hown hf
  go_enter Try.func126, Try.ntmps126
  go_wp2_with fail
  go_ret
  exact ⟨cnt, rfl, HL.out, HO.out, Below.refl _ _⟩
set_option maxRecDepth 20000 in
set_option maxHeartbeats 9600000 in
theorem plst_cons (size : Int) (hs1 : 1 ≤ size) (hs2 : size ≤ 1099511627776) (H cnt : Nat) (vf : Value) (x : Int) (D : List Int) (hD : ∀ y, y ∈ x :: D → 1 ≤ y ∧ y ≤ size) (ih : LstP size D) (f : Nat → Int) (best b off d cap : Nat) (w : World) (hd : d = D.length) (hcap : d + 1 ≤ cap) (hbH : b < H) (hV : VB H w (some ⟨b, off, none⟩) (x :: D)) (hown : w.ownsRow H 2 1 vf cnt (rowV cnt f)) (h0 : cnt = 0 → vf = .slice none 0 0) (hf : ∀ b, 0 ≤ f b ∧ f b ≤ size) (hz : ∀ b, cnt ≤ b → f b = 0) (hcn : cnt + (d + 1) ≤ 100) (hH : H ≤ w.heap.size) (hb : cnt < best) :
    Calls Try.prog 126 #[.slice (some ⟨b, off, none⟩) (d + 1) cap, .int .i64 size, vf, .int .i64 (best : Int)] w fun e w' => LstQ size H cnt vf (x :: D) f best w e w' := by
  obtain ⟨a9, c9, rfl⟩ := own_slice hown
  have HO := Lib.hid hown
  have HF := Lib.hid hf
  have HZ := Lib.hid hz
  have HV := Lib.hid hV
  have HDN := Lib.hid hd
  have HI := Lib.hid ih
  have H0 := Lib.hid h0
  have HT0 := Lib.hid (TrP.start (size := size) (f := f) (cnt := cnt) (x := x) (D := D) (best := best))
  have HDD := Lib.hid (fun (y : Int) (hy : y ∈ D) => (show 0 ≤ y from by have := hD y (by simp [hy]); omega))
  have hx := hD x (by simp)
  have hb2 : ¬ (best : Int) ≤ (cnt : Int) := by omega
  have hd1 : ((d : Int) + 1 == 0) = false := by simp; omega
  have h01 : (0 : Int) < (d : Int) + 1 := by omega
  have h02 : 0 < d + 1 := by omega
  have s1 : (1 : Int) ≤ (d : Int) + 1 := by omega
  have s2 : (d : Int) + 1 ≤ (cap : Int) := by omega
  have s3 : 1 ≤ d + 1 := by omega
  have s4 : ¬ ((d : Int) + 1 < 1) := by omega
  have s5 : ¬ ((cap : Int) < (d : Int) + 1) := by omega
  clear hown hf hz hV hd ih hD h0
  go_enter Try.func126, Try.ntmps126
  go_wp2_with fail
  go_loopg [3, 22] cnt (fun gk y z wr => ∃ k r : Nat, k + gk = cnt ∧ y = .int .i64 (r : Int) ∧ z = .int .i64 (k : Int) ∧ Hid (TrP size f cnt x D best k r) ∧ Hid (wr.ownsRow H 2 1 (.slice a9 cnt c9) cnt (rowV cnt f)) ∧ Hid (Below H w wr))
  case atStart => exact ⟨0, best, by omega, rfl, rfl, HT0, HO, Lib.hid (Below.refl _ _)⟩
  case round =>
    clear HT0 HO
    obtain ⟨k, r, hk, rfl, rfl, HT, HO, HB⟩ := hrel
    have hs := HB.out.size
    have hbw : b < wr.heap.size := by omega
    have d0 : wr.cell? ⟨b, off, none⟩ = some (.int .i64 x) := by
      obtain ⟨b', off', e1, _, e2⟩ := (HV.out.below HB.out (Nat.le_refl _)) (by simp)
      cases e1
      exact e2 0 x rfl
    have HVT : Hid (∀ W, Below H w W → VB H W (some (if cap = 1 then ⟨b, off, none⟩ else ⟨b, off + 1, none⟩)) D) := Lib.hid (fun W hB => (HV.out.tail (by have := HDN.out; omega)).below hB (Nat.le_refl _))
    by_cases hkm : k < cnt
    · obtain ⟨g, cp, e9, hg1, hg2⟩ := HO.out.form (by omega)
      cases e9
      have hkm2 : (k : Int) < (cnt : Int) := by omega
      have hk0 : (0 : Int) ≤ (k : Int) := by omega
      have HG := Lib.hid (rowG_own HO.out)
      have k0 := HG.out.cell k hkm
      have k1 := HG.out.fz k
      have k3 := HG.out.lt
      obtain ⟨u, hu⟩ : ∃ u, f k = u := ⟨_, rfl⟩
      rw [hu] at k0
      have hub := HF.out k
      rw [hu] at hub
      have HU := Lib.hid hu
      have wy : IntKind.i64.wrap (u + x) = u + x := IntWalk.i64_in _ (by omega)
      have wz : IntKind.i64.wrap (u + x - x) = u := by rw [IntWalk.i64_in _ (by omega)]; omega
      clear hu
      by_cases hfit : u + x ≤ size
      · have hcb : decide (u + x ≤ size) = true := by simp [hfit]
        have HOZ : Hid (∀ z, (wr.drewN z).ownsRow H 2 1 (.slice (some ⟨g, 0, none⟩) cnt c9) cnt (rowV cnt f)) := Lib.hid (fun z => ownsRow_below HO.out ((Drawn.drewN wr z).below _))
        have HBZ : Hid (∀ z, Below H w (wr.drewN z)) := Lib.hid (fun z => HB.out.trans ((Drawn.drewN wr z).below _))
        have HPF : Hid (∀ b, 0 ≤ put f k x b ∧ put f k x b ≤ size) := Lib.hid (fun i => by
          have h1 := HF.out i
          unfold put
          split
          · rw [HU.out]; omega
          · exact h1)
        have HPZ : Hid (∀ b, cnt ≤ b → put f k x b = 0) := Lib.hid (fun i hi => by
          have : ¬ i = k := by omega
          simp only [put, this, if_false]
          exact HZ.out i hi)
        have HPJ : Hid (put f k x k = u + x) := Lib.hid (by simp [put, HU.out])
        have HTS : Hid (∀ r', Lst size (put f k x) cnt D r r' → TrP size f cnt x D best (k + 1) r') := Lib.hid (fun r' h => HT.out.step hkm h)
        have HD0 : Hid (∀ W, Below H w W → W.cell? ⟨b, off, none⟩ = some (.int .i64 x)) := Lib.hid (fun W hB => by
          obtain ⟨b', off', e1, _, e2⟩ := (HV.out.below hB (Nat.le_refl _)) (by simp)
          cases e1
          exact e2 0 x rfl)
        have hcz : cnt = 0 → (.slice (some ⟨g, 0, none⟩) cnt c9 : Value) = .slice none 0 0 := fun h => by omega
        have HCZ := Lib.hid hcz
        clear hcz
        go_wp2_with fail
        go_quiet (fail)
        obtain ⟨wz, hwz⟩ : ∃ W, W = wr.drewN nq := ⟨_, rfl⟩
        have HOZ := Lib.hid (HOZ.out nq)
        have HBZ := Lib.hid (HBZ.out nq)
        rw [← hwz] at HOZ HBZ ⊢
        clear hwz k0 k1 k3 d0 hbw HG
        have HG := Lib.hid (rowG_own HOZ.out)
        have k0 := HG.out.cell k hkm
        rw [HU.out] at k0
        have k1 := HG.out.fz k
        have k3 := HG.out.lt
        have d0 := HD0.out wz HBZ.out
        have hbs := HBZ.out.size
        have hbw : b < wz.heap.size := by omega
        have HR2 : Hid ((wz.setCell ⟨g, k, none⟩ (.int .i64 (u + x))).drew.ownsRow H 2 1 (.slice (some ⟨g, 0, none⟩) cnt c9) cnt (rowV cnt (put f k x))) := Lib.hid (by have h := own_put HOZ.out k x; rw [HU.out] at h; exact ownsRow_below h ((Below.refl _ _).drew))
        have HB2 : Hid (Below H w (wz.setCell ⟨g, k, none⟩ (.int .i64 (u + x))).drew) := Lib.hid (HBZ.out.setCell (p := ⟨g, k, none⟩) hg1 _).drew
        go_wp2_with fail
        go_still_tail 9, (by kernel_rfl)
        change wpList _ _ _ _ _ wz.drew
        obtain ⟨wq, hwq⟩ : ∃ W, W = (wz.setCell ⟨g, k, none⟩ (.int .i64 (u + x))).drew := ⟨_, rfl⟩
        rw [← hwq] at HR2 HB2
        have hcd : d ≤ cap - 1 := by omega
        have hqH : H ≤ wq.heap.size := by have := HB2.out.size; omega
        have hcd2 : cnt + d ≤ 100 := by omega
        by_cases hc1 : cap = 1
        · subst hc1
          obtain rfl : d = 0 := by omega
          have HVT1 : Hid (VB H wq (some ⟨b, off, none⟩) D) := Lib.hid (by simpa using HVT.out wq HB2.out)
          clear HVT
          have hcd0 : 0 ≤ 0 := by omega
          have HCL := Lib.hid (HI.out (put f k x) r H cnt (.slice (some ⟨g, 0, none⟩) cnt c9) (some ⟨b, off, none⟩) 0 0 wq HDN.out hcd0 HVT1.out HR2.out HCZ.out HPF.out HPZ.out hcd2 hqH)
          go_wp2_with (rw [← hwq]; go_at_call 126; refine Calls.mono HCL.out ?_; rintro e w4 ⟨r', rfl, hb1, hb3, hb4⟩; have HT2 := Lib.hid (HTS.out r' hb1); have HO4 := Lib.hid hb3; have HB4 := Lib.hid (HB2.out.trans hb4); clear hb1 hb3 hb4)
          have HG4 := Lib.hid (rowG_own HO4.out)
          have k0' := HG4.out.cell k hkm
          rw [HPJ.out] at k0'
          have k1' := HG4.out.fz k
          have k3' := HG4.out.lt
          have d0' := HD0.out w4 HB4.out
          have hb4s := HB4.out.size
          have hbw' : b < w4.heap.size := by omega
          have HO5 : Hid ((w4.setCell ⟨g, k, none⟩ (.int .i64 u)).drew.ownsRow H 2 1 (.slice (some ⟨g, 0, none⟩) cnt c9) cnt (rowV cnt f)) := Lib.hid (by
            have h := own_put HO4.out k (-x)
            rw [put_back, HPJ.out, show u + x + -x = u from by omega] at h
            exact ownsRow_below h ((Below.refl _ _).drew))
          have HB5 : Hid (Below H w (w4.setCell ⟨g, k, none⟩ (.int .i64 u)).drew) := Lib.hid (HB4.out.setCell (p := ⟨g, k, none⟩) hg1 _).drew
          go_still_tail 9, (by kernel_rfl)
          change wpList _ _ _ _ _ w4.drew
          go_wp2_with fail
          go_roundg (gk - 1)
          case measure => omega
          case rel => exact ⟨k + 1, r', by omega, rfl, by simp, HT2, HO5, HB5⟩
        · have HVT1 : Hid (VB H wq (some ⟨b, off + 1, none⟩) D) := Lib.hid (by have := HVT.out wq HB2.out; rwa [if_neg hc1] at this)
          clear HVT
          have HCL := Lib.hid (HI.out (put f k x) r H cnt (.slice (some ⟨g, 0, none⟩) cnt c9) (some ⟨b, off + 1, none⟩) d (cap - 1) wq HDN.out hcd HVT1.out HR2.out HCZ.out HPF.out HPZ.out hcd2 hqH)
          go_wp2_with (rw [← hwq]; go_at_call 126; refine Calls.mono HCL.out ?_; rintro e w4 ⟨r', rfl, hb1, hb3, hb4⟩; have HT2 := Lib.hid (HTS.out r' hb1); have HO4 := Lib.hid hb3; have HB4 := Lib.hid (HB2.out.trans hb4); clear hb1 hb3 hb4)
          have HG4 := Lib.hid (rowG_own HO4.out)
          have k0' := HG4.out.cell k hkm
          rw [HPJ.out] at k0'
          have k1' := HG4.out.fz k
          have k3' := HG4.out.lt
          have d0' := HD0.out w4 HB4.out
          have hb4s := HB4.out.size
          have hbw' : b < w4.heap.size := by omega
          have HO5 : Hid ((w4.setCell ⟨g, k, none⟩ (.int .i64 u)).drew.ownsRow H 2 1 (.slice (some ⟨g, 0, none⟩) cnt c9) cnt (rowV cnt f)) := Lib.hid (by
            have h := own_put HO4.out k (-x)
            rw [put_back, HPJ.out, show u + x + -x = u from by omega] at h
            exact ownsRow_below h ((Below.refl _ _).drew))
          have HB5 : Hid (Below H w (w4.setCell ⟨g, k, none⟩ (.int .i64 u)).drew) := Lib.hid (HB4.out.setCell (p := ⟨g, k, none⟩) hg1 _).drew
          go_still_tail 9, (by kernel_rfl)
          change wpList _ _ _ _ _ w4.drew
          go_wp2_with fail
          go_roundg (gk - 1)
          case measure => omega
          case rel => exact ⟨k + 1, r', by omega, rfl, by simp, HT2, HO5, HB5⟩
      · have hcb : decide (u + x ≤ size) = false := by simp only [hfit, decide_false]
        have HT2 := Lib.hid (HT.out.no HDD.out (by rw [HU.out]; exact hfit))
        have HOZ : Hid (∀ z, (wr.drewN z).ownsRow H 2 1 (.slice (some ⟨g, 0, none⟩) cnt c9) cnt (rowV cnt f)) := Lib.hid (fun z => ownsRow_below HO.out ((Drawn.drewN wr z).below _))
        have HBZ : Hid (∀ z, Below H w (wr.drewN z)) := Lib.hid (fun z => HB.out.trans ((Drawn.drewN wr z).below _))
        go_wp2_with fail
        go_quiet (fail)
        go_wp2_with fail
        go_roundg (gk - 1)
        case measure => omega
        case rel => exact ⟨k + 1, r, by omega, rfl, by simp, HT2, Lib.hid (HOZ.out _), Lib.hid (HBZ.out _)⟩
    · have hkm2 : ¬ (k : Int) < (cnt : Int) := by omega
      obtain rfl : k = cnt := by omega
      have HOW : Hid (∀ W, Upw wr W → W.ownsRow H 2 1 (.slice a9 k c9) k (rowV k f)) := Lib.hid (fun W h => h.own HO.out)
      have HCLN : Hid (∀ W, Upw wr W → Calls Try.prog 187 #[.slice a9 k c9] W fun e w' => ∃ v, e = .returned v ∧ w'.ownsRow wr.heap.size 2 1 v k (rowV k f) ∧ Below W.heap.size W w') := Lib.hid (fun W h => (clone_any H k _ f W (by omega) (h.own HO.out) H0.out).mono fun e w' h2 => by
        obtain ⟨v, e1, e2, e3⟩ := h2
        exact ⟨v, e1, ownsRow_low e2 h.bel.size, e3⟩)
      have HDX : Hid (∀ W, Upw wr W → W.cell? ⟨b, off, none⟩ = some (.int .i64 x)) := Lib.hid (fun W h => (h.bel.cell (p := ⟨b, off, none⟩) hbw).trans d0)
      have hf0 : f k = 0 := HZ.out k (Nat.le_refl _)
      have HPF : Hid (∀ b, 0 ≤ put f k x b ∧ put f k x b ≤ size) := Lib.hid (fun i => by
        have h1 := HF.out i
        unfold put
        split
        · rw [hf0]; omega
        · exact h1)
      have HPZ : Hid (∀ b, k + 1 ≤ b → put f k x b = 0) := Lib.hid (fun i hi => by
        have : ¬ i = k := by omega
        simp only [put, this, if_false]
        exact HZ.out i (by omega))
      have HPR := Lib.hid (rowV_put k f x hf0)
      have HTD : Hid (∀ r', Lst size (put f k x) (k + 1) D r r' → Lst size f k (x :: D) best r') := Lib.hid (fun r' h => HT.out.done HZ.out h)
      have hHw : H ≤ wr.heap.size := by omega
      clear hf0
      by_cases hc1 : cap = 1
      · subst hc1
        obtain rfl : d = 0 := by omega
        have HRC : Hid (∀ W v3, Upw wr W → W.ownsRow wr.heap.size 2 1 v3 (k + 1) (rowV (k + 1) (put f k x)) → Calls Try.prog 126 #[.slice (some ⟨b, off, none⟩) 0 0, .int .i64 size, v3, .int .i64 (r : Int)] W fun e w' => LstQ size wr.heap.size (k + 1) v3 D (put f k x) r W e w') := Lib.hid (fun W v3 h ho => HI.out (put f k x) r wr.heap.size (k + 1) v3 (some ⟨b, off, none⟩) 0 0 W HDN.out (Nat.le_refl _) ((by simpa using HVT.out W (HB.out.trans (h.bel.mono hHw)) : VB H W (some ⟨b, off, none⟩) D).low hHw) ho (fun h => absurd h (by omega)) HPF.out HPZ.out (by omega) h.bel.size)
        clear HVT
        go_wp2_with fail
        go_region_held3 (fun W => W.cell? ⟨b, off, none⟩ = some (.int .i64 x))
          (exact HDX.out _ (by repeat (first | exact Upw.refl | exact HU2.out | exact HU3.out | exact HU4.out | refine Upw.alloc _ ?_ | refine Upw.drew ?_)))
          (first
            | (go_at_call 187; refine Calls.mono (HCLN.out _ (by repeat (first | exact Upw.refl | exact HU2.out | exact HU3.out | exact HU4.out | refine Upw.alloc _ ?_ | refine Upw.drew ?_))) ?_; rintro e w2 ⟨v2, rfl, ho, hb⟩; have HU2 := Lib.hid (Upw.call (w := wr) (by repeat (first | exact Upw.refl | exact HU2.out | exact HU3.out | exact HU4.out | refine Upw.alloc _ ?_ | refine Upw.drew ?_)) hb); have HO2 := Lib.hid (fun W (h : Upw w2 W) => h.own ho); have HKB := Lib.hid (fun (k : Nat) (o : Obj) h => keep_block hb (k := k) (o := o) h); clear ho hb)
            | (refine stepPush _ (by rfl) (.tmp 64) (.tmp 68) 36 (by rfl) wr.heap.size 2 (.int .i64 0) 8 Try.underlying36 infoI64s (by rfl) v2 k (rowV k f) (by rfl) (HO2.out _ (by repeat (first | exact Upw.refl | refine Upw.alloc _ ?_ | refine Upw.drew ?_))) _ (.int .i64 x) rfl (by first | exact heapAt (by simp) | exact HKB.out _ _ (heapAt (by simp)) | exact HKB.out _ _ (heap_alloc_new _ _)) (by rfl) (by unfold maxLen; omega) (by omega) ((show Upw wr _ from (by repeat (first | exact Upw.refl | exact HU2.out | exact HU3.out | exact HU4.out | refine Upw.alloc _ ?_ | refine Upw.drew ?_))).bel.size) ?_; intro g3 cp3 w3 hown3 hgrow3; rw [HPR.out] at hown3; have HU3 := Lib.hid (Upw.base (w := wr) (by repeat (first | exact Upw.refl | exact HU2.out | exact HU3.out | exact HU4.out | refine Upw.alloc _ ?_ | refine Upw.drew ?_)) ((Below.refl _ _).grown hgrow3 ((show Upw wr _ from (by repeat (first | exact Upw.refl | exact HU2.out | exact HU3.out | exact HU4.out | refine Upw.alloc _ ?_ | refine Upw.drew ?_))).bel.size) (ownBlock_ge (HO2.out _ (by repeat (first | exact Upw.refl | refine Upw.alloc _ ?_ | refine Upw.drew ?_))) (Nat.le_refl _)))); have HO3 := Lib.hid (fun W (h : Upw w3 W) => h.own hown3); clear hown3 hgrow3)
            | (go_at_call 126; refine Calls.mono (HRC.out _ _ (by repeat (first | exact Upw.refl | exact HU2.out | exact HU3.out | exact HU4.out | refine Upw.alloc _ ?_ | refine Upw.drew ?_)) (HO3.out _ (by repeat (first | exact Upw.refl | refine Upw.alloc _ ?_ | refine Upw.drew ?_)))) ?_; rintro e w4 ⟨r', rfl, hl, ho4, hb4⟩; have HL4 := Lib.hid (HTD.out r' hl); have HU4 := Lib.hid (Upw.base (w := wr) (by repeat (first | exact Upw.refl | exact HU2.out | exact HU3.out | exact HU4.out | refine Upw.alloc _ ?_ | refine Upw.drew ?_)) hb4); clear hl ho4 hb4))
        all_goals
          go_wp2_with fail
          go_ret
          exact ⟨r', rfl, HL4.out, HOW.out _ HU4.out, HB.out.trans (HU4.out.bel.mono hHw)⟩
      · have HRC : Hid (∀ W v3, Upw wr W → W.ownsRow wr.heap.size 2 1 v3 (k + 1) (rowV (k + 1) (put f k x)) → Calls Try.prog 126 #[.slice (some ⟨b, off + 1, none⟩) d (cap - 1), .int .i64 size, v3, .int .i64 (r : Int)] W fun e w' => LstQ size wr.heap.size (k + 1) v3 D (put f k x) r W e w') := Lib.hid (fun W v3 h ho => HI.out (put f k x) r wr.heap.size (k + 1) v3 (some ⟨b, off + 1, none⟩) d (cap - 1) W HDN.out (by omega) ((by have := HVT.out W (HB.out.trans (h.bel.mono hHw)); rwa [if_neg hc1] at this : VB H W (some ⟨b, off + 1, none⟩) D).low hHw) ho (fun h => absurd h (by omega)) HPF.out HPZ.out (by omega) h.bel.size)
        clear HVT
        go_wp2_with fail
        go_region_held3 (fun W => W.cell? ⟨b, off, none⟩ = some (.int .i64 x))
          (exact HDX.out _ (by repeat (first | exact Upw.refl | exact HU2.out | exact HU3.out | exact HU4.out | refine Upw.alloc _ ?_ | refine Upw.drew ?_)))
          (first
            | (go_at_call 187; refine Calls.mono (HCLN.out _ (by repeat (first | exact Upw.refl | exact HU2.out | exact HU3.out | exact HU4.out | refine Upw.alloc _ ?_ | refine Upw.drew ?_))) ?_; rintro e w2 ⟨v2, rfl, ho, hb⟩; have HU2 := Lib.hid (Upw.call (w := wr) (by repeat (first | exact Upw.refl | exact HU2.out | exact HU3.out | exact HU4.out | refine Upw.alloc _ ?_ | refine Upw.drew ?_)) hb); have HO2 := Lib.hid (fun W (h : Upw w2 W) => h.own ho); have HKB := Lib.hid (fun (k : Nat) (o : Obj) h => keep_block hb (k := k) (o := o) h); clear ho hb)
            | (refine stepPush _ (by rfl) (.tmp 64) (.tmp 68) 36 (by rfl) wr.heap.size 2 (.int .i64 0) 8 Try.underlying36 infoI64s (by rfl) v2 k (rowV k f) (by rfl) (HO2.out _ (by repeat (first | exact Upw.refl | refine Upw.alloc _ ?_ | refine Upw.drew ?_))) _ (.int .i64 x) rfl (by first | exact heapAt (by simp) | exact HKB.out _ _ (heapAt (by simp)) | exact HKB.out _ _ (heap_alloc_new _ _)) (by rfl) (by unfold maxLen; omega) (by omega) ((show Upw wr _ from (by repeat (first | exact Upw.refl | exact HU2.out | exact HU3.out | exact HU4.out | refine Upw.alloc _ ?_ | refine Upw.drew ?_))).bel.size) ?_; intro g3 cp3 w3 hown3 hgrow3; rw [HPR.out] at hown3; have HU3 := Lib.hid (Upw.base (w := wr) (by repeat (first | exact Upw.refl | exact HU2.out | exact HU3.out | exact HU4.out | refine Upw.alloc _ ?_ | refine Upw.drew ?_)) ((Below.refl _ _).grown hgrow3 ((show Upw wr _ from (by repeat (first | exact Upw.refl | exact HU2.out | exact HU3.out | exact HU4.out | refine Upw.alloc _ ?_ | refine Upw.drew ?_))).bel.size) (ownBlock_ge (HO2.out _ (by repeat (first | exact Upw.refl | refine Upw.alloc _ ?_ | refine Upw.drew ?_))) (Nat.le_refl _)))); have HO3 := Lib.hid (fun W (h : Upw w3 W) => h.own hown3); clear hown3 hgrow3)
            | (go_at_call 126; refine Calls.mono (HRC.out _ _ (by repeat (first | exact Upw.refl | exact HU2.out | exact HU3.out | exact HU4.out | refine Upw.alloc _ ?_ | refine Upw.drew ?_)) (HO3.out _ (by repeat (first | exact Upw.refl | refine Upw.alloc _ ?_ | refine Upw.drew ?_)))) ?_; rintro e w4 ⟨r', rfl, hl, ho4, hb4⟩; have HL4 := Lib.hid (HTD.out r' hl); have HU4 := Lib.hid (Upw.base (w := wr) (by repeat (first | exact Upw.refl | exact HU2.out | exact HU3.out | exact HU4.out | refine Upw.alloc _ ?_ | refine Upw.drew ?_)) hb4); clear hl ho4 hb4))
        all_goals
          go_wp2_with fail
          go_ret
          exact ⟨r', rfl, HL4.out, HOW.out _ HU4.out, HB.out.trans (HU4.out.bel.mono hHw)⟩
theorem plst_any (size : Int) (hs1 : 1 ≤ size) (hs2 : size ≤ 1099511627776) : ∀ D : List Int, (∀ x, x ∈ D → 1 ≤ x ∧ x ≤ size) → LstP size D := by
  intro D
  induction D with
  | nil =>
    intro hD f best H cnt vf a n cap w hn hcap hV hown h0 hf hz hcn hH
    obtain rfl : n = 0 := by simpa using hn
    by_cases h : best ≤ cnt
    · exact plst_stop size H cnt vf [] f best a 0 cap w hown h
    · exact plst_nil size H cnt vf f best a cap w hown (by omega) (fun b => (hf b).2)
  | cons x D ih =>
    intro hD f best H cnt vf a n cap w hn hcap hV hown h0 hf hz hcn hH
    by_cases h : best ≤ cnt
    · exact plst_stop size H cnt vf _ f best a n cap w hown h
    · obtain rfl : n = D.length + 1 := by simpa using hn
      obtain ⟨b, off, rfl, hb, _⟩ := hV (by simp)
      exact plst_cons size hs1 hs2 H cnt vf x D hD (ih fun y hy => hD y (by simp [hy])) f best b off D.length cap w rfl hcap hb hV hown h0 hf hz hcn hH (by omega)
end Go.Proofs.Ytfjoakhcgpckgaa
