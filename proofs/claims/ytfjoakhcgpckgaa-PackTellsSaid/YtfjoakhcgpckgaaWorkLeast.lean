/- Contract: the program's least span by trying each hand. -/
import Derived.Test.YtfjoakhcgpckgaaWorkRow
import Derived.Test.YtfjoakhcgpckgaaWorkRun
import Derived.StillTailTactics
namespace Go.Proofs.Ytfjoakhcgpckgaa
open Go.ChangeShapes Go.WideShapes Go.ChangeAt Go.RowKit
set_option linter.unusedVariables false
open Wk
theorem Fst.ex (f : Nat → Int) (m : Nat) : ∀ k, k < m → ∃ k', k' ≤ k ∧ Fst f m (f k) k' := by
  intro k
  induction k using Nat.strongRecOn with
  | ind k ih =>
    intro hk
    by_cases h : ∃ j, j < k ∧ f j = f k
    · obtain ⟨j, hj, e⟩ := h
      obtain ⟨k', h1, h2⟩ := ih j hj (by omega)
      exact ⟨k', by omega, by rw [← e]; exact h2⟩
    · exact ⟨k, Nat.le_refl _, hk, rfl, fun j hj e => h ⟨j, hj, e⟩⟩
theorem Fst.uniq {f : Nat → Int} {m k k' : Nat} {v : Int} (h : Fst f m v k) (h' : Fst f m v k') : k = k' := by
  rcases Nat.lt_trichotomy k k' with h1 | h1 | h1
  · exact (h'.fst k h1 h.is).elim
  · exact h1
  · exact (h.fst k' h1 h'.is).elim
theorem RowF.put {w : World} {b m : Nat} {f : Nat → Int} (h : RowF w b m f) (i : Nat) (x : Int) : RowF (w.setCell ⟨b, i, none⟩ (.int .i64 (f i + x))) b m (put f i x) :=
  (World.rowIs.set h i (.int .i64 (f i + x))).congr fun j hj => by
    unfold Wk.put
    by_cases e : j = i
    · subst e; simp
    · simp [e]
theorem put_bound {f : Nat → Int} {c x : Int} (hx : 0 ≤ x) (k : Nat) (h : ∀ i, 0 ≤ f i ∧ f i ≤ c) : ∀ i, 0 ≤ put f k x i ∧ put f k x i ≤ c + x := fun i => by
  have h1 := h i
  have h2 := h k
  unfold put; split <;> omega
def LeastP (m gl : Nat) (D : List Int) : Prop := ∀ (f : Nat → Int) (best : Int) (a : Option Addr) (n cap : Nat) (c : Int) (w : World), n = D.length → n ≤ cap → VB gl w a D → RowF w gl m f → (∀ i, 0 ≤ f i ∧ f i ≤ c) → c + n * 1000000000 ≤ 1000000000000 →
  Calls Try.prog 132 #[.slice (some ⟨gl, 0, none⟩) m m, .slice a n cap, .int .i64 best] w fun e w' => ∃ r, e = .returned (.int .i64 r) ∧ Bst m f D best r ∧ RowF w' gl m f ∧ Below gl w w'
/-- what comes of it -/
def LeastQ (m gl : Nat) (D : List Int) (f : Nat → Int) (best : Int) (w : World) (e : Ending) (w' : World) : Prop := ∃ r, e = .returned (.int .i64 r) ∧ Bst m f D best r ∧ RowF w' gl m f ∧ Below gl w w'
set_option maxRecDepth 20000 in
set_option maxHeartbeats 3200000 in
theorem least_stop (m gl : Nat) (hm : 0 < m) (hm2 : m ≤ 20) (D : List Int) (f : Nat → Int) (best : Int) (a : Option Addr) (n cap : Nat) (w : World) (hR : RowF w gl m f) (hf : ∀ i, 0 ≤ f i) (hD : ∀ x, x ∈ D → 0 ≤ x) (hM : best ≤ mx f m) :
    Calls Try.prog 132 #[.slice (some ⟨gl, 0, none⟩) m m, .slice a n cap, .int .i64 best] w fun e w' => LeastQ m gl D f best w e w' := by
  have HR := Lib.hid hR
  have HMX := Lib.hid (max_any gl m m f w hR hm (by omega) (fun i _ => hf i))
  have HB := Lib.hid (Bst.cut hD hM)
  obtain ⟨M, hM1⟩ : ∃ M, mx f m = M := ⟨_, rfl⟩
  rw [hM1] at HMX hM
  clear hR hf hD hM1
  have hb : decide (best ≤ M) = true := by simp; omega
  rcases Int.lt_trichotomy best M with h | h | h
  · go_enter Try.func132, Try.ntmps132
    go_wp2_with (go_at_call 55; refine Calls.mono HMX.out ?_; rintro e w3 ⟨rfl, hw3⟩; obtain rfl := hw3.symm)
    go_ret
    exact ⟨best, rfl, HB.out, HR.out, Below.refl _ _⟩
  · subst h
    go_enter Try.func132, Try.ntmps132
    go_wp2_with (go_at_call 55; refine Calls.mono HMX.out ?_; rintro e w3 ⟨rfl, hw3⟩; obtain rfl := hw3.symm)
    go_ret
    exact ⟨best, rfl, HB.out, HR.out, Below.refl _ _⟩
  · omega
set_option maxRecDepth 20000 in
set_option maxHeartbeats 3200000 in
theorem least_nil (m gl : Nat) (hm : 0 < m) (hm2 : m ≤ 20) (f : Nat → Int) (best : Int) (a : Option Addr) (cap : Nat) (w : World) (hR : RowF w gl m f) (hf : ∀ i, 0 ≤ f i) (hM : mx f m < best) :
    Calls Try.prog 132 #[.slice (some ⟨gl, 0, none⟩) m m, .slice a 0 cap, .int .i64 best] w fun e w' => LeastQ m gl [] f best w e w' := by
  have HR := Lib.hid hR
  have HMX := Lib.hid (max_any gl m m f w hR hm (by omega) (fun i _ => hf i))
  have HB := Lib.hid (Bst.nil (m := m) (f := f) (best := best))
  obtain ⟨M, hM1⟩ : ∃ M, mx f m = M := ⟨_, rfl⟩
  rw [hM1] at HMX HB hM
  have HV := Lib.hid (show M = min best M from by omega)
  clear hR hf hM1
  have hb : ¬ best ≤ M := by omega
  have hb2 : ¬ best < M := by omega
  go_enter Try.func132, Try.ntmps132
  go_wp2_with (go_at_call 55; refine Calls.mono HMX.out ?_; rintro e w3 ⟨rfl, hw3⟩; obtain rfl := hw3.symm)
  go_ret
  exact ⟨M, rfl, by rw [HV.out]; have h := HB.out; rwa [← HV.out] at h ⊢, HR.out, Below.refl _ _⟩
set_option maxRecDepth 20000 in
set_option maxHeartbeats 3200000 in
theorem least_cons (m gl : Nat) (hm : 0 < m) (hm2 : m ≤ 20) (x : Int) (D : List Int) (hD : ∀ y, y ∈ x :: D → 0 ≤ y ∧ y ≤ 1000000000) (ih : LeastP m gl D) (f : Nat → Int) (best : Int) (b off d cap : Nat) (c : Int) (w : World) (hd : d = D.length) (hcap : d + 1 ≤ cap) (hbg : b < gl) (hV : VB gl w (some ⟨b, off, none⟩) (x :: D)) (hR : RowF w gl m f) (hf : ∀ i, 0 ≤ f i ∧ f i ≤ c) (hc : c + (d + 1 : Nat) * 1000000000 ≤ 1000000000000) (hM : mx f m < best) :
    Calls Try.prog 132 #[.slice (some ⟨gl, 0, none⟩) m m, .slice (some ⟨b, off, none⟩) (d + 1) cap, .int .i64 best] w fun e w' => LeastQ m gl (x :: D) f best w e w' := by
  have HR := Lib.hid hR
  have HF := Lib.hid hf
  have HV := Lib.hid hV
  have HD := Lib.hid hD
  have HDN := Lib.hid hd
  have HI := Lib.hid ih
  have HMX := Lib.hid (max_any gl m m f w hR hm (by omega) (fun i _ => (hf i).1))
  have HT0 := Lib.hid (Trd.start (m := m) (f := f) (x := x) (D := D) (best := best))
  have hx := hD x (by simp)
  have HC := Lib.hid hc
  obtain ⟨M, hM1⟩ : ∃ M, mx f m = M := ⟨_, rfl⟩
  rw [hM1] at HMX hM
  clear hR hf hM1 hD hd hV ih hc
  have hb : ¬ best ≤ M := by omega
  have hd1 : ((d : Int) + 1 == 0) = false := by simp; omega
  go_enter Try.func132, Try.ntmps132
  go_wp2_with (go_at_call 55; refine Calls.mono HMX.out ?_; rintro e w3 ⟨rfl, hw3⟩; obtain rfl := hw3.symm)
  go_loopg [2, 24] m (fun gk y z wr => ∃ (k : Nat) (r : Int), k + gk = m ∧ y = .int .i64 r ∧ z = .int .i64 (k : Int) ∧ Hid (Trd m f x D best k r) ∧ Hid (RowF wr gl m f) ∧ Hid (Below gl w wr))
  case atStart => exact ⟨0, best, by omega, rfl, rfl, HT0, HR, Lib.hid (Below.refl _ _)⟩
  case round =>
    clear HR HT0 HMX
    obtain ⟨k, r, hk, rfl, rfl, HT, HR, HB⟩ := hrel
    by_cases hkm : k < m
    · have hkm2 : (k : Int) < (m : Int) := by omega
      have hk0 : (0 : Int) ≤ (k : Int) := by omega
      have k0 := HR.out.at hkm
      have k1 := World.rowIs.frozen HR.out k
      have k3 := World.rowIs.lt HR.out
      obtain ⟨j, hj, hF⟩ := Fst.ex f m k hkm
      have HJ := Lib.hid hF
      have hjm := hF.lt
      obtain ⟨u, hu⟩ : ∃ u, f k = u := ⟨_, rfl⟩
      rw [hu] at k0 HJ
      have HIDX : Hid (Calls Try.prog 188 #[.slice (some ⟨gl, 0, none⟩) m m, .int .i64 u] wr fun e w' => e = .returned (.int .i64 (j : Int)) ∧ w' = wr) := Lib.hid ((indexF_any gl m m f u wr HR.out (by omega) ⟨j, hjm, HJ.out.is⟩).mono fun e w' h => (by
        obtain ⟨⟨k', rfl, h1⟩, h2⟩ := h
        rw [h1.uniq HJ.out]
        exact ⟨rfl, h2⟩))
      have HU := Lib.hid hu
      clear hF hu
      by_cases hjk : j < k
      · have hjk2 : (j : Int) < (k : Int) := by omega
        have HT2 := Lib.hid (HT.out.skip hjk hkm (by rw [HU.out]; exact HJ.out.is))
        go_wp2_with (go_at_call 188; refine Calls.mono HIDX.out ?_; rintro e w3 ⟨rfl, hw3⟩; obtain rfl := hw3.symm)
        go_roundg (gk - 1)
        case measure => omega
        case rel => exact ⟨k + 1, r, by omega, rfl, by simp, HT2, HR, HB⟩
      · obtain rfl : j = k := by omega
        have e0 := HV.out.below HB.out (Nat.le_refl _)
        obtain ⟨b', off', e1, _, e2⟩ := e0 (by simp)
        cases e1
        have d0 := e2 0 x rfl
        rw [Nat.add_zero] at d0
        have hbw : b < wr.heap.size := by omega
        have hub := HF.out j
        rw [HU.out] at hub
        have hcb := HC.out
        have wy : IntKind.i64.wrap (u + x) = u + x := IntWalk.i64_in _ (by omega)
        have wz : IntKind.i64.wrap (u + x - x) = u := by rw [IntWalk.i64_in _ (by omega)]; omega
        have HR2 : Hid (RowF (wr.setCell ⟨gl, j, none⟩ (.int .i64 (u + x))).drew gl m (put f j x)) := Lib.hid (by have h := RowF.put (w := wr) HR.out j x; rwa [HU.out] at h)
        have HB2 : Hid (Below gl w (wr.setCell ⟨gl, j, none⟩ (.int .i64 (u + x))).drew) := Lib.hid (HB.out.setCell (p := ⟨gl, j, none⟩) (Nat.le_refl _) _).drew
        have HVT : Hid (∀ W, Below gl w W → VB gl W (some (if cap = 1 then ⟨b, off, none⟩ else ⟨b, off + 1, none⟩)) D) := Lib.hid (fun W hB => (HV.out.tail (by have := HDN.out; omega)).below hB (Nat.le_refl _))
        have HPJ : Hid (put f j x j = u + x) := Lib.hid (by simp [put, HU.out])
        have HD0 : Hid (∀ W, Below gl w W → W.cell? ⟨b, off, none⟩ = some (.int .i64 x)) := Lib.hid (fun W hB => by
          obtain ⟨b', off', e1, _, e2⟩ := (HV.out.below hB (Nat.le_refl _)) (by simp)
          cases e1
          exact e2 0 x rfl)
        have HPF := Lib.hid (put_bound hx.1 j HF.out)
        have HTS : Hid (∀ r', Bst m (put f j x) D r r' → Trd m f x D best (j + 1) r') := Lib.hid (fun r' h => HT.out.step hkm h)
        have hjj : ¬ (j : Int) < (j : Int) := by omega
        have h01 : (0 : Int) < (d : Int) + 1 := by omega
        have h02 : 0 < d + 1 := by omega
        clear e0 e2
        go_wp2_with (go_at_call 188; refine Calls.mono HIDX.out ?_; rintro e w3 ⟨rfl, hw3⟩; obtain rfl := hw3.symm)
        go_still_tail 9, (by kernel_rfl)
        change wpList _ _ _ _ _ wr.drew
        obtain ⟨wq, hwq⟩ : ∃ W, W = (wr.setCell ⟨gl, j, none⟩ (.int .i64 (u + x))).drew := ⟨_, rfl⟩
        rw [← hwq] at HR2 HB2
        have hcd : d ≤ cap - 1 := by omega
        have HCC : Hid (c + x + (d : Int) * 1000000000 ≤ 1000000000000) := Lib.hid (by omega)
        by_cases hc1 : cap = 1
        · subst hc1
          obtain rfl : d = 0 := by omega
          have HVT1 : Hid (∀ W, Below gl w W → VB gl W (some ⟨b, off, none⟩) D) := Lib.hid (fun W hB => by simpa using HVT.out W hB)
          clear HVT
          have hcd0 : 0 ≤ 0 := by omega
          have HCL := Lib.hid (HI.out (put f j x) r (some ⟨b, off, none⟩) 0 0 (c + x) wq HDN.out hcd0 (HVT1.out wq HB2.out) HR2.out HPF.out HCC.out)
          go_wp2_with (rw [← hwq]; go_at_call 132; refine Calls.mono HCL.out ?_; rintro e w4 ⟨r', rfl, hb1, hb2, hb3⟩; have HT2 := Lib.hid (HTS.out r' hb1); have HR4 := Lib.hid hb2; have HB4 := Lib.hid (HB2.out.trans hb3); clear hb1 hb2 hb3)
          have k0' := HR4.out.at hkm
          have k1' := World.rowIs.frozen HR4.out j
          have k3' := World.rowIs.lt HR4.out
          have e5 := HPJ.out
          rw [e5] at k0'
          have d0' := HD0.out w4 HB4.out
          have hbw' : b < w4.heap.size := by omega
          have HR5 : Hid (RowF (w4.setCell ⟨gl, j, none⟩ (.int .i64 u)).drew gl m f) := Lib.hid (by
            have h := RowF.put (w := w4) HR4.out j (-x)
            rw [put_back, e5, show u + x + -x = u from by omega] at h
            exact h)
          have HB5 : Hid (Below gl w (w4.setCell ⟨gl, j, none⟩ (.int .i64 u)).drew) := Lib.hid (HB4.out.setCell (p := ⟨gl, j, none⟩) (Nat.le_refl _) _).drew
          clear e5
          go_still_tail 9, (by kernel_rfl)
          change wpList _ _ _ _ _ w4.drew
          go_wp2_with fail
          go_roundg (gk - 1)
          case measure => omega
          case rel => exact ⟨j + 1, r', by omega, rfl, by simp, HT2, HR5, HB5⟩
        · have HVT1 : Hid (∀ W, Below gl w W → VB gl W (some ⟨b, off + 1, none⟩) D) := Lib.hid (fun W hB => by have := HVT.out W hB; rwa [if_neg hc1] at this)
          clear HVT
          have HCL := Lib.hid (HI.out (put f j x) r (some ⟨b, off + 1, none⟩) d (cap - 1) (c + x) wq HDN.out hcd (HVT1.out wq HB2.out) HR2.out HPF.out HCC.out)
          go_wp2_with (rw [← hwq]; go_at_call 132; refine Calls.mono HCL.out ?_; rintro e w4 ⟨r', rfl, hb1, hb2, hb3⟩; have HT2 := Lib.hid (HTS.out r' hb1); have HR4 := Lib.hid hb2; have HB4 := Lib.hid (HB2.out.trans hb3); clear hb1 hb2 hb3)
          have k0' := HR4.out.at hkm
          have k1' := World.rowIs.frozen HR4.out j
          have k3' := World.rowIs.lt HR4.out
          have e5 := HPJ.out
          rw [e5] at k0'
          have d0' := HD0.out w4 HB4.out
          have hbw' : b < w4.heap.size := by omega
          have HR5 : Hid (RowF (w4.setCell ⟨gl, j, none⟩ (.int .i64 u)).drew gl m f) := Lib.hid (by
            have h := RowF.put (w := w4) HR4.out j (-x)
            rw [put_back, e5, show u + x + -x = u from by omega] at h
            exact h)
          have HB5 : Hid (Below gl w (w4.setCell ⟨gl, j, none⟩ (.int .i64 u)).drew) := Lib.hid (HB4.out.setCell (p := ⟨gl, j, none⟩) (Nat.le_refl _) _).drew
          clear e5
          go_still_tail 9, (by kernel_rfl)
          change wpList _ _ _ _ _ w4.drew
          go_wp2_with fail
          go_roundg (gk - 1)
          case measure => omega
          case rel => exact ⟨j + 1, r', by omega, rfl, by simp, HT2, HR5, HB5⟩
    · have hkm2 : ¬ (k : Int) < (m : Int) := by omega
      obtain rfl : k = m := by omega
      have HQ := Lib.hid (show LeastQ k gl (x :: D) f best w (.returned (.int .i64 r)) wr from ⟨r, rfl, HT.out.done, HR.out, HB.out⟩)
      go_wp2_with fail
      go_ret
      exact HQ.out
set_option maxRecDepth 20000 in
set_option maxHeartbeats 3200000 in
theorem least_any (m gl : Nat) (hm : 0 < m) (hm2 : m ≤ 20) : ∀ D : List Int, (∀ x, x ∈ D → 0 ≤ x ∧ x ≤ 1000000000) → LeastP m gl D := by
  intro D
  induction D with
  | nil =>
    intro hD f best a n cap c w hn hcap hV hR hf hc
    obtain rfl : n = 0 := by simpa using hn
    by_cases h : best ≤ mx f m
    · exact least_stop m gl hm hm2 [] f best a 0 cap w hR (fun i => (hf i).1) (fun x hx => by simp at hx) h
    · exact least_nil m gl hm hm2 f best a cap w hR (fun i => (hf i).1) (by omega)
  | cons x D ih =>
    intro hD f best a n cap c w hn hcap hV hR hf hc
    by_cases h : best ≤ mx f m
    · exact least_stop m gl hm hm2 _ f best a n cap w hR (fun i => (hf i).1) (fun y hy => (hD y hy).1) h
    · obtain rfl : n = D.length + 1 := by simpa using hn
      obtain ⟨b, off, rfl, hb, _⟩ := hV (by simp)
      exact least_cons m gl hm hm2 x D hD (ih fun y hy => hD y (by simp [hy])) f best b off D.length cap c w rfl hcap hb hV hR hf hc (by omega)
end Go.Proofs.Ytfjoakhcgpckgaa
