/- Contract: the document's shortest span by trying each hand. -/
import Derived.Test.YtfjoakhcgpckgaaWorkLeast
import Derived.Maps.AppendAt
namespace Go.Proofs.Ytfjoakhcgpckgaa
open Go.ChangeShapes Go.WideShapes Go.ChangeAt Go.RowKit
set_option linter.unusedVariables false
open Wk
theorem infoI64s : (Try.prog.info? 2).map (fun i => (i.zero, i.size, i.bytes)) = some (some (.int .i64 0), 1, 8) := by kernel_rfl
def rowV (m : Nat) (f : Nat → Int) : List Value := (List.range m).map fun j => .int .i64 (f j)
theorem rowV_length (m : Nat) (f : Nat → Int) : (rowV m f).length = m := by simp [rowV]
theorem rowV_one (m : Nat) (f : Nat → Int) : ∀ u ∈ rowV m f, u.oneCell' = true := by
  intro u hu; obtain ⟨i, _, rfl⟩ := List.mem_map.1 hu; rfl
theorem RowG.news {w : World} {b m : Nat} {f : Nat → Int} (h : RowG w b m f) : ∀ j u, (rowV m f)[j]? = some u → w.cell? ((⟨b, 0, none⟩ : Addr).add j) = some u := fun j u hu => by
  have hj : j < m := by have := (List.getElem?_eq_some_iff.1 hu).1; simpa [rowV] using this
  rw [rowV, List.getElem?_map, List.getElem?_range hj] at hu
  rw [show (⟨b, 0, none⟩ : Addr).add j = ⟨b, j, none⟩ from by unfold Addr.add; split <;> simp_all, h.cell j hj]
  simpa using hu
def zf (f : Nat → Int) (k : Nat) : Bool := decide (∃ j, j < k ∧ f j = 0)
theorem zf0 (f : Nat → Int) : false = zf f 0 := by unfold zf; rw [eq_comm, decide_eq_false_iff_not]; rintro ⟨j, hj, _⟩; omega
theorem zero_flag {f : Nat → Int} {k : Nat} (h : zf f k = true) : ∃ j, j < k ∧ f j = 0 := by simpa [zf] using h
theorem zero_same {f : Nat → Int} {k : Nat} (h : f k ≠ 0) : zf f (k + 1) = zf f k := by
  unfold zf
  congr 1
  apply propext
  constructor
  · rintro ⟨j, hj, e⟩
    exact ⟨j, by rcases Nat.lt_or_ge j k with h1 | h1; · exact h1
                 obtain rfl : j = k := by omega
                 exact (h e).elim, e⟩
  · rintro ⟨j, hj, e⟩; exact ⟨j, by omega, e⟩
theorem zero_now {f : Nat → Int} {k : Nat} (h : f k = 0) : zf f (k + 1) = true := by
  unfold zf
  simp only [decide_eq_true_eq]; exact ⟨k, by omega, h⟩
def ShortQ (m : Nat) (D : List Int) (f : Nat → Int) (best : Int) (w : World) (e : Ending) (w' : World) : Prop := ∃ r, e = .returned (.int .i64 r) ∧ Bst m f D best r ∧ Below w.heap.size w w'
def ShortP (m : Nat) (D : List Int) : Prop := ∀ (f : Nat → Int) (best : Int) (a : Option Addr) (n cap g cl : Nat) (c : Int) (w : World), n = D.length → n ≤ cap → VB w.heap.size w a D → RowG w g m f → (∀ i, 0 ≤ f i ∧ f i ≤ c) → c + n * 1000000000 ≤ 1000000000000 →
  Calls Try.prog 134 #[.slice a n cap, .slice (some ⟨g, 0, none⟩) m cl, .int .i64 best] w fun e w' => ShortQ m D f best w e w'
set_option maxRecDepth 20000 in
set_option maxHeartbeats 3200000 in
theorem short_stop (m g cl : Nat) (hm2 : m ≤ 20) (D : List Int) (f : Nat → Int) (best : Int) (a : Option Addr) (n cap : Nat) (w : World) (hR : RowG w g m f) (hf : ∀ i, 0 ≤ f i) (hD : ∀ x, x ∈ D → 0 ≤ x) (hM : best ≤ mx f m) :
    Calls Try.prog 134 #[.slice a n cap, .slice (some ⟨g, 0, none⟩) m cl, .int .i64 best] w fun e w' => ShortQ m D f best w e w' := by
  have HMX := Lib.hid (mostG_any g m cl f w hR (by omega))
  have HB := Lib.hid (Bst.cut hD hM)
  obtain ⟨M, hM1⟩ : ∃ M, mx f m = M := ⟨_, rfl⟩
  rw [hM1] at HMX hM
  clear hR hf hD hM1
  go_enter Try.func134, Try.ntmps134
  go_wp2_with (go_at_call 133; refine Calls.mono HMX.out ?_; rintro e w3 ⟨rfl, hw3⟩; obtain rfl := hw3.symm)
  go_ret
  exact ⟨best, rfl, HB.out, Below.refl _ _⟩
set_option maxRecDepth 20000 in
set_option maxHeartbeats 3200000 in
theorem short_nil (m g cl : Nat) (hm2 : m ≤ 20) (f : Nat → Int) (best : Int) (a : Option Addr) (cap : Nat) (w : World) (hR : RowG w g m f) (hM : mx f m < best) :
    Calls Try.prog 134 #[.slice a 0 cap, .slice (some ⟨g, 0, none⟩) m cl, .int .i64 best] w fun e w' => ShortQ m [] f best w e w' := by
  have HMX := Lib.hid (mostG_any g m cl f w hR (by omega))
  have HB := Lib.hid (Bst.nil (m := m) (f := f) (best := best))
  obtain ⟨M, hM1⟩ : ∃ M, mx f m = M := ⟨_, rfl⟩
  rw [hM1] at HMX HB hM
  have HV := Lib.hid (show min best M = M from by omega)
  clear hR hM1
  have hb : ¬ best ≤ M := by omega
  go_enter Try.func134, Try.ntmps134
  go_wp2_with (go_at_call 133; refine Calls.mono HMX.out ?_; rintro e w3 ⟨rfl, hw3⟩; obtain rfl := hw3.symm)
  go_ret
  exact ⟨M, rfl, by have h := HB.out; rwa [HV.out] at h, Below.refl _ _⟩
set_option maxRecDepth 20000 in
set_option maxHeartbeats 6400000 in
theorem short_cons (m : Nat) (hm : 0 < m) (hm2 : m ≤ 20) (x : Int) (D : List Int) (hD : ∀ y, y ∈ x :: D → 0 ≤ y ∧ y ≤ 1000000000) (ih : ShortP m D) (f : Nat → Int) (best : Int) (b off d cap g cl : Nat) (c : Int) (w : World) (hd : d = D.length) (hcap : d + 1 ≤ cap) (hbg : b < w.heap.size) (hV : VB w.heap.size w (some ⟨b, off, none⟩) (x :: D)) (hR : RowG w g m f) (hf : ∀ i, 0 ≤ f i ∧ f i ≤ c) (hc : c + (d + 1 : Nat) * 1000000000 ≤ 1000000000000) (hM : mx f m < best) :
    Calls Try.prog 134 #[.slice (some ⟨b, off, none⟩) (d + 1) cap, .slice (some ⟨g, 0, none⟩) m cl, .int .i64 best] w fun e w' => ShortQ m (x :: D) f best w e w' := by
  obtain ⟨i0, hi, hz0, hz1, hz2⟩ := info_parts infoI64s
  have HR := Lib.hid hR
  have HF := Lib.hid hf
  have HV := Lib.hid hV
  have HDN := Lib.hid hd
  have HI := Lib.hid ih
  have HMX := Lib.hid (mostG_any g m cl f w hR (by omega))
  have HT0 := Lib.hid (Trd.start (m := m) (f := f) (x := x) (D := D) (best := best))
  have hx := hD x (by simp)
  have HC := Lib.hid hc
  have hgw := hR.lt
  obtain ⟨M, hM1⟩ : ∃ M, mx f m = M := ⟨_, rfl⟩
  rw [hM1] at HMX hM
  have HZ0 : Hid (false = zf f 0) := Lib.hid (zf0 f)
  clear hR hf hM1 hD hd hV ih hc
  have hb : ¬ best ≤ M := by omega
  have hd1 : ((d : Int) + 1 == 0) = false := by simp; omega
  have h01 : (0 : Int) < (d : Int) + 1 := by omega
  have h02 : 0 < d + 1 := by omega
  go_enter Try.func134, Try.ntmps134
  go_wp2_with (go_at_call 133; refine Calls.mono HMX.out ?_; rintro e w3 ⟨rfl, hw3⟩; obtain rfl := hw3.symm)
  go_loopg [2, 7, 22] m (fun gk y v z wr => ∃ (k : Nat) (r : Int) (fl : Bool), k + gk = m ∧ y = .int .i64 r ∧ z = .int .i64 (k : Int) ∧ v = .bool fl ∧ Hid (fl = zf f k) ∧ Hid (Trd m f x D best k r) ∧ Hid (Below w.heap.size w wr))
  case atStart => exact ⟨0, best, false, by omega, rfl, rfl, rfl, HZ0, HT0, Lib.hid (Below.refl _ _)⟩
  case round =>
    clear HT0 HMX HZ0
    obtain ⟨k, r, fl, hk, rfl, rfl, rfl, HZ, HT, HB⟩ := hrel
    by_cases hkm : k < m
    · have hkm2 : (k : Int) < (m : Int) := by omega
      have hk0 : (0 : Int) ≤ (k : Int) := by omega
      have hs := HB.out.size
      have hgr : g < wr.heap.size := by omega
      have HRW := Lib.hid (HR.out.below HB.out hgw)
      have k0 := HRW.out.cell k hkm
      obtain ⟨u, hu⟩ : ∃ u, f k = u := ⟨_, rfl⟩
      rw [hu] at k0
      have hub := HF.out k
      rw [hu] at hub
      have HU := Lib.hid hu
      have hcb := HC.out
      have wy : IntKind.i64.wrap (u + x) = u + x := IntWalk.i64_in _ (by omega)
      have HCC : Hid (c + x + (d : Int) * 1000000000 ≤ 1000000000000) := Lib.hid (by omega)
      have HPF := Lib.hid (put_bound hx.1 k HF.out)
      have HTS : Hid (∀ r', Bst m (put f k x) D r r' → Trd m f x D best (k + 1) r') := Lib.hid (fun r' h => HT.out.step hkm h)
      have HNW : Hid (∀ j u, (rowV m f)[j]? = some u → wr.cell? ((⟨g, 0, none⟩ : Addr).add j) = some u) := Lib.hid HRW.out.news
      have HD0 : Hid (∀ W, Below wr.heap.size wr W → W.cell? ⟨b, off, none⟩ = some (.int .i64 x)) := Lib.hid (fun W hB => by
        obtain ⟨b', off', e1, _, e2⟩ := ((HV.out.below HB.out (Nat.le_refl _)).below hB hs) (by simp)
        cases e1
        exact e2 0 x rfl)
      have HVT : Hid (∀ W, Below wr.heap.size wr W → VB W.heap.size W (some (if cap = 1 then ⟨b, off, none⟩ else ⟨b, off + 1, none⟩)) D) := Lib.hid (fun W hB => (((HV.out.tail (by have := HDN.out; omega)).below HB.out (Nat.le_refl _)).below hB hs).low (by have := hB.size; omega))
      have hbr : b < wr.heap.size := by omega
      clear hu hcb
      by_cases hu0 : u = 0
      · have hb0 : (u == 0) = true := by simp [hu0]
        have HZ2 : Hid (true = zf f (k + 1)) := Lib.hid (zero_now (by rw [HU.out]; exact hu0)).symm
        cases fl with
        | true =>
          have HT2 : Hid (Trd m f x D best (k + 1) r) := Lib.hid (by
            obtain ⟨j, hj, e⟩ := zero_flag HZ.out.symm
            exact HT.out.skip hj hkm (by rw [e, HU.out, hu0]))
          clear hu0
          go_wp2_with fail
          go_roundg (gk - 1)
          case measure => omega
          case rel => exact ⟨k + 1, r, true, by omega, rfl, by simp, rfl, HZ2, HT2, HB⟩
        | false =>
          clear hu0
          go_wp2_with (at_builtin; refine wpList_append_own_at _ (by rfl) _ _ 36 (by rfl) wr.heap.size 2 i0 (.int .i64 0) 1 8 Try.underlying36 hi hz0 hz1 hz2 (by rfl) (by decide) (.slice none 0 0) 0 [] (by rfl) (World.ownsRow_nil _ _ _ _) ⟨g, 0, none⟩ m cl (rowV m f) (by rfl) (by rw [rowV_length, Nat.mul_one]) HNW.out (rowV_one m f) (by unfold maxLen; omega) (by omega) (Nat.le_refl _) ?_; intro v' w1 hown1 hgrow1 hnil1 _; simp only [Nat.zero_add, List.nil_append] at hown1; have HB1 := Lib.hid (show Below wr.heap.size wr w1 from (Below.refl _ _).grown hgrow1 (Nat.le_refl _) (fun k hk => by cases hk)); obtain ⟨gg, cp2, rfl, hgg, hgl⟩ := hown1.form hm; have HO := Lib.hid (RowG.own hown1); clear hown1 hgrow1 hnil1)
          have hB1s := HB1.out.size
          have q0 := HO.out.cell k hkm
          rw [HU.out] at q0
          have q1 := HO.out.fz k
          have q2 := HO.out.lt
          have q3 := HD0.out w1 HB1.out
          have q4 : b < w1.heap.size := by omega
          have HR2 : Hid (RowG (w1.setCell ⟨gg, k, none⟩ (.int .i64 (u + x))).drew gg m (put f k x)) := Lib.hid (by have h := RowG.set HO.out k x; rw [HU.out] at h; exact ⟨h.cell, h.fz, h.lt⟩)
          have HB2 : Hid (Below wr.heap.size wr (w1.setCell ⟨gg, k, none⟩ (.int .i64 (u + x))).drew) := Lib.hid (HB1.out.setCell (p := ⟨gg, k, none⟩) hgg _).drew
          go_still_tail 9, (by kernel_rfl)
          change wpList _ _ _ _ _ w1.drew
          obtain ⟨wq, hwq⟩ : ∃ W, W = (w1.setCell ⟨gg, k, none⟩ (.int .i64 (u + x))).drew := ⟨_, rfl⟩
          rw [← hwq] at HR2 HB2
          by_cases hc1 : cap = 1
          · subst hc1
            obtain rfl : d = 0 := by omega
            have HVT1 : Hid (VB wq.heap.size wq (some ⟨b, off, none⟩) D) := Lib.hid (by simpa using HVT.out wq HB2.out)
            clear HVT
            have hcd : 0 ≤ 0 := by omega
            have HCL := Lib.hid (HI.out (put f k x) r (some ⟨b, off, none⟩) 0 0 gg cp2 (c + x) wq HDN.out hcd HVT1.out HR2.out HPF.out HCC.out)
            go_wp2_with (rw [← hwq]; go_at_call 134; refine Calls.mono HCL.out ?_; rintro e w4 ⟨r', rfl, hb1, hb3⟩; have HT2 := Lib.hid (HTS.out r' hb1); have HB4 := Lib.hid (HB.out.trans ((HB2.out.trans (hb3.mono HB2.out.size)).mono hs)); clear hb1 hb3)
            go_roundg (gk - 1)
            case measure => omega
            case rel => exact ⟨k + 1, r', true, by omega, rfl, by simp, rfl, HZ2, HT2, HB4⟩
          · have HVT1 : Hid (VB wq.heap.size wq (some ⟨b, off + 1, none⟩) D) := Lib.hid (by have := HVT.out wq HB2.out; rwa [if_neg hc1] at this)
            clear HVT
            have hcd : d ≤ cap - 1 := by omega
            have HCL := Lib.hid (HI.out (put f k x) r (some ⟨b, off + 1, none⟩) d (cap - 1) gg cp2 (c + x) wq HDN.out hcd HVT1.out HR2.out HPF.out HCC.out)
            go_wp2_with (rw [← hwq]; go_at_call 134; refine Calls.mono HCL.out ?_; rintro e w4 ⟨r', rfl, hb1, hb3⟩; have HT2 := Lib.hid (HTS.out r' hb1); have HB4 := Lib.hid (HB.out.trans ((HB2.out.trans (hb3.mono HB2.out.size)).mono hs)); clear hb1 hb3)
            go_roundg (gk - 1)
            case measure => omega
            case rel => exact ⟨k + 1, r', true, by omega, rfl, by simp, rfl, HZ2, HT2, HB4⟩
      · have hb0 : (u == 0) = false := by simp [hu0]
        have HZ2 : Hid (fl = zf f (k + 1)) := Lib.hid (by rw [zero_same (by rw [HU.out]; exact hu0)]; exact HZ.out)
        clear hu0
        go_wp2_with (at_builtin; refine wpList_append_own_at _ (by rfl) _ _ 36 (by rfl) wr.heap.size 2 i0 (.int .i64 0) 1 8 Try.underlying36 hi hz0 hz1 hz2 (by rfl) (by decide) (.slice none 0 0) 0 [] (by rfl) (World.ownsRow_nil _ _ _ _) ⟨g, 0, none⟩ m cl (rowV m f) (by rfl) (by rw [rowV_length, Nat.mul_one]) HNW.out (rowV_one m f) (by unfold maxLen; omega) (by omega) (Nat.le_refl _) ?_; intro v' w1 hown1 hgrow1 hnil1 _; simp only [Nat.zero_add, List.nil_append] at hown1; have HB1 := Lib.hid (show Below wr.heap.size wr w1 from (Below.refl _ _).grown hgrow1 (Nat.le_refl _) (fun k hk => by cases hk)); obtain ⟨gg, cp2, rfl, hgg, hgl⟩ := hown1.form hm; have HO := Lib.hid (RowG.own hown1); clear hown1 hgrow1 hnil1)
        have hB1s := HB1.out.size
        have q0 := HO.out.cell k hkm
        rw [HU.out] at q0
        have q1 := HO.out.fz k
        have q2 := HO.out.lt
        have q3 := HD0.out w1 HB1.out
        have q4 : b < w1.heap.size := by omega
        have HR2 : Hid (RowG (w1.setCell ⟨gg, k, none⟩ (.int .i64 (u + x))).drew gg m (put f k x)) := Lib.hid (by have h := RowG.set HO.out k x; rw [HU.out] at h; exact ⟨h.cell, h.fz, h.lt⟩)
        have HB2 : Hid (Below wr.heap.size wr (w1.setCell ⟨gg, k, none⟩ (.int .i64 (u + x))).drew) := Lib.hid (HB1.out.setCell (p := ⟨gg, k, none⟩) hgg _).drew
        go_still_tail 9, (by kernel_rfl)
        change wpList _ _ _ _ _ w1.drew
        obtain ⟨wq, hwq⟩ : ∃ W, W = (w1.setCell ⟨gg, k, none⟩ (.int .i64 (u + x))).drew := ⟨_, rfl⟩
        rw [← hwq] at HR2 HB2
        by_cases hc1 : cap = 1
        · subst hc1
          obtain rfl : d = 0 := by omega
          have HVT1 : Hid (VB wq.heap.size wq (some ⟨b, off, none⟩) D) := Lib.hid (by simpa using HVT.out wq HB2.out)
          clear HVT
          have hcd : 0 ≤ 0 := by omega
          have HCL := Lib.hid (HI.out (put f k x) r (some ⟨b, off, none⟩) 0 0 gg cp2 (c + x) wq HDN.out hcd HVT1.out HR2.out HPF.out HCC.out)
          go_wp2_with (rw [← hwq]; go_at_call 134; refine Calls.mono HCL.out ?_; rintro e w4 ⟨r', rfl, hb1, hb3⟩; have HT2 := Lib.hid (HTS.out r' hb1); have HB4 := Lib.hid (HB.out.trans ((HB2.out.trans (hb3.mono HB2.out.size)).mono hs)); clear hb1 hb3)
          go_roundg (gk - 1)
          case measure => omega
          case rel => exact ⟨k + 1, r', fl, by omega, rfl, by simp, rfl, HZ2, HT2, HB4⟩
        · have HVT1 : Hid (VB wq.heap.size wq (some ⟨b, off + 1, none⟩) D) := Lib.hid (by have := HVT.out wq HB2.out; rwa [if_neg hc1] at this)
          clear HVT
          have hcd : d ≤ cap - 1 := by omega
          have HCL := Lib.hid (HI.out (put f k x) r (some ⟨b, off + 1, none⟩) d (cap - 1) gg cp2 (c + x) wq HDN.out hcd HVT1.out HR2.out HPF.out HCC.out)
          go_wp2_with (rw [← hwq]; go_at_call 134; refine Calls.mono HCL.out ?_; rintro e w4 ⟨r', rfl, hb1, hb3⟩; have HT2 := Lib.hid (HTS.out r' hb1); have HB4 := Lib.hid (HB.out.trans ((HB2.out.trans (hb3.mono HB2.out.size)).mono hs)); clear hb1 hb3)
          go_roundg (gk - 1)
          case measure => omega
          case rel => exact ⟨k + 1, r', fl, by omega, rfl, by simp, rfl, HZ2, HT2, HB4⟩
    · have hkm2 : ¬ (k : Int) < (m : Int) := by omega
      obtain rfl : k = m := by omega
      have HQ := Lib.hid (show ShortQ k (x :: D) f best w (.returned (.int .i64 r)) wr from ⟨r, rfl, HT.out.done, HB.out⟩)
      go_wp2_with fail
      go_ret
      exact HQ.out
theorem short_any (m : Nat) (hm : 0 < m) (hm2 : m ≤ 20) : ∀ D : List Int, (∀ x, x ∈ D → 0 ≤ x ∧ x ≤ 1000000000) → ShortP m D := by
  intro D
  induction D with
  | nil =>
    intro hD f best a n cap g cl c w hn hcap hV hR hf hc
    obtain rfl : n = 0 := by simpa using hn
    by_cases h : best ≤ mx f m
    · exact short_stop m g cl hm2 [] f best a 0 cap w hR (fun i => (hf i).1) (fun x hx => by simp at hx) h
    · exact short_nil m g cl hm2 f best a cap w hR (by omega)
  | cons x D ih =>
    intro hD f best a n cap g cl c w hn hcap hV hR hf hc
    by_cases h : best ≤ mx f m
    · exact short_stop m g cl hm2 _ f best a n cap w hR (fun i => (hf i).1) (fun y hy => (hD y hy).1) h
    · obtain rfl : n = D.length + 1 := by simpa using hn
      obtain ⟨b, off, rfl, hb, _⟩ := hV (by simp)
      exact short_cons m hm hm2 x D hD (ih fun y hy => hD y (by simp [hy])) f best b off D.length cap g cl c w rfl hcap hb hV hR hf hc (by omega)
end Go.Proofs.Ytfjoakhcgpckgaa
