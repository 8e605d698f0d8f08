/- The law on scripts: each call tells what the document says. -/
import Derived.Test.YtooocllampkibaaDoorTmplPlain
import Derived.Test.YtooocllampkibaaDoorTmplFilled
import Derived.Test.YtooocllampkibaaDoorTmplQuote
namespace Go.Proofs.YtooocllampkibaaDoor
open Go.ChangeShapes Go.WideShapes Go.ChangeAt Go.RowKit
set_option linter.unusedVariables false
open Tp
theorem equalK (K : List Bs) (n : Nat) (a1 a2 : Option Addr) (c d : Nat) (w : World) (hn : n = K.length) (h1 : Vals w a1 (txv K)) (h2 : Vals w a2 (txv K)) (hs : n ≤ 2001) : Calls Tryd.prog 10 #[.slice a1 n c, .slice a2 n d] w fun e w' => e = .returned (.bool true) ∧ ∃ q, w' = w.drewN q := by
  by_cases h0 : K = []
  · subst h0
    obtain rfl : n = 0 := hn
    refine (Tryd.slices_Equal_string_empty a1 a2 c 0 d w (by omega)).mono ?_
    rintro e w' ⟨rfl, rfl⟩
    exact ⟨rfl, 0, rfl⟩
  · have hp : 0 < K.length := List.length_pos_iff.2 h0
    obtain ⟨b1, o1, rfl, _, hc1⟩ := h1 (by rw [txv_length]; exact hp)
    obtain ⟨b2, o2, rfl, _, hc2⟩ := h2 (by rw [txv_length]; exact hp)
    have hc : ∀ (b off : Nat), (∀ i v, (txv K)[i]? = some v → w.cell? ⟨b, off + i, none⟩ = some v) → ∀ j, j < (K.map bts).length → w.cell? ⟨b, off + j, none⟩ = some (.string ((K.map bts).getD j ByteArray.empty)) := fun b off h j hj => by
      rw [List.length_map] at hj
      rw [h j _ (txv_at (List.getElem?_eq_getElem hj))]
      simp [List.getD, hj]
    refine (Tryd.slices_Equal_string b1 o1 n c b2 o2 n d (K.map bts) (K.map bts) w (by rw [List.length_map]; omega) (by rw [List.length_map]; omega) (by omega) (by omega) (hc b1 o1 hc1) (hc b2 o2 hc2)).mono ?_
    rintro e w' ⟨rfl, h⟩
    exact ⟨by simp, h⟩
set_option maxRecDepth 20000 in
set_option maxHeartbeats 16000000 in
theorem law_any (s : ByteArray) (l : List Lab) (a : Option Addr) (n cap : Nat) (m : Int) (w : World) (hm : w.cell? ⟨0, 0, none⟩ = some (.int .i64 m)) (hsz : s.size ≤ 9223372036854775807) (hn : n = l.length) (hcap : n ≤ cap) (hnm : n ≤ 9223372036854775807) (hL : Labs w a l) (hS : LabSizes l) :
    Calls Tryd.prog 3 #[.string s, .slice a n cap] w fun e w' => e = .returned (.bool true) ∧ Below w.heap.size w w' := by
  have HM := Lib.hid hm
  have HN := Lib.hid hn
  have HL := Lib.hid hL
  have HS := Lib.hid hS
  have hw0 : 0 < w.heap.size := by
    rcases Nat.eq_zero_or_pos w.heap.size with h | h
    · have : w.heap[0]? = none := Array.getElem?_eq_none (by omega)
      unfold World.cell? at hm
      rw [this] at hm; cases hm
    · exact h
  obtain ⟨k, hk⟩ : ∃ k, s.size = k := ⟨_, rfl⟩
  have HK := Lib.hid hk
  rw [hk] at hsz
  clear hm hn hL hS
  by_cases hbig : 2001 < k
  · have hb : (k : Int) > 2001 := by omega
    go_enter Tryd.func3, Tryd.ntmps3
    go_wp2_with fail
    go_ret
    exact ⟨rfl, Below.refl _ _⟩
  have hb : ¬ (k : Int) > 2001 := by omega
  have hs1 : s.size ≤ 2001 := by omega
  have HNM := Lib.hid ((Names_any s m w HM.out hs1).mono fun e w' h => NamQ.get h)
  have HFI := Lib.hid (fun w1 (hb : Below w.heap.size w w1) => Fill_any s l a n cap m w1 ((hb.cell (p := ⟨0, 0, none⟩) hw0).trans HM.out) hs1 HN.out hnm (HL.out.below hb (Nat.le_refl _)) HS.out)
  have HQU := Lib.hid (fun w1 (hb : Below w.heap.size w w1) => Quote_any s m w1 ((hb.cell (p := ⟨0, 0, none⟩) hw0).trans HM.out) hs1)
  have HPL := Lib.hid (fun w1 (hb : Below w.heap.size w w1) => Plain_any s m w1 ((hb.cell (p := ⟨0, 0, none⟩) hw0).trans HM.out) hs1)
  have HFD := Lib.hid (fun w1 (hb : Below w.heap.size w w1) => Filled_any s l a n cap w1 (by omega) HN.out hcap hnm (HL.out.below hb (Nat.le_refl _)) HS.out)
  have HFD0 := Lib.hid (fun w1 => Filled_any s [] none 0 0 w1 (by omega) rfl (Nat.le_refl _) (by omega) (Labs.nil _ _) (fun x hx => by cases hx))
  have HSCR := Lib.hid (fun w1 => Script_any s w1 hs1)
  obtain ⟨FT, hFT⟩ : ∃ T, bts (filV (lst s) l).1 = T := ⟨_, rfl⟩
  obtain ⟨FE, hFE⟩ : ∃ T, (filV (lst s) l).2 = T := ⟨_, rfl⟩
  rw [hFT, hFE] at HFI
  unfold FilQ at HFD HFD0
  rw [hFT, hFE] at HFD
  obtain ⟨PT, hPT⟩ : ∃ T, bts (plnV (lst s)).1 = T := ⟨_, rfl⟩
  obtain ⟨PB, hPB⟩ : ∃ T, (plnV (lst s)).2 = T := ⟨_, rfl⟩
  have HPV : Hid (plnV (lst s) = (lst PT, PB)) := Lib.hid (by rw [← hPT, ← hPB]; rfl)
  rw [hPT, hPB] at HPL
  obtain ⟨QT, hQT⟩ : ∃ T, quoV s = T := ⟨_, rfl⟩
  obtain ⟨QE, hQE⟩ : ∃ T, quoE s = T := ⟨_, rfl⟩
  have HQV : Hid (quoV s = QT ∧ quoE s = QE) := Lib.hid ⟨hQT, hQE⟩
  rw [hQT, hQE] at HQU
  clear hFT hFE hPT hPB hQT hQE
  go_enter Tryd.func3, Tryd.ntmps3
  go_wp2_with fail
  refine Calls.mono HNM.out ?_
  rintro e' W1 ⟨na, nn, nc, ne, rfl, hv, hb1⟩
  have HB1 := Lib.hid hb1
  have HNV := Lib.hid hv
  clear hb1 hv
  go_wp2_with fail
  refine Calls.mono (HFI.out _ HB1.out) ?_
  rintro e' W2 ⟨rfl, hb2⟩
  have HB2 : Hid (Below w.heap.size w W2) := Lib.hid (HB1.out.trans (hb2.mono HB1.out.size))
  have HB12 := Lib.hid hb2
  clear hb2
  go_wp2_with fail
  refine Calls.mono (HQU.out _ HB2.out) ?_
  rintro e' W3 ⟨rfl, hb3⟩
  have HB3 : Hid (Below w.heap.size w W3) := Lib.hid (HB2.out.trans (hb3.mono HB2.out.size))
  have HB13 : Hid (Below W1.heap.size W1 W3) := Lib.hid (HB12.out.trans (hb3.mono HB12.out.size))
  clear hb3 HB12
  go_wp2_with fail
  refine Calls.mono (HPL.out _ HB3.out) ?_
  rintro e' W4 ⟨rfl, hb4⟩
  have HB4 : Hid (Below w.heap.size w W4) := Lib.hid (HB3.out.trans (hb4.mono HB3.out.size))
  have HB14 : Hid (Below W1.heap.size W1 W4) := Lib.hid (HB13.out.trans (hb4.mono HB13.out.size))
  clear hb4 HB13
  go_wp2_with fail
  refine Calls.mono (HFD.out _ HB4.out) ?_
  rintro e' W5 ⟨rfl, hb5⟩
  have HB5 : Hid (Below w.heap.size w W5) := Lib.hid (HB4.out.trans (hb5.mono HB4.out.size))
  have HB15 : Hid (Below W1.heap.size W1 W5) := Lib.hid (HB14.out.trans (hb5.mono HB14.out.size))
  clear hb5 HB14
  have HD0 : Hid (bts (dbl ((lst s).take 0)) = ⟨#[]⟩) := Lib.hid rfl
  go_wp2_with fail
  go_loopg [15, 61] k (fun g x y wr => ∃ (j : Nat) (DT : ByteArray), j + g = k ∧ y = .int .i64 (j : Int) ∧ x = .string DT ∧ DT.size ≤ 2 * j ∧ Hid (DT = bts (dbl ((lst s).take j))) ∧ Hid (wr = W5))
  case atStart => exact ⟨0, _, by omega, rfl, rfl, by decide, Lib.hid HD0.out.symm, Lib.hid rfl⟩
  case round =>
    obtain ⟨j, DT, hj, rfl, rfl, hd2, HDT, HW⟩ := hrel
    obtain ⟨dl, hdl⟩ : ∃ d, DT.size = d := ⟨_, rfl⟩
    rw [hdl] at hd2
    obtain rfl := HW.out
    by_cases hjk : j < k
    · obtain ⟨c, hc⟩ : ∃ c, (lst s)[j]? = some c := ⟨_, List.getElem?_eq_getElem (by rw [lst_len, HK.out]; exact hjk)⟩
      have hjs : j < s.size := by omega
      obtain ⟨z, hz⟩ : ∃ z : Int, (c.toNat : Int) = z := ⟨_, rfl⟩
      have gj : ∀ h : j < s.size, ((s[j]'h).toNat : Int) = z := fun h => by rw [lst_at hc h]; exact hz
      have hj1 : (0 : Int) ≤ (j : Int) := by omega
      have hj2 : (j : Int) < (k : Int) := by omega
      have hw1 : IntKind.i64.wrap ((j : Int) + 1) = (j : Int) + 1 := IntWalk.i64_in _ (by omega)
      have HDB := Lib.hid (dbl_take hc)
      have HE := Lib.hid (ext_one hc)
      have HZ := Lib.hid hz
      have hx1 : (s.extract j (j + 1)).size = 1 := by rw [HE.out]; rfl
      have hs36 : (⟨#[36]⟩ : ByteArray).size = 1 := rfl
      clear hc hz
      by_cases h36 : z = 36
      · have HQ : Hid (DT ++ s.extract j (j + 1) ++ ⟨#[36]⟩ = bts (dbl ((lst s).take (j + 1)))) := Lib.hid (by
          have e : c = D := u8_eq (d := D) HZ.out h36
          rw [HDB.out, if_pos e, HE.out, e, HDT.out, show (⟨#[36]⟩ : ByteArray) = bts [D] from rfl, bts_append, bts_append, List.append_assoc]; rfl)
        subst h36
        go_wp2_with fail
        go_roundg (k - (j + 1))
        case measure => omega
        case rel => exact ⟨j + 1, _, by omega, by simp, rfl, by simp only [ByteArray.size_append, hdl, hx1, hs36]; omega, HQ, Lib.hid rfl⟩
      · have HQ : Hid (DT ++ s.extract j (j + 1) = bts (dbl ((lst s).take (j + 1)))) := Lib.hid (by
          rw [HDB.out, if_neg (u8_ne (d := D) HZ.out h36), HE.out, HDT.out, bts_append])
        have h36b : (z == 36) = false := by simpa using h36
        go_wp2_with fail
        go_roundg (k - (j + 1))
        case measure => omega
        case rel => exact ⟨j + 1, _, by omega, by simp, rfl, by simp only [ByteArray.size_append, hdl, hx1, hs36]; omega, HQ, Lib.hid rfl⟩
    · obtain rfl : j = k := by omega
      have HTK : Hid ((lst s).take j = lst s) := Lib.hid (by rw [← HK.out, ← lst_len, List.take_length])
      rw [HTK.out] at HDT
      have HDL : Hid ((dbl (lst s)).length = dl) := Lib.hid (by rw [← hdl, HDT.out, bts_size])
      have HE0 : Hid ((⟨#[]⟩ : ByteArray) = bts []) := Lib.hid rfl
      clear HTK
      by_cases hd : 2000 < dl
      · obtain rfl : QT = ⟨#[]⟩ := by rw [← HQV.out.1]; unfold quoV; rw [if_pos (by rw [HDL.out]; exact hd)]
        obtain rfl : QE = 2 := by rw [← HQV.out.2]; unfold quoE; rw [if_pos (by rw [HDL.out]; exact hd)]
        have hd2' : (dl : Int) > 2000 := by omega
        rcases HNV.out with ⟨h1, rfl, rfl⟩ | ⟨h1, h2, rfl, rfl⟩ | ⟨h1, P, h2, rfl, h4, h5, h6⟩
        · have hp := plnV_long (s := lst s) (by rw [lst_len]; exact h1)
          rw [HPV.out] at hp
          obtain ⟨hp1, rfl⟩ := Prod.mk.inj hp
          obtain rfl : PT = ⟨#[]⟩ := by rw [← bts_lst PT, hp1]; rfl
          have hk1 : (j : Int) > 2000 := by have := HK.out; omega
          clear hp hp1
          go_wp2_with fail
          go_ret
          exact ⟨rfl, HB5.out⟩
        · have hp := plnV_form (s := lst s) (by rw [lst_len]; omega) h2
          rw [HPV.out] at hp
          obtain ⟨hp1, rfl⟩ := Prod.mk.inj hp
          obtain rfl : PT = ⟨#[]⟩ := by rw [← bts_lst PT, hp1]; rfl
          have hk1 : ¬ (j : Int) > 2000 := by have := HK.out; omega
          have HC : Hid (Calls Tryd.prog 9 #[.string s] wr fun e w' => e = .returned (.tuple #[.slice none 0 0, .bool false]) ∧ Below wr.heap.size wr w') := Lib.hid ((HSCR.out wr).mono (by
            rintro e w' ⟨⟨L, a, n, cap, h, _⟩ | ⟨_, h⟩, hb⟩
            · rw [h2] at h; cases h
            · exact ⟨h, hb⟩))
          clear hp hp1 h2
          go_wp2_with fail
          refine Calls.mono HC.out ?_
          rintro e' W6 ⟨rfl, hb6⟩
          have HB6 := Lib.hid (HB5.out.trans (hb6.mono HB5.out.size))
          clear hb6
          go_wp2_with fail
          go_ret
          exact ⟨rfl, HB6.out⟩
        · have HLE : Hid (¬ 2000 < (lst s).length) := Lib.hid (by rw [lst_len]; omega)
          have HSP := Lib.hid h2
          have HNN := Lib.hid h4
          have HVN := Lib.hid h6
          have hk1 : ¬ (j : Int) > 2000 := by have := HK.out; omega
          have HC : Hid (Calls Tryd.prog 9 #[.string s] wr fun e w' => ∃ a k cap, e = .returned (.tuple #[.slice a k cap, .bool true]) ∧ k = P.length ∧ k ≤ 2001 ∧ Parts w' a P ∧ Below wr.heap.size wr w') := Lib.hid ((HSCR.out wr).mono (by
            rintro e w' ⟨⟨L, a, n, cap, h, h1, h2', h3, h4⟩ | ⟨h, _⟩, hb⟩
            · rw [h2] at h; cases h
              exact ⟨a, n, cap, h1, h2', h3, h4, hb⟩
            · rw [h2] at h; cases h))
          clear h2 h4 h6
          go_wp2_with fail
          refine Calls.mono HC.out ?_
          rintro e' W6 ⟨pa, pk, pc, rfl, hpk, hpkm, hpa, hb6⟩
          have HB6 : Hid (Below w.heap.size w W6) := Lib.hid (HB5.out.trans (hb6.mono HB5.out.size))
          have HB16 : Hid (Below W1.heap.size W1 W6) := Lib.hid (HB15.out.trans (hb6.mono HB15.out.size))
          have HG6 := Lib.hid (Gaps_any P pa pk pc W6 hpk (by omega) hpa)
          have HPK := Lib.hid hpk
          have HPA := Lib.hid hpa
          clear hb6 hpk hpa
          go_wp2_with fail
          refine Calls.mono HG6.out ?_
          rintro e' W7 ⟨ga, gn, gc, rfl, hg1, hg2, hg3, hb7⟩
          have HB7 : Hid (Below w.heap.size w W7) := Lib.hid (HB6.out.trans (hb7.mono HB6.out.size))
          have HB17 : Hid (Below W1.heap.size W1 W7) := Lib.hid (HB16.out.trans (hb7.mono HB16.out.size))
          have HP7 := Lib.hid (HPA.out.below hb7 (Nat.le_refl _))
          have hgn : gn = nn := by rw [hg1, HNN.out]
          subst hgn
          have HEQ := Lib.hid (equalK (gapsA [] P) gn na ga nc gc W7 hg1 (HVN.out.below HB17.out (Nat.le_refl _)) hg3 h5)
          clear hb7 hg1 hg3
          go_wp2_with fail
          refine Calls.mono HEQ.out ?_
          rintro e' W8 ⟨rfl, q8, rfl⟩
          have HG8 := Lib.hid (Gaps_any P pa pk pc (W7.drewN q8) HPK.out (by omega) (HP7.out.below (below_drewN (Below.refl _ _) _) (Nat.le_refl _)))
          have HB8 : Hid (Below w.heap.size w (W7.drewN q8)) := Lib.hid (below_drewN HB7.out _)
          go_wp2_with fail
          refine Calls.mono HG8.out ?_
          rintro e' W9 ⟨ga9, gn9, gc9, rfl, hg1, hg2', hg3, hb9⟩
          have HB9 : Hid (Below w.heap.size w W9) := Lib.hid (HB8.out.trans (hb9.mono HB8.out.size))
          have hgn : gn9 = gn := by rw [hg1, HNN.out]
          subst hgn
          clear hg1 hg3 hb9
          by_cases hg0 : gapsA [] P = []
          · have hp := plnV_text HLE.out HSP.out hg0
            have HF0 := Lib.hid (HFD0.out W9)
            obtain rfl : gn9 = 0 := by rw [HNN.out, hg0]; rfl
            rw [HPV.out] at hp
            obtain ⟨hp1, rfl⟩ := Prod.mk.inj hp
            have hpt : bts (filV (lst s) []).1 = PT := by rw [← hp1, bts_lst]
            rw [hpt] at HF0
            obtain ⟨E0, hE0⟩ : ∃ E, (filV (lst s) []).2 = E := ⟨_, rfl⟩
            rw [hE0] at HF0
            clear hp hp1 hpt hg0 hE0
            go_wp2_with fail
            refine Calls.mono HF0.out ?_
            rintro e' W10 ⟨rfl, hb10⟩
            have HB10 := Lib.hid (HB9.out.trans (hb10.mono HB9.out.size))
            clear hb10
            go_wp2_with fail
            go_ret
            exact ⟨rfl, HB10.out⟩
          · have hp := plnV_gaps HLE.out HSP.out hg0
            have hn0 : (gn9 : Int) > 0 := by have := List.length_pos_iff.2 hg0; have := HNN.out; omega
            rw [HPV.out] at hp
            obtain ⟨hp1, rfl⟩ := Prod.mk.inj hp
            obtain rfl : PT = ⟨#[]⟩ := by rw [← bts_lst PT, hp1]; rfl
            clear hp hp1 hg0
            go_wp2_with fail
            go_ret
            exact ⟨rfl, HB9.out⟩
      · obtain rfl : QT = DT := by rw [← HQV.out.1]; unfold quoV; rw [if_neg (by rw [HDL.out]; exact hd), HDT.out]; rfl
        obtain rfl : QE = 0 := by rw [← HQV.out.2]; unfold quoE; rw [if_neg (by rw [HDL.out]; exact hd)]
        have hd2' : ¬ (dl : Int) > 2000 := by omega
        rcases HNV.out with ⟨h1, rfl, rfl⟩ | ⟨h1, h2, rfl, rfl⟩ | ⟨h1, P, h2, rfl, h4, h5, h6⟩
        · have hp := plnV_long (s := lst s) (by rw [lst_len]; exact h1)
          rw [HPV.out] at hp
          obtain ⟨hp1, rfl⟩ := Prod.mk.inj hp
          obtain rfl : PT = ⟨#[]⟩ := by rw [← bts_lst PT, hp1]; rfl
          have hk1 : (j : Int) > 2000 := by have := HK.out; omega
          clear hp hp1
          go_wp2_with fail
          go_ret
          exact ⟨rfl, HB5.out⟩
        · have hp := plnV_form (s := lst s) (by rw [lst_len]; omega) h2
          rw [HPV.out] at hp
          obtain ⟨hp1, rfl⟩ := Prod.mk.inj hp
          obtain rfl : PT = ⟨#[]⟩ := by rw [← bts_lst PT, hp1]; rfl
          have hk1 : ¬ (j : Int) > 2000 := by have := HK.out; omega
          have HC : Hid (Calls Tryd.prog 9 #[.string s] wr fun e w' => e = .returned (.tuple #[.slice none 0 0, .bool false]) ∧ Below wr.heap.size wr w') := Lib.hid ((HSCR.out wr).mono (by
            rintro e w' ⟨⟨L, a, n, cap, h, _⟩ | ⟨_, h⟩, hb⟩
            · rw [h2] at h; cases h
            · exact ⟨h, hb⟩))
          clear hp hp1 h2
          go_wp2_with fail
          refine Calls.mono HC.out ?_
          rintro e' W6 ⟨rfl, hb6⟩
          have HB6 := Lib.hid (HB5.out.trans (hb6.mono HB5.out.size))
          clear hb6
          go_wp2_with fail
          go_ret
          exact ⟨rfl, HB6.out⟩
        · have HLE : Hid (¬ 2000 < (lst s).length) := Lib.hid (by rw [lst_len]; omega)
          have HSP := Lib.hid h2
          have HNN := Lib.hid h4
          have HVN := Lib.hid h6
          have hk1 : ¬ (j : Int) > 2000 := by have := HK.out; omega
          have HC : Hid (Calls Tryd.prog 9 #[.string s] wr fun e w' => ∃ a k cap, e = .returned (.tuple #[.slice a k cap, .bool true]) ∧ k = P.length ∧ k ≤ 2001 ∧ Parts w' a P ∧ Below wr.heap.size wr w') := Lib.hid ((HSCR.out wr).mono (by
            rintro e w' ⟨⟨L, a, n, cap, h, h1, h2', h3, h4⟩ | ⟨h, _⟩, hb⟩
            · rw [h2] at h; cases h
              exact ⟨a, n, cap, h1, h2', h3, h4, hb⟩
            · rw [h2] at h; cases h))
          clear h2 h4 h6
          go_wp2_with fail
          refine Calls.mono HC.out ?_
          rintro e' W6 ⟨pa, pk, pc, rfl, hpk, hpkm, hpa, hb6⟩
          have HB6 : Hid (Below w.heap.size w W6) := Lib.hid (HB5.out.trans (hb6.mono HB5.out.size))
          have HB16 : Hid (Below W1.heap.size W1 W6) := Lib.hid (HB15.out.trans (hb6.mono HB15.out.size))
          have HG6 := Lib.hid (Gaps_any P pa pk pc W6 hpk (by omega) hpa)
          have HPK := Lib.hid hpk
          have HPA := Lib.hid hpa
          clear hb6 hpk hpa
          go_wp2_with fail
          refine Calls.mono HG6.out ?_
          rintro e' W7 ⟨ga, gn, gc, rfl, hg1, hg2, hg3, hb7⟩
          have HB7 : Hid (Below w.heap.size w W7) := Lib.hid (HB6.out.trans (hb7.mono HB6.out.size))
          have HB17 : Hid (Below W1.heap.size W1 W7) := Lib.hid (HB16.out.trans (hb7.mono HB16.out.size))
          have HP7 := Lib.hid (HPA.out.below hb7 (Nat.le_refl _))
          have hgn : gn = nn := by rw [hg1, HNN.out]
          subst hgn
          have HEQ := Lib.hid (equalK (gapsA [] P) gn na ga nc gc W7 hg1 (HVN.out.below HB17.out (Nat.le_refl _)) hg3 h5)
          clear hb7 hg1 hg3
          go_wp2_with fail
          refine Calls.mono HEQ.out ?_
          rintro e' W8 ⟨rfl, q8, rfl⟩
          have HG8 := Lib.hid (Gaps_any P pa pk pc (W7.drewN q8) HPK.out (by omega) (HP7.out.below (below_drewN (Below.refl _ _) _) (Nat.le_refl _)))
          have HB8 : Hid (Below w.heap.size w (W7.drewN q8)) := Lib.hid (below_drewN HB7.out _)
          go_wp2_with fail
          refine Calls.mono HG8.out ?_
          rintro e' W9 ⟨ga9, gn9, gc9, rfl, hg1, hg2', hg3, hb9⟩
          have HB9 : Hid (Below w.heap.size w W9) := Lib.hid (HB8.out.trans (hb9.mono HB8.out.size))
          have hgn : gn9 = gn := by rw [hg1, HNN.out]
          subst hgn
          clear hg1 hg3 hb9
          by_cases hg0 : gapsA [] P = []
          · have hp := plnV_text HLE.out HSP.out hg0
            have HF0 := Lib.hid (HFD0.out W9)
            obtain rfl : gn9 = 0 := by rw [HNN.out, hg0]; rfl
            rw [HPV.out] at hp
            obtain ⟨hp1, rfl⟩ := Prod.mk.inj hp
            have hpt : bts (filV (lst s) []).1 = PT := by rw [← hp1, bts_lst]
            rw [hpt] at HF0
            obtain ⟨E0, hE0⟩ : ∃ E, (filV (lst s) []).2 = E := ⟨_, rfl⟩
            rw [hE0] at HF0
            clear hp hp1 hpt hg0 hE0
            go_wp2_with fail
            refine Calls.mono HF0.out ?_
            rintro e' W10 ⟨rfl, hb10⟩
            have HB10 := Lib.hid (HB9.out.trans (hb10.mono HB9.out.size))
            clear hb10
            go_wp2_with fail
            go_ret
            exact ⟨rfl, HB10.out⟩
          · have hp := plnV_gaps HLE.out HSP.out hg0
            have hn0 : (gn9 : Int) > 0 := by have := List.length_pos_iff.2 hg0; have := HNN.out; omega
            rw [HPV.out] at hp
            obtain ⟨hp1, rfl⟩ := Prod.mk.inj hp
            obtain rfl : PT = ⟨#[]⟩ := by rw [← bts_lst PT, hp1]; rfl
            clear hp hp1 hg0
            go_wp2_with fail
            go_ret
            exact ⟨rfl, HB9.out⟩
end Go.Proofs.YtooocllampkibaaDoor
