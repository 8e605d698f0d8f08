/- Contract: a script, filled; the document's. -/
import Derived.Test.YtooocllampkibaaDoorTmplFilM
import Derived.Test.YtooocllampkibaaDoorTmplGaps
import Derived.Test.YtooocllampkibaaDoorTmplScript
namespace Go.Proofs.YtooocllampkibaaDoor
open Go.ChangeShapes Go.WideShapes Go.ChangeAt Go.RowKit
set_option linter.unusedVariables false
open Tp
def FilQ (s : ByteArray) (l : List Lab) (B : Nat) (w : World) (e : Ending) (w' : World) : Prop := e = .returned (.tuple #[.string (bts (filV (lst s) l).1), .int .i64 (filV (lst s) l).2]) ∧ Below B w w'
set_option maxRecDepth 20000 in
set_option maxHeartbeats 16000000 in
theorem Filled_any (s : ByteArray) (l : List Lab) (a : Option Addr) (n cap : Nat) (w : World) (hsz : s.size ≤ 9223372036854775807) (hn : n = l.length) (hcap : n ≤ cap) (hnm : n ≤ 9223372036854775807) (hL : Labs w a l) (hS : LabSizes l) : Calls Tryd.prog 8 #[.string s, .slice a n cap] w (FilQ s l w.heap.size w) := by
  obtain ⟨m, hm⟩ : ∃ m, s.size = m := ⟨_, rfl⟩
  have HMs := Lib.hid hm
  have HN := Lib.hid hn
  have HL := Lib.hid hL
  have HS := Lib.hid hS
  obtain ⟨B, hB⟩ : ∃ B, B = w.heap.size := ⟨_, rfl⟩
  have HBB := Lib.hid hB
  rw [hm] at hsz
  clear hn hL hS hB
  by_cases h2000 : 2000 < m
  · have HV := Lib.hid (filV_long (s := lst s) (l := l) (by rw [lst_len, hm]; exact h2000))
    have h2 : (m : Int) > 2000 := by omega
    go_enter Tryd.func8, Tryd.ntmps8
    go_wp2_with fail
    go_ret2
    exact ⟨ret_si' HV.out, Below.refl _ _⟩
  have h2 : ¬ (m : Int) > 2000 := by omega
  have HLE : Hid (¬ 2000 < (lst s).length) := Lib.hid (by rw [lst_len, hm]; exact h2000)
  have HCS := Lib.hid (Script_any s w (by omega))
  cases hscr : scr (lst s) with
  | none =>
    have HV := Lib.hid (filV_form (l := l) HLE.out hscr)
    have HC : Hid (Calls Tryd.prog 9 #[.string s] w fun e w' => e = .returned (.tuple #[.slice none 0 0, .bool false]) ∧ Below w.heap.size w w') := Lib.hid (HCS.out.mono (by
      rintro e w' ⟨⟨L, a, n, cap, h, _⟩ | ⟨_, h⟩, hb⟩
      · rw [hscr] at h; cases h
      · exact ⟨h, hb⟩))
    clear hscr HCS
    go_enter Tryd.func8, Tryd.ntmps8
    go_wp2_with (go_at_call 9; refine Calls.mono HC.out ?_; rintro e' W3 ⟨rfl, h1⟩; have HB3 := Lib.hid h1; clear h1)
    go_ret2
    exact ⟨ret_si' HV.out, HB3.out⟩
  | some P =>
    have HSC := Lib.hid hscr
    have HC : Hid (Calls Tryd.prog 9 #[.string s] w fun e w' => ∃ a k cap, e = .returned (.tuple #[.slice a k cap, .bool true]) ∧ k = P.length ∧ k ≤ 2001 ∧ Parts w' a P ∧ Below w.heap.size w w') := Lib.hid (HCS.out.mono (by
      rintro e w' ⟨⟨L, a, n, cap, h, h1, h2, h3, h4⟩ | ⟨h, _⟩, hb⟩
      · rw [hscr] at h; cases h
        exact ⟨a, n, cap, h1, h2, h3, h4, hb⟩
      · rw [hscr] at h; cases h))
    clear hscr HCS
    by_cases h8 : 8 < n
    · have HV := Lib.hid (filV_many (l := l) HLE.out HSC.out (by have := HN.out; omega))
      have h8b : (n : Int) > 8 := by omega
      go_enter Tryd.func8, Tryd.ntmps8
      go_wp2_with (go_at_call 9; refine Calls.mono HC.out ?_; rintro e' W3 ⟨pa, k, pc, rfl, hk, hkm, hpa, h1⟩; have HB3 := Lib.hid h1; clear h1)
      go_ret2
      exact ⟨ret_si' HV.out, HB3.out⟩
    have h8b : ¬ (n : Int) > 8 := by omega
    have HL8 : Hid (¬ 8 < l.length) := Lib.hid (by have := HN.out; omega)
    clear h8
    go_enter Tryd.func8, Tryd.ntmps8
    go_wp2_with (go_at_call 9; refine Calls.mono HC.out ?_; rintro e' W1 ⟨pa, k, pc, rfl, hk, hkm, hpa, h1⟩; have HB1 := Lib.hid h1; have HK := Lib.hid hk; have HP := Lib.hid hpa; clear h1 hk hpa)
    go_loopg [38] n (fun g x wr => ∃ j : Nat, j + g = n ∧ x = .int .i64 (j : Int) ∧ Hid (LbS l j) ∧ Hid (Below W1.heap.size W1 wr))
    case atStart => exact ⟨0, by omega, rfl, Lib.hid (LbS.zero l), Lib.hid (Below.refl _ _)⟩
    case round =>
      obtain ⟨j, hj, rfl, HI, HB⟩ := hrel
      have HWB : Hid (Below w.heap.size w wr) := Lib.hid (HB1.out.trans (HB.out.mono HB1.out.size))
      by_cases hjn : j < n
      · obtain ⟨x, hx⟩ : ∃ x, l[j]? = some x := ⟨_, List.getElem?_eq_getElem (by rw [← HN.out]; exact hjn)⟩
        obtain ⟨b, off, rfl, hb, hat⟩ := HL.out (by have := HN.out; omega)
        obtain ⟨q0, q1⟩ := (hat.below HWB.out hb) j x hx
        have hbr : b < wr.heap.size := Nat.lt_of_lt_of_le hb HWB.out.size
        have hj1 : (0 : Int) ≤ (j : Int) := by omega
        have hj2 : (j : Int) < (n : Int) := by omega
        have hj3 : (j : Int) ≤ (cap : Int) := by omega
        have HX := Lib.hid hx
        have HLG := Lib.hid (fun w2 => gLabel_any (bts x.1) w2 (by rw [bts_size]; have := (HS.out x (List.mem_of_getElem? hx)).1; omega))
        rw [show lst (bts x.1) = x.1 from rfl] at HLG
        obtain ⟨xk, hxk⟩ : ∃ k, bts x.1 = k := ⟨_, rfl⟩
        obtain ⟨xv, hxv⟩ : ∃ v, bts x.2 = v := ⟨_, rfl⟩
        have HXK := Lib.hid hxk
        rw [hxk] at q0 HLG
        rw [hxv] at q1
        clear hat hx hxk hxv
        obtain ⟨wx, hwx⟩ : ∃ wx, wx = wr.alloc (.cells #[.string xk, .string xv] 43) := ⟨_, rfl⟩
        have HBX : Hid (Below W1.heap.size W1 wx) := Lib.hid (by rw [hwx]; exact HB.out.alloc HB.out.size _)
        obtain ⟨cx, hcx⟩ : ∃ c, c = wr.heap.size := ⟨_, rfl⟩
        have hcx2 : cx < wx.heap.size := by rw [hcx, hwx]; simp
        have HD0 : Hid (wx.cell? ⟨cx, 0, none⟩ = some (.string xk)) := Lib.hid (by rw [hcx, hwx]; simp)
        cases hl : lab x.1 with
        | false =>
          rw [hl] at HLG
          have HV := Lib.hid (filV_labs (l := l) HLE.out HSC.out HL8.out (HI.out.form HX.out hl))
          clear hl
          go_wp2_with (rw [← hwx]; go_at_call 24; refine Calls.mono (HLG.out _) ?_; rintro e' W3 ⟨rfl, h1⟩; have HW3 := Lib.hid (HB1.out.trans ((HBX.out.trans (h1.mono HBX.out.size)).mono HB1.out.size)); clear h1)
          go_ret2
          exact ⟨ret_si' HV.out, HW3.out⟩
        | true =>
          rw [hl] at HLG
          have HLT := Lib.hid hl
          clear hl
          go_wp2_with (rw [← hwx, ← hcx]; go_at_call 24; refine Calls.mono (HLG.out _) ?_; rintro e' W3 ⟨rfl, h1⟩; have HB3 : Hid (Below W1.heap.size W1 W3) := Lib.hid (HBX.out.trans (h1.mono HBX.out.size)); have HD3 : Hid (W3.cell? ⟨cx, 0, none⟩ = some (.string xk)) := Lib.hid ((h1.cell (p := ⟨cx, 0, none⟩) hcx2).trans HD0.out); have hcx3 : cx < W3.heap.size := Nat.lt_of_lt_of_le hcx2 h1.size; clear h1)
          go_loopg [51] j (fun g y wr => ∃ q : Nat, q + g = j ∧ y = .int .i64 (q : Int) ∧ Hid (x.1 ∉ keys (l.take q)) ∧ Hid (Below W3.heap.size W3 wr))
          case atStart => exact ⟨0, by omega, rfl, Lib.hid (not_keys_zero l _), Lib.hid (Below.refl _ _)⟩
          case round =>
            clear hwx HD0 HBX
            obtain ⟨q, hq, rfl, HNK, HB4⟩ := hrel
            have HB5 : Hid (Below W1.heap.size W1 wr) := Lib.hid (HB3.out.trans (HB4.out.mono HB3.out.size))
            have HB6 : Hid (Below w.heap.size w wr) := Lib.hid (HB1.out.trans (HB5.out.mono HB1.out.size))
            by_cases hqj : q < j
            · obtain ⟨y, hy⟩ : ∃ y, l[q]? = some y := ⟨_, List.getElem?_eq_getElem (by rw [← HN.out]; omega)⟩
              obtain ⟨b', off', hbe, hb', hat⟩ := HL.out (by have := HN.out; omega)
              cases hbe
              obtain ⟨r0, r1⟩ := (hat.below HB6.out hb) q y hy
              have hbr : b < wr.heap.size := Nat.lt_of_lt_of_le hb HB6.out.size
              have hcxr : cx < wr.heap.size := Nat.lt_of_lt_of_le hcx3 HB4.out.size
              have d0 : wr.cell? ⟨cx, 0, none⟩ = some (.string xk) := (HB4.out.cell (p := ⟨cx, 0, none⟩) hcx3).trans HD3.out
              rw [hcx] at d0 hcxr
              have HEQ := Lib.hid (bts_eq y.1 x.1)
              rw [HXK.out] at HEQ
              obtain ⟨yk, hyk⟩ : ∃ k, bts y.1 = k := ⟨_, rfl⟩
              obtain ⟨yv, hyv⟩ : ∃ v, bts y.2 = v := ⟨_, rfl⟩
              rw [hyk] at r0 HEQ
              rw [hyv] at r1
              have HY := Lib.hid hy
              have hq1 : (0 : Int) ≤ (q : Int) := by omega
              have hq2 : (q : Int) < (j : Int) := by omega
              clear hat hy hyk hyv
              have HBA : Hid (Below W3.heap.size W3 (wr.alloc (.cells #[.string yk, .string yv] 43))) := Lib.hid (HB4.out.alloc HB4.out.size _)
              by_cases he : y.1 = x.1
              · have he2 : (yk.toList == xk.toList) = true := by rw [HEQ.out]; simpa using he
                have HV := Lib.hid (filV_labs (l := l) HLE.out HSC.out HL8.out (HI.out.dup HX.out HLT.out (by rw [← he]; exact keys_hit HY.out hqj)))
                have HBF : Hid (Below w.heap.size w (wr.alloc (.cells #[.string yk, .string yv] 43))) := Lib.hid (HB6.out.alloc HB6.out.size _)
                clear he
                go_wp2_with fail
                go_ret2
                exact ⟨ret_si' HV.out, HBF.out⟩
              · have he2 : (yk.toList == xk.toList) = false := by rw [HEQ.out]; simpa using he
                have HQ := Lib.hid (not_keys_succ HNK.out HY.out he)
                clear he
                go_wp2_with fail
                go_roundg (j - (q + 1))
                case measure => omega
                case rel => exact ⟨q + 1, by omega, by simp, HQ, HBA⟩
            · obtain rfl : q = j := by omega
              have HQ := Lib.hid (HI.out.succ HX.out HLT.out HNK.out)
              go_wp2_with fail
              go_roundg (n - (q + 1))
              case measure => omega
              case rel => exact ⟨q + 1, by omega, by simp, HQ, HB5⟩
      · obtain rfl : j = n := by omega
        have HLN := Lib.hid (HI.out.fin (by rw [← HN.out]; exact Nat.le_refl _))
        have HCG := Lib.hid (Gaps_any P pa k pc wr HK.out (by omega) (HP.out.below HB.out (Nat.le_refl _)))
        clear HI
        obtain ⟨G, hG⟩ : ∃ G, gapsA [] P = G := ⟨_, rfl⟩
        have HGG := Lib.hid hG
        rw [hG] at HCG
        clear hG
        go_wp2_with (go_at_call 11; refine Calls.mono HCG.out ?_; rintro e' W4 ⟨ga, m', gc, rfl, hm, hmm, hv, h1⟩; have HM := Lib.hid hm; have HVA := Lib.hid hv; have HB4 : Hid (Below W1.heap.size W1 W4) := Lib.hid (HB.out.trans (h1.mono HB.out.size)); clear h1 hm hv)
        go_loopg [65] m' (fun g x wr => ∃ i : Nat, i + g = m' ∧ x = .int .i64 (i : Int) ∧ Hid (AllIn l G i) ∧ Hid (Below W4.heap.size W4 wr))
        case atStart => exact ⟨0, by omega, rfl, Lib.hid (AllIn.zero l G), Lib.hid (Below.refl _ _)⟩
        case round =>
          clear HB HWB HCG
          obtain ⟨i, hi, rfl, HA, HB⟩ := hrel
          have HB5 : Hid (Below W1.heap.size W1 wr) := Lib.hid (HB4.out.trans (HB.out.mono HB4.out.size))
          have HB6 : Hid (Below w.heap.size w wr) := Lib.hid (HB1.out.trans (HB5.out.mono HB1.out.size))
          by_cases him : i < m'
          · obtain ⟨g, hg⟩ : ∃ g, G[i]? = some g := ⟨_, List.getElem?_eq_getElem (by rw [← HM.out]; exact him)⟩
            obtain ⟨b, off, rfl, hb, hat⟩ := HVA.out (by rw [txv_length, ← HM.out]; omega)
            have q0 : wr.cell? ⟨b, off + i, none⟩ = some (.string (bts g)) := (HB.out.cell (p := ⟨b, _, none⟩) hb).trans (hat i _ (txv_at hg))
            have hbr : b < wr.heap.size := Nat.lt_of_lt_of_le hb HB.out.size
            have hi1 : (0 : Int) ≤ (i : Int) := by omega
            have hi2 : (i : Int) < (m' : Int) := by omega
            have HG := Lib.hid hg
            obtain ⟨gk', hgk⟩ : ∃ k, bts g = k := ⟨_, rfl⟩
            have HGK := Lib.hid hgk
            rw [hgk] at q0
            have HF0 : Hid (decide (g ∈ keys (l.take 0)) = false) := Lib.hid (decide_eq_false (not_keys_zero l g))
            clear hat hg hgk
            go_wp2_with fail
            go_loopg [14, 71] j (fun gg x y wx => ∃ q : Nat, q + gg = j ∧ y = .int .i64 (q : Int) ∧ x = .bool (decide (g ∈ keys (l.take q))) ∧ Hid (Below W4.heap.size W4 wx))
            case atStart => exact ⟨0, by omega, rfl, by rw [HF0.out], HB⟩
            case round =>
              clear HB HB5 HB6
              obtain ⟨q, hq, rfl, rfl, HB⟩ := hrel
              have HB5 : Hid (Below W1.heap.size W1 wr) := Lib.hid (HB4.out.trans (HB.out.mono HB4.out.size))
              have HB6 : Hid (Below w.heap.size w wr) := Lib.hid (HB1.out.trans (HB5.out.mono HB1.out.size))
              by_cases hqj : q < j
              · obtain ⟨y, hy⟩ : ∃ y, l[q]? = some y := ⟨_, List.getElem?_eq_getElem (by rw [← HN.out]; omega)⟩
                obtain ⟨b', off', rfl, hb', hat⟩ := HL.out (by have := HN.out; omega)
                obtain ⟨r0, r1⟩ := (hat.below HB6.out hb') q y hy
                have hbr : b' < wr.heap.size := Nat.lt_of_lt_of_le hb' HB6.out.size
                have HEQ := Lib.hid (bts_eq y.1 g)
                rw [HGK.out] at HEQ
                have HDEC := Lib.hid (keys_dec (k := g) hy)
                obtain ⟨yk, hyk⟩ : ∃ k, bts y.1 = k := ⟨_, rfl⟩
                obtain ⟨yv, hyv⟩ : ∃ v, bts y.2 = v := ⟨_, rfl⟩
                rw [hyk] at r0 HEQ
                rw [hyv] at r1
                have hq1 : (0 : Int) ≤ (q : Int) := by omega
                have hq2 : (q : Int) < (j : Int) := by omega
                clear hat hy hyk hyv
                have HBA : Hid (Below W4.heap.size W4 (wr.alloc (.cells #[.string yk, .string yv] 43))) := Lib.hid (HB.out.alloc HB.out.size _)
                cases hf : decide (g ∈ keys (l.take q)) with
                | true =>
                  have HQ : Hid (decide (g ∈ keys (l.take (q + 1))) = true) := Lib.hid (by rw [HDEC.out, hf]; rfl)
                  clear hf
                  go_wp2_with fail
                  go_roundg (j - (q + 1))
                  case measure => omega
                  case rel => exact ⟨q + 1, by omega, by simp, by rw [HQ.out], HBA⟩
                | false =>
                  have HQ : Hid (decide (g ∈ keys (l.take (q + 1))) = decide (y.1 = g)) := Lib.hid (by rw [HDEC.out, hf]; rfl)
                  clear hf
                  cases he : decide (y.1 = g) with
                  | true =>
                    have he2 : (yk.toList == gk'.toList) = true := by rw [HEQ.out, he]
                    rw [he] at HQ
                    clear he
                    go_wp2_with fail
                    go_roundg (j - (q + 1))
                    case measure => omega
                    case rel => exact ⟨q + 1, by omega, by simp, by rw [HQ.out], HBA⟩
                  | false =>
                    have he2 : (yk.toList == gk'.toList) = false := by rw [HEQ.out, he]
                    rw [he] at HQ
                    clear he
                    go_wp2_with fail
                    go_roundg (j - (q + 1))
                    case measure => omega
                    case rel => exact ⟨q + 1, by omega, by simp, by rw [HQ.out], HBA⟩
              · obtain rfl : q = j := by omega
                have HTK : Hid (l.take q = l) := Lib.hid (by rw [HN.out, List.take_length])
                rw [HTK.out]
                cases hf : decide (g ∈ keys l) with
                | true =>
                  have HQ := Lib.hid (HA.out.succ HG.out (by simpa using hf))
                  clear hf
                  go_wp2_with fail
                  go_roundg (m' - (i + 1))
                  case measure => omega
                  case rel => exact ⟨i + 1, by omega, by simp, HQ, HB⟩
                | false =>
                  have HV := Lib.hid (filV_gap (l := l) HLE.out HSC.out HL8.out HLN.out (g := g) (by rw [HGG.out]; exact List.mem_of_getElem? HG.out) (by simpa using hf))
                  clear hf
                  go_wp2_with fail
                  go_ret2
                  exact ⟨ret_si' HV.out, HB6.out⟩
          · obtain rfl : i = m' := by omega
            have HAL : Hid (∀ g, g ∈ gapsA [] P → g ∈ keys l) := Lib.hid (by rw [HGG.out]; rw [HM.out] at HA; exact HA.out.fin)
            clear HA
            go_wp2_with fail
            go_loopg [17, 88] k (fun gg x y wx => ∃ (r : Nat) (O : ByteArray), r + gg = k ∧ y = .int .i64 (r : Int) ∧ x = .string O ∧ Hid (O = bts (fill (lookT l) (P.take r))) ∧ O.size ≤ 2000 ∧ Hid (Below W1.heap.size W1 wx))
            case atStart => exact ⟨0, ⟨#[]⟩, by omega, rfl, rfl, Lib.hid rfl, by decide, HB5⟩
            case round =>
              clear HB HB5 HB6 HB4
              obtain ⟨r, O, hr, rfl, rfl, HO, hol, HB⟩ := hrel
              have HB6 : Hid (Below w.heap.size w wr) := Lib.hid (HB1.out.trans (HB.out.mono HB1.out.size))
              obtain ⟨ol, hols⟩ : ∃ o, O.size = o := ⟨_, rfl⟩
              have HOL := Lib.hid hols
              rw [hols] at hol
              have hwo : IntKind.i64.wrap (2000 - (ol : Int)) = 2000 - (ol : Int) := IntWalk.i64_in _ (by omega)
              by_cases hrk : r < k
              · obtain ⟨p, hp⟩ : ∃ p, P[r]? = some p := ⟨_, List.getElem?_eq_getElem (by rw [← HK.out]; exact hrk)⟩
                obtain ⟨b, off, rfl, hb, hat⟩ := HP.out (by have := HK.out; omega)
                obtain ⟨q0, q1⟩ := (hat.below HB.out hb) r p hp
                have hbr : b < wr.heap.size := Nat.lt_of_lt_of_le hb HB.out.size
                have hr1 : (0 : Int) ≤ (r : Int) := by omega
                have hr2 : (r : Int) < (k : Int) := by omega
                have HFT := Lib.hid (fill_take (f := lookT l) hp)
                obtain ⟨T, hT⟩ : ∃ T, bts p.txt = T := ⟨_, rfl⟩
                obtain ⟨pg, hpg⟩ : ∃ g, p.gap = g := ⟨_, rfl⟩
                have HTT := Lib.hid hT
                rw [hT] at q1
                rw [hpg] at q0 HFT
                clear hat hp hT hpg
                obtain ⟨wx, hwx⟩ : ∃ wx, wx = wr.alloc (.cells #[.bool pg, .string T] 58) := ⟨_, rfl⟩
                have HBX : Hid (Below W1.heap.size W1 wx) := Lib.hid (by rw [hwx]; exact HB.out.alloc HB.out.size _)
                have HBXw : Hid (Below w.heap.size w wx) := Lib.hid (by rw [hwx]; exact HB6.out.alloc HB6.out.size _)
                obtain ⟨cx, hcx⟩ : ∃ c, c = wr.heap.size := ⟨_, rfl⟩
                have hcx2 : cx < wx.heap.size := by rw [hcx, hwx]; simp
                have HD0 : Hid (wx.cell? ⟨cx, 1, none⟩ = some (.string T)) := Lib.hid (by rw [hcx, hwx]; simp)
                cases pg with
                | false =>
                  have HFN : Hid (fill (lookT l) (P.take (r + 1)) = fill (lookT l) (P.take r) ++ p.txt) := Lib.hid (by rw [HFT.out, if_neg (by simp)])
                  obtain ⟨tl, htl⟩ : ∃ t, T.size = t := ⟨_, rfl⟩
                  have HTL := Lib.hid htl
                  have HLN2 : Hid ((fill (lookT l) (P.take (r + 1))).length = ol + tl) := Lib.hid (by
                    rw [HFN.out, List.length_append, ← bts_size (fill (lookT l) (P.take r)), ← HO.out, hols, ← bts_size p.txt, HTT.out, htl])
                  have HON : Hid (O ++ T = bts (fill (lookT l) (P.take (r + 1)))) := Lib.hid (by rw [HFN.out, ← bts_append, ← HO.out, HTT.out])
                  by_cases hbig : 2000 < ol + tl
                  · have HV := Lib.hid (filV_large (l := l) HLE.out HSC.out HL8.out HLN.out HAL.out (by have := fill_take_le (lookT l) P (r + 1); rw [HLN2.out] at this; omega))
                    have hb2 : (tl : Int) > 2000 - (ol : Int) := by omega
                    rw [hwx] at HBXw
                    go_wp2_with fail
                    go_ret2
                    exact ⟨ret_si' HV.out, HBXw.out⟩
                  · have hb2 : ¬ (tl : Int) > 2000 - (ol : Int) := by omega
                    rw [hwx] at HBX
                    have HSZ : Hid ((O ++ T).size ≤ 2000) := Lib.hid (by rw [ByteArray.size_append, hols, htl]; omega)
                    go_wp2_with fail
                    go_roundg (k - (r + 1))
                    case measure => omega
                    case rel => exact ⟨r + 1, O ++ T, by omega, by simp, rfl, HON, HSZ.out, HBX⟩
                | true =>
                  have HFN : Hid (fill (lookT l) (P.take (r + 1)) = fill (lookT l) (P.take r) ++ lookT l p.txt) := Lib.hid (by rw [HFT.out, if_pos rfl])
                  have HL0 : Hid (T = bts (lookT (l.take 0) p.txt)) := Lib.hid HTT.out.symm
                  go_wp2_with fail
                  rw [← hwx, ← hcx]
                  go_loopg [20, 98] j (fun gg x y wx => ∃ (q : Nat) (V : ByteArray), q + gg = j ∧ y = .int .i64 (q : Int) ∧ x = .string V ∧ Hid (V = bts (lookT (l.take q) p.txt)) ∧ Hid (Below W1.heap.size W1 wx) ∧ Hid (wx.cell? ⟨cx, 1, none⟩ = some (.string T)) ∧ cx < wx.heap.size)
                  case atStart => exact ⟨0, T, by omega, rfl, rfl, HL0, HBX, HD0, hcx2⟩
                  case round =>
                    clear HBX HD0 hcx2 HL0 hwx hcx HB HB6 HBXw
                    obtain ⟨q, V, hq, rfl, rfl, HVL, HB, HD, hcxr⟩ := hrel
                    have HB6 : Hid (Below w.heap.size w wr) := Lib.hid (HB1.out.trans (HB.out.mono HB1.out.size))
                    by_cases hqj : q < j
                    · obtain ⟨y, hy⟩ : ∃ y, l[q]? = some y := ⟨_, List.getElem?_eq_getElem (by rw [← HN.out]; omega)⟩
                      obtain ⟨b', off', rfl, hb', hat⟩ := HL.out (by have := HN.out; omega)
                      obtain ⟨r0, r1⟩ := (hat.below HB6.out hb') q y hy
                      have hbr : b' < wr.heap.size := Nat.lt_of_lt_of_le hb' HB6.out.size
                      have HEQ := Lib.hid (bts_eq y.1 p.txt)
                      rw [HTT.out] at HEQ
                      have HLS := Lib.hid (lookT_succ p.txt hy)
                      obtain ⟨yk, hyk⟩ : ∃ k, bts y.1 = k := ⟨_, rfl⟩
                      obtain ⟨yv, hyv⟩ : ∃ v, bts y.2 = v := ⟨_, rfl⟩
                      have HYV := Lib.hid hyv
                      rw [hyk] at r0 HEQ
                      rw [hyv] at r1
                      have hq1 : (0 : Int) ≤ (q : Int) := by omega
                      have hq2 : (q : Int) < (j : Int) := by omega
                      have d1 := HD.out
                      clear hat hy hyk hyv
                      have HBA : Hid (Below W1.heap.size W1 (wr.alloc (.cells #[.string yk, .string yv] 43))) := Lib.hid (HB.out.alloc HB.out.size _)
                      have HDA : Hid ((wr.alloc (.cells #[.string yk, .string yv] 43)).cell? ⟨cx, 1, none⟩ = some (.string T)) := Lib.hid (by
                        have hb9 : Below wr.heap.size wr (wr.alloc (.cells #[.string yk, .string yv] 43)) := (Below.refl _ _).alloc (Nat.le_refl _) _
                        exact (hb9.cell (p := ⟨cx, 1, none⟩) hcxr).trans d1)
                      have hcx9 : cx < (wr.alloc (.cells #[.string yk, .string yv] 43)).heap.size := by simp; omega
                      by_cases he : y.1 = p.txt
                      · have he2 : (yk.toList == T.toList) = true := by rw [HEQ.out]; simpa using he
                        have HQ : Hid (yv = bts (lookT (l.take (q + 1)) p.txt)) := Lib.hid (by rw [HLS.out, if_pos he, HYV.out])
                        clear he
                        go_wp2_with fail
                        go_roundg (j - (q + 1))
                        case measure => omega
                        case rel => exact ⟨q + 1, yv, by omega, by simp, rfl, HQ, HBA, HDA, hcx9⟩
                      · have he2 : (yk.toList == T.toList) = false := by rw [HEQ.out]; simpa using he
                        have HQ : Hid (V = bts (lookT (l.take (q + 1)) p.txt)) := Lib.hid (by rw [HLS.out, if_neg he, HVL.out])
                        clear he
                        go_wp2_with fail
                        go_roundg (j - (q + 1))
                        case measure => omega
                        case rel => exact ⟨q + 1, V, by omega, by simp, rfl, HQ, HBA, HDA, hcx9⟩
                    · obtain rfl : q = j := by omega
                      have HTK : Hid (l.take q = l) := Lib.hid (by rw [HN.out, List.take_length])
                      rw [HTK.out] at HVL
                      obtain ⟨tl, htl⟩ : ∃ t, V.size = t := ⟨_, rfl⟩
                      have HTL := Lib.hid htl
                      have HLN2 : Hid ((fill (lookT l) (P.take (r + 1))).length = ol + tl) := Lib.hid (by
                        rw [HFN.out, List.length_append, ← bts_size (fill (lookT l) (P.take r)), ← HO.out, hols, ← bts_size (lookT l p.txt), ← HVL.out, htl])
                      have HON : Hid (O ++ V = bts (fill (lookT l) (P.take (r + 1)))) := Lib.hid (by rw [HFN.out, ← bts_append, ← HO.out, ← HVL.out])
                      by_cases hbig : 2000 < ol + tl
                      · have HVV := Lib.hid (filV_large (l := l) HLE.out HSC.out HL8.out HLN.out HAL.out (by have := fill_take_le (lookT l) P (r + 1); rw [HLN2.out] at this; omega))
                        have hb2 : (tl : Int) > 2000 - (ol : Int) := by omega
                        go_wp2_with fail
                        go_ret2
                        exact ⟨ret_si' HVV.out, HB6.out⟩
                      · have hb2 : ¬ (tl : Int) > 2000 - (ol : Int) := by omega
                        have HSZ : Hid ((O ++ V).size ≤ 2000) := Lib.hid (by rw [ByteArray.size_append, hols, htl]; omega)
                        go_wp2_with fail
                        go_roundg (k - (r + 1))
                        case measure => omega
                        case rel => exact ⟨r + 1, O ++ V, by omega, by simp, rfl, HON, HSZ.out, HB⟩
              · obtain rfl : r = k := by omega
                have HTK : Hid (P.take r = P) := Lib.hid (by rw [HK.out, List.take_length])
                rw [HTK.out] at HO
                have HV := Lib.hid (filV_done (l := l) HLE.out HSC.out HL8.out HLN.out HAL.out (by rw [← bts_size, ← HO.out, hols]; exact hol))
                have HV2 : Hid (filV (lst s) l = (lst O, 0)) := Lib.hid (by rw [HV.out, HO.out, lst_bts])
                go_wp2_with fail
                go_ret2
                exact ⟨ret_si' HV2.out, HB6.out⟩
end Go.Proofs.YtooocllampkibaaDoor
