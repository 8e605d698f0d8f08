/- The walk of the law MatchTells: for all sides and edges it answers true. -/
import Derived.Test.YtfjoakhcgpckgaaDoorMatchSum
namespace Go.Proofs.YtfjoakhcgpckgaaDoor
open Go.ChangeShapes Go.WideShapes Go.ChangeAt Go.RowKit
set_option linter.unusedVariables false
open Gr (El)
open Mt
set_option maxRecDepth 20000 in
set_option maxHeartbeats 1600000 in
theorem matchLaw_bad (z y : Int) (L : El) (a : Option Addr) (n cap : Nat) (w : World) (hn : n = L.length) (hmax : n ≤ 9223372036854775807) (hL : Edges w a L) (hb : graphE z y L ≠ 0) :
    Calls Tryd.prog 3 #[.int .i64 z, .int .i64 y, .slice a n cap] w fun e w' => e = .returned (.bool true) ∧ Below w.heap.size w w' := by
  have HAB : Hid (∀ w1, Below w.heap.size w w1 → Edges w1 a L) := Lib.hid fun w1 h => hL.below h (Nat.le_refl _)
  have C1 := Lib.hid (fun w1 h => mPairs_bad z y L a n cap w1 hn hmax (HAB.out w1 h) hb)
  have C2 := Lib.hid (fun w1 h => mCover_bad z y L a n cap w1 hn hmax (HAB.out w1 h) hb)
  have C3 := Lib.hid (fun w1 h => mLack_bad z y L a n cap w1 hn hmax (HAB.out w1 h) hb)
  have C4 := Lib.hid (fun w1 h => gFault_any z y L a n cap w1 hn hmax (HAB.out w1 h))
  have C5 := Lib.hid (fun w1 h => mCheck_any z y L a n cap w1 hn hmax (HAB.out w1 h))
  have HB0 : Hid (Below w.heap.size w w) := Lib.hid (Below.refl _ _)
  obtain ⟨q, hq⟩ : ∃ q, graphE z y L = q := ⟨_, rfl⟩
  rw [hq] at C1 C2 C3 C4 C5 hb
  have hb2 : (q != 0) = true := by simpa using hb
  have hb3 : (q == q) = true := by simp
  have hb4 : (q != q) = false := by simp
  clear hL hn hq
  go_enter Tryd.func3, Tryd.ntmps3
  go_wp2_with (first
    | (go_at_call 5; refine Calls.mono (C1.out _ HB0.out) ?_; rintro e w1 ⟨rfl, h1⟩; have HB1 := Lib.hid (HB0.out.trans h1); clear h1)
    | (go_at_call 6; refine Calls.mono (C2.out _ HB1.out) ?_; rintro e w2 ⟨rfl, h1⟩; have HB2 := Lib.hid (HB1.out.trans (h1.mono HB1.out.size)); clear h1)
    | (go_at_call 7; refine Calls.mono (C3.out _ HB2.out) ?_; rintro e w3 ⟨rfl, h1⟩; have HB3 := Lib.hid (HB2.out.trans (h1.mono HB2.out.size)); clear h1)
    | (go_at_call 8; refine Calls.mono (C4.out _ HB3.out) ?_; rintro e w4 ⟨rfl, h1⟩; have HB4 := Lib.hid (HB3.out.trans (h1.mono HB3.out.size)); clear h1)
    | (go_at_call 9; refine Calls.mono (C5.out _ HB4.out) ?_; rintro e w5 ⟨rfl, h1⟩; have HB5 := Lib.hid (HB4.out.trans (h1.mono HB4.out.size)); clear h1))
  go_ret
  exact ⟨rfl, HB5.out⟩
/-- the rows at hand, wherever one goes on -/
structure Rows3 (n m : Nat) (a b c : List Nat) (va vb vc : Value) (w : World) : Prop where
  a : IsVals w va (nats a)
  b : IsVals w vb (nats b)
  c : IsVals w vc (nats c)
theorem Rows3.below {n m : Nat} {a b c : List Nat} {va vb vc : Value} {w w' : World} (r : Rows3 n m a b c va vb vc w) (hb : Below w.heap.size w w') : Rows3 n m a b c va vb vc w' := ⟨r.a.below hb (Nat.le_refl _), r.b.below hb (Nat.le_refl _), r.c.below hb (Nat.le_refl _)⟩
set_option maxRecDepth 20000 in
set_option maxHeartbeats 9600000 in
theorem matchLaw_good (n m : Nat) (L : El) (a : Option Addr) (l cap : Nat) (w : World) (hl : l = L.length) (hmax : l ≤ 9223372036854775807) (hL : Edges w a L) (hb : graphE n m L = 0) (hT : Gr.Bru w) (hG : 0 < w.heap.size) :
    Calls Tryd.prog 3 #[.int .i64 (n : Int), .int .i64 (m : Int), .slice a l cap] w fun e w' => e = .returned (.bool true) ∧ Below w.heap.size w w' := by
  obtain ⟨g1, g2, g3, g4, g5, g6⟩ := graphE_good hb
  have hn : n ≤ 60 := by omega
  have hm : m ≤ 60 := by omega
  have hl4 : l ≤ 400 := by omega
  have HO2 := Lib.hid (edges_ok g6)
  have HL := Lib.hid (show ∀ w1, Below w.heap.size w w1 → Edges w1 a L from fun w1 h => hL.below h (Nat.le_refl _))
  have HTB := Lib.hid (show ∀ w1, Below w.heap.size w w1 → Gr.Bru w1 from fun w1 h => hT.below h hG)
  have HGB := Lib.hid (show ∀ w1, Below w.heap.size w w1 → 0 < w1.heap.size from fun w1 h => Nat.lt_of_lt_of_le hG h.size)
  have HN := Lib.hid hl
  have C1 := Lib.hid (fun w1 h => mPairs_good n m L a l cap w1 hl hmax (HL.out w1 h) hb (HTB.out w1 h) (HGB.out w1 h))
  have C2 := Lib.hid (fun w1 h => mCover_good n m L a l cap w1 hl hmax (HL.out w1 h) hb (HTB.out w1 h) (HGB.out w1 h))
  have C3 := Lib.hid (fun w1 h => mLack_good n m L a l cap w1 hl hmax (HL.out w1 h) hb (HTB.out w1 h) (HGB.out w1 h))
  have C4 : Hid (∀ w1, Below w.heap.size w w1 → Calls Tryd.prog 8 #[.int .i64 (n : Int), .int .i64 (m : Int), .slice a l cap] w1 fun e w' => e = .returned (.int .i64 0) ∧ Below w1.heap.size w1 w') := Lib.hid (fun w1 h => by have := gFault_any n m L a l cap w1 hl hmax (HL.out w1 h); rwa [hb] at this)
  have C5 : Hid (∀ w1, Below w.heap.size w w1 → Calls Tryd.prog 9 #[.int .i64 (n : Int), .int .i64 (m : Int), .slice a l cap] w1 fun e w' => e = .returned (.int .i64 0) ∧ Below w1.heap.size w1 w') := Lib.hid (fun w1 h => by have := mCheck_any n m L a l cap w1 hl hmax (HL.out w1 h); rwa [hb] at this)
  have HB0 : Hid (Below w.heap.size w w) := Lib.hid (Below.refl _ _)
  clear hL hl hT g1 g2 g3 g4 g5 g6 hb
  go_enter Tryd.func3, Tryd.ntmps3
  obtain ⟨w0, rfl⟩ : ∃ x, x = w := ⟨_, rfl⟩
  go_upto_region 9 with (first
    | (go_at_call 5; refine Calls.mono (C1.out _ HB0.out) ?_; rintro e w1 ⟨go, h, rfl, h1, h2, h3, h4⟩; have HA1 := Lib.hid h1; have HK := Lib.hid h2; have HV1 := Lib.hid h3; have HB1 := Lib.hid (HB0.out.trans h4); clear h1 h2 h3 h4)
    | (go_at_call 6; refine Calls.mono (C2.out _ HB1.out) ?_; rintro e w2 ⟨va, vb, h', lf, rt, rfl, h1, h2, h3, h4, h5⟩; obtain rfl := HA1.out.uniq h1; have HE2 := Lib.hid h2; have HVA := Lib.hid h3; have HVB := Lib.hid h4; have HV2 := Lib.hid (HV1.out.below h5 (Nat.le_refl _)); have HB2 := Lib.hid (HB1.out.trans (h5.mono HB1.out.size)); clear h1 h2 h3 h4 h5)
    | (go_at_call 7; refine Calls.mono (C3.out _ HB2.out) ?_; rintro e w3 ⟨vc, h', lf3, rt3, rfl, h1, h2, h3, h5⟩; obtain rfl := HA1.out.uniq h1; have HE3 := Lib.hid h2; have HR3 : Hid (Rows3 n m (Gr.yes (msk n lf).testBit 64) (Gr.yes rt.testBit 64) (Gr.yes lf3.testBit 64) va vb vc w3) := Lib.hid ⟨HVA.out.below h5 (Nat.le_refl _), HVB.out.below h5 (Nat.le_refl _), h3⟩; have HV3 := Lib.hid (HV2.out.below h5 (Nat.le_refl _)); have HB3 := Lib.hid (HB2.out.trans (h5.mono HB2.out.size)); clear h1 h2 h3 h5)
    | (go_at_call 8; refine Calls.mono (C4.out _ HB3.out) ?_; rintro e w4 ⟨rfl, h1⟩; have HR4 := Lib.hid (HR3.out.below h1); have HV4 := Lib.hid (HV3.out.below h1 (Nat.le_refl _)); have HB4 := Lib.hid (HB3.out.trans (h1.mono HB3.out.size)); clear h1)
    | (go_at_call 9; refine Calls.mono (C5.out _ HB4.out) ?_; rintro e w5 ⟨rfl, h1⟩; have HR5 := Lib.hid (HR4.out.below h1); have HV5 := Lib.hid (HV4.out.below h1 (Nat.le_refl _)); have HB5 := Lib.hid (HB4.out.trans (h1.mono HB4.out.size)); clear h1))
  obtain ⟨A, hA⟩ : ∃ A, Gr.yes (msk n lf).testBit 64 = A := ⟨_, rfl⟩
  obtain ⟨B, hB⟩ : ∃ B, Gr.yes rt.testBit 64 = B := ⟨_, rfl⟩
  obtain ⟨C, hC⟩ : ∃ C, Gr.yes lf3.testBit 64 = C := ⟨_, rfl⟩
  have HSUM := Lib.hid (cover_len hn hm HK.out HE2.out)
  have HAA : Hid (A.length ≤ 64 ∧ (∀ x, x ∈ A → x < n) ∧ A.Pairwise (· < ·)) := Lib.hid (by
    rw [← hA]
    exact ⟨Gr.yes_length _ _, fun x hx => (by
      have h1 := (Gr.mem_yes.1 hx).2
      rw [msk_bit hn HE2.out.b.1] at h1
      simp at h1; exact h1.1), yes_asc _ _⟩)
  have HBB : Hid (B.length ≤ 64 ∧ (∀ x, x ∈ B → x < m) ∧ B.Pairwise (· < ·)) := Lib.hid (by
    rw [← hB]
    exact ⟨Gr.yes_length _ _, fun x hx => (HE2.out.r x (Gr.mem_yes.1 hx).2).1, yes_asc _ _⟩)
  have HCC : Hid (C.length ≤ 64 ∧ (∀ x, x ∈ C → x < n) ∧ C.Pairwise (· < ·)) := Lib.hid (by
    rw [← hC]
    exact ⟨Gr.yes_length _ _, fun x hx => ((HE3.out.l x).1 (Gr.mem_yes.1 hx).2).1, yes_asc _ _⟩)
  have HCOV : Hid (∀ x y : Nat, ((x : Int), (y : Int)) ∈ L → x ∉ A → y ∈ B) := Lib.hid (fun x y he hx => by
    have hxn := HO2.out _ he
    simp only at hxn
    rw [← hA] at hx
    rw [← hB]
    have h1 : lf.testBit x = true := by
      cases hb : lf.testBit x with
      | true => rfl
      | false => exact (hx (Gr.mem_yes.2 ⟨by omega, by rw [msk_bit hn HE2.out.b.1, hb]; simp; omega⟩)).elim
    have h2 := HE2.out.e x h1 y ((rowN_ed HO2.out hn hm x y).2 he)
    exact Gr.mem_yes.2 ⟨by have := (HE2.out.r y h2).1; omega, h2⟩)
  have HCEM : Hid (cntO h m n = n → C = []) := Lib.hid (fun hc => by rw [← hC]; exact all_lf hn HK.out HE3.out hc)
  have HLCK : Hid (∀ ml : List Nat, cntO h m n ≠ n → ml.Nodup → (∀ y, y ∈ ml → ∃ x, x ∈ C ∧ ((x : Int), (y : Int)) ∈ L) → ml.length < C.length) := Lib.hid (fun ml h1 h2 h3 => by
    rw [← hC]
    refine lack_len hn hm HK.out HE3.out h1 h2 fun y hy => ?_
    obtain ⟨x, hx, he⟩ := h3 y hy
    rw [← hC] at hx
    exact ⟨x, (Gr.mem_yes.1 hx).2, (rowN_ed HO2.out hn hm x y).2 he⟩)
  rw [hA, hB] at HSUM
  rw [hA, hB, hC] at HR5
  have hcm := cntO_le h m n
  have HPO := Lib.hid (fun w1 (hb : Below w0.heap.size w0 w1) (hv : Vals w1 (some ⟨go, 0, none⟩) (outV n m h)) => pairsOf_any n m L h a l cap go w1 hn hm HN.out hl4 (HL.out w1 hb) HO2.out HK.out hv)
  obtain ⟨mn, hmn⟩ : ∃ mn, cntO h m n = mn := ⟨_, rfl⟩
  rw [hmn] at HSUM HCEM HLCK hcm HPO
  obtain ⟨aa, ca, ea, _⟩ := HR5.out.a
  obtain ⟨ab, cb, eb, _⟩ := HR5.out.b
  obtain ⟨ac, cc, ec, _⟩ := HR5.out.c
  rw [nats_length] at ea eb ec
  have HR := Lib.hid HR5.out
  obtain ⟨la, hla⟩ : ∃ x, A.length = x := ⟨_, rfl⟩
  obtain ⟨lb, hlb⟩ : ∃ x, B.length = x := ⟨_, rfl⟩
  obtain ⟨lc, hlc⟩ : ∃ x, C.length = x := ⟨_, rfl⟩
  have HLC := Lib.hid hlc
  rw [hla] at ea
  rw [hlb] at eb
  rw [hlc] at ec
  rw [hla, hlb] at HSUM
  have hla64 : la ≤ 64 := by rw [← hla]; exact HAA.out.1
  have hlb64 : lb ≤ 64 := by rw [← hlb]; exact HBB.out.1
  have hlc64 : lc ≤ 64 := by rw [← hlc]; exact HCC.out.1
  subst ea eb ec
  have hsw : IntKind.i64.wrap ((la : Int) + (lb : Int)) = (mn : Int) := by
    rw [IntWalk.i64_in _ (by omega)]; have := HSUM.out; omega
  have hmm : ((mn : Int) != (mn : Int)) = false := by simp
  have hm0 : decide ((mn : Int) < 0) = false := by simp
  clear C1 C2 C3 C4 C5 HA1 HV1 HV2 HV3 HV4 HB0 HB1 HB2 HB3 HB4 HR3 HR4 HR5 HVA HVB hA hB hC hmn hla hlb hlc HE2 HE3 HTB HGB
  go_wp2_with (first
    | (go_at_call 10; refine Calls.mono (HPO.out _ HB5.out HV5.out) ?_; rintro e w6 ⟨rfl, h1⟩; have HR6 := Lib.hid (HR.out.below h1); have HB6 := Lib.hid (HB5.out.trans (h1.mono HB5.out.size)); have HB7 := Lib.hid (show Below w0.heap.size w0 (w6.alloc (.cells #[.int .i64 0, .int .i64 0, .int .i64 0] 24)) from HB6.out.alloc HB6.out.size _); have HR7 := Lib.hid (HR6.out.below (show Below w6.heap.size w6 (w6.alloc (.cells #[.int .i64 0, .int .i64 0, .int .i64 0] 24)) from (Below.refl _ _).alloc (Nat.le_refl _) _)); clear h1)
    | (go_at_call 11; refine Calls.mono (good_any _ _ (by rw [World.cell?, heap_alloc_new]; rfl) (by rw [World.cell?, heap_alloc_new]; rfl) (by rw [World.cell?, heap_alloc_new]; rfl)) ?_; rintro e w7 ⟨rfl, h1⟩; obtain rfl := h1.symm)
    | (go_at_call 12; (with_reducible refine Calls.mono (rising_any A n (.slice aa la ca) _ HR7.out.a HAA.out.1 hn HAA.out.2.1 HAA.out.2.2) ?_); rintro e w8 ⟨rfl, h1⟩; obtain rfl := h1.symm)
    | (go_at_call 12; (with_reducible refine Calls.mono (rising_any B m (.slice ab lb cb) _ HR7.out.b HBB.out.1 hm HBB.out.2.1 HBB.out.2.2) ?_); rintro e w8 ⟨rfl, h1⟩; obtain rfl := h1.symm)
    | (go_at_call 12; (with_reducible refine Calls.mono (rising_any C n (.slice ac lc cc) _ HR7.out.c HCC.out.1 hn HCC.out.2.1 HCC.out.2.2) ?_); rintro e w8 ⟨rfl, h1⟩; obtain rfl := h1.symm))
  obtain ⟨w7, hw7⟩ : ∃ W, W = w6.alloc (.cells #[.int .i64 0, .int .i64 0, .int .i64 0] 24) := ⟨_, rfl⟩
  rw [← hw7] at HR7 HB7 ⊢
  have HAL := Lib.hid HAA.out.1
  have HBL := Lib.hid HBB.out.1
  clear hw7 HR6 HB6 HAA HBB HCC hsw
  go_loopg [132] l (fun gk x wr => ∃ t : Nat, t + gk = l ∧ x = .int .i64 (t : Int) ∧ Hid (Rows3 n m A B C (.slice aa la ca) (.slice ab lb cb) (.slice ac lc cc) wr) ∧ Hid (Below w0.heap.size w0 wr))
  case atStart => exact ⟨0, by omega, rfl, HR7, HB7⟩
  case round =>
    clear HR7 HB7
    obtain ⟨t, ht, rfl, HR, HB⟩ := hrel
    by_cases htl : t < l
    · have htl2 : (t : Int) < (l : Int) := by omega
      have ht0 : (0 : Int) ≤ (t : Int) := by omega
      obtain ⟨b, off, rfl, hb, hat⟩ := (HL.out wr HB.out) (by have := HN.out; omega)
      obtain ⟨⟨x, y⟩, hx⟩ : ∃ x, L[t]? = some x := ⟨_, List.getElem?_eq_getElem (by have := HN.out; omega)⟩
      obtain ⟨q0, q1⟩ := hat t x y hx
      have hxo := HO2.out _ (List.mem_of_getElem? hx)
      simp only at hxo
      obtain ⟨i, rfl⟩ := Int.eq_ofNat_of_zero_le hxo.1
      obtain ⟨j, rfl⟩ := Int.eq_ofNat_of_zero_le hxo.2.2.1
      have HMEM := Lib.hid (List.mem_of_getElem? hx)
      obtain ⟨W8, hW8⟩ : ∃ W, W = wr.alloc (.cells #[.int .i64 (i : Int), .int .i64 (j : Int)] 34) := ⟨_, rfl⟩
      have hB8 : Below wr.heap.size wr W8 := by rw [hW8]; exact (Below.refl _ _).alloc (Nat.le_refl _) _
      have HR8 := Lib.hid (HR.out.below hB8)
      have HB8 := Lib.hid (HB.out.trans (hB8.mono HB.out.size))
      have v0 : W8.cell? ⟨wr.heap.size, 0, none⟩ = some (.int .i64 (i : Int)) := by rw [hW8, World.cell?, heap_alloc_new]; rfl
      have v1 : W8.cell? ⟨wr.heap.size, 1, none⟩ = some (.int .i64 (j : Int)) := by rw [hW8, World.cell?, heap_alloc_new]; rfl
      clear hat hx hxo hB8
      by_cases hiA : i ∈ A
      · have HCA : Hid (Calls Tryd.prog 13 #[.slice aa la ca, .int .i64 (i : Int)] W8 fun e w' => e = .returned (.bool true) ∧ w' = W8) := Lib.hid (by have := contains_any A i _ W8 HR8.out.a (by have := HAL.out; omega); rwa [decide_eq_true hiA] at this)
        clear hiA
        go_upto_region 15 with fail
        rw [← hW8]
        clear hW8
        go_wp2_with (go_at_call 13; refine Calls.mono HCA.out ?_; rintro e w9 ⟨rfl, h1⟩; obtain rfl := h1.symm)
        go_roundg (gk - 1)
        case measure => omega
        case rel => exact ⟨t + 1, by omega, by simp, HR8, HB8⟩
      · have HCA : Hid (Calls Tryd.prog 13 #[.slice aa la ca, .int .i64 (i : Int)] W8 fun e w' => e = .returned (.bool false) ∧ w' = W8) := Lib.hid (by have := contains_any A i _ W8 HR8.out.a (by have := HAL.out; omega); rwa [decide_eq_false hiA] at this)
        have HCB : Hid (Calls Tryd.prog 13 #[.slice ab lb cb, .int .i64 (j : Int)] W8 fun e w' => e = .returned (.bool true) ∧ w' = W8) := Lib.hid (by have := contains_any B j _ W8 HR8.out.b (by have := HBL.out; omega); rwa [decide_eq_true (HCOV.out i j HMEM.out hiA)] at this)
        clear hiA
        go_upto_region 15 with fail
        rw [← hW8]
        clear hW8
        go_wp2_with (first
          | (go_at_call 13; (with_reducible refine Calls.mono HCA.out ?_); rintro e w9 ⟨rfl, h1⟩; obtain rfl := h1.symm)
          | (go_at_call 13; (with_reducible refine Calls.mono HCB.out ?_); rintro e w9 ⟨rfl, h1⟩; obtain rfl := h1.symm))
        go_roundg (gk - 1)
        case measure => omega
        case rel => exact ⟨t + 1, by omega, by simp, HR8, HB8⟩
    · have htl2 : ¬ (t : Int) < (l : Int) := by omega
      clear HCOV htl ht
      by_cases hmn : mn = n
      · have hlc0 : lc = 0 := by rw [← HLC.out, HCEM.out hmn]; rfl
        subst hlc0
        have hb1 : ((mn : Int) == (n : Int)) = true := by simp [hmn]
        clear hmn
        go_wp2_with fail
        go_ret
        exact ⟨rfl, HB.out⟩
      · have hb1 : ((mn : Int) == (n : Int)) = false := by simp; omega
        have HMN := Lib.hid hmn
        obtain ⟨H, hH⟩ : ∃ H, wr.heap.size = H := ⟨_, rfl⟩
        have HH := Lib.hid (Nat.le_of_eq hH.symm)
        have HO0 : Hid (wr.ownsRow H 3 1 (.slice none 0 0) ([] : List Nat).length (nats [])) := Lib.hid (World.ownsRow_nil _ _ _ _)
        have hw0H : w0.heap.size ≤ H := by rw [← hH]; exact HB.out.size
        have HHE := Lib.hid hH
        clear hmn hH HH
        obtain ⟨ws, rfl⟩ : ∃ x, x = wr := ⟨_, rfl⟩
        have HRS := Lib.hid HR.out
        have HBS := Lib.hid HB.out
        have HBW0 : Hid (Below H ws ws) := Lib.hid (Below.refl _ _)
        have HHS : Hid (H ≤ ws.heap.size) := Lib.hid (by have := HHE.out; omega)
        clear HR HB
        go_wp2_with fail
        go_loopg [18, 157] l (fun gk v x wr => ∃ (t : Nat) (ml : List Nat), t + gk = l ∧ ml.length ≤ t ∧ x = .int .i64 (t : Int) ∧ Hid (wr.ownsRow H 3 1 v ml.length (nats ml)) ∧ Hid (ml.Nodup ∧ ∀ y, y ∈ ml → ∃ x, x ∈ C ∧ ((x : Int), (y : Int)) ∈ L) ∧ Hid (Below H ws wr) ∧ Hid (H ≤ wr.heap.size))
        case atStart => exact ⟨0, [], by omega, by simp, rfl, HO0, Lib.hid ⟨List.nodup_nil, fun y hy => by simp at hy⟩, HBW0, HHS⟩
        case round =>
          clear HO0 HBW0 HHS
          obtain ⟨t, ml, ht, hmlt, rfl, HO, HML, HBW, HH⟩ := hrel
          have HR := Lib.hid (HRS.out.below (show Below ws.heap.size ws wr from by rw [HHE.out]; exact HBW.out))
          have HB := Lib.hid (HBS.out.trans (HBW.out.mono hw0H))
          by_cases htl : t < l
          · have htl2 : (t : Int) < (l : Int) := by omega
            have ht0 : (0 : Int) ≤ (t : Int) := by omega
            obtain ⟨b, off, rfl, hb, hat⟩ := (HL.out wr HB.out) (by have := HN.out; omega)
            obtain ⟨⟨x, y⟩, hx⟩ : ∃ x, L[t]? = some x := ⟨_, List.getElem?_eq_getElem (by have := HN.out; omega)⟩
            obtain ⟨q0, q1⟩ := hat t x y hx
            have hxo := HO2.out _ (List.mem_of_getElem? hx)
            simp only at hxo
            obtain ⟨i, rfl⟩ := Int.eq_ofNat_of_zero_le hxo.1
            obtain ⟨j, rfl⟩ := Int.eq_ofNat_of_zero_le hxo.2.2.1
            have HMEM := Lib.hid (List.mem_of_getElem? hx)
            obtain ⟨W8, hW8⟩ : ∃ W, W = wr.alloc (.cells #[.int .i64 (i : Int), .int .i64 (j : Int)] 34) := ⟨_, rfl⟩
            have hB8 : Below wr.heap.size wr W8 := by rw [hW8]; exact (Below.refl _ _).alloc (Nat.le_refl _) _
            have HR8 := Lib.hid (HR.out.below hB8)
            have HB8 := Lib.hid (HB.out.trans (hB8.mono HB.out.size))
            have HO8 := Lib.hid (ownsRow_below HO.out hB8)
            have HBW8 := Lib.hid (HBW.out.trans (hB8.mono HH.out))
            have hs8 : H ≤ W8.heap.size := Nat.le_trans HH.out hB8.size
            have v0 : W8.cell? ⟨wr.heap.size, 0, none⟩ = some (.int .i64 (i : Int)) := by rw [hW8, World.cell?, heap_alloc_new]; rfl
            have v1 : W8.cell? ⟨wr.heap.size, 1, none⟩ = some (.int .i64 (j : Int)) := by rw [hW8, World.cell?, heap_alloc_new]; rfl
            have vl : wr.heap.size < W8.heap.size := by rw [hW8]; simp
            have HS8 := Lib.hid hs8
            clear hat hx hxo hB8
            by_cases hiC : i ∈ C
            · have HCC : Hid (Calls Tryd.prog 13 #[.slice ac lc cc, .int .i64 (i : Int)] W8 fun e w' => e = .returned (.bool true) ∧ w' = W8) := Lib.hid (by have := contains_any C i _ W8 HR8.out.c (by have := HLC.out; omega); rwa [decide_eq_true hiC] at this)
              have HIC := Lib.hid hiC
              have HCM := Lib.hid (contains_any ml j _ W8 (own_isVals HO8.out) (by omega))
              obtain ⟨a9, c9, e9, _⟩ := own_isVals HO8.out
              rw [nats_length] at e9
              subst e9
              by_cases hjm : j ∈ ml
              · rw [decide_eq_true hjm] at HCM
                clear hiC hjm
                go_upto_region 24 with fail
                rw [← hW8]
                clear hW8
                go_wp2_with (first
                  | (go_at_call 13; (with_reducible refine Calls.mono HCC.out ?_); rintro e w9 ⟨rfl, h1⟩; obtain rfl := h1.symm)
                  | (go_at_call 13; (with_reducible refine Calls.mono HCM.out ?_); rintro e w9 ⟨rfl, h1⟩; obtain rfl := h1.symm))
                go_roundg (gk - 1)
                case measure => omega
                case rel => exact ⟨t + 1, ml, by omega, by omega, by simp, HO8, HML, HBW8, HS8⟩
              · rw [decide_eq_false hjm] at HCM
                have HML2 : Hid ((ml ++ [j]).Nodup ∧ ∀ y, y ∈ ml ++ [j] → ∃ x, x ∈ C ∧ ((x : Int), (y : Int)) ∈ L) := Lib.hid ⟨by
                  rw [List.nodup_append]
                  exact ⟨HML.out.1, by simp, fun a ha b hb => by
                    rw [List.mem_singleton] at hb; subst hb
                    exact fun e => hjm (by rw [← e]; exact ha)⟩, fun y hy => by
                  rcases List.mem_append.1 hy with h1 | h1
                  · exact HML.out.2 y h1
                  · rw [List.mem_singleton] at h1; subst h1
                    exact ⟨i, HIC.out, HMEM.out⟩⟩
                obtain ⟨k, hk⟩ : ∃ k, ml.length = k := ⟨_, rfl⟩
                have HKL := Lib.hid hk
                rw [hk] at HO8 HCM hmlt ⊢
                clear hiC hjm hk
                go_upto_region 24 with fail
                rw [← hW8]
                clear hW8
                go_wp2_with (first
                  | (go_at_call 13; (with_reducible refine Calls.mono HCC.out ?_); rintro e w9 ⟨rfl, h1⟩; obtain rfl := h1.symm)
                  | (go_at_call 13; (with_reducible refine Calls.mono HCM.out ?_); rintro e w9 ⟨rfl, h1⟩; obtain rfl := h1.symm)
                  | (at_builtin; refine wpList_push _ (by rfl) _ _ 23 (by rfl) H 3 (.int .i64 0) 8 Tryd.underlying23 infoInt (by rfl) (.slice a9 k c9) k (nats ml) (nat1 j) _ rfl (by rfl) HO8.out (by rfl) (by rfl) (by unfold maxLen; omega) (by omega) HS8.out ?_; intro gg cap2 w10 hown1 hgrow1 hgb hgl; have HO10 := Lib.hid (show w10.ownsRow H 3 1 (.slice (some ⟨gg, 0, none⟩) (k + 1) cap2) (ml ++ [j]).length (nats (ml ++ [j])) from by rw [nats_snoc, List.length_append, HKL.out]; exact hown1); have hbb := (Below.refl H W8).grown hgrow1 HS8.out (ownBlock_ge HO8.out (Nat.le_refl _)); have HG10 := Lib.hid hgrow1; have HBB := Lib.hid hbb; clear hown1 hgrow1 hgb hbb))
                have HBW10 := Lib.hid (HBW8.out.trans HBB.out)
                have HS10 := Lib.hid (show H ≤ w10.heap.size from Nat.le_trans HS8.out HBB.out.size)
                go_roundg (gk - 1)
                case measure => omega
                case rel => exact ⟨t + 1, ml ++ [j], by omega, by rw [List.length_append, HKL.out]; simp; omega, by simp, by rw [List.length_append, HKL.out] at HO10; rw [List.length_append, HKL.out]; exact HO10, HML2, HBW10, HS10⟩
            · have HCC : Hid (Calls Tryd.prog 13 #[.slice ac lc cc, .int .i64 (i : Int)] W8 fun e w' => e = .returned (.bool false) ∧ w' = W8) := Lib.hid (by have := contains_any C i _ W8 HR8.out.c (by have := HLC.out; omega); rwa [decide_eq_false hiC] at this)
              clear hiC
              go_upto_region 24 with fail
              rw [← hW8]
              clear hW8
              go_wp2_with (go_at_call 13; refine Calls.mono HCC.out ?_; rintro e w9 ⟨rfl, h1⟩; obtain rfl := h1.symm)
              go_roundg (gk - 1)
              case measure => omega
              case rel => exact ⟨t + 1, ml, by omega, by omega, by simp, HO8, HML, HBW8, HS8⟩
          · have htl2 : ¬ (t : Int) < (l : Int) := by omega
            have hlt := HLCK.out ml HMN.out HML.out.1 HML.out.2
            rw [HLC.out] at hlt
            obtain ⟨a9, c9, rfl, _⟩ := own_isVals HO.out
            rw [nats_length]
            have hlt2 : decide ((ml.length : Int) < (lc : Int)) = true := by simp; omega
            generalize ml.length = k at *
            go_wp2_with fail
            go_ret
            exact ⟨by simp; try omega, HB.out⟩
theorem matchLaw_any (z y : Int) (L : El) (a : Option Addr) (l cap : Nat) (w : World) (hl : l = L.length) (hmax : l ≤ 9223372036854775807) (hL : Edges w a L) (hT : Gr.Bru w) (hG : 0 < w.heap.size) :
    Calls Tryd.prog 3 #[.int .i64 z, .int .i64 y, .slice a l cap] w fun e w' => e = .returned (.bool true) ∧ Below w.heap.size w w' := by
  by_cases hb : graphE z y L = 0
  · obtain ⟨g1, g2, g3, g4, _⟩ := graphE_good hb
    obtain ⟨n, rfl⟩ : ∃ n : Nat, z = (n : Int) := ⟨z.toNat, by omega⟩
    obtain ⟨m, rfl⟩ : ∃ m : Nat, y = (m : Int) := ⟨y.toNat, by omega⟩
    exact matchLaw_good n m L a l cap w hl hmax hL hb hT hG
  · exact matchLaw_bad z y L a l cap w hl hmax hL hb
end Go.Proofs.YtfjoakhcgpckgaaDoor
