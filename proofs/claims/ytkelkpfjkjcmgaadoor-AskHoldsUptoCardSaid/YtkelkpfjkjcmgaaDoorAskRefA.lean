/- Contract: the atoms of an ask, as texts, each once; the document's. -/
import Derived.Test.YtkelkpfjkjcmgaaDoorAskAtoms
namespace Go.Proofs.YtkelkpfjkjcmgaaDoor
open Go.ChangeShapes Go.WideShapes Go.ChangeAt Go.RowKit
set_option linter.unusedVariables false
open Tp
theorem mem_addT {K : List Bs} {s t : Bs} (h : t ∈ K) : t ∈ addT K s := by
  unfold addT
  split
  · exact h
  · exact List.mem_append.2 (.inl h)
theorem mem_addT_self (K : List Bs) (t : Bs) : t ∈ addT K t := by
  unfold addT
  split
  · assumption
  · exact List.mem_append.2 (.inr (by simp))
theorem mem_addL {K ts : List Bs} {t : Bs} (h : t ∈ K) : t ∈ addL K ts := by
  induction ts generalizing K with
  | nil => exact h
  | cons s ts ih => exact ih (mem_addT h)
theorem mem_addL_in {K ts : List Bs} {t : Bs} (h : t ∈ ts) : t ∈ addL K ts := by
  induction ts generalizing K with
  | nil => cases h
  | cons s ts ih =>
    rcases List.mem_cons.1 h with rfl | h
    · show t ∈ addL (addT K t) ts
      exact mem_addL (mem_addT_self _ _)
    · exact ih h
theorem addL_addT (K A : List Bs) (t : Bs) : addL K (addT A t) = addT (addL K A) t := by
  unfold addT
  by_cases h : t ∈ A
  · rw [if_pos h, if_pos (mem_addL_in h)]
  · rw [if_neg h, addL_append]; rfl
theorem addL_addL (K A ts : List Bs) : addL K (addL A ts) = addL (addL K A) ts := by
  induction ts generalizing A with
  | nil => rfl
  | cons t ts ih =>
    show addL K (addL (addT A t) ts) = addL (addT (addL K A) t) ts
    rw [ih, addL_addT]
theorem addL_nil (K ts : List Bs) : addL K (addL [] ts) = addL K ts := addL_addL K [] ts
theorem addL_take {K T : List Bs} {i : Nat} {t : Bs} (h : T[i]? = some t) : addL K (T.take (i + 1)) = addT (addL K (T.take i)) t := by
  rw [take_snoc h, addL_append]; rfl
/-- a row that lies in a new block -/
def Fresh (B : Nat) (w : World) (a : Option Addr) (xs : List Value) : Prop := 0 < xs.length → ∃ b off, a = some ⟨b, off, none⟩ ∧ B ≤ b ∧ b < w.heap.size ∧ ∀ i v, xs[i]? = some v → w.cell? ⟨b, off + i, none⟩ = some v
theorem Fresh.vals {B : Nat} {w : World} {a : Option Addr} {xs : List Value} (h : Fresh B w a xs) : Vals w a xs := fun hl => by
  obtain ⟨b, off, e, _, h2, h3⟩ := h hl
  exact ⟨b, off, e, h2, h3⟩
theorem fresh_own {w : World} {B m c : Nat} {a : Option Addr} {xs : List Value} {e : TypeId} {n : Nat} (h : w.ownsRow B e 1 (.slice a m c) n xs) : Fresh B w a xs := fun hl => by
  obtain ⟨b, off, e, h2, h3⟩ := vals_own h hl
  exact ⟨b, off, e, ownBlock_ge h (Nat.le_refl _) b (by rw [e]; rfl), h2, h3⟩
def RefAQ (w : World) (K : List Bs) (e : Ending) (w' : World) : Prop := ∃ a m cap, e = .returned (.slice a m cap) ∧ m = K.length ∧ m ≤ cap ∧ cap ≤ 9223372036854775807 ∧ Fresh w.heap.size w' a (txv K) ∧ Below w.heap.size w w'
theorem below_rowR {B : Nat} {w w' : World} {K : List Bs} {xv : Value} (h : RowR B w w' none K xv) : Below w.heap.size w w' := ⟨h.saves.os, h.saves.tape, h.saves.output, h.saves.size, fun k hk => h.saves.block k hk (by simp)⟩
set_option maxRecDepth 20000 in
set_option maxHeartbeats 16000000 in
theorem refAtoms_all : ∀ (N : Nat) (x : Ask) (v : Value) (w : World), x.size ≤ N → x.err = 0 → x.size ≤ 1000 → AskV w x v → Calls Tryd.prog 28 #[v] w (RefAQ w (addL [] x.leaves)) := by
  intro N
  induction N with
  | zero => intro x v w h; have := Ask.one_le x; omega
  | succ N ih =>
    intro x v w hN herr hbig hx
    have HIH := Lib.hid ih
    have hx2 := hx
    cases x with
    | mk k ka va nu l =>
    rw [AskV] at hx
    obtain ⟨ad, n, cap, rfl, hn, hcap, hmax, u1, u2, hrow⟩ := hx
    obtain ⟨hb0, hes⟩ := Ask.err_zero herr
    obtain ⟨hk1, hk6, hlen, hrest⟩ := Ask.bad_zero hb0
    rw [Ask.size] at hN hbig
    rw [← hn] at hlen
    have HN := Lib.hid hn
    have HR := Lib.hid hrow
    have HES := Lib.hid hes
    have HX2 := Lib.hid hx2
    obtain ⟨a1, ha1⟩ : ∃ a, bts ka = a := ⟨_, rfl⟩
    obtain ⟨a2, ha2⟩ : ∃ a, bts va = a := ⟨_, rfl⟩
    rw [ha1, ha2] at HX2 ⊢
    obtain ⟨W0, hW0⟩ : ∃ W, W = w.alloc (.cells #[.int .i64 k, .string a1, .string a2, .int .i64 nu, .slice ad n cap] 24) := ⟨_, rfl⟩
    have hb9 : Below w.heap.size w W0 := by rw [hW0]; exact (Below.refl _ _).alloc (Nat.le_refl _) _
    have HB9 := Lib.hid hb9
    have hsz : W0.heap.size = w.heap.size + 1 := by rw [hW0]; simp
    obtain ⟨cx, hcx⟩ : ∃ c, c = w.heap.size := ⟨_, rfl⟩
    have d0 : W0.cell? ⟨cx, 0, none⟩ = some (.int .i64 k) := by rw [hW0, hcx]; simp
    have d1 : W0.cell? ⟨cx, 1, none⟩ = some (.string a1) := by rw [hW0, hcx]; simp
    have d2 : W0.cell? ⟨cx, 2, none⟩ = some (.string a2) := by rw [hW0, hcx]; simp
    have d3 : W0.cell? ⟨cx, 3, none⟩ = some (.int .i64 nu) := by rw [hW0, hcx]; simp
    have d4 : W0.cell? ⟨cx, 4, none⟩ = some (.slice ad n cap) := by rw [hW0, hcx]; simp
    have hcx0 : cx < W0.heap.size := by omega
    by_cases h3 : k ≤ 3
    · obtain ⟨t, ht⟩ : ∃ t, (Ask.mk k ka va nu l).txt = t := ⟨_, rfl⟩
      have HL : Hid (addL [] (Ask.mk k ka va nu l).leaves = [t]) := Lib.hid (by rw [Ask.leaves, if_pos h3, ht]; rfl)
      have HC1 := Lib.hid (AskText_atom (Ask.mk k ka va nu l) _ W0 herr h3 (AskV.below hb9 _ _ HX2.out))
      rw [ht] at HC1
      obtain ⟨S, hS⟩ : ∃ S, bts t = S := ⟨_, rfl⟩
      have HS := Lib.hid hS
      rw [hS] at HC1
      rw [HL.out]
      clear ih herr hx2 hn hrow hb0 hes ha1 ha2 u1 u2 hlen hrest hcap hmax ht hS hk1 hk6 hb9 hsz hN hbig
      go_enter Tryd.func28, Tryd.ntmps28
      go_upto_region 1 with fail
      rw [← hW0, ← hcx]
      clear hW0 hcx
      go_wp2_with fail
      refine Calls.mono HC1.out ?_
      rintro e' W1 ⟨rfl, hl⟩
      have HB1 := Lib.hid (HB9.out.trans (hl.mono HB9.out.size))
      clear hl
      go_wp2_with fail
      go_ret
      refine ⟨_, 1, 1, rfl, rfl, Nat.le_refl _, by omega, fun _ => ⟨W1.heap.size, 0, rfl, HB1.out.size, by simp, fun i v hi => ?_⟩, by have := HB1.out; exact this.alloc HB1.out.size _⟩
      rw [Nat.zero_add, cell_top _ _ _ _ _ rfl]
      cases i with
      | zero =>
        have : v = .string S := by rw [← HS.out]; simpa [txv] using hi.symm
        rw [this]; rfl
      | succ i => simp [txv] at hi
    · have hn2 : n ≤ 2 := by rw [hlen]; unfold Ask.inner; split <;> (try split) <;> omega
      have HL : Hid ((Ask.mk k ka va nu l).leaves = Ask.leavess l) := Lib.hid (by rw [Ask.leaves, if_neg h3])
      rw [HL.out]
      have HBIG := Lib.hid hbig
      have HN9 := Lib.hid hN
      obtain ⟨B, hB⟩ : ∃ B, B = w.heap.size := ⟨_, rfl⟩
      have HB := Lib.hid hB
      have HS0 : Hid (RowR B w W0 none (addL [] (Ask.leavess (l.take 0))) (.slice none 0 0)) := Lib.hid ((RowR.start (K := []) (World.ownsRow_nil _ _ _ _)).step hb9)
      clear ih herr hx2 hn hrow hb0 hes ha1 ha2 u1 u2 hlen hrest hcap hb9 hsz hN hbig hB hk1 hk6
      go_enter Tryd.func28, Tryd.ntmps28
      go_upto_region 1 with fail
      rw [← hW0, ← hcx]
      clear hW0 hcx
      go_wp2_with fail
      go_loopg [3, 17] n (fun g x y wr => ∃ (j : Nat) (xa : Option Addr) (xm xc : Nat), j + g = n ∧ y = .int .i64 (j : Int) ∧ x = .slice xa xm xc ∧ Hid (xm = (addL [] (Ask.leavess (l.take j))).length ∧ RowR B w wr none (addL [] (Ask.leavess (l.take j))) (.slice xa xm xc)))
      case atStart => exact ⟨0, none, 0, 0, by omega, rfl, rfl, Lib.hid ⟨rfl, HS0.out⟩⟩
      case round =>
        obtain ⟨j, xa, xm, xc, hj, rfl, rfl, HRW⟩ := hrel
        by_cases hjn : j < n
        · obtain ⟨y, hy⟩ : ∃ y, l[j]? = some y := ⟨_, List.getElem?_eq_getElem (by rw [← HN.out]; exact hjn)⟩
          obtain ⟨b, off, rfl, hb, hat⟩ := HR.out (by omega)
          have hbw := below_rowR HRW.out.2
          obtain ⟨ad', len', cap', c0, c1, c2, c3, c4, hyv⟩ := (AsksV.below hbw l b off hb hat).get hy
          have hbr : b < wr.heap.size := Nat.lt_of_lt_of_le hb hbw.size
          have hj1 : (0 : Int) ≤ (j : Int) := by omega
          have hj2 : (j : Int) < (n : Int) := by omega
          obtain ⟨k1, hk1⟩ : ∃ a, bts y.key = a := ⟨_, rfl⟩
          obtain ⟨k2, hk2⟩ : ∃ a, bts y.val = a := ⟨_, rfl⟩
          obtain ⟨k0, hk0⟩ : ∃ a, y.kind = a := ⟨_, rfl⟩
          obtain ⟨k3, hk3⟩ : ∃ a, y.num = a := ⟨_, rfl⟩
          rw [hk0] at c0 hyv
          rw [hk1] at c1 hyv
          rw [hk2] at c2 hyv
          rw [hk3] at c3 hyv
          obtain ⟨wx, hwx⟩ : ∃ wx, wx = wr.alloc (.cells #[.int .i64 k0, .string k1, .string k2, .int .i64 k3, .slice ad' len' cap'] 24) := ⟨_, rfl⟩
          have hbx : Below wr.heap.size wr wx := by rw [hwx]; exact (Below.refl _ _).alloc (Nat.le_refl _) _
          have HRX := Lib.hid (HRW.out.2.step hbx)
          have HXM := Lib.hid HRW.out.1
          have HC := Lib.hid (HIH.out y _ wx (by have := Ask.sizes_at hy; have := HN9.out; omega) (Ask.errs_at HES.out hy) (by have := Ask.sizes_at hy; have := HBIG.out; omega) (AskV.below hbx _ _ hyv))
          have HSUC : Hid (addL (addL [] (Ask.leavess (l.take j))) (addL [] y.leaves) = addL [] (Ask.leavess (l.take (j + 1)))) := Lib.hid (by rw [Ask.leavess_take hy, addL_append, addL_nil])
          have hK0 : (addL [] (Ask.leavess (l.take j))).length + (addL [] y.leaves).length ≤ 3000 := by
            have h1 := addL_len [] (Ask.leavess (l.take j))
            have h2 := Ask.leavess_len (l.take j)
            have h3 := addL_len [] y.leaves
            have h4 := Ask.leaves_len y
            have h5 := Ask.sizes_take_le l j
            have h6 := Ask.sizes_at hy
            have h7 := HBIG.out
            simp only [List.length_nil] at h1 h3
            omega
          obtain ⟨K0, hK0'⟩ : ∃ K, addL [] (Ask.leavess (l.take j)) = K := ⟨_, rfl⟩
          obtain ⟨T, hT⟩ : ∃ K, addL [] y.leaves = K := ⟨_, rfl⟩
          rw [hK0'] at HRX HXM HSUC hK0
          rw [hT] at HC HSUC hK0
          have HK0 := Lib.hid hK0
          have hj9 : j ≤ 2 := by omega
          clear hat hy hyv hbx hk0 hk1 hk2 hk3 hbw hK0' hT hK0
          go_wp2_with fail
          rw [← hwx]
          refine Calls.mono HC.out ?_
          rintro e' W3 ⟨ta, tm, tc, rfl, htm, htc, htc2, hfr, hl⟩
          have hR3 := HRX.out.step hl
          obtain ⟨r3, hr3⟩ : ∃ r, Value.ownBlock (.slice xa xm xc) = r := ⟨_, rfl⟩
          have HR3 := Lib.hid hR3
          have HTM := Lib.hid htm
          have HFR := Lib.hid hfr
          have HNE : Hid (∀ b, wx.heap.size ≤ b → some b ≠ r3) := Lib.hid (fun b hb e => by have := (HRX.out.own.lt b (by rw [hr3]; exact e.symm)).2; omega)
          have HS3 : Hid (RowR B W3 W3 r3 (addL K0 (T.take 0)) (.slice xa xm xc)) := Lib.hid (by rw [← hr3]; exact RowR.start hR3.own)
          have HR3R := Lib.hid hr3
          have htm9 : tm ≤ 3000 := by have := HK0.out; omega
          have HSZ3 : Hid (B ≤ W3.heap.size) := Lib.hid (by have := hR3.saves.size; have := HB.out; omega)
          clear htm hfr hl hR3 hr3 hwx c0 c1 c2 c3 c4
          go_wp2_with fail
          go_loopg [3, 24] tm (fun g x y wr => ∃ (i : Nat) (ya : Option Addr) (ym yc : Nat), i + g = tm ∧ y = .int .i64 (i : Int) ∧ x = .slice ya ym yc ∧ Hid (ym = (addL K0 (T.take i)).length ∧ RowR B W3 wr r3 (addL K0 (T.take i)) (.slice ya ym yc)))
          case atStart => exact ⟨0, xa, xm, xc, by omega, rfl, rfl, Lib.hid ⟨HXM.out, HS3.out⟩⟩
          case round =>
            obtain ⟨i, ya, ym, yc, hi, rfl, rfl, HRI⟩ := hrel
            by_cases hin : i < tm
            · obtain ⟨t, ht⟩ : ∃ t, T[i]? = some t := ⟨_, List.getElem?_eq_getElem (by rw [← HTM.out]; exact hin)⟩
              obtain ⟨tb, toff, rfl, htb, htb2, htc⟩ := HFR.out (by rw [txv_length, ← HTM.out]; omega)
              obtain ⟨S, hS⟩ : ∃ S, bts t = S := ⟨_, rfl⟩
              have hrd : wr.cell? ⟨tb, toff + i, none⟩ = some (.string S) := by
                rw [cell_of_block (p := ⟨tb, toff + i, none⟩) (HRI.out.2.keep htb2 (HNE.out tb htb)), ← hS]
                exact htc i _ (txv_at ht)
              have hi1 : (0 : Int) ≤ (i : Int) := by omega
              have hi2 : (i : Int) < (tm : Int) := by omega
              have HS := Lib.hid hS
              have hym : ym ≤ 6000 := by
                have := addL_len K0 (T.take i)
                have := HRI.out.1
                have := HK0.out
                have := HTM.out
                rw [List.length_take] at *
                omega
              have HC2 := Lib.hid (hasK (addL K0 (T.take i)) ym (bts t) ya yc wr HRI.out.1 (vals_own HRI.out.2.own) (by omega))
              rw [lst_bts] at HC2
              rw [hS] at HC2
              have HSI := Lib.hid (addL_take (K := K0) ht)
              have HYM := Lib.hid HRI.out.1
              have HRI2 := Lib.hid HRI.out.2
              clear ht htc hS htb htb2
              obtain ⟨K, hK⟩ : ∃ K, addL K0 (T.take i) = K := ⟨_, rfl⟩
              rw [hK] at HC2 HSI HYM HRI2
              clear hK
              by_cases hit : t ∈ K
              · rw [show decide (t ∈ K) = true from by simpa using hit] at HC2
                have HK : Hid (addL K0 (T.take (i + 1)) = K) := Lib.hid (by rw [HSI.out]; unfold addT; rw [if_pos hit])
                clear hit
                go_wp2_with fail
                refine Calls.mono HC2.out ?_
                rintro e' W4 ⟨rfl, hl⟩
                have HR4 := Lib.hid (HRI2.out.step hl)
                clear hl
                go_wp2_with fail
                go_roundg (tm - (i + 1))
                case measure => omega
                case rel => exact ⟨i + 1, ya, ym, yc, by omega, by simp, rfl, Lib.hid (by rw [HK.out]; exact ⟨HYM.out, HR4.out⟩)⟩
              · rw [show decide (t ∈ K) = false from by simpa using hit] at HC2
                have HK : Hid (addL K0 (T.take (i + 1)) = K ++ [t]) := Lib.hid (by rw [HSI.out]; unfold addT; rw [if_neg hit])
                clear hit
                go_wp2_with fail
                refine Calls.mono HC2.out ?_
                rintro e' W4 ⟨rfl, hl⟩
                have HR4 := Lib.hid (HRI2.out.step hl)
                have hszw : B ≤ W4.heap.size := by have := HR4.out.saves.size; have := HSZ3.out; omega
                have HOWN : Hid (W4.ownsRow B 9 1 (.slice ya ym yc) ym (txv K)) := Lib.hid (by have := HR4.out.own; rw [← HYM.out] at this; exact this)
                clear hl
                go_wp2_with (at_builtin; go_loud (refine wpList_push W4 (by rfl) _ _ 41 (by rfl) B 9 (.string ⟨#[]⟩) 16 Tryd.underlying41 infoStr (by rfl) (.slice ya ym yc) ym (txv K) (.string S) _ rfl (by rfl) HOWN.out (by rfl) (by rfl) (by unfold maxLen; omega) (by omega) hszw ?_; intro gg cap3 w5 hown hgrow hgb hgl2; have HR5 : Hid (RowR B W3 w5 r3 (K ++ [t]) (.slice (some ⟨gg, 0, none⟩) (ym + 1) cap3)) := Lib.hid (by have h := HR4.out.push (t := t) (g := gg) (cap := cap3) (by rw [← HYM.out, HS.out]; exact hown) hgrow hgb; rw [← HYM.out] at h; exact h); clear hown hgrow hgb))
                go_roundg (tm - (i + 1))
                case measure => omega
                case rel => exact ⟨i + 1, some ⟨gg, 0, none⟩, ym + 1, cap3, by omega, by simp, rfl, Lib.hid (by rw [HK.out]; exact ⟨by rw [List.length_append, ← HYM.out]; rfl, HR5.out⟩)⟩
            · obtain rfl : i = tm := by omega
              have HRF := HRI.out
              rw [HTM.out, List.take_length, HSUC.out] at HRF
              have HRG := Lib.hid HRF
              have HRO : Hid (RowR B w wr none (addL [] (Ask.leavess (l.take (j + 1)))) (.slice ya ym yc)) := Lib.hid (HR3.out.trans (by rw [HR3R.out]; exact HRG.out.2))
              clear HRF
              go_wp2_with fail
              go_roundg (n - (j + 1))
              case measure => omega
              case rel => exact ⟨j + 1, ya, ym, yc, by omega, by simp, rfl, Lib.hid ⟨HRG.out.1, HRO.out⟩⟩
        · obtain rfl : j = n := by omega
          have HRF := HRW.out
          rw [HN.out, List.take_length] at HRF
          have HRG := Lib.hid HRF
          clear HRF
          go_wp2_with fail
          go_ret
          obtain ⟨a', c', hu, hc1, hc2, _⟩ := ownForm HRG.out.2.own
          cases hu
          refine ⟨_, _, _, rfl, HRG.out.1, by have := HRG.out.1; omega, by omega, ?_, below_rowR HRG.out.2⟩
          have := fresh_own HRG.out.2.own
          rw [HB.out] at this
          exact this
theorem Atoms_any (x : Ask) (v : Value) (w : World) (he : x.err = 0) (hs : x.size ≤ 1000) (hx : AskV w x v) : Calls Tryd.prog 28 #[v] w (RefAQ w (addL [] x.leaves)) := refAtoms_all x.size x v w (Nat.le_refl _) he hs hx
end Go.Proofs.YtkelkpfjkjcmgaaDoor
