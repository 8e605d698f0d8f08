/- Contract: the text of a good ask, as deep as it goes; the program's. -/
import Derived.Test.YtkemlckmfgacdaaGreatDoorJnP18
import Derived.Test.YtkemlckmfgacdaaGreatDoorJnP6
namespace Go.Proofs.YtkemlckmfgacdaaGreatDoor
set_option maxRecDepth 20000
set_option maxHeartbeats 64000000
open Go.ChangeShapes Go.WideShapes Go.ChangeAt Go.RowKit
set_option linter.unusedVariables false
open Tp
namespace Ar
set_option maxRecDepth 20000
set_option maxHeartbeats 64000000
theorem txt_len : ∀ (N : Nat) (x : Ask), x.size ≤ N → x.err = 0 → (txt x).length ≤ 45 * x.size
 | 0, x, h, _ => by have := Ask.one_le x; omega
 | N + 1, .mk k a b n l, h, he => by
  obtain ⟨hb0, hes⟩ := Ask.err_zero he
  obtain ⟨hk1, hk6, hlen, hn0, hnu, hnu2, _, _, hu, hl1, hl2⟩ := Ask.bad_zero hb0
  rw [Ask.size] at h ⊢
  rw [txt]
  by_cases h1 : k = 1
  ·have := lab_short (hl1 (.inl h1))
   rw [if_pos h1]; simp; omega
  rw [if_neg h1]
  by_cases h2 : k = 2
  ·have := lab_short (hl1 (.inr h2))
   have := lab_short (hl2 h2)
   rw [if_pos h2]; simp; omega
  rw [if_neg h2]
  by_cases h3 : k = 3
  ·have := unit_short (hu h3)
   have := Nt.dec_len 18 n.toNat (by omega)
   rw [if_pos h3]; simp; omega
  rw [if_neg h3]
  by_cases h4 : k = 4
  ·subst h4
   have h1l : l.length = 1 := hlen
   match l, h1l with
   | [y], _ =>
    have hy := txt_len N y (by rw [Ask.sizes, Ask.sizes] at h; omega) (Ask.errs_at hes (i := 0) rfl)
    rw [if_pos rfl, Ask.sizes, Ask.sizes]
    simp [txts]; omega
  rw [if_neg h4]
  have h2l : l.length = 2 := by rw [hlen]; unfold Ask.inner; rw [if_pos (by omega)]
  match l, h2l with
  | [y, z], _ =>
   have hy := txt_len N y (by rw [Ask.sizes, Ask.sizes, Ask.sizes] at h; omega) (Ask.errs_at hes (i := 0) rfl)
   have hz := txt_len N z (by rw [Ask.sizes, Ask.sizes, Ask.sizes] at h; omega) (Ask.errs_at hes (i := 1) rfl)
   have e0 : ¬ k = 0 := by omega
   have e41 : ¬ k = 41 := by omega
   rw [Ask.sizes, Ask.sizes, Ask.sizes]
   simp [txts, e0, e41]
   omega
theorem txt_two {k : Int} {a b : Bs} {n : Int} {y z : Ask} (h : k = 5 ∨ k = 6) : txt (.mk k a b n [y, z]) = 40 :: (txt y ++ (if k = 5 then 38 else 124) :: (txt z ++ [41])) := by
 rcases h with rfl | rfl <;> simp [txt, txts]
end Ar
theorem text_all : ∀ (N : Nat) (x : Ask) (v : Value) (w : World), x.size ≤ N → x.size ≤ 60 → x.err = 0 → Env w → AskV w x v → Calls Tryz.prog 58 #[v] w fun e w' => e = .returned (.string (bts (Ar.txt x))) ∧ Below w.heap.size w w' := by
 intro N
 induction N with
 | zero => intro x v w h; have := Ask.one_le x; omega
 | succ N ih =>
  intro x v w hN h60 herr hev hx
  by_cases hk3 : x.kind ≤ 3
  ·exact textA x v w herr hk3 hev hx
  have HIH := hid ih
  have hx2 := hx
  cases x with
  | mk k ka va nu l =>
  have h3 : ¬ k ≤ 3 := hk3
  rw [AskV] at hx
  obtain ⟨ad, n, cap, rfl, hn, hcap, hmax, u1, u2, hrow⟩ := hx
  obtain ⟨hb0, hes⟩ := Ask.err_zero herr
  obtain ⟨hk1, hk6, hlen, hrest⟩ := Ask.bad_zero hb0
  rw [Ask.size] at hN h60
  rw [← hn] at hlen
  have HLEN := hid hlen
  have HN := hid hn
  have HR := hid hrow
  have HES := hid hes
  obtain ⟨V, hV⟩ : ∃ V, bts (Ar.txt (Ask.mk k ka va nu l)) = V := ⟨_, rfl⟩
  have HV := hid hV
  rw [hV]
  obtain ⟨a1, ha1⟩ : ∃ a, bts ka = a := ⟨_, rfl⟩
  obtain ⟨a2, ha2⟩ : ∃ a, bts va = a := ⟨_, rfl⟩
  rw [ha1, ha2]
  clear ih herr hx2 hn hb0 hes hV ha1 ha2 u1 u2 hlen hrest hcap hmax hk3
  obtain ⟨W0, hW0⟩ : ∃ W, W = w.alloc (.cells #[.int .i64 k, .string a1, .string a2, .int .i64 nu, .slice ad n cap] 26) := ⟨_, rfl⟩
  have hb9 : Below w.heap.size w W0 := be0 hW0
  have HB9 := hid hb9
  obtain ⟨cx, hcx⟩ : ∃ c, c = w.heap.size := ⟨_, rfl⟩
  have d0 : W0.cell? ⟨cx, 0, none⟩ = some (.int .i64 k) := by rw [hW0]; exact (cell_top _ _ _ _ _ hcx).trans rfl
  have d4 : W0.cell? ⟨cx, 4, none⟩ = some (.slice ad n cap) := by rw [hW0]; exact (cell_top _ _ _ _ _ hcx).trans rfl
  have hcx0 : cx < W0.heap.size := by rw [hW0, hcx]; simp
  have HE0 := hid (hev.below hb9 lr)
  have hn0 : 0 < n := by rw [HLEN.out]; unfold Ask.inner; split <;> (try split) <;> omega
  obtain ⟨y, hy⟩ : ∃ y, l[0]? = some y := ⟨_, List.getElem?_eq_getElem (by rw [← HN.out]; exact hn0)⟩
  obtain ⟨bl, off, rfl, hb, hat⟩ := hrow hn0
  have hy1 := Ask.sizes_at hy
  have HY0 := hid (Ask.errs_at HES.out hy)
  have HYL := hid (Ar.txt_len y.size y lr HY0.out)
  have hat0 := AsksV.below hb9 l bl off hb hat
  obtain ⟨k0, k1, k2, k3, ad0, len0, cap0, c0, c1, c2, c3, c4, hyv⟩ := hat0.get' hy
  simp only [Nat.zero_mul, Nat.add_zero] at c0 c1 c2 c3 c4
  have hbr : bl < W0.heap.size := Nat.lt_of_lt_of_le hb hb9.size
  have hnz : (0 : Int) < (n : Int) := by omega
  obtain ⟨Y, hY⟩ : ∃ Y, bts (Ar.txt y) = Y := ⟨_, rfl⟩
  have HC0 : Hid (∀ W, Below W0.heap.size W0 W → Calls Tryz.prog 58 #[.agg #[.int .i64 k0, .string k1, .string k2, .int .i64 k3, .slice ad0 len0 cap0]] W fun e w' => e = .returned (.string Y) ∧ Below W.heap.size W w') := hid (fun W hW => by
   rw [← hY]
   exact HIH.out y _ W (by omega) (by omega) HY0.out (HE0.out.below hW lr) (AskV.below hW _ _ hyv))
  have hYs : Y.size ≤ 2700 := by rw [← hY, bts_size]; have := HYL.out; omega
  have hk456 : k = 4 ∨ k = 5 ∨ k = 6 := by omega
  rcases hk456 with rfl | h56
  ·have HVV : Hid ((⟨#[33]⟩ : ByteArray) ++ Y = V) := hid (by
    rw [← HV.out, ← hY, show (⟨#[33]⟩ : ByteArray) = bts [33] from rfl, bts_append]
    have h1l : l.length = 1 := HN.out ▸ HLEN.out
    match l, h1l, hy with
    | [_], _, hy => simp at hy; subst hy; rw [Ar.txt4]; rfl)
   have hnn : ¬ 9223372036854775807 < 1 + Y.size := by omega
   clear hat hat0 hy hyv hb9 hrow h3 hy1 hN h60 hY hYs hk1 hk6
   go_enter Tryz.func58, Tryz.ntmps58
   go_upto_region 9 with fail
   rw [← hW0, ← hcx]
   clear hW0 hcx
   go_wp2_with fail
   refine Calls.mono (HC0.out _ (Below.refl _ _)) ?_
   rintro e w1 ⟨rfl, hb1⟩
   have HB1 := hid hb1
   clear hb1
   go_wp2_with fail
   go_ret
   exact ⟨by rw [← HVV.out]; rfl, HB9.out.trans (HB1.out.mono HB9.out.size)⟩
  have hlen2 : n = 2 := by rw [HLEN.out]; unfold Ask.inner; rw [if_pos h56]
  subst hlen2
  obtain ⟨z, hz⟩ : ∃ z, l[1]? = some z := ⟨_, List.getElem?_eq_getElem (by rw [← HN.out]; omega)⟩
  have hz1 := Ask.sizes_at hz
  have HZ0 := hid (Ask.errs_at HES.out hz)
  have HZL := hid (Ar.txt_len z.size z lr HZ0.out)
  obtain ⟨m0, m1, m2, m3, ad1, len1, cap1, z0, z1, z2, z3, z4, hzv⟩ := hat0.get' hz
  simp only [Nat.one_mul] at z0 z1 z2 z3 z4
  obtain ⟨Z, hZ⟩ : ∃ Z, bts (Ar.txt z) = Z := ⟨_, rfl⟩
  have HC1 : Hid (∀ W, Below W0.heap.size W0 W → Calls Tryz.prog 58 #[.agg #[.int .i64 m0, .string m1, .string m2, .int .i64 m3, .slice ad1 len1 cap1]] W fun e w' => e = .returned (.string Z) ∧ Below W.heap.size W w') := hid (fun W hW => by
   rw [← hZ]
   exact HIH.out z _ W (by omega) (by omega) HZ0.out (HE0.out.below hW lr) (AskV.below hW _ _ hzv))
  have hZs : Z.size ≤ 2700 := by rw [← hZ, bts_size]; have := HZL.out; omega
  have HNL : Hid (l = [y, z]) := hid (by
   match l, hy, hz, HN.out with
   | [_, _], hy, hz, _ => simp at hy hz; subst hy hz; rfl)
  have HSIZE := hid (show ∀ (a b : ByteArray), (a ++ b).size = a.size + b.size from fun a b => ByteArray.size_append)
  have HDX : Hid (∀ W, Below W0.heap.size W0 W → W.cell? ⟨cx, 4, none⟩ = some (.slice (some ⟨bl, off, none⟩) 2 cap) ∧ W.cell? ⟨bl, off, none⟩ = some (.int .i64 k0) ∧ W.cell? ⟨bl, off + 1, none⟩ = some (.string k1) ∧ W.cell? ⟨bl, off + 2, none⟩ = some (.string k2) ∧ W.cell? ⟨bl, off + 3, none⟩ = some (.int .i64 k3) ∧ W.cell? ⟨bl, off + 4, none⟩ = some (.slice ad0 len0 cap0) ∧ W.cell? ⟨bl, off + 5, none⟩ = some (.int .i64 m0) ∧ W.cell? ⟨bl, off + 5 + 1, none⟩ = some (.string m1) ∧ W.cell? ⟨bl, off + 5 + 2, none⟩ = some (.string m2) ∧ W.cell? ⟨bl, off + 5 + 3, none⟩ = some (.int .i64 m3) ∧ W.cell? ⟨bl, off + 5 + 4, none⟩ = some (.slice ad1 len1 cap1)) := hid (fun W hW =>
   ⟨(hW.cell (p := ⟨cx, 4, none⟩) hcx0).trans d4, (hW.cell (p := ⟨bl, off, none⟩) hbr).trans c0, (hW.cell (p := ⟨bl, off + 1, none⟩) hbr).trans c1, (hW.cell (p := ⟨bl, off + 2, none⟩) hbr).trans c2, (hW.cell (p := ⟨bl, off + 3, none⟩) hbr).trans c3, (hW.cell (p := ⟨bl, off + 4, none⟩) hbr).trans c4, (hW.cell (p := ⟨bl, off + 5, none⟩) hbr).trans z0, (hW.cell (p := ⟨bl, off + 5 + 1, none⟩) hbr).trans z1, (hW.cell (p := ⟨bl, off + 5 + 2, none⟩) hbr).trans z2, (hW.cell (p := ⟨bl, off + 5 + 3, none⟩) hbr).trans z3, (hW.cell (p := ⟨bl, off + 5 + 4, none⟩) hbr).trans z4⟩)
  rcases h56 with rfl | rfl
  ·obtain ⟨p1, hp1⟩ : ∃ p, (⟨#[40]⟩ : ByteArray) ++ Y = p := ⟨_, rfl⟩
   obtain ⟨p2, hp2⟩ : ∃ p, p1 ++ (⟨#[38]⟩ : ByteArray) = p := ⟨_, rfl⟩
   obtain ⟨p3, hp3⟩ : ∃ p, p2 ++ Z = p := ⟨_, rfl⟩
   have e40 : (⟨#[40]⟩ : ByteArray).size = 1 := rfl
   have eS : (⟨#[38]⟩ : ByteArray).size = 1 := rfl
   have hs1 : p1.size ≤ 2701 := by rw [← hp1, ByteArray.size_append]; omega
   have hs2 : p2.size ≤ 2702 := by rw [← hp2, ByteArray.size_append]; omega
   have hs3 : p3.size ≤ 5402 := by rw [← hp3, ByteArray.size_append]; omega
   have HVV : Hid (p3 ++ (⟨#[41]⟩ : ByteArray) = V) := hid (by
    rw [← HV.out, ← hp3, ← hp2, ← hp1, ← hY, ← hZ, HNL.out, Ar.txt_two (by decide), show (⟨#[40]⟩ : ByteArray) = bts [40] from rfl, show (⟨#[38]⟩ : ByteArray) = bts [38] from rfl, show (⟨#[41]⟩ : ByteArray) = bts [41] from rfl, bts_append, bts_append, bts_append, bts_append]
    simp)
   have hn1 : ¬ 9223372036854775807 < 1 + Y.size := by omega
   have hn2 : ¬ 9223372036854775807 < p1.size + 1 := by omega
   have hn3 : ¬ 9223372036854775807 < p2.size + Z.size := by omega
   have hn4 : ¬ 9223372036854775807 < p3.size + 1 := by omega
   clear hat hat0 hy hyv hb9 hrow h3 hy1 hN h60 hY hYs hk1 hk6 hz hz1 hzv hZ hZs hs1 hs2 hs3 e40 eS c0 c1 c2 c3 c4 z0 z1 z2 z3 z4
   go_enter Tryz.func58, Tryz.ntmps58
   go_upto_region 11 with fail
   rw [← hW0, ← hcx]
   clear hW0 hcx d0 d4
   go_region_held3 (fun W => W.cell? ⟨cx, 4, none⟩ = some (.slice (some ⟨bl, off, none⟩) 2 cap) ∧ W.cell? ⟨bl, off, none⟩ = some (.int .i64 k0) ∧ W.cell? ⟨bl, off + 1, none⟩ = some (.string k1) ∧ W.cell? ⟨bl, off + 2, none⟩ = some (.string k2) ∧ W.cell? ⟨bl, off + 3, none⟩ = some (.int .i64 k3) ∧ W.cell? ⟨bl, off + 4, none⟩ = some (.slice ad0 len0 cap0) ∧ W.cell? ⟨bl, off + 5, none⟩ = some (.int .i64 m0) ∧ W.cell? ⟨bl, off + 5 + 1, none⟩ = some (.string m1) ∧ W.cell? ⟨bl, off + 5 + 2, none⟩ = some (.string m2) ∧ W.cell? ⟨bl, off + 5 + 3, none⟩ = some (.int .i64 m3) ∧ W.cell? ⟨bl, off + 5 + 4, none⟩ = some (.slice ad1 len1 cap1))
    (exact HDX.out _ (by first | exact Below.refl _ _ | exact HU2.out | exact HU1.out | exact (Below.refl _ _).drew | exact HU2.out.drew | exact HU1.out.drew))
    (first
     | (go_at_call 58; with_reducible refine Calls.mono (HC0.out _ (by first | exact Below.refl _ _ | exact HU2.out | exact HU1.out | exact (Below.refl _ _).drew | exact HU2.out.drew | exact HU1.out.drew)) ?_; rintro e w1 ⟨rfl, hb1⟩; have HU1 := hid (show Below W0.heap.size W0 w1 from Below.trans (by first | exact Below.refl _ _ | exact HU2.out | exact HU1.out | exact (Below.refl _ _).drew | exact HU2.out.drew | exact HU1.out.drew) (hb1.mono (show Below W0.heap.size W0 _ from (by first | exact Below.refl _ _ | exact HU2.out | exact HU1.out | exact (Below.refl _ _).drew | exact HU2.out.drew | exact HU1.out.drew)).size)); clear hb1)
     | (go_at_call 58; with_reducible refine Calls.mono (HC1.out _ (by first | exact Below.refl _ _ | exact HU2.out | exact HU1.out | exact (Below.refl _ _).drew | exact HU2.out.drew | exact HU1.out.drew)) ?_; rintro e w2 ⟨rfl, hb2⟩; have HU2 := hid (show Below W0.heap.size W0 w2 from Below.trans (by first | exact Below.refl _ _ | exact HU2.out | exact HU1.out | exact (Below.refl _ _).drew | exact HU2.out.drew | exact HU1.out.drew) (hb2.mono (show Below W0.heap.size W0 _ from (by first | exact Below.refl _ _ | exact HU2.out | exact HU1.out | exact (Below.refl _ _).drew | exact HU2.out.drew | exact HU1.out.drew)).size)); clear hb2))
   all_goals
    go_wp2_with fail
    go_ret
    exact ⟨by rw [← HVV.out]; rfl, HB9.out.trans (HU2.out.mono HB9.out.size)⟩
  ·obtain ⟨p1, hp1⟩ : ∃ p, (⟨#[40]⟩ : ByteArray) ++ Y = p := ⟨_, rfl⟩
   obtain ⟨p2, hp2⟩ : ∃ p, p1 ++ (⟨#[124]⟩ : ByteArray) = p := ⟨_, rfl⟩
   obtain ⟨p3, hp3⟩ : ∃ p, p2 ++ Z = p := ⟨_, rfl⟩
   have e40 : (⟨#[40]⟩ : ByteArray).size = 1 := rfl
   have eS : (⟨#[124]⟩ : ByteArray).size = 1 := rfl
   have hs1 : p1.size ≤ 2701 := by rw [← hp1, ByteArray.size_append]; omega
   have hs2 : p2.size ≤ 2702 := by rw [← hp2, ByteArray.size_append]; omega
   have hs3 : p3.size ≤ 5402 := by rw [← hp3, ByteArray.size_append]; omega
   have HVV : Hid (p3 ++ (⟨#[41]⟩ : ByteArray) = V) := hid (by
    rw [← HV.out, ← hp3, ← hp2, ← hp1, ← hY, ← hZ, HNL.out, Ar.txt_two (by decide), show (⟨#[40]⟩ : ByteArray) = bts [40] from rfl, show (⟨#[124]⟩ : ByteArray) = bts [124] from rfl, show (⟨#[41]⟩ : ByteArray) = bts [41] from rfl, bts_append, bts_append, bts_append, bts_append]
    simp)
   have hn1 : ¬ 9223372036854775807 < 1 + Y.size := by omega
   have hn2 : ¬ 9223372036854775807 < p1.size + 1 := by omega
   have hn3 : ¬ 9223372036854775807 < p2.size + Z.size := by omega
   have hn4 : ¬ 9223372036854775807 < p3.size + 1 := by omega
   clear hat hat0 hy hyv hb9 hrow h3 hy1 hN h60 hY hYs hk1 hk6 hz hz1 hzv hZ hZs hs1 hs2 hs3 e40 eS c0 c1 c2 c3 c4 z0 z1 z2 z3 z4
   go_enter Tryz.func58, Tryz.ntmps58
   go_upto_region 12 with fail
   rw [← hW0, ← hcx]
   clear hW0 hcx d0 d4
   go_region_held3 (fun W => W.cell? ⟨cx, 4, none⟩ = some (.slice (some ⟨bl, off, none⟩) 2 cap) ∧ W.cell? ⟨bl, off, none⟩ = some (.int .i64 k0) ∧ W.cell? ⟨bl, off + 1, none⟩ = some (.string k1) ∧ W.cell? ⟨bl, off + 2, none⟩ = some (.string k2) ∧ W.cell? ⟨bl, off + 3, none⟩ = some (.int .i64 k3) ∧ W.cell? ⟨bl, off + 4, none⟩ = some (.slice ad0 len0 cap0) ∧ W.cell? ⟨bl, off + 5, none⟩ = some (.int .i64 m0) ∧ W.cell? ⟨bl, off + 5 + 1, none⟩ = some (.string m1) ∧ W.cell? ⟨bl, off + 5 + 2, none⟩ = some (.string m2) ∧ W.cell? ⟨bl, off + 5 + 3, none⟩ = some (.int .i64 m3) ∧ W.cell? ⟨bl, off + 5 + 4, none⟩ = some (.slice ad1 len1 cap1))
    (exact HDX.out _ (by first | exact Below.refl _ _ | exact HU2.out | exact HU1.out | exact (Below.refl _ _).drew | exact HU2.out.drew | exact HU1.out.drew))
    (first
     | (go_at_call 58; with_reducible refine Calls.mono (HC0.out _ (by first | exact Below.refl _ _ | exact HU2.out | exact HU1.out | exact (Below.refl _ _).drew | exact HU2.out.drew | exact HU1.out.drew)) ?_; rintro e w1 ⟨rfl, hb1⟩; have HU1 := hid (show Below W0.heap.size W0 w1 from Below.trans (by first | exact Below.refl _ _ | exact HU2.out | exact HU1.out | exact (Below.refl _ _).drew | exact HU2.out.drew | exact HU1.out.drew) (hb1.mono (show Below W0.heap.size W0 _ from (by first | exact Below.refl _ _ | exact HU2.out | exact HU1.out | exact (Below.refl _ _).drew | exact HU2.out.drew | exact HU1.out.drew)).size)); clear hb1)
     | (go_at_call 58; with_reducible refine Calls.mono (HC1.out _ (by first | exact Below.refl _ _ | exact HU2.out | exact HU1.out | exact (Below.refl _ _).drew | exact HU2.out.drew | exact HU1.out.drew)) ?_; rintro e w2 ⟨rfl, hb2⟩; have HU2 := hid (show Below W0.heap.size W0 w2 from Below.trans (by first | exact Below.refl _ _ | exact HU2.out | exact HU1.out | exact (Below.refl _ _).drew | exact HU2.out.drew | exact HU1.out.drew) (hb2.mono (show Below W0.heap.size W0 _ from (by first | exact Below.refl _ _ | exact HU2.out | exact HU1.out | exact (Below.refl _ _).drew | exact HU2.out.drew | exact HU1.out.drew)).size)); clear hb2))
   all_goals
    go_wp2_with fail
    go_ret
    exact ⟨by rw [← HVV.out]; rfl, HB9.out.trans (HU2.out.mono HB9.out.size)⟩
end Go.Proofs.YtkemlckmfgacdaaGreatDoor
namespace Go.Proofs.YtkemlckmfgacdaaGreatDoor
set_option maxRecDepth 20000
set_option maxHeartbeats 64000000
open Go.ChangeShapes Go.WideShapes Go.ChangeAt Go.RowKit
set_option linter.unusedVariables false
set_option linter.unusedSimpArgs false
open Tp
def askTxtOf (x : Ask) : ByteArray := if x.fault = 0 then bts (Ar.txt x) else ⟨#[]⟩
theorem askText_any (x : Ask) (v : Value) (w : World) (hs : x.size ≤ 1000000000) (he : Env w) (hx : AskV w x v) : Calls Tryz.prog 27 #[v] w fun e w' => e = .returned (.tuple #[.string (askTxtOf x), .int .i64 x.fault]) ∧ Below w.heap.size w w' := by
 obtain ⟨x0, x1, x2, x3, xd, xl, xc, rfl⟩ := hx.form
 obtain ⟨B, hB⟩ : ∃ B, B = w.heap.size := ⟨_, rfl⟩
 obtain ⟨W0, hW0⟩ : ∃ W, W = w.alloc (.cells #[.int .i64 x0, .string x1, .string x2, .int .i64 x3, .slice xd xl xc] 26) := ⟨_, rfl⟩
 have hb : Below w.heap.size w W0 := be0 hW0
 have HX0 := hid (AskV.below hb _ _ hx)
 have HE0 := hid (he.below hb lr)
 have HBL := hid hb
 have m0 : W0.cell? ⟨B, 0, none⟩ = some (.int .i64 x0) := by rw [hW0]; exact (cell_top _ _ _ _ _ hB).trans rfl
 have m1 : W0.cell? ⟨B, 1, none⟩ = some (.string x1) := by rw [hW0]; exact (cell_top _ _ _ _ _ hB).trans rfl
 have m2 : W0.cell? ⟨B, 2, none⟩ = some (.string x2) := by rw [hW0]; exact (cell_top _ _ _ _ _ hB).trans rfl
 have m3 : W0.cell? ⟨B, 3, none⟩ = some (.int .i64 x3) := by rw [hW0]; exact (cell_top _ _ _ _ _ hB).trans rfl
 have m4 : W0.cell? ⟨B, 4, none⟩ = some (.slice xd xl xc) := by rw [hW0]; exact (cell_top _ _ _ _ _ hB).trans rfl
 have hBl : B < W0.heap.size := by rw [hW0, hB]; simp
 have HC := hid (askCheck_any x _ W0 hs HX0.out)
 obtain ⟨f, hf⟩ : ∃ f, x.fault = f := ⟨_, rfl⟩
 have HF := hid hf
 rw [hf] at HC ⊢
 obtain ⟨T, hT⟩ : ∃ T, askTxtOf x = T := ⟨_, rfl⟩
 have HT := hid hT
 rw [hT]
 clear hb hx he hs hf hT
 go_enter Tryz.func27, Tryz.ntmps27
 go_upto_region 1 with fail
 rw [← hW0, ← hB]
 clear hW0 hB
 go_wp2_with fail
 refine Calls.mono HC.out ?_
 rintro e w1 ⟨rfl, hb1⟩
 have HB1 := hid hb1
 replace m0 := (hb1.cell (p := ⟨B, 0, none⟩) hBl).trans m0
 replace m1 := (hb1.cell (p := ⟨B, 1, none⟩) hBl).trans m1
 replace m2 := (hb1.cell (p := ⟨B, 2, none⟩) hBl).trans m2
 replace m3 := (hb1.cell (p := ⟨B, 3, none⟩) hBl).trans m3
 replace m4 := (hb1.cell (p := ⟨B, 4, none⟩) hBl).trans m4
 clear hb1
 by_cases h0 : f = 0
 ·subst h0
  have hg := HF.out
  have HG : Hid (x.err = 0 ∧ x.size ≤ 60) := hid (by
   unfold Ask.fault at hg
   split at hg
   ·cases hg
   ·exact ⟨hg, by omega⟩)
  have HTX : Hid (bts (Ar.txt x) = T) := hid (by rw [← HT.out]; unfold askTxtOf; rw [if_pos HF.out])
  have HTT := hid (text_all x.size x _ w1 lr HG.out.2 HG.out.1 (HE0.out.below HB1.out lr) (AskV.below HB1.out _ _ HX0.out))
  rw [HTX.out] at HTT
  clear hg
  go_wp2_with fail
  refine Calls.mono HTT.out ?_
  rintro e w2 ⟨rfl, hb2⟩
  have HB2 := hid hb2
  clear hb2
  go_wp2_with fail
  go_ret2
  exact ⟨rfl, HBL.out.trans ((HB1.out.trans (HB2.out.mono HB1.out.size)).mono HBL.out.size)⟩
 ·have hz : (f == 0) = false := by simpa using h0
  have HTX : Hid ((⟨#[]⟩ : ByteArray) = T) := hid (by rw [← HT.out]; unfold askTxtOf; rw [if_neg (by rw [HF.out]; exact h0)])
  clear h0
  go_wp2_with fail
  go_ret2
  exact ⟨by rw [← HTX.out]; rfl, HBL.out.trans (HB1.out.mono HBL.out.size)⟩
end Go.Proofs.YtkemlckmfgacdaaGreatDoor
