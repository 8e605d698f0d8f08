/- Contract: the text of a good ask, as deep as it goes; the document's. -/
import Derived.Test.YtkemlckmfgacdaaGreatDoorJnP19
import Derived.Test.YtkemlckmfgacdaaGreatDoorJnP21
import Derived.Deep.RegionHeld3
namespace Go.Proofs.YtkemlckmfgacdaaGreatDoor
set_option maxRecDepth 20000
set_option maxHeartbeats 64000000
open Go.ChangeShapes Go.WideShapes Go.ChangeAt Go.RowKit
set_option linter.unusedVariables false
open Tp
inductive UpX (w : World) : World → Prop where
 | refl : UpX w w
 | alloc {w' : World} (o : Obj) : UpX w w' → UpX w (w'.alloc o)
 | drew {w' : World} : UpX w w' → UpX w w'.drew
 | call {w' w'' : World} : UpX w w' → Below w'.heap.size w' w'' → UpX w w''
theorem UpX.bel {w w' : World} (h : UpX w w') : Below w.heap.size w w' := by
 induction h with
 | refl => exact Below.refl _ _
 | alloc o _ ih => exact ih.alloc ih.size o
 | drew _ ih => exact ih.drew
 | call _ hb ih => exact ih.trans (hb.mono ih.size)
theorem refText_all : ∀ (N : Nat) (x : Ask) (v : Value) (w : World), x.size ≤ N → x.size ≤ 60 → x.err = 0 → AskV w x v → Calls Tryz.prog 43 #[v] w fun e w' => e = .returned (.string (bts (Ar.txt x))) ∧ Below w.heap.size w w' := by
 intro N
 induction N with
 | zero => intro x v w h; have := Ask.one_le x; omega
 | succ N ih =>
  intro x v w hN h60 herr hx
  by_cases hk3 : x.kind ≤ 3
  ·exact refTextA x v w herr hk3 hx
  have HIH := hid ih
  have hx2 := hx
  cases x with
  | mk k ka va nu l =>
  have h3 : ¬ k ≤ 3 := hk3
  rw [AskV] at hx
  obtain ⟨ad, n, cap, rfl, hn, hcap, hmax, u1, u2, hrow⟩ := hx
  obtain ⟨hb0, hes⟩ := Ask.err_zero herr
  obtain ⟨hk1, hk6, hlen, hrest⟩ := Ask.bad_zero hb0
  rw [Ask.size] at hN h60
  rw [← hn] at hlen
  have HLEN := hid hlen
  have HN := hid hn
  have HR := hid hrow
  have HES := hid hes
  obtain ⟨V, hV⟩ : ∃ V, bts (Ar.txt (Ask.mk k ka va nu l)) = V := ⟨_, rfl⟩
  have HV := hid hV
  rw [hV]
  obtain ⟨a1, ha1⟩ : ∃ a, bts ka = a := ⟨_, rfl⟩
  obtain ⟨a2, ha2⟩ : ∃ a, bts va = a := ⟨_, rfl⟩
  rw [ha1, ha2]
  clear ih herr hx2 hn hb0 hes hV ha1 ha2 u1 u2 hlen hrest hcap hmax hk3
  obtain ⟨W0, hW0⟩ : ∃ W, W = w.alloc (.cells #[.int .i64 k, .string a1, .string a2, .int .i64 nu, .slice ad n cap] 26) := ⟨_, rfl⟩
  have hb9 : Below w.heap.size w W0 := be0 hW0
  have HB9 := hid hb9
  obtain ⟨cx, hcx⟩ : ∃ c, c = w.heap.size := ⟨_, rfl⟩
  have d0 : W0.cell? ⟨cx, 0, none⟩ = some (.int .i64 k) := by rw [hW0]; exact (cell_top _ _ _ _ _ hcx).trans rfl
  have d4 : W0.cell? ⟨cx, 4, none⟩ = some (.slice ad n cap) := by rw [hW0]; exact (cell_top _ _ _ _ _ hcx).trans rfl
  have hcx0 : cx < W0.heap.size := by rw [hW0, hcx]; simp
  have hn0 : 0 < n := by rw [HLEN.out]; unfold Ask.inner; split <;> (try split) <;> omega
  obtain ⟨y, hy⟩ : ∃ y, l[0]? = some y := ⟨_, List.getElem?_eq_getElem (by rw [← HN.out]; exact hn0)⟩
  obtain ⟨bl, off, rfl, hb, hat⟩ := hrow hn0
  have hy1 := Ask.sizes_at hy
  have HY0 := hid (Ask.errs_at HES.out hy)
  have HYL := hid (Ar.txt_len y.size y lr HY0.out)
  have hat0 := AsksV.below hb9 l bl off hb hat
  obtain ⟨k0, k1, k2, k3, ad0, len0, cap0, c0, c1, c2, c3, c4, hyv⟩ := hat0.get' hy
  simp only [Nat.zero_mul, Nat.add_zero] at c0 c1 c2 c3 c4
  have hbr : bl < W0.heap.size := Nat.lt_of_lt_of_le hb hb9.size
  have hnz : (0 : Int) < (n : Int) := by omega
  obtain ⟨Y, hY⟩ : ∃ Y, bts (Ar.txt y) = Y := ⟨_, rfl⟩
  have HC0 : Hid (∀ W, Below W0.heap.size W0 W → Calls Tryz.prog 43 #[.agg #[.int .i64 k0, .string k1, .string k2, .int .i64 k3, .slice ad0 len0 cap0]] W fun e w' => e = .returned (.string Y) ∧ Below W.heap.size W w') := hid (fun W hW => by
   rw [← hY]
   exact HIH.out y _ W (by omega) (by omega) HY0.out (AskV.below hW _ _ hyv))
  have hYs : Y.size ≤ 2700 := by rw [← hY, bts_size]; have := HYL.out; omega
  have hk456 : k = 4 ∨ k = 5 ∨ k = 6 := by omega
  rcases hk456 with rfl | h56
  ·have HVV : Hid ((⟨#[33]⟩ : ByteArray) ++ Y = V) := hid (by
    rw [← HV.out, ← hY, show (⟨#[33]⟩ : ByteArray) = bts [33] from rfl, bts_append]
    have h1l : l.length = 1 := HN.out ▸ HLEN.out
    match l, h1l, hy with
    | [_], _, hy => simp at hy; subst hy; rw [Ar.txt4]; rfl)
   have hnn : ¬ 9223372036854775807 < 1 + Y.size := by omega
   clear hat hat0 hy hyv hb9 hrow h3 hy1 hN h60 hY hYs hk1 hk6
   go_enter Tryz.func43, Tryz.ntmps43
   go_upto_region 9 with fail
   rw [← hW0, ← hcx]
   clear hW0 hcx
   go_wp2_with fail
   refine Calls.mono (HC0.out _ (Below.refl _ _)) ?_
   rintro e w1 ⟨rfl, hb1⟩
   have HB1 := hid hb1
   clear hb1
   go_wp2_with fail
   go_ret
   exact ⟨by rw [← HVV.out]; rfl, HB9.out.trans (HB1.out.mono HB9.out.size)⟩
  have hlen2 : n = 2 := by rw [HLEN.out]; unfold Ask.inner; rw [if_pos h56]
  subst hlen2
  obtain ⟨z, hz⟩ : ∃ z, l[1]? = some z := ⟨_, List.getElem?_eq_getElem (by rw [← HN.out]; omega)⟩
  have hz1 := Ask.sizes_at hz
  have HZ0 := hid (Ask.errs_at HES.out hz)
  have HZL := hid (Ar.txt_len z.size z lr HZ0.out)
  obtain ⟨m0, m1, m2, m3, ad1, len1, cap1, z0, z1, z2, z3, z4, hzv⟩ := hat0.get' hz
  simp only [Nat.one_mul] at z0 z1 z2 z3 z4
  obtain ⟨Z, hZ⟩ : ∃ Z, bts (Ar.txt z) = Z := ⟨_, rfl⟩
  have HC1 : Hid (∀ W, Below W0.heap.size W0 W → Calls Tryz.prog 43 #[.agg #[.int .i64 m0, .string m1, .string m2, .int .i64 m3, .slice ad1 len1 cap1]] W fun e w' => e = .returned (.string Z) ∧ Below W.heap.size W w') := hid (fun W hW => by
   rw [← hZ]
   exact HIH.out z _ W (by omega) (by omega) HZ0.out (AskV.below hW _ _ hzv))
  have hZs : Z.size ≤ 2700 := by rw [← hZ, bts_size]; have := HZL.out; omega
  have HNL : Hid (l = [y, z]) := hid (by
   match l, hy, hz, HN.out with
   | [_, _], hy, hz, _ => simp at hy hz; subst hy hz; rfl)
  have HSIZE := hid (show ∀ (a b : ByteArray), (a ++ b).size = a.size + b.size from fun a b => ByteArray.size_append)
  have HDX : Hid (∀ W, Below W0.heap.size W0 W → W.cell? ⟨cx, 0, none⟩ = some (.int .i64 k) ∧ W.cell? ⟨cx, 4, none⟩ = some (.slice (some ⟨bl, off, none⟩) 2 cap) ∧ W.cell? ⟨bl, off, none⟩ = some (.int .i64 k0) ∧ W.cell? ⟨bl, off + 1, none⟩ = some (.string k1) ∧ W.cell? ⟨bl, off + 2, none⟩ = some (.string k2) ∧ W.cell? ⟨bl, off + 3, none⟩ = some (.int .i64 k3) ∧ W.cell? ⟨bl, off + 4, none⟩ = some (.slice ad0 len0 cap0) ∧ W.cell? ⟨bl, off + 5, none⟩ = some (.int .i64 m0) ∧ W.cell? ⟨bl, off + 5 + 1, none⟩ = some (.string m1) ∧ W.cell? ⟨bl, off + 5 + 2, none⟩ = some (.string m2) ∧ W.cell? ⟨bl, off + 5 + 3, none⟩ = some (.int .i64 m3) ∧ W.cell? ⟨bl, off + 5 + 4, none⟩ = some (.slice ad1 len1 cap1)) := hid (fun W hW =>
   ⟨(hW.cell (p := ⟨cx, 0, none⟩) hcx0).trans d0, (hW.cell (p := ⟨cx, 4, none⟩) hcx0).trans d4, (hW.cell (p := ⟨bl, off, none⟩) hbr).trans c0, (hW.cell (p := ⟨bl, off + 1, none⟩) hbr).trans c1, (hW.cell (p := ⟨bl, off + 2, none⟩) hbr).trans c2, (hW.cell (p := ⟨bl, off + 3, none⟩) hbr).trans c3, (hW.cell (p := ⟨bl, off + 4, none⟩) hbr).trans c4, (hW.cell (p := ⟨bl, off + 5, none⟩) hbr).trans z0, (hW.cell (p := ⟨bl, off + 5 + 1, none⟩) hbr).trans z1, (hW.cell (p := ⟨bl, off + 5 + 2, none⟩) hbr).trans z2, (hW.cell (p := ⟨bl, off + 5 + 3, none⟩) hbr).trans z3, (hW.cell (p := ⟨bl, off + 5 + 4, none⟩) hbr).trans z4⟩)
  rcases h56 with rfl | rfl
  ·obtain ⟨p1, hp1⟩ : ∃ p, (⟨#[40]⟩ : ByteArray) ++ Y = p := ⟨_, rfl⟩
   obtain ⟨p2, hp2⟩ : ∃ p, p1 ++ (⟨#[38]⟩ : ByteArray) = p := ⟨_, rfl⟩
   obtain ⟨p3, hp3⟩ : ∃ p, p2 ++ Z = p := ⟨_, rfl⟩
   have e40 : (⟨#[40]⟩ : ByteArray).size = 1 := rfl
   have eS : (⟨#[38]⟩ : ByteArray).size = 1 := rfl
   have hs1 : p1.size ≤ 2701 := by rw [← hp1, ByteArray.size_append]; omega
   have hs2 : p2.size ≤ 2702 := by rw [← hp2, ByteArray.size_append]; omega
   have hs3 : p3.size ≤ 5402 := by rw [← hp3, ByteArray.size_append]; omega
   have HVV : Hid (p3 ++ (⟨#[41]⟩ : ByteArray) = V) := hid (by
    rw [← HV.out, ← hp3, ← hp2, ← hp1, ← hY, ← hZ, HNL.out, Ar.txt_two (by decide), show (⟨#[40]⟩ : ByteArray) = bts [40] from rfl, show (⟨#[38]⟩ : ByteArray) = bts [38] from rfl, show (⟨#[41]⟩ : ByteArray) = bts [41] from rfl, bts_append, bts_append, bts_append, bts_append]
    simp)
   have hn1 : ¬ 9223372036854775807 < 1 + Y.size := by omega
   have hn2 : ¬ 9223372036854775807 < p1.size + 1 := by omega
   have hn3 : ¬ 9223372036854775807 < p2.size + Z.size := by omega
   have hn4 : ¬ 9223372036854775807 < p3.size + 1 := by omega
   have hwj : IntKind.i64.wrap 0 = 0 := by decide
   clear hat hat0 hy hyv hb9 hrow h3 hy1 hN h60 hY hYs hk1 hk6 hz hz1 hzv hZ hZs hs1 hs2 hs3 e40 eS
   go_enter Tryz.func43, Tryz.ntmps43
   go_upto_region 10 with fail
   rw [← hW0, ← hcx]
   clear hW0 hcx
   refine wp_region_held_drew (S := fun W => Below W0.heap.size W0 W) (by kernel_rfl) ((Below.refl _ _).drew) (fun hHeld => ?_)
   refine wpAnyH_take (i := 0) (v := ?vb1b0x1) rfl (by kernel_rfl) (by kernel_rfl) (by kernel_rfl) (fun _ _ _ h => h) (Or.inl ⟨by rfl, ?hyb1b0x1⟩) (by assumption) ?restb1b0x1
   case hyb1b0x1 =>
    intro w hSw
    (try dsimp only at hSw)
    go_simp
    (try with_reducible rfl)
   change wpAnyH _ _ _ _ _ _ _ (Act.put _ (some 35) _) _
   try simp only [Act.put, qa1, qa2, qa3]
   refine wpAnyH_take (i := 1) (v := ?vb1b1x2) rfl (by kernel_rfl) (by kernel_rfl) (by kernel_rfl) (fun _ _ _ h => h) (Or.inl ⟨by rfl, ?hyb1b1x2⟩) (by assumption) ?restb1b1x2
   case hyb1b1x2 =>
    intro w hSw
    (try dsimp only at hSw)
    have d0 := (hSw.cell (p := ⟨cx, 0, none⟩) hcx0).trans d0
    have d4 := (hSw.cell (p := ⟨cx, 4, none⟩) hcx0).trans d4
    have c0 := (hSw.cell (p := ⟨bl, off, none⟩) hbr).trans c0
    have c1 := (hSw.cell (p := ⟨bl, off + 1, none⟩) hbr).trans c1
    have c2 := (hSw.cell (p := ⟨bl, off + 2, none⟩) hbr).trans c2
    have c3 := (hSw.cell (p := ⟨bl, off + 3, none⟩) hbr).trans c3
    have c4 := (hSw.cell (p := ⟨bl, off + 4, none⟩) hbr).trans c4
    have z0 := (hSw.cell (p := ⟨bl, off + 5, none⟩) hbr).trans z0
    have z1 := (hSw.cell (p := ⟨bl, off + 5 + 1, none⟩) hbr).trans z1
    have z2 := (hSw.cell (p := ⟨bl, off + 5 + 2, none⟩) hbr).trans z2
    have z3 := (hSw.cell (p := ⟨bl, off + 5 + 3, none⟩) hbr).trans z3
    have z4 := (hSw.cell (p := ⟨bl, off + 5 + 4, none⟩) hbr).trans z4
    go_simp
    (try with_reducible rfl)
   change wpAnyH _ _ _ _ _ _ _ (Act.put _ (some 36) _) _
   try simp only [Act.put, qa1, qa2, qa3]
   refine wpAnyH_take (i := 2) (v := ?vb1b2x3) rfl (by kernel_rfl) (by kernel_rfl) (by kernel_rfl) (fun _ _ _ h => h) (Or.inl ⟨by rfl, ?hyb1b2x3⟩) (by assumption) ?restb1b2x3
   case hyb1b2x3 =>
    intro w hSw
    (try dsimp only at hSw)
    go_simp
    (try with_reducible rfl)
   change wpAnyH _ _ _ _ _ _ _ (Act.put _ (some 37) _) _
   try simp only [Act.put, qa1, qa2, qa3]
   refine wpAnyH_take (i := 3) (v := ?vb1b3x4) rfl (by kernel_rfl) (by kernel_rfl) (by kernel_rfl) (fun _ _ _ h => h) (Or.inl ⟨by rfl, ?hyb1b3x4⟩) (by assumption) ?restb1b3x4
   case hyb1b3x4 =>
    intro w hSw
    (try dsimp only at hSw)
    have d0 := (hSw.cell (p := ⟨cx, 0, none⟩) hcx0).trans d0
    have d4 := (hSw.cell (p := ⟨cx, 4, none⟩) hcx0).trans d4
    have c0 := (hSw.cell (p := ⟨bl, off, none⟩) hbr).trans c0
    have c1 := (hSw.cell (p := ⟨bl, off + 1, none⟩) hbr).trans c1
    have c2 := (hSw.cell (p := ⟨bl, off + 2, none⟩) hbr).trans c2
    have c3 := (hSw.cell (p := ⟨bl, off + 3, none⟩) hbr).trans c3
    have c4 := (hSw.cell (p := ⟨bl, off + 4, none⟩) hbr).trans c4
    have z0 := (hSw.cell (p := ⟨bl, off + 5, none⟩) hbr).trans z0
    have z1 := (hSw.cell (p := ⟨bl, off + 5 + 1, none⟩) hbr).trans z1
    have z2 := (hSw.cell (p := ⟨bl, off + 5 + 2, none⟩) hbr).trans z2
    have z3 := (hSw.cell (p := ⟨bl, off + 5 + 3, none⟩) hbr).trans z3
    have z4 := (hSw.cell (p := ⟨bl, off + 5 + 4, none⟩) hbr).trans z4
    go_simp
    (try with_reducible rfl)
   change wpAnyH _ _ _ _ _ _ _ (Act.put _ (some 38) _) _
   try simp only [Act.put, qa1, qa2, qa3]
   refine wpAnyH_take (i := 7) (v := ?vb1b7x5) rfl (by kernel_rfl) (by kernel_rfl) (by kernel_rfl) (fun _ _ _ h => h) (Or.inl ⟨by rfl, ?hyb1b7x5⟩) (by assumption) ?restb1b7x5
   case hyb1b7x5 =>
    intro w hSw
    (try dsimp only at hSw)
    go_simp
    (try with_reducible rfl)
   change wpAnyH _ _ _ _ _ _ _ (Act.put _ (some 42) _) _
   try simp only [Act.put, qa1, qa2, qa3]
   refine wpAnyH_take (i := 8) (v := ?vb1b8x6) rfl (by kernel_rfl) (by kernel_rfl) (by kernel_rfl) (fun _ _ _ h => h) (Or.inl ⟨by rfl, ?hyb1b8x6⟩) (by assumption) ?restb1b8x6
   case hyb1b8x6 =>
    intro w hSw
    (try dsimp only at hSw)
    have d0 := (hSw.cell (p := ⟨cx, 0, none⟩) hcx0).trans d0
    have d4 := (hSw.cell (p := ⟨cx, 4, none⟩) hcx0).trans d4
    have c0 := (hSw.cell (p := ⟨bl, off, none⟩) hbr).trans c0
    have c1 := (hSw.cell (p := ⟨bl, off + 1, none⟩) hbr).trans c1
    have c2 := (hSw.cell (p := ⟨bl, off + 2, none⟩) hbr).trans c2
    have c3 := (hSw.cell (p := ⟨bl, off + 3, none⟩) hbr).trans c3
    have c4 := (hSw.cell (p := ⟨bl, off + 4, none⟩) hbr).trans c4
    have z0 := (hSw.cell (p := ⟨bl, off + 5, none⟩) hbr).trans z0
    have z1 := (hSw.cell (p := ⟨bl, off + 5 + 1, none⟩) hbr).trans z1
    have z2 := (hSw.cell (p := ⟨bl, off + 5 + 2, none⟩) hbr).trans z2
    have z3 := (hSw.cell (p := ⟨bl, off + 5 + 3, none⟩) hbr).trans z3
    have z4 := (hSw.cell (p := ⟨bl, off + 5 + 4, none⟩) hbr).trans z4
    go_simp
    (try with_reducible rfl)
   change wpAnyH _ _ _ _ _ _ _ (Act.put _ (some 43) _) _
   try simp only [Act.put, qa1, qa2, qa3]
   refine wpAnyH_take (i := 9) (v := ?vb1b9x7) rfl (by kernel_rfl) (by kernel_rfl) (by kernel_rfl) (fun _ _ _ h => h) (Or.inl ⟨by rfl, ?hyb1b9x7⟩) (by assumption) ?restb1b9x7
   case hyb1b9x7 =>
    intro w hSw
    (try dsimp only at hSw)
    go_simp
    (try with_reducible rfl)
   change wpAnyH _ _ _ _ _ _ _ (Act.put _ (some 44) _) _
   try simp only [Act.put, qa1, qa2, qa3]
   refine wpAnyH_take (i := 13) (v := ?vb1b13x8) rfl (by kernel_rfl) (by kernel_rfl) (by kernel_rfl) (fun _ _ _ h => h) (Or.inl ⟨by rfl, ?hyb1b13x8⟩) (by assumption) ?restb1b13x8
   case hyb1b13x8 =>
    intro w hSw
    (try dsimp only at hSw)
    go_simp
    (try with_reducible rfl)
   change wpAnyH _ _ _ _ _ _ _ (Act.put _ (some 48) _) _
   try simp only [Act.put, qa1, qa2, qa3]
   refine wpAnyH_take (i := 14) (v := ?vb1b14x9) rfl (by kernel_rfl) (by kernel_rfl) (by kernel_rfl) (fun _ _ _ h => h) (Or.inl ⟨by rfl, ?hyb1b14x9⟩) (by assumption) ?restb1b14x9
   case hyb1b14x9 =>
    intro w hSw
    (try dsimp only at hSw)
    have d0 := (hSw.cell (p := ⟨cx, 0, none⟩) hcx0).trans d0
    have d4 := (hSw.cell (p := ⟨cx, 4, none⟩) hcx0).trans d4
    have c0 := (hSw.cell (p := ⟨bl, off, none⟩) hbr).trans c0
    have c1 := (hSw.cell (p := ⟨bl, off + 1, none⟩) hbr).trans c1
    have c2 := (hSw.cell (p := ⟨bl, off + 2, none⟩) hbr).trans c2
    have c3 := (hSw.cell (p := ⟨bl, off + 3, none⟩) hbr).trans c3
    have c4 := (hSw.cell (p := ⟨bl, off + 4, none⟩) hbr).trans c4
    have z0 := (hSw.cell (p := ⟨bl, off + 5, none⟩) hbr).trans z0
    have z1 := (hSw.cell (p := ⟨bl, off + 5 + 1, none⟩) hbr).trans z1
    have z2 := (hSw.cell (p := ⟨bl, off + 5 + 2, none⟩) hbr).trans z2
    have z3 := (hSw.cell (p := ⟨bl, off + 5 + 3, none⟩) hbr).trans z3
    have z4 := (hSw.cell (p := ⟨bl, off + 5 + 4, none⟩) hbr).trans z4
    go_simp
    (try with_reducible rfl)
   change wpAnyH _ _ _ _ _ _ _ (Act.put _ (some 49) _) _
   try simp only [Act.put, qa1, qa2, qa3]
   refine wpAnyH_take (i := 15) (v := ?vb1b15x10) rfl (by kernel_rfl) (by kernel_rfl) (by kernel_rfl) (fun _ _ _ h => h) (Or.inl ⟨by rfl, ?hyb1b15x10⟩) (by assumption) ?restb1b15x10
   case hyb1b15x10 =>
    intro w hSw
    (try dsimp only at hSw)
    go_simp
    (try with_reducible rfl)
   change wpAnyH _ _ _ _ _ _ _ (Act.put _ (some 50) _) _
   try simp only [Act.put, qa1, qa2, qa3]
   refine wpAnyH_take (i := 16) (v := ?vb1b16x11) rfl (by kernel_rfl) (by kernel_rfl) (by kernel_rfl) (fun _ _ _ h => h) (Or.inl ⟨by rfl, ?hyb1b16x11⟩) (by assumption) ?restb1b16x11
   case hyb1b16x11 =>
    intro w hSw
    (try dsimp only at hSw)
    have d0 := (hSw.cell (p := ⟨cx, 0, none⟩) hcx0).trans d0
    have d4 := (hSw.cell (p := ⟨cx, 4, none⟩) hcx0).trans d4
    have c0 := (hSw.cell (p := ⟨bl, off, none⟩) hbr).trans c0
    have c1 := (hSw.cell (p := ⟨bl, off + 1, none⟩) hbr).trans c1
    have c2 := (hSw.cell (p := ⟨bl, off + 2, none⟩) hbr).trans c2
    have c3 := (hSw.cell (p := ⟨bl, off + 3, none⟩) hbr).trans c3
    have c4 := (hSw.cell (p := ⟨bl, off + 4, none⟩) hbr).trans c4
    have z0 := (hSw.cell (p := ⟨bl, off + 5, none⟩) hbr).trans z0
    have z1 := (hSw.cell (p := ⟨bl, off + 5 + 1, none⟩) hbr).trans z1
    have z2 := (hSw.cell (p := ⟨bl, off + 5 + 2, none⟩) hbr).trans z2
    have z3 := (hSw.cell (p := ⟨bl, off + 5 + 3, none⟩) hbr).trans z3
    have z4 := (hSw.cell (p := ⟨bl, off + 5 + 4, none⟩) hbr).trans z4
    go_simp
    (try with_reducible rfl)
   change wpAnyH _ _ _ _ _ _ _ (Act.put _ (some 51) _) _
   try simp only [Act.put, qa1, qa2, qa3]
   refine wpAnyH_ready (rs := [4, 6]) (by kernel_rfl) (by simp) ?_
   refine AllReadyH.cons rfl (fun K hK => ?_) (AllReadyH.cons rfl (fun K hK => ?_) AllReadyH.nil)
   ·go_simp
    go_at_call 43
    refine Calls.mono (HC0.out _ hHeld) ?_
    rintro e w1 ⟨rfl, hb1⟩
    (try go_wp2_with fail)
    refine hK.out _ _ (hHeld.trans (hb1.mono hHeld.size)) (fun hHeld => ?_)
    clear hK K
    try simp only [Act.put, qa1, qa2, qa3]
    refine wpAnyH_take (i := 5) (v := ?vb1b5x12) rfl (by kernel_rfl) (by kernel_rfl) (by kernel_rfl) (fun _ _ _ h => h) (Or.inl ⟨by rfl, ?hyb1b5x12⟩) (by assumption) ?restb1b5x12
    case hyb1b5x12 =>
     intro w hSw
     (try dsimp only at hSw)
     go_simp
     (try with_reducible rfl)
    change wpAnyH _ _ _ _ _ _ _ (Act.put _ (some 40) _) _
    try simp only [Act.put, qa1, qa2, qa3]
    refine wpAnyH_ready (rs := [6, 17]) (by kernel_rfl) (by simp) ?_
    refine AllReadyH.cons rfl (fun K hK => ?_) (AllReadyH.cons rfl (fun K hK => ?_) AllReadyH.nil)
    ·go_simp
     (try go_wp2_with fail)
     refine hK.out _ _ (hHeld.alloc hHeld.size _) (fun hHeld => ?_)
     clear hK K
     try simp only [Act.put, qa1, qa2, qa3]
     refine wpAnyH_take (i := 10) (v := ?vb1b10x13) rfl (by kernel_rfl) (by kernel_rfl) (by kernel_rfl) (fun _ _ _ h => h) (Or.inl ⟨by rfl, ?hyb1b10x13⟩) (by assumption) ?restb1b10x13
     case hyb1b10x13 =>
      intro w hSw
      (try dsimp only at hSw)
      go_simp
      (try with_reducible rfl)
     change wpAnyH _ _ _ _ _ _ _ (Act.put _ (some 45) _) _
     try simp only [Act.put, qa1, qa2, qa3]
     refine wpAnyH_ready (rs := [11, 17]) (by kernel_rfl) (by simp) ?_
     refine AllReadyH.cons rfl (fun K hK => ?_) (AllReadyH.cons rfl (fun K hK => ?_) AllReadyH.nil)
     ·go_simp
      (try go_wp2_with fail)
      refine hK.out _ _ (hHeld) (fun hHeld => ?_)
      clear hK K
      try simp only [Act.put, qa1, qa2, qa3]
      refine wpAnyH_take (i := 12) (v := ?vb1b12x14) rfl (by kernel_rfl) (by kernel_rfl) (by kernel_rfl) (fun _ _ _ h => h) (Or.inl ⟨by rfl, ?hyb1b12x14⟩) (by assumption) ?restb1b12x14
      case hyb1b12x14 =>
       intro w hSw
       (try dsimp only at hSw)
       go_simp
       (try with_reducible rfl)
      change wpAnyH _ _ _ _ _ _ _ (Act.put _ (some 47) _) _
      try simp only [Act.put, qa1, qa2, qa3]
      refine wpAnyH_ready (rs := [17]) (by kernel_rfl) (by simp) ?_
      refine AllReadyH.cons rfl (fun K hK => ?_) AllReadyH.nil
      go_simp
      go_at_call 43
      refine Calls.mono (HC1.out _ hHeld) ?_
      rintro e w2 ⟨rfl, hb2⟩
      have lit2 : w2.cell? ⟨w1.heap.size, 0, none⟩ = some (.string ⟨#[38]⟩) := (hb2.cell (p := ⟨w1.heap.size, 0, none⟩) (by first | assumption | (simp; done))).trans (by first | assumption | (simp; done))
      have lt2 : w1.heap.size < w2.heap.size := Nat.lt_of_lt_of_le (by first | assumption | (simp; done)) hb2.size
      (try go_wp2_with fail)
      refine hK.out _ _ (hHeld.trans (hb2.mono hHeld.size)) (fun hHeld => ?_)
      clear hK K
      try simp only [Act.put, qa1, qa2, qa3]
      refine wpAnyH_take (i := 18) (v := ?vb1b18x15) rfl (by kernel_rfl) (by kernel_rfl) (by kernel_rfl) (fun _ _ _ h => h) (Or.inl ⟨by rfl, ?hyb1b18x15⟩) (by assumption) ?restb1b18x15
      case hyb1b18x15 =>
       intro w hSw
       (try dsimp only at hSw)
       go_simp
       (try with_reducible rfl)
      change wpAnyH _ _ _ _ _ _ _ (Act.put _ (some 53) _) _
      try simp only [Act.put, qa1, qa2, qa3]
      refine wpAnyH_take (i := 19) (v := ?vb1b19x16) rfl (by kernel_rfl) (by kernel_rfl) (by kernel_rfl) (fun _ _ _ h => h) (Or.inl ⟨by rfl, ?hyb1b19x16⟩) (by assumption) ?restb1b19x16
      case hyb1b19x16 =>
       intro w hSw
       (try dsimp only at hSw)
       go_simp
       (try with_reducible rfl)
      change wpAnyH _ _ _ _ _ _ _ (Act.put _ (some 54) _) _
      try simp only [Act.put, qa1, qa2, qa3]
      refine wpAnyH_take (i := 20) (v := ?vb1b20x17) rfl (by kernel_rfl) (by kernel_rfl) (by kernel_rfl) (fun _ _ _ h => h) (Or.inl ⟨by rfl, ?hyb1b20x17⟩) (by assumption) ?restb1b20x17
      case hyb1b20x17 =>
       intro w hSw
       (try dsimp only at hSw)
       go_simp
       (try with_reducible rfl)
      change wpAnyH _ _ _ _ _ _ _ (Act.put _ (some 2) _) _
      try simp only [Act.put, qa1, qa2, qa3]
      refine wpAnyH_done (by kernel_rfl) ?_ _
      go_wp2_with fail
      go_ret
      exact ⟨by rw [← HVV.out]; rfl, HB9.out.trans (hHeld.mono HB9.out.size)⟩
     ·go_simp
      go_at_call 43
      refine Calls.mono (HC1.out _ hHeld) ?_
      rintro e w2 ⟨rfl, hb2⟩
      have lit2 : w2.cell? ⟨w1.heap.size, 0, none⟩ = some (.string ⟨#[38]⟩) := (hb2.cell (p := ⟨w1.heap.size, 0, none⟩) (by first | assumption | (simp; done))).trans (by first | assumption | (simp; done))
      have lt2 : w1.heap.size < w2.heap.size := Nat.lt_of_lt_of_le (by first | assumption | (simp; done)) hb2.size
      (try go_wp2_with fail)
      refine hK.out _ _ (hHeld.trans (hb2.mono hHeld.size)) (fun hHeld => ?_)
      clear hK K
      try simp only [Act.put, qa1, qa2, qa3]
      refine wpAnyH_ready (rs := [11]) (by kernel_rfl) (by simp) ?_
      refine AllReadyH.cons rfl (fun K hK => ?_) AllReadyH.nil
      go_simp
      (try go_wp2_with fail)
      refine hK.out _ _ (hHeld) (fun hHeld => ?_)
      clear hK K
      try simp only [Act.put, qa1, qa2, qa3]
      refine wpAnyH_take (i := 12) (v := ?vb1b12x18) rfl (by kernel_rfl) (by kernel_rfl) (by kernel_rfl) (fun _ _ _ h => h) (Or.inl ⟨by rfl, ?hyb1b12x18⟩) (by assumption) ?restb1b12x18
      case hyb1b12x18 =>
       intro w hSw
       (try dsimp only at hSw)
       go_simp
       (try with_reducible rfl)
      change wpAnyH _ _ _ _ _ _ _ (Act.put _ (some 47) _) _
      try simp only [Act.put, qa1, qa2, qa3]
      refine wpAnyH_take (i := 18) (v := ?vb1b18x19) rfl (by kernel_rfl) (by kernel_rfl) (by kernel_rfl) (fun _ _ _ h => h) (Or.inl ⟨by rfl, ?hyb1b18x19⟩) (by assumption) ?restb1b18x19
      case hyb1b18x19 =>
       intro w hSw
       (try dsimp only at hSw)
       go_simp
       (try with_reducible rfl)
      change wpAnyH _ _ _ _ _ _ _ (Act.put _ (some 53) _) _
      try simp only [Act.put, qa1, qa2, qa3]
      refine wpAnyH_take (i := 19) (v := ?vb1b19x20) rfl (by kernel_rfl) (by kernel_rfl) (by kernel_rfl) (fun _ _ _ h => h) (Or.inl ⟨by rfl, ?hyb1b19x20⟩) (by assumption) ?restb1b19x20
      case hyb1b19x20 =>
       intro w hSw
       (try dsimp only at hSw)
       go_simp
       (try with_reducible rfl)
      change wpAnyH _ _ _ _ _ _ _ (Act.put _ (some 54) _) _
      try simp only [Act.put, qa1, qa2, qa3]
      refine wpAnyH_take (i := 20) (v := ?vb1b20x21) rfl (by kernel_rfl) (by kernel_rfl) (by kernel_rfl) (fun _ _ _ h => h) (Or.inl ⟨by rfl, ?hyb1b20x21⟩) (by assumption) ?restb1b20x21
      case hyb1b20x21 =>
       intro w hSw
       (try dsimp only at hSw)
       go_simp
       (try with_reducible rfl)
      change wpAnyH _ _ _ _ _ _ _ (Act.put _ (some 2) _) _
      try simp only [Act.put, qa1, qa2, qa3]
      refine wpAnyH_done (by kernel_rfl) ?_ _
      go_wp2_with fail
      go_ret
      exact ⟨by rw [← HVV.out]; rfl, HB9.out.trans (hHeld.mono HB9.out.size)⟩
    ·go_simp
     go_at_call 43
     refine Calls.mono (HC1.out _ hHeld) ?_
     rintro e w2 ⟨rfl, hb2⟩
     (try go_wp2_with fail)
     refine hK.out _ _ (hHeld.trans (hb2.mono hHeld.size)) (fun hHeld => ?_)
     clear hK K
     try simp only [Act.put, qa1, qa2, qa3]
     refine wpAnyH_ready (rs := [6]) (by kernel_rfl) (by simp) ?_
     refine AllReadyH.cons rfl (fun K hK => ?_) AllReadyH.nil
     go_simp
     (try go_wp2_with fail)
     refine hK.out _ _ (hHeld.alloc hHeld.size _) (fun hHeld => ?_)
     clear hK K
     try simp only [Act.put, qa1, qa2, qa3]
     refine wpAnyH_take (i := 10) (v := ?vb1b10x22) rfl (by kernel_rfl) (by kernel_rfl) (by kernel_rfl) (fun _ _ _ h => h) (Or.inl ⟨by rfl, ?hyb1b10x22⟩) (by assumption) ?restb1b10x22
     case hyb1b10x22 =>
      intro w hSw
      (try dsimp only at hSw)
      go_simp
      (try with_reducible rfl)
     change wpAnyH _ _ _ _ _ _ _ (Act.put _ (some 45) _) _
     try simp only [Act.put, qa1, qa2, qa3]
     refine wpAnyH_ready (rs := [11]) (by kernel_rfl) (by simp) ?_
     refine AllReadyH.cons rfl (fun K hK => ?_) AllReadyH.nil
     go_simp
     (try go_wp2_with fail)
     refine hK.out _ _ (hHeld) (fun hHeld => ?_)
     clear hK K
     try simp only [Act.put, qa1, qa2, qa3]
     refine wpAnyH_take (i := 12) (v := ?vb1b12x23) rfl (by kernel_rfl) (by kernel_rfl) (by kernel_rfl) (fun _ _ _ h => h) (Or.inl ⟨by rfl, ?hyb1b12x23⟩) (by assumption) ?restb1b12x23
     case hyb1b12x23 =>
      intro w hSw
      (try dsimp only at hSw)
      go_simp
      (try with_reducible rfl)
     change wpAnyH _ _ _ _ _ _ _ (Act.put _ (some 47) _) _
     try simp only [Act.put, qa1, qa2, qa3]
     refine wpAnyH_take (i := 18) (v := ?vb1b18x24) rfl (by kernel_rfl) (by kernel_rfl) (by kernel_rfl) (fun _ _ _ h => h) (Or.inl ⟨by rfl, ?hyb1b18x24⟩) (by assumption) ?restb1b18x24
     case hyb1b18x24 =>
      intro w hSw
      (try dsimp only at hSw)
      go_simp
      (try with_reducible rfl)
     change wpAnyH _ _ _ _ _ _ _ (Act.put _ (some 53) _) _
     try simp only [Act.put, qa1, qa2, qa3]
     refine wpAnyH_take (i := 19) (v := ?vb1b19x25) rfl (by kernel_rfl) (by kernel_rfl) (by kernel_rfl) (fun _ _ _ h => h) (Or.inl ⟨by rfl, ?hyb1b19x25⟩) (by assumption) ?restb1b19x25
     case hyb1b19x25 =>
      intro w hSw
      (try dsimp only at hSw)
      go_simp
      (try with_reducible rfl)
     change wpAnyH _ _ _ _ _ _ _ (Act.put _ (some 54) _) _
     try simp only [Act.put, qa1, qa2, qa3]
     refine wpAnyH_take (i := 20) (v := ?vb1b20x26) rfl (by kernel_rfl) (by kernel_rfl) (by kernel_rfl) (fun _ _ _ h => h) (Or.inl ⟨by rfl, ?hyb1b20x26⟩) (by assumption) ?restb1b20x26
     case hyb1b20x26 =>
      intro w hSw
      (try dsimp only at hSw)
      go_simp
      (try with_reducible rfl)
     change wpAnyH _ _ _ _ _ _ _ (Act.put _ (some 2) _) _
     try simp only [Act.put, qa1, qa2, qa3]
     refine wpAnyH_done (by kernel_rfl) ?_ _
     go_wp2_with fail
     go_ret
     exact ⟨by rw [← HVV.out]; rfl, HB9.out.trans (hHeld.mono HB9.out.size)⟩
   ·go_simp
    (try go_wp2_with fail)
    refine hK.out _ _ (hHeld.alloc hHeld.size _) (fun hHeld => ?_)
    clear hK K
    try simp only [Act.put, qa1, qa2, qa3]
    refine wpAnyH_take (i := 10) (v := ?vb1b10x27) rfl (by kernel_rfl) (by kernel_rfl) (by kernel_rfl) (fun _ _ _ h => h) (Or.inl ⟨by rfl, ?hyb1b10x27⟩) (by assumption) ?restb1b10x27
    case hyb1b10x27 =>
     intro w hSw
     (try dsimp only at hSw)
     go_simp
     (try with_reducible rfl)
    change wpAnyH _ _ _ _ _ _ _ (Act.put _ (some 45) _) _
    try simp only [Act.put, qa1, qa2, qa3]
    refine wpAnyH_ready (rs := [4, 11]) (by kernel_rfl) (by simp) ?_
    refine AllReadyH.cons rfl (fun K hK => ?_) (AllReadyH.cons rfl (fun K hK => ?_) AllReadyH.nil)
    ·go_simp
     go_at_call 43
     refine Calls.mono (HC0.out _ hHeld) ?_
     rintro e w1 ⟨rfl, hb1⟩
     have lit1 : w1.cell? ⟨W0.heap.size, 0, none⟩ = some (.string ⟨#[38]⟩) := (hb1.cell (p := ⟨W0.heap.size, 0, none⟩) (by first | assumption | (simp; done))).trans (by first | assumption | (simp; done))
     have lt1 : W0.heap.size < w1.heap.size := Nat.lt_of_lt_of_le (by first | assumption | (simp; done)) hb1.size
     (try go_wp2_with fail)
     refine hK.out _ _ (hHeld.trans (hb1.mono hHeld.size)) (fun hHeld => ?_)
     clear hK K
     try simp only [Act.put, qa1, qa2, qa3]
     refine wpAnyH_take (i := 5) (v := ?vb1b5x28) rfl (by kernel_rfl) (by kernel_rfl) (by kernel_rfl) (fun _ _ _ h => h) (Or.inl ⟨by rfl, ?hyb1b5x28⟩) (by assumption) ?restb1b5x28
     case hyb1b5x28 =>
      intro w hSw
      (try dsimp only at hSw)
      go_simp
      (try with_reducible rfl)
     change wpAnyH _ _ _ _ _ _ _ (Act.put _ (some 40) _) _
     try simp only [Act.put, qa1, qa2, qa3]
     refine wpAnyH_ready (rs := [11, 17]) (by kernel_rfl) (by simp) ?_
     refine AllReadyH.cons rfl (fun K hK => ?_) (AllReadyH.cons rfl (fun K hK => ?_) AllReadyH.nil)
     ·go_simp
      (try go_wp2_with fail)
      refine hK.out _ _ (hHeld) (fun hHeld => ?_)
      clear hK K
      try simp only [Act.put, qa1, qa2, qa3]
      refine wpAnyH_take (i := 12) (v := ?vb1b12x29) rfl (by kernel_rfl) (by kernel_rfl) (by kernel_rfl) (fun _ _ _ h => h) (Or.inl ⟨by rfl, ?hyb1b12x29⟩) (by assumption) ?restb1b12x29
      case hyb1b12x29 =>
       intro w hSw
       (try dsimp only at hSw)
       go_simp
       (try with_reducible rfl)
      change wpAnyH _ _ _ _ _ _ _ (Act.put _ (some 47) _) _
      try simp only [Act.put, qa1, qa2, qa3]
      refine wpAnyH_ready (rs := [17]) (by kernel_rfl) (by simp) ?_
      refine AllReadyH.cons rfl (fun K hK => ?_) AllReadyH.nil
      go_simp
      go_at_call 43
      refine Calls.mono (HC1.out _ hHeld) ?_
      rintro e w2 ⟨rfl, hb2⟩
      have lit2 : w2.cell? ⟨W0.heap.size, 0, none⟩ = some (.string ⟨#[38]⟩) := (hb2.cell (p := ⟨W0.heap.size, 0, none⟩) (by first | assumption | (simp; done))).trans (by first | assumption | (simp; done))
      have lt2 : W0.heap.size < w2.heap.size := Nat.lt_of_lt_of_le (by first | assumption | (simp; done)) hb2.size
      (try go_wp2_with fail)
      refine hK.out _ _ (hHeld.trans (hb2.mono hHeld.size)) (fun hHeld => ?_)
      clear hK K
      try simp only [Act.put, qa1, qa2, qa3]
      refine wpAnyH_take (i := 18) (v := ?vb1b18x30) rfl (by kernel_rfl) (by kernel_rfl) (by kernel_rfl) (fun _ _ _ h => h) (Or.inl ⟨by rfl, ?hyb1b18x30⟩) (by assumption) ?restb1b18x30
      case hyb1b18x30 =>
       intro w hSw
       (try dsimp only at hSw)
       go_simp
       (try with_reducible rfl)
      change wpAnyH _ _ _ _ _ _ _ (Act.put _ (some 53) _) _
      try simp only [Act.put, qa1, qa2, qa3]
      refine wpAnyH_take (i := 19) (v := ?vb1b19x31) rfl (by kernel_rfl) (by kernel_rfl) (by kernel_rfl) (fun _ _ _ h => h) (Or.inl ⟨by rfl, ?hyb1b19x31⟩) (by assumption) ?restb1b19x31
      case hyb1b19x31 =>
       intro w hSw
       (try dsimp only at hSw)
       go_simp
       (try with_reducible rfl)
      change wpAnyH _ _ _ _ _ _ _ (Act.put _ (some 54) _) _
      try simp only [Act.put, qa1, qa2, qa3]
      refine wpAnyH_take (i := 20) (v := ?vb1b20x32) rfl (by kernel_rfl) (by kernel_rfl) (by kernel_rfl) (fun _ _ _ h => h) (Or.inl ⟨by rfl, ?hyb1b20x32⟩) (by assumption) ?restb1b20x32
      case hyb1b20x32 =>
       intro w hSw
       (try dsimp only at hSw)
       go_simp
       (try with_reducible rfl)
      change wpAnyH _ _ _ _ _ _ _ (Act.put _ (some 2) _) _
      try simp only [Act.put, qa1, qa2, qa3]
      refine wpAnyH_done (by kernel_rfl) ?_ _
      go_wp2_with fail
      go_ret
      exact ⟨by rw [← HVV.out]; rfl, HB9.out.trans (hHeld.mono HB9.out.size)⟩
     ·go_simp
      go_at_call 43
      refine Calls.mono (HC1.out _ hHeld) ?_
      rintro e w2 ⟨rfl, hb2⟩
      have lit2 : w2.cell? ⟨W0.heap.size, 0, none⟩ = some (.string ⟨#[38]⟩) := (hb2.cell (p := ⟨W0.heap.size, 0, none⟩) (by first | assumption | (simp; done))).trans (by first | assumption | (simp; done))
      have lt2 : W0.heap.size < w2.heap.size := Nat.lt_of_lt_of_le (by first | assumption | (simp; done)) hb2.size
      (try go_wp2_with fail)
      refine hK.out _ _ (hHeld.trans (hb2.mono hHeld.size)) (fun hHeld => ?_)
      clear hK K
      try simp only [Act.put, qa1, qa2, qa3]
      refine wpAnyH_ready (rs := [11]) (by kernel_rfl) (by simp) ?_
      refine AllReadyH.cons rfl (fun K hK => ?_) AllReadyH.nil
      go_simp
      (try go_wp2_with fail)
      refine hK.out _ _ (hHeld) (fun hHeld => ?_)
      clear hK K
      try simp only [Act.put, qa1, qa2, qa3]
      refine wpAnyH_take (i := 12) (v := ?vb1b12x33) rfl (by kernel_rfl) (by kernel_rfl) (by kernel_rfl) (fun _ _ _ h => h) (Or.inl ⟨by rfl, ?hyb1b12x33⟩) (by assumption) ?restb1b12x33
      case hyb1b12x33 =>
       intro w hSw
       (try dsimp only at hSw)
       go_simp
       (try with_reducible rfl)
      change wpAnyH _ _ _ _ _ _ _ (Act.put _ (some 47) _) _
      try simp only [Act.put, qa1, qa2, qa3]
      refine wpAnyH_take (i := 18) (v := ?vb1b18x34) rfl (by kernel_rfl) (by kernel_rfl) (by kernel_rfl) (fun _ _ _ h => h) (Or.inl ⟨by rfl, ?hyb1b18x34⟩) (by assumption) ?restb1b18x34
      case hyb1b18x34 =>
       intro w hSw
       (try dsimp only at hSw)
       go_simp
       (try with_reducible rfl)
      change wpAnyH _ _ _ _ _ _ _ (Act.put _ (some 53) _) _
      try simp only [Act.put, qa1, qa2, qa3]
      refine wpAnyH_take (i := 19) (v := ?vb1b19x35) rfl (by kernel_rfl) (by kernel_rfl) (by kernel_rfl) (fun _ _ _ h => h) (Or.inl ⟨by rfl, ?hyb1b19x35⟩) (by assumption) ?restb1b19x35
      case hyb1b19x35 =>
       intro w hSw
       (try dsimp only at hSw)
       go_simp
       (try with_reducible rfl)
      change wpAnyH _ _ _ _ _ _ _ (Act.put _ (some 54) _) _
      try simp only [Act.put, qa1, qa2, qa3]
      refine wpAnyH_take (i := 20) (v := ?vb1b20x36) rfl (by kernel_rfl) (by kernel_rfl) (by kernel_rfl) (fun _ _ _ h => h) (Or.inl ⟨by rfl, ?hyb1b20x36⟩) (by assumption) ?restb1b20x36
      case hyb1b20x36 =>
       intro w hSw
       (try dsimp only at hSw)
       go_simp
       (try with_reducible rfl)
      change wpAnyH _ _ _ _ _ _ _ (Act.put _ (some 2) _) _
      try simp only [Act.put, qa1, qa2, qa3]
      refine wpAnyH_done (by kernel_rfl) ?_ _
      go_wp2_with fail
      go_ret
      exact ⟨by rw [← HVV.out]; rfl, HB9.out.trans (hHeld.mono HB9.out.size)⟩
    ·go_simp
     (try go_wp2_with fail)
     refine hK.out _ _ (hHeld) (fun hHeld => ?_)
     clear hK K
     try simp only [Act.put, qa1, qa2, qa3]
     refine wpAnyH_ready (rs := [4]) (by kernel_rfl) (by simp) ?_
     refine AllReadyH.cons rfl (fun K hK => ?_) AllReadyH.nil
     go_simp
     go_at_call 43
     refine Calls.mono (HC0.out _ hHeld) ?_
     rintro e w1 ⟨rfl, hb1⟩
     have lit1 : w1.cell? ⟨W0.heap.size, 0, none⟩ = some (.string ⟨#[38]⟩) := (hb1.cell (p := ⟨W0.heap.size, 0, none⟩) (by first | assumption | (simp; done))).trans (by first | assumption | (simp; done))
     have lt1 : W0.heap.size < w1.heap.size := Nat.lt_of_lt_of_le (by first | assumption | (simp; done)) hb1.size
     (try go_wp2_with fail)
     refine hK.out _ _ (hHeld.trans (hb1.mono hHeld.size)) (fun hHeld => ?_)
     clear hK K
     try simp only [Act.put, qa1, qa2, qa3]
     refine wpAnyH_take (i := 5) (v := ?vb1b5x37) rfl (by kernel_rfl) (by kernel_rfl) (by kernel_rfl) (fun _ _ _ h => h) (Or.inl ⟨by rfl, ?hyb1b5x37⟩) (by assumption) ?restb1b5x37
     case hyb1b5x37 =>
      intro w hSw
      (try dsimp only at hSw)
      go_simp
      (try with_reducible rfl)
     change wpAnyH _ _ _ _ _ _ _ (Act.put _ (some 40) _) _
     try simp only [Act.put, qa1, qa2, qa3]
     refine wpAnyH_take (i := 12) (v := ?vb1b12x38) rfl (by kernel_rfl) (by kernel_rfl) (by kernel_rfl) (fun _ _ _ h => h) (Or.inl ⟨by rfl, ?hyb1b12x38⟩) (by assumption) ?restb1b12x38
     case hyb1b12x38 =>
      intro w hSw
      (try dsimp only at hSw)
      go_simp
      (try with_reducible rfl)
     change wpAnyH _ _ _ _ _ _ _ (Act.put _ (some 47) _) _
     try simp only [Act.put, qa1, qa2, qa3]
     refine wpAnyH_ready (rs := [17]) (by kernel_rfl) (by simp) ?_
     refine AllReadyH.cons rfl (fun K hK => ?_) AllReadyH.nil
     go_simp
     go_at_call 43
     refine Calls.mono (HC1.out _ hHeld) ?_
     rintro e w2 ⟨rfl, hb2⟩
     have lit2 : w2.cell? ⟨W0.heap.size, 0, none⟩ = some (.string ⟨#[38]⟩) := (hb2.cell (p := ⟨W0.heap.size, 0, none⟩) (by first | assumption | (simp; done))).trans (by first | assumption | (simp; done))
     have lt2 : W0.heap.size < w2.heap.size := Nat.lt_of_lt_of_le (by first | assumption | (simp; done)) hb2.size
     (try go_wp2_with fail)
     refine hK.out _ _ (hHeld.trans (hb2.mono hHeld.size)) (fun hHeld => ?_)
     clear hK K
     try simp only [Act.put, qa1, qa2, qa3]
     refine wpAnyH_take (i := 18) (v := ?vb1b18x39) rfl (by kernel_rfl) (by kernel_rfl) (by kernel_rfl) (fun _ _ _ h => h) (Or.inl ⟨by rfl, ?hyb1b18x39⟩) (by assumption) ?restb1b18x39
     case hyb1b18x39 =>
      intro w hSw
      (try dsimp only at hSw)
      go_simp
      (try with_reducible rfl)
     change wpAnyH _ _ _ _ _ _ _ (Act.put _ (some 53) _) _
     try simp only [Act.put, qa1, qa2, qa3]
     refine wpAnyH_take (i := 19) (v := ?vb1b19x40) rfl (by kernel_rfl) (by kernel_rfl) (by kernel_rfl) (fun _ _ _ h => h) (Or.inl ⟨by rfl, ?hyb1b19x40⟩) (by assumption) ?restb1b19x40
     case hyb1b19x40 =>
      intro w hSw
      (try dsimp only at hSw)
      go_simp
      (try with_reducible rfl)
     change wpAnyH _ _ _ _ _ _ _ (Act.put _ (some 54) _) _
     try simp only [Act.put, qa1, qa2, qa3]
     refine wpAnyH_take (i := 20) (v := ?vb1b20x41) rfl (by kernel_rfl) (by kernel_rfl) (by kernel_rfl) (fun _ _ _ h => h) (Or.inl ⟨by rfl, ?hyb1b20x41⟩) (by assumption) ?restb1b20x41
     case hyb1b20x41 =>
      intro w hSw
      (try dsimp only at hSw)
      go_simp
      (try with_reducible rfl)
     change wpAnyH _ _ _ _ _ _ _ (Act.put _ (some 2) _) _
     try simp only [Act.put, qa1, qa2, qa3]
     refine wpAnyH_done (by kernel_rfl) ?_ _
     go_wp2_with fail
     go_ret
     exact ⟨by rw [← HVV.out]; rfl, HB9.out.trans (hHeld.mono HB9.out.size)⟩
  ·obtain ⟨p1, hp1⟩ : ∃ p, (⟨#[40]⟩ : ByteArray) ++ Y = p := ⟨_, rfl⟩
   obtain ⟨p2, hp2⟩ : ∃ p, p1 ++ (⟨#[124]⟩ : ByteArray) = p := ⟨_, rfl⟩
   obtain ⟨p3, hp3⟩ : ∃ p, p2 ++ Z = p := ⟨_, rfl⟩
   have e40 : (⟨#[40]⟩ : ByteArray).size = 1 := rfl
   have eS : (⟨#[124]⟩ : ByteArray).size = 1 := rfl
   have hs1 : p1.size ≤ 2701 := by rw [← hp1, ByteArray.size_append]; omega
   have hs2 : p2.size ≤ 2702 := by rw [← hp2, ByteArray.size_append]; omega
   have hs3 : p3.size ≤ 5402 := by rw [← hp3, ByteArray.size_append]; omega
   have HVV : Hid (p3 ++ (⟨#[41]⟩ : ByteArray) = V) := hid (by
    rw [← HV.out, ← hp3, ← hp2, ← hp1, ← hY, ← hZ, HNL.out, Ar.txt_two (by decide), show (⟨#[40]⟩ : ByteArray) = bts [40] from rfl, show (⟨#[124]⟩ : ByteArray) = bts [124] from rfl, show (⟨#[41]⟩ : ByteArray) = bts [41] from rfl, bts_append, bts_append, bts_append, bts_append]
    simp)
   have hn1 : ¬ 9223372036854775807 < 1 + Y.size := by omega
   have hn2 : ¬ 9223372036854775807 < p1.size + 1 := by omega
   have hn3 : ¬ 9223372036854775807 < p2.size + Z.size := by omega
   have hn4 : ¬ 9223372036854775807 < p3.size + 1 := by omega
   have hwj : IntKind.i64.wrap 1 = 1 := by decide
   clear hat hat0 hy hyv hb9 hrow h3 hy1 hN h60 hY hYs hk1 hk6 hz hz1 hzv hZ hZs hs1 hs2 hs3 e40 eS
   go_enter Tryz.func43, Tryz.ntmps43
   go_upto_region 10 with fail
   rw [← hW0, ← hcx]
   clear hW0 hcx
   refine wp_region_held_drew (S := fun W => Below W0.heap.size W0 W) (by kernel_rfl) ((Below.refl _ _).drew) (fun hHeld => ?_)
   refine wpAnyH_take (i := 0) (v := ?vb2b0x1) rfl (by kernel_rfl) (by kernel_rfl) (by kernel_rfl) (fun _ _ _ h => h) (Or.inl ⟨by rfl, ?hyb2b0x1⟩) (by assumption) ?restb2b0x1
   case hyb2b0x1 =>
    intro w hSw
    (try dsimp only at hSw)
    go_simp
    (try with_reducible rfl)
   change wpAnyH _ _ _ _ _ _ _ (Act.put _ (some 35) _) _
   try simp only [Act.put, qa1, qa2, qa3]
   refine wpAnyH_take (i := 1) (v := ?vb2b1x2) rfl (by kernel_rfl) (by kernel_rfl) (by kernel_rfl) (fun _ _ _ h => h) (Or.inl ⟨by rfl, ?hyb2b1x2⟩) (by assumption) ?restb2b1x2
   case hyb2b1x2 =>
    intro w hSw
    (try dsimp only at hSw)
    have d0 := (hSw.cell (p := ⟨cx, 0, none⟩) hcx0).trans d0
    have d4 := (hSw.cell (p := ⟨cx, 4, none⟩) hcx0).trans d4
    have c0 := (hSw.cell (p := ⟨bl, off, none⟩) hbr).trans c0
    have c1 := (hSw.cell (p := ⟨bl, off + 1, none⟩) hbr).trans c1
    have c2 := (hSw.cell (p := ⟨bl, off + 2, none⟩) hbr).trans c2
    have c3 := (hSw.cell (p := ⟨bl, off + 3, none⟩) hbr).trans c3
    have c4 := (hSw.cell (p := ⟨bl, off + 4, none⟩) hbr).trans c4
    have z0 := (hSw.cell (p := ⟨bl, off + 5, none⟩) hbr).trans z0
    have z1 := (hSw.cell (p := ⟨bl, off + 5 + 1, none⟩) hbr).trans z1
    have z2 := (hSw.cell (p := ⟨bl, off + 5 + 2, none⟩) hbr).trans z2
    have z3 := (hSw.cell (p := ⟨bl, off + 5 + 3, none⟩) hbr).trans z3
    have z4 := (hSw.cell (p := ⟨bl, off + 5 + 4, none⟩) hbr).trans z4
    go_simp
    (try with_reducible rfl)
   change wpAnyH _ _ _ _ _ _ _ (Act.put _ (some 36) _) _
   try simp only [Act.put, qa1, qa2, qa3]
   refine wpAnyH_take (i := 2) (v := ?vb2b2x3) rfl (by kernel_rfl) (by kernel_rfl) (by kernel_rfl) (fun _ _ _ h => h) (Or.inl ⟨by rfl, ?hyb2b2x3⟩) (by assumption) ?restb2b2x3
   case hyb2b2x3 =>
    intro w hSw
    (try dsimp only at hSw)
    go_simp
    (try with_reducible rfl)
   change wpAnyH _ _ _ _ _ _ _ (Act.put _ (some 37) _) _
   try simp only [Act.put, qa1, qa2, qa3]
   refine wpAnyH_take (i := 3) (v := ?vb2b3x4) rfl (by kernel_rfl) (by kernel_rfl) (by kernel_rfl) (fun _ _ _ h => h) (Or.inl ⟨by rfl, ?hyb2b3x4⟩) (by assumption) ?restb2b3x4
   case hyb2b3x4 =>
    intro w hSw
    (try dsimp only at hSw)
    have d0 := (hSw.cell (p := ⟨cx, 0, none⟩) hcx0).trans d0
    have d4 := (hSw.cell (p := ⟨cx, 4, none⟩) hcx0).trans d4
    have c0 := (hSw.cell (p := ⟨bl, off, none⟩) hbr).trans c0
    have c1 := (hSw.cell (p := ⟨bl, off + 1, none⟩) hbr).trans c1
    have c2 := (hSw.cell (p := ⟨bl, off + 2, none⟩) hbr).trans c2
    have c3 := (hSw.cell (p := ⟨bl, off + 3, none⟩) hbr).trans c3
    have c4 := (hSw.cell (p := ⟨bl, off + 4, none⟩) hbr).trans c4
    have z0 := (hSw.cell (p := ⟨bl, off + 5, none⟩) hbr).trans z0
    have z1 := (hSw.cell (p := ⟨bl, off + 5 + 1, none⟩) hbr).trans z1
    have z2 := (hSw.cell (p := ⟨bl, off + 5 + 2, none⟩) hbr).trans z2
    have z3 := (hSw.cell (p := ⟨bl, off + 5 + 3, none⟩) hbr).trans z3
    have z4 := (hSw.cell (p := ⟨bl, off + 5 + 4, none⟩) hbr).trans z4
    go_simp
    (try with_reducible rfl)
   change wpAnyH _ _ _ _ _ _ _ (Act.put _ (some 38) _) _
   try simp only [Act.put, qa1, qa2, qa3]
   refine wpAnyH_take (i := 7) (v := ?vb2b7x5) rfl (by kernel_rfl) (by kernel_rfl) (by kernel_rfl) (fun _ _ _ h => h) (Or.inl ⟨by rfl, ?hyb2b7x5⟩) (by assumption) ?restb2b7x5
   case hyb2b7x5 =>
    intro w hSw
    (try dsimp only at hSw)
    go_simp
    (try with_reducible rfl)
   change wpAnyH _ _ _ _ _ _ _ (Act.put _ (some 42) _) _
   try simp only [Act.put, qa1, qa2, qa3]
   refine wpAnyH_take (i := 8) (v := ?vb2b8x6) rfl (by kernel_rfl) (by kernel_rfl) (by kernel_rfl) (fun _ _ _ h => h) (Or.inl ⟨by rfl, ?hyb2b8x6⟩) (by assumption) ?restb2b8x6
   case hyb2b8x6 =>
    intro w hSw
    (try dsimp only at hSw)
    have d0 := (hSw.cell (p := ⟨cx, 0, none⟩) hcx0).trans d0
    have d4 := (hSw.cell (p := ⟨cx, 4, none⟩) hcx0).trans d4
    have c0 := (hSw.cell (p := ⟨bl, off, none⟩) hbr).trans c0
    have c1 := (hSw.cell (p := ⟨bl, off + 1, none⟩) hbr).trans c1
    have c2 := (hSw.cell (p := ⟨bl, off + 2, none⟩) hbr).trans c2
    have c3 := (hSw.cell (p := ⟨bl, off + 3, none⟩) hbr).trans c3
    have c4 := (hSw.cell (p := ⟨bl, off + 4, none⟩) hbr).trans c4
    have z0 := (hSw.cell (p := ⟨bl, off + 5, none⟩) hbr).trans z0
    have z1 := (hSw.cell (p := ⟨bl, off + 5 + 1, none⟩) hbr).trans z1
    have z2 := (hSw.cell (p := ⟨bl, off + 5 + 2, none⟩) hbr).trans z2
    have z3 := (hSw.cell (p := ⟨bl, off + 5 + 3, none⟩) hbr).trans z3
    have z4 := (hSw.cell (p := ⟨bl, off + 5 + 4, none⟩) hbr).trans z4
    go_simp
    (try with_reducible rfl)
   change wpAnyH _ _ _ _ _ _ _ (Act.put _ (some 43) _) _
   try simp only [Act.put, qa1, qa2, qa3]
   refine wpAnyH_take (i := 9) (v := ?vb2b9x7) rfl (by kernel_rfl) (by kernel_rfl) (by kernel_rfl) (fun _ _ _ h => h) (Or.inl ⟨by rfl, ?hyb2b9x7⟩) (by assumption) ?restb2b9x7
   case hyb2b9x7 =>
    intro w hSw
    (try dsimp only at hSw)
    go_simp
    (try with_reducible rfl)
   change wpAnyH _ _ _ _ _ _ _ (Act.put _ (some 44) _) _
   try simp only [Act.put, qa1, qa2, qa3]
   refine wpAnyH_take (i := 13) (v := ?vb2b13x8) rfl (by kernel_rfl) (by kernel_rfl) (by kernel_rfl) (fun _ _ _ h => h) (Or.inl ⟨by rfl, ?hyb2b13x8⟩) (by assumption) ?restb2b13x8
   case hyb2b13x8 =>
    intro w hSw
    (try dsimp only at hSw)
    go_simp
    (try with_reducible rfl)
   change wpAnyH _ _ _ _ _ _ _ (Act.put _ (some 48) _) _
   try simp only [Act.put, qa1, qa2, qa3]
   refine wpAnyH_take (i := 14) (v := ?vb2b14x9) rfl (by kernel_rfl) (by kernel_rfl) (by kernel_rfl) (fun _ _ _ h => h) (Or.inl ⟨by rfl, ?hyb2b14x9⟩) (by assumption) ?restb2b14x9
   case hyb2b14x9 =>
    intro w hSw
    (try dsimp only at hSw)
    have d0 := (hSw.cell (p := ⟨cx, 0, none⟩) hcx0).trans d0
    have d4 := (hSw.cell (p := ⟨cx, 4, none⟩) hcx0).trans d4
    have c0 := (hSw.cell (p := ⟨bl, off, none⟩) hbr).trans c0
    have c1 := (hSw.cell (p := ⟨bl, off + 1, none⟩) hbr).trans c1
    have c2 := (hSw.cell (p := ⟨bl, off + 2, none⟩) hbr).trans c2
    have c3 := (hSw.cell (p := ⟨bl, off + 3, none⟩) hbr).trans c3
    have c4 := (hSw.cell (p := ⟨bl, off + 4, none⟩) hbr).trans c4
    have z0 := (hSw.cell (p := ⟨bl, off + 5, none⟩) hbr).trans z0
    have z1 := (hSw.cell (p := ⟨bl, off + 5 + 1, none⟩) hbr).trans z1
    have z2 := (hSw.cell (p := ⟨bl, off + 5 + 2, none⟩) hbr).trans z2
    have z3 := (hSw.cell (p := ⟨bl, off + 5 + 3, none⟩) hbr).trans z3
    have z4 := (hSw.cell (p := ⟨bl, off + 5 + 4, none⟩) hbr).trans z4
    go_simp
    (try with_reducible rfl)
   change wpAnyH _ _ _ _ _ _ _ (Act.put _ (some 49) _) _
   try simp only [Act.put, qa1, qa2, qa3]
   refine wpAnyH_take (i := 15) (v := ?vb2b15x10) rfl (by kernel_rfl) (by kernel_rfl) (by kernel_rfl) (fun _ _ _ h => h) (Or.inl ⟨by rfl, ?hyb2b15x10⟩) (by assumption) ?restb2b15x10
   case hyb2b15x10 =>
    intro w hSw
    (try dsimp only at hSw)
    go_simp
    (try with_reducible rfl)
   change wpAnyH _ _ _ _ _ _ _ (Act.put _ (some 50) _) _
   try simp only [Act.put, qa1, qa2, qa3]
   refine wpAnyH_take (i := 16) (v := ?vb2b16x11) rfl (by kernel_rfl) (by kernel_rfl) (by kernel_rfl) (fun _ _ _ h => h) (Or.inl ⟨by rfl, ?hyb2b16x11⟩) (by assumption) ?restb2b16x11
   case hyb2b16x11 =>
    intro w hSw
    (try dsimp only at hSw)
    have d0 := (hSw.cell (p := ⟨cx, 0, none⟩) hcx0).trans d0
    have d4 := (hSw.cell (p := ⟨cx, 4, none⟩) hcx0).trans d4
    have c0 := (hSw.cell (p := ⟨bl, off, none⟩) hbr).trans c0
    have c1 := (hSw.cell (p := ⟨bl, off + 1, none⟩) hbr).trans c1
    have c2 := (hSw.cell (p := ⟨bl, off + 2, none⟩) hbr).trans c2
    have c3 := (hSw.cell (p := ⟨bl, off + 3, none⟩) hbr).trans c3
    have c4 := (hSw.cell (p := ⟨bl, off + 4, none⟩) hbr).trans c4
    have z0 := (hSw.cell (p := ⟨bl, off + 5, none⟩) hbr).trans z0
    have z1 := (hSw.cell (p := ⟨bl, off + 5 + 1, none⟩) hbr).trans z1
    have z2 := (hSw.cell (p := ⟨bl, off + 5 + 2, none⟩) hbr).trans z2
    have z3 := (hSw.cell (p := ⟨bl, off + 5 + 3, none⟩) hbr).trans z3
    have z4 := (hSw.cell (p := ⟨bl, off + 5 + 4, none⟩) hbr).trans z4
    go_simp
    (try with_reducible rfl)
   change wpAnyH _ _ _ _ _ _ _ (Act.put _ (some 51) _) _
   try simp only [Act.put, qa1, qa2, qa3]
   refine wpAnyH_ready (rs := [4, 6]) (by kernel_rfl) (by simp) ?_
   refine AllReadyH.cons rfl (fun K hK => ?_) (AllReadyH.cons rfl (fun K hK => ?_) AllReadyH.nil)
   ·go_simp
    go_at_call 43
    refine Calls.mono (HC0.out _ hHeld) ?_
    rintro e w1 ⟨rfl, hb1⟩
    (try go_wp2_with fail)
    refine hK.out _ _ (hHeld.trans (hb1.mono hHeld.size)) (fun hHeld => ?_)
    clear hK K
    try simp only [Act.put, qa1, qa2, qa3]
    refine wpAnyH_take (i := 5) (v := ?vb2b5x12) rfl (by kernel_rfl) (by kernel_rfl) (by kernel_rfl) (fun _ _ _ h => h) (Or.inl ⟨by rfl, ?hyb2b5x12⟩) (by assumption) ?restb2b5x12
    case hyb2b5x12 =>
     intro w hSw
     (try dsimp only at hSw)
     go_simp
     (try with_reducible rfl)
    change wpAnyH _ _ _ _ _ _ _ (Act.put _ (some 40) _) _
    try simp only [Act.put, qa1, qa2, qa3]
    refine wpAnyH_ready (rs := [6, 17]) (by kernel_rfl) (by simp) ?_
    refine AllReadyH.cons rfl (fun K hK => ?_) (AllReadyH.cons rfl (fun K hK => ?_) AllReadyH.nil)
    ·go_simp
     (try go_wp2_with fail)
     refine hK.out _ _ (hHeld.alloc hHeld.size _) (fun hHeld => ?_)
     clear hK K
     try simp only [Act.put, qa1, qa2, qa3]
     refine wpAnyH_take (i := 10) (v := ?vb2b10x13) rfl (by kernel_rfl) (by kernel_rfl) (by kernel_rfl) (fun _ _ _ h => h) (Or.inl ⟨by rfl, ?hyb2b10x13⟩) (by assumption) ?restb2b10x13
     case hyb2b10x13 =>
      intro w hSw
      (try dsimp only at hSw)
      go_simp
      (try with_reducible rfl)
     change wpAnyH _ _ _ _ _ _ _ (Act.put _ (some 45) _) _
     try simp only [Act.put, qa1, qa2, qa3]
     refine wpAnyH_ready (rs := [11, 17]) (by kernel_rfl) (by simp) ?_
     refine AllReadyH.cons rfl (fun K hK => ?_) (AllReadyH.cons rfl (fun K hK => ?_) AllReadyH.nil)
     ·go_simp
      (try go_wp2_with fail)
      refine hK.out _ _ (hHeld) (fun hHeld => ?_)
      clear hK K
      try simp only [Act.put, qa1, qa2, qa3]
      refine wpAnyH_take (i := 12) (v := ?vb2b12x14) rfl (by kernel_rfl) (by kernel_rfl) (by kernel_rfl) (fun _ _ _ h => h) (Or.inl ⟨by rfl, ?hyb2b12x14⟩) (by assumption) ?restb2b12x14
      case hyb2b12x14 =>
       intro w hSw
       (try dsimp only at hSw)
       go_simp
       (try with_reducible rfl)
      change wpAnyH _ _ _ _ _ _ _ (Act.put _ (some 47) _) _
      try simp only [Act.put, qa1, qa2, qa3]
      refine wpAnyH_ready (rs := [17]) (by kernel_rfl) (by simp) ?_
      refine AllReadyH.cons rfl (fun K hK => ?_) AllReadyH.nil
      go_simp
      go_at_call 43
      refine Calls.mono (HC1.out _ hHeld) ?_
      rintro e w2 ⟨rfl, hb2⟩
      have lit2 : w2.cell? ⟨w1.heap.size, 1, none⟩ = some (.string ⟨#[124]⟩) := (hb2.cell (p := ⟨w1.heap.size, 1, none⟩) (by first | assumption | (simp; done))).trans (by first | assumption | (simp; done))
      have lt2 : w1.heap.size < w2.heap.size := Nat.lt_of_lt_of_le (by first | assumption | (simp; done)) hb2.size
      (try go_wp2_with fail)
      refine hK.out _ _ (hHeld.trans (hb2.mono hHeld.size)) (fun hHeld => ?_)
      clear hK K
      try simp only [Act.put, qa1, qa2, qa3]
      refine wpAnyH_take (i := 18) (v := ?vb2b18x15) rfl (by kernel_rfl) (by kernel_rfl) (by kernel_rfl) (fun _ _ _ h => h) (Or.inl ⟨by rfl, ?hyb2b18x15⟩) (by assumption) ?restb2b18x15
      case hyb2b18x15 =>
       intro w hSw
       (try dsimp only at hSw)
       go_simp
       (try with_reducible rfl)
      change wpAnyH _ _ _ _ _ _ _ (Act.put _ (some 53) _) _
      try simp only [Act.put, qa1, qa2, qa3]
      refine wpAnyH_take (i := 19) (v := ?vb2b19x16) rfl (by kernel_rfl) (by kernel_rfl) (by kernel_rfl) (fun _ _ _ h => h) (Or.inl ⟨by rfl, ?hyb2b19x16⟩) (by assumption) ?restb2b19x16
      case hyb2b19x16 =>
       intro w hSw
       (try dsimp only at hSw)
       go_simp
       (try with_reducible rfl)
      change wpAnyH _ _ _ _ _ _ _ (Act.put _ (some 54) _) _
      try simp only [Act.put, qa1, qa2, qa3]
      refine wpAnyH_take (i := 20) (v := ?vb2b20x17) rfl (by kernel_rfl) (by kernel_rfl) (by kernel_rfl) (fun _ _ _ h => h) (Or.inl ⟨by rfl, ?hyb2b20x17⟩) (by assumption) ?restb2b20x17
      case hyb2b20x17 =>
       intro w hSw
       (try dsimp only at hSw)
       go_simp
       (try with_reducible rfl)
      change wpAnyH _ _ _ _ _ _ _ (Act.put _ (some 2) _) _
      try simp only [Act.put, qa1, qa2, qa3]
      refine wpAnyH_done (by kernel_rfl) ?_ _
      go_wp2_with fail
      go_ret
      exact ⟨by rw [← HVV.out]; rfl, HB9.out.trans (hHeld.mono HB9.out.size)⟩
     ·go_simp
      go_at_call 43
      refine Calls.mono (HC1.out _ hHeld) ?_
      rintro e w2 ⟨rfl, hb2⟩
      have lit2 : w2.cell? ⟨w1.heap.size, 1, none⟩ = some (.string ⟨#[124]⟩) := (hb2.cell (p := ⟨w1.heap.size, 1, none⟩) (by first | assumption | (simp; done))).trans (by first | assumption | (simp; done))
      have lt2 : w1.heap.size < w2.heap.size := Nat.lt_of_lt_of_le (by first | assumption | (simp; done)) hb2.size
      (try go_wp2_with fail)
      refine hK.out _ _ (hHeld.trans (hb2.mono hHeld.size)) (fun hHeld => ?_)
      clear hK K
      try simp only [Act.put, qa1, qa2, qa3]
      refine wpAnyH_ready (rs := [11]) (by kernel_rfl) (by simp) ?_
      refine AllReadyH.cons rfl (fun K hK => ?_) AllReadyH.nil
      go_simp
      (try go_wp2_with fail)
      refine hK.out _ _ (hHeld) (fun hHeld => ?_)
      clear hK K
      try simp only [Act.put, qa1, qa2, qa3]
      refine wpAnyH_take (i := 12) (v := ?vb2b12x18) rfl (by kernel_rfl) (by kernel_rfl) (by kernel_rfl) (fun _ _ _ h => h) (Or.inl ⟨by rfl, ?hyb2b12x18⟩) (by assumption) ?restb2b12x18
      case hyb2b12x18 =>
       intro w hSw
       (try dsimp only at hSw)
       go_simp
       (try with_reducible rfl)
      change wpAnyH _ _ _ _ _ _ _ (Act.put _ (some 47) _) _
      try simp only [Act.put, qa1, qa2, qa3]
      refine wpAnyH_take (i := 18) (v := ?vb2b18x19) rfl (by kernel_rfl) (by kernel_rfl) (by kernel_rfl) (fun _ _ _ h => h) (Or.inl ⟨by rfl, ?hyb2b18x19⟩) (by assumption) ?restb2b18x19
      case hyb2b18x19 =>
       intro w hSw
       (try dsimp only at hSw)
       go_simp
       (try with_reducible rfl)
      change wpAnyH _ _ _ _ _ _ _ (Act.put _ (some 53) _) _
      try simp only [Act.put, qa1, qa2, qa3]
      refine wpAnyH_take (i := 19) (v := ?vb2b19x20) rfl (by kernel_rfl) (by kernel_rfl) (by kernel_rfl) (fun _ _ _ h => h) (Or.inl ⟨by rfl, ?hyb2b19x20⟩) (by assumption) ?restb2b19x20
      case hyb2b19x20 =>
       intro w hSw
       (try dsimp only at hSw)
       go_simp
       (try with_reducible rfl)
      change wpAnyH _ _ _ _ _ _ _ (Act.put _ (some 54) _) _
      try simp only [Act.put, qa1, qa2, qa3]
      refine wpAnyH_take (i := 20) (v := ?vb2b20x21) rfl (by kernel_rfl) (by kernel_rfl) (by kernel_rfl) (fun _ _ _ h => h) (Or.inl ⟨by rfl, ?hyb2b20x21⟩) (by assumption) ?restb2b20x21
      case hyb2b20x21 =>
       intro w hSw
       (try dsimp only at hSw)
       go_simp
       (try with_reducible rfl)
      change wpAnyH _ _ _ _ _ _ _ (Act.put _ (some 2) _) _
      try simp only [Act.put, qa1, qa2, qa3]
      refine wpAnyH_done (by kernel_rfl) ?_ _
      go_wp2_with fail
      go_ret
      exact ⟨by rw [← HVV.out]; rfl, HB9.out.trans (hHeld.mono HB9.out.size)⟩
    ·go_simp
     go_at_call 43
     refine Calls.mono (HC1.out _ hHeld) ?_
     rintro e w2 ⟨rfl, hb2⟩
     (try go_wp2_with fail)
     refine hK.out _ _ (hHeld.trans (hb2.mono hHeld.size)) (fun hHeld => ?_)
     clear hK K
     try simp only [Act.put, qa1, qa2, qa3]
     refine wpAnyH_ready (rs := [6]) (by kernel_rfl) (by simp) ?_
     refine AllReadyH.cons rfl (fun K hK => ?_) AllReadyH.nil
     go_simp
     (try go_wp2_with fail)
     refine hK.out _ _ (hHeld.alloc hHeld.size _) (fun hHeld => ?_)
     clear hK K
     try simp only [Act.put, qa1, qa2, qa3]
     refine wpAnyH_take (i := 10) (v := ?vb2b10x22) rfl (by kernel_rfl) (by kernel_rfl) (by kernel_rfl) (fun _ _ _ h => h) (Or.inl ⟨by rfl, ?hyb2b10x22⟩) (by assumption) ?restb2b10x22
     case hyb2b10x22 =>
      intro w hSw
      (try dsimp only at hSw)
      go_simp
      (try with_reducible rfl)
     change wpAnyH _ _ _ _ _ _ _ (Act.put _ (some 45) _) _
     try simp only [Act.put, qa1, qa2, qa3]
     refine wpAnyH_ready (rs := [11]) (by kernel_rfl) (by simp) ?_
     refine AllReadyH.cons rfl (fun K hK => ?_) AllReadyH.nil
     go_simp
     (try go_wp2_with fail)
     refine hK.out _ _ (hHeld) (fun hHeld => ?_)
     clear hK K
     try simp only [Act.put, qa1, qa2, qa3]
     refine wpAnyH_take (i := 12) (v := ?vb2b12x23) rfl (by kernel_rfl) (by kernel_rfl) (by kernel_rfl) (fun _ _ _ h => h) (Or.inl ⟨by rfl, ?hyb2b12x23⟩) (by assumption) ?restb2b12x23
     case hyb2b12x23 =>
      intro w hSw
      (try dsimp only at hSw)
      go_simp
      (try with_reducible rfl)
     change wpAnyH _ _ _ _ _ _ _ (Act.put _ (some 47) _) _
     try simp only [Act.put, qa1, qa2, qa3]
     refine wpAnyH_take (i := 18) (v := ?vb2b18x24) rfl (by kernel_rfl) (by kernel_rfl) (by kernel_rfl) (fun _ _ _ h => h) (Or.inl ⟨by rfl, ?hyb2b18x24⟩) (by assumption) ?restb2b18x24
     case hyb2b18x24 =>
      intro w hSw
      (try dsimp only at hSw)
      go_simp
      (try with_reducible rfl)
     change wpAnyH _ _ _ _ _ _ _ (Act.put _ (some 53) _) _
     try simp only [Act.put, qa1, qa2, qa3]
     refine wpAnyH_take (i := 19) (v := ?vb2b19x25) rfl (by kernel_rfl) (by kernel_rfl) (by kernel_rfl) (fun _ _ _ h => h) (Or.inl ⟨by rfl, ?hyb2b19x25⟩) (by assumption) ?restb2b19x25
     case hyb2b19x25 =>
      intro w hSw
      (try dsimp only at hSw)
      go_simp
      (try with_reducible rfl)
     change wpAnyH _ _ _ _ _ _ _ (Act.put _ (some 54) _) _
     try simp only [Act.put, qa1, qa2, qa3]
     refine wpAnyH_take (i := 20) (v := ?vb2b20x26) rfl (by kernel_rfl) (by kernel_rfl) (by kernel_rfl) (fun _ _ _ h => h) (Or.inl ⟨by rfl, ?hyb2b20x26⟩) (by assumption) ?restb2b20x26
     case hyb2b20x26 =>
      intro w hSw
      (try dsimp only at hSw)
      go_simp
      (try with_reducible rfl)
     change wpAnyH _ _ _ _ _ _ _ (Act.put _ (some 2) _) _
     try simp only [Act.put, qa1, qa2, qa3]
     refine wpAnyH_done (by kernel_rfl) ?_ _
     go_wp2_with fail
     go_ret
     exact ⟨by rw [← HVV.out]; rfl, HB9.out.trans (hHeld.mono HB9.out.size)⟩
   ·go_simp
    (try go_wp2_with fail)
    refine hK.out _ _ (hHeld.alloc hHeld.size _) (fun hHeld => ?_)
    clear hK K
    try simp only [Act.put, qa1, qa2, qa3]
    refine wpAnyH_take (i := 10) (v := ?vb2b10x27) rfl (by kernel_rfl) (by kernel_rfl) (by kernel_rfl) (fun _ _ _ h => h) (Or.inl ⟨by rfl, ?hyb2b10x27⟩) (by assumption) ?restb2b10x27
    case hyb2b10x27 =>
     intro w hSw
     (try dsimp only at hSw)
     go_simp
     (try with_reducible rfl)
    change wpAnyH _ _ _ _ _ _ _ (Act.put _ (some 45) _) _
    try simp only [Act.put, qa1, qa2, qa3]
    refine wpAnyH_ready (rs := [4, 11]) (by kernel_rfl) (by simp) ?_
    refine AllReadyH.cons rfl (fun K hK => ?_) (AllReadyH.cons rfl (fun K hK => ?_) AllReadyH.nil)
    ·go_simp
     go_at_call 43
     refine Calls.mono (HC0.out _ hHeld) ?_
     rintro e w1 ⟨rfl, hb1⟩
     have lit1 : w1.cell? ⟨W0.heap.size, 1, none⟩ = some (.string ⟨#[124]⟩) := (hb1.cell (p := ⟨W0.heap.size, 1, none⟩) (by first | assumption | (simp; done))).trans (by first | assumption | (simp; done))
     have lt1 : W0.heap.size < w1.heap.size := Nat.lt_of_lt_of_le (by first | assumption | (simp; done)) hb1.size
     (try go_wp2_with fail)
     refine hK.out _ _ (hHeld.trans (hb1.mono hHeld.size)) (fun hHeld => ?_)
     clear hK K
     try simp only [Act.put, qa1, qa2, qa3]
     refine wpAnyH_take (i := 5) (v := ?vb2b5x28) rfl (by kernel_rfl) (by kernel_rfl) (by kernel_rfl) (fun _ _ _ h => h) (Or.inl ⟨by rfl, ?hyb2b5x28⟩) (by assumption) ?restb2b5x28
     case hyb2b5x28 =>
      intro w hSw
      (try dsimp only at hSw)
      go_simp
      (try with_reducible rfl)
     change wpAnyH _ _ _ _ _ _ _ (Act.put _ (some 40) _) _
     try simp only [Act.put, qa1, qa2, qa3]
     refine wpAnyH_ready (rs := [11, 17]) (by kernel_rfl) (by simp) ?_
     refine AllReadyH.cons rfl (fun K hK => ?_) (AllReadyH.cons rfl (fun K hK => ?_) AllReadyH.nil)
     ·go_simp
      (try go_wp2_with fail)
      refine hK.out _ _ (hHeld) (fun hHeld => ?_)
      clear hK K
      try simp only [Act.put, qa1, qa2, qa3]
      refine wpAnyH_take (i := 12) (v := ?vb2b12x29) rfl (by kernel_rfl) (by kernel_rfl) (by kernel_rfl) (fun _ _ _ h => h) (Or.inl ⟨by rfl, ?hyb2b12x29⟩) (by assumption) ?restb2b12x29
      case hyb2b12x29 =>
       intro w hSw
       (try dsimp only at hSw)
       go_simp
       (try with_reducible rfl)
      change wpAnyH _ _ _ _ _ _ _ (Act.put _ (some 47) _) _
      try simp only [Act.put, qa1, qa2, qa3]
      refine wpAnyH_ready (rs := [17]) (by kernel_rfl) (by simp) ?_
      refine AllReadyH.cons rfl (fun K hK => ?_) AllReadyH.nil
      go_simp
      go_at_call 43
      refine Calls.mono (HC1.out _ hHeld) ?_
      rintro e w2 ⟨rfl, hb2⟩
      have lit2 : w2.cell? ⟨W0.heap.size, 1, none⟩ = some (.string ⟨#[124]⟩) := (hb2.cell (p := ⟨W0.heap.size, 1, none⟩) (by first | assumption | (simp; done))).trans (by first | assumption | (simp; done))
      have lt2 : W0.heap.size < w2.heap.size := Nat.lt_of_lt_of_le (by first | assumption | (simp; done)) hb2.size
      (try go_wp2_with fail)
      refine hK.out _ _ (hHeld.trans (hb2.mono hHeld.size)) (fun hHeld => ?_)
      clear hK K
      try simp only [Act.put, qa1, qa2, qa3]
      refine wpAnyH_take (i := 18) (v := ?vb2b18x30) rfl (by kernel_rfl) (by kernel_rfl) (by kernel_rfl) (fun _ _ _ h => h) (Or.inl ⟨by rfl, ?hyb2b18x30⟩) (by assumption) ?restb2b18x30
      case hyb2b18x30 =>
       intro w hSw
       (try dsimp only at hSw)
       go_simp
       (try with_reducible rfl)
      change wpAnyH _ _ _ _ _ _ _ (Act.put _ (some 53) _) _
      try simp only [Act.put, qa1, qa2, qa3]
      refine wpAnyH_take (i := 19) (v := ?vb2b19x31) rfl (by kernel_rfl) (by kernel_rfl) (by kernel_rfl) (fun _ _ _ h => h) (Or.inl ⟨by rfl, ?hyb2b19x31⟩) (by assumption) ?restb2b19x31
      case hyb2b19x31 =>
       intro w hSw
       (try dsimp only at hSw)
       go_simp
       (try with_reducible rfl)
      change wpAnyH _ _ _ _ _ _ _ (Act.put _ (some 54) _) _
      try simp only [Act.put, qa1, qa2, qa3]
      refine wpAnyH_take (i := 20) (v := ?vb2b20x32) rfl (by kernel_rfl) (by kernel_rfl) (by kernel_rfl) (fun _ _ _ h => h) (Or.inl ⟨by rfl, ?hyb2b20x32⟩) (by assumption) ?restb2b20x32
      case hyb2b20x32 =>
       intro w hSw
       (try dsimp only at hSw)
       go_simp
       (try with_reducible rfl)
      change wpAnyH _ _ _ _ _ _ _ (Act.put _ (some 2) _) _
      try simp only [Act.put, qa1, qa2, qa3]
      refine wpAnyH_done (by kernel_rfl) ?_ _
      go_wp2_with fail
      go_ret
      exact ⟨by rw [← HVV.out]; rfl, HB9.out.trans (hHeld.mono HB9.out.size)⟩
     ·go_simp
      go_at_call 43
      refine Calls.mono (HC1.out _ hHeld) ?_
      rintro e w2 ⟨rfl, hb2⟩
      have lit2 : w2.cell? ⟨W0.heap.size, 1, none⟩ = some (.string ⟨#[124]⟩) := (hb2.cell (p := ⟨W0.heap.size, 1, none⟩) (by first | assumption | (simp; done))).trans (by first | assumption | (simp; done))
      have lt2 : W0.heap.size < w2.heap.size := Nat.lt_of_lt_of_le (by first | assumption | (simp; done)) hb2.size
      (try go_wp2_with fail)
      refine hK.out _ _ (hHeld.trans (hb2.mono hHeld.size)) (fun hHeld => ?_)
      clear hK K
      try simp only [Act.put, qa1, qa2, qa3]
      refine wpAnyH_ready (rs := [11]) (by kernel_rfl) (by simp) ?_
      refine AllReadyH.cons rfl (fun K hK => ?_) AllReadyH.nil
      go_simp
      (try go_wp2_with fail)
      refine hK.out _ _ (hHeld) (fun hHeld => ?_)
      clear hK K
      try simp only [Act.put, qa1, qa2, qa3]
      refine wpAnyH_take (i := 12) (v := ?vb2b12x33) rfl (by kernel_rfl) (by kernel_rfl) (by kernel_rfl) (fun _ _ _ h => h) (Or.inl ⟨by rfl, ?hyb2b12x33⟩) (by assumption) ?restb2b12x33
      case hyb2b12x33 =>
       intro w hSw
       (try dsimp only at hSw)
       go_simp
       (try with_reducible rfl)
      change wpAnyH _ _ _ _ _ _ _ (Act.put _ (some 47) _) _
      try simp only [Act.put, qa1, qa2, qa3]
      refine wpAnyH_take (i := 18) (v := ?vb2b18x34) rfl (by kernel_rfl) (by kernel_rfl) (by kernel_rfl) (fun _ _ _ h => h) (Or.inl ⟨by rfl, ?hyb2b18x34⟩) (by assumption) ?restb2b18x34
      case hyb2b18x34 =>
       intro w hSw
       (try dsimp only at hSw)
       go_simp
       (try with_reducible rfl)
      change wpAnyH _ _ _ _ _ _ _ (Act.put _ (some 53) _) _
      try simp only [Act.put, qa1, qa2, qa3]
      refine wpAnyH_take (i := 19) (v := ?vb2b19x35) rfl (by kernel_rfl) (by kernel_rfl) (by kernel_rfl) (fun _ _ _ h => h) (Or.inl ⟨by rfl, ?hyb2b19x35⟩) (by assumption) ?restb2b19x35
      case hyb2b19x35 =>
       intro w hSw
       (try dsimp only at hSw)
       go_simp
       (try with_reducible rfl)
      change wpAnyH _ _ _ _ _ _ _ (Act.put _ (some 54) _) _
      try simp only [Act.put, qa1, qa2, qa3]
      refine wpAnyH_take (i := 20) (v := ?vb2b20x36) rfl (by kernel_rfl) (by kernel_rfl) (by kernel_rfl) (fun _ _ _ h => h) (Or.inl ⟨by rfl, ?hyb2b20x36⟩) (by assumption) ?restb2b20x36
      case hyb2b20x36 =>
       intro w hSw
       (try dsimp only at hSw)
       go_simp
       (try with_reducible rfl)
      change wpAnyH _ _ _ _ _ _ _ (Act.put _ (some 2) _) _
      try simp only [Act.put, qa1, qa2, qa3]
      refine wpAnyH_done (by kernel_rfl) ?_ _
      go_wp2_with fail
      go_ret
      exact ⟨by rw [← HVV.out]; rfl, HB9.out.trans (hHeld.mono HB9.out.size)⟩
    ·go_simp
     (try go_wp2_with fail)
     refine hK.out _ _ (hHeld) (fun hHeld => ?_)
     clear hK K
     try simp only [Act.put, qa1, qa2, qa3]
     refine wpAnyH_ready (rs := [4]) (by kernel_rfl) (by simp) ?_
     refine AllReadyH.cons rfl (fun K hK => ?_) AllReadyH.nil
     go_simp
     go_at_call 43
     refine Calls.mono (HC0.out _ hHeld) ?_
     rintro e w1 ⟨rfl, hb1⟩
     have lit1 : w1.cell? ⟨W0.heap.size, 1, none⟩ = some (.string ⟨#[124]⟩) := (hb1.cell (p := ⟨W0.heap.size, 1, none⟩) (by first | assumption | (simp; done))).trans (by first | assumption | (simp; done))
     have lt1 : W0.heap.size < w1.heap.size := Nat.lt_of_lt_of_le (by first | assumption | (simp; done)) hb1.size
     (try go_wp2_with fail)
     refine hK.out _ _ (hHeld.trans (hb1.mono hHeld.size)) (fun hHeld => ?_)
     clear hK K
     try simp only [Act.put, qa1, qa2, qa3]
     refine wpAnyH_take (i := 5) (v := ?vb2b5x37) rfl (by kernel_rfl) (by kernel_rfl) (by kernel_rfl) (fun _ _ _ h => h) (Or.inl ⟨by rfl, ?hyb2b5x37⟩) (by assumption) ?restb2b5x37
     case hyb2b5x37 =>
      intro w hSw
      (try dsimp only at hSw)
      go_simp
      (try with_reducible rfl)
     change wpAnyH _ _ _ _ _ _ _ (Act.put _ (some 40) _) _
     try simp only [Act.put, qa1, qa2, qa3]
     refine wpAnyH_take (i := 12) (v := ?vb2b12x38) rfl (by kernel_rfl) (by kernel_rfl) (by kernel_rfl) (fun _ _ _ h => h) (Or.inl ⟨by rfl, ?hyb2b12x38⟩) (by assumption) ?restb2b12x38
     case hyb2b12x38 =>
      intro w hSw
      (try dsimp only at hSw)
      go_simp
      (try with_reducible rfl)
     change wpAnyH _ _ _ _ _ _ _ (Act.put _ (some 47) _) _
     try simp only [Act.put, qa1, qa2, qa3]
     refine wpAnyH_ready (rs := [17]) (by kernel_rfl) (by simp) ?_
     refine AllReadyH.cons rfl (fun K hK => ?_) AllReadyH.nil
     go_simp
     go_at_call 43
     refine Calls.mono (HC1.out _ hHeld) ?_
     rintro e w2 ⟨rfl, hb2⟩
     have lit2 : w2.cell? ⟨W0.heap.size, 1, none⟩ = some (.string ⟨#[124]⟩) := (hb2.cell (p := ⟨W0.heap.size, 1, none⟩) (by first | assumption | (simp; done))).trans (by first | assumption | (simp; done))
     have lt2 : W0.heap.size < w2.heap.size := Nat.lt_of_lt_of_le (by first | assumption | (simp; done)) hb2.size
     (try go_wp2_with fail)
     refine hK.out _ _ (hHeld.trans (hb2.mono hHeld.size)) (fun hHeld => ?_)
     clear hK K
     try simp only [Act.put, qa1, qa2, qa3]
     refine wpAnyH_take (i := 18) (v := ?vb2b18x39) rfl (by kernel_rfl) (by kernel_rfl) (by kernel_rfl) (fun _ _ _ h => h) (Or.inl ⟨by rfl, ?hyb2b18x39⟩) (by assumption) ?restb2b18x39
     case hyb2b18x39 =>
      intro w hSw
      (try dsimp only at hSw)
      go_simp
      (try with_reducible rfl)
     change wpAnyH _ _ _ _ _ _ _ (Act.put _ (some 53) _) _
     try simp only [Act.put, qa1, qa2, qa3]
     refine wpAnyH_take (i := 19) (v := ?vb2b19x40) rfl (by kernel_rfl) (by kernel_rfl) (by kernel_rfl) (fun _ _ _ h => h) (Or.inl ⟨by rfl, ?hyb2b19x40⟩) (by assumption) ?restb2b19x40
     case hyb2b19x40 =>
      intro w hSw
      (try dsimp only at hSw)
      go_simp
      (try with_reducible rfl)
     change wpAnyH _ _ _ _ _ _ _ (Act.put _ (some 54) _) _
     try simp only [Act.put, qa1, qa2, qa3]
     refine wpAnyH_take (i := 20) (v := ?vb2b20x41) rfl (by kernel_rfl) (by kernel_rfl) (by kernel_rfl) (fun _ _ _ h => h) (Or.inl ⟨by rfl, ?hyb2b20x41⟩) (by assumption) ?restb2b20x41
     case hyb2b20x41 =>
      intro w hSw
      (try dsimp only at hSw)
      go_simp
      (try with_reducible rfl)
     change wpAnyH _ _ _ _ _ _ _ (Act.put _ (some 2) _) _
     try simp only [Act.put, qa1, qa2, qa3]
     refine wpAnyH_done (by kernel_rfl) ?_ _
     go_wp2_with fail
     go_ret
     exact ⟨by rw [← HVV.out]; rfl, HB9.out.trans (hHeld.mono HB9.out.size)⟩
end Go.Proofs.YtkemlckmfgacdaaGreatDoor
