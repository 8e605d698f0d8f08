/- Contract: the document's Pushed: it reads as the norm. -/
import Derived.Test.YtkelkpfjkjcmgaaDoorAskPushE
import Derived.RegionTactic
namespace Go.Proofs.YtkelkpfjkjcmgaaDoor
open Go.ChangeShapes Go.WideShapes Go.ChangeAt Go.RowKit
set_option linter.unusedVariables false
open Tp
theorem err_four {y : Ask} (h : y.err = 0) : (Ask.mk 4 [] [] 0 [y]).err = 0 := by
  have e : Ask.bad 4 [] [] 0 1 = 0 := by decide
  rw [Ask.err, Ask.errs, Ask.errs]
  simp only [List.length_cons, List.length_nil, Nat.zero_add, e, ne_eq, not_true_eq_false, if_false, h]
/-- an ask that is a box of its own: its five cells -/
theorem AskVP.one {p : Nat → Prop} {w : World} {y : Ask} {b off cap : Nat} (hp : p b) (hb : b < w.heap.size) (hc : 1 ≤ cap) (hc2 : cap ≤ 9223372036854775807) (h : ∃ v, Cells5 w b off v ∧ AskVP p w y v) : AskVP p w (.mk 4 [] [] 0 [y]) (.agg #[.int .i64 4, .string ⟨#[]⟩, .string ⟨#[]⟩, .int .i64 0, .slice (some ⟨b, off, none⟩) 1 cap]) := by
  rw [AskVP]
  refine ⟨_, _, _, rfl, rfl, hc, hc2, by simp, by simp, fun _ => ⟨b, off, rfl, hb, hp, ?_⟩⟩
  rw [AsksVP, AsksVP]
  exact ⟨h, trivial⟩
/-- two boxes, made one behind the other, in either order -/
def PairP (wy : World) (bz offz cap0 : Nat) (x y : Value) (W : World) : Prop := ∃ ca cb, x = .pointer (some ⟨ca, 0, none⟩) ∧ y = .pointer (some ⟨cb, 0, none⟩) ∧ Below wy.heap.size wy W ∧ wy.heap.size ≤ ca ∧ ca < W.heap.size ∧ wy.heap.size ≤ cb ∧ cb < W.heap.size ∧
  (W.cell? ⟨ca, 0, none⟩ = some (.int .i64 4) ∧ W.cell? ⟨ca, 1, none⟩ = some (.string ⟨#[]⟩) ∧ W.cell? ⟨ca, 2, none⟩ = some (.string ⟨#[]⟩) ∧ W.cell? ⟨ca, 3, none⟩ = some (.int .i64 0) ∧ W.cell? ⟨ca, 4, none⟩ = some (.slice (some ⟨bz, offz, none⟩) 1 cap0)) ∧
  (W.cell? ⟨cb, 0, none⟩ = some (.int .i64 4) ∧ W.cell? ⟨cb, 1, none⟩ = some (.string ⟨#[]⟩) ∧ W.cell? ⟨cb, 2, none⟩ = some (.string ⟨#[]⟩) ∧ W.cell? ⟨cb, 3, none⟩ = some (.int .i64 0) ∧ W.cell? ⟨cb, 4, none⟩ = some (.slice (some ⟨bz, offz + 5, none⟩) 1 (cap0 - 1)))
theorem pair_one (wy : World) (s : Value) (u : Value) (c : Nat) (hc : c = wy.heap.size) : (wy.alloc (.cells #[.int .i64 4, .string ⟨#[]⟩, .string ⟨#[]⟩, .int .i64 0, s] 24)).cell? ⟨c, 4, none⟩ = some s := (cell_top _ _ _ _ _ hc).trans rfl
theorem PairP.ab (wy : World) (bz offz cap0 c : Nat) (hc : c = wy.heap.size) : PairP wy bz offz cap0 (.pointer (some ⟨c, 0, none⟩)) (.pointer (some ⟨c + 1, 0, none⟩)) (((wy.alloc (.cells #[.int .i64 4, .string ⟨#[]⟩, .string ⟨#[]⟩, .int .i64 0, .slice (some ⟨bz, offz, none⟩) 1 cap0] 24)).alloc (.cells #[.int .i64 4, .string ⟨#[]⟩, .string ⟨#[]⟩, .int .i64 0, .slice (some ⟨bz, offz + 5, none⟩) 1 (cap0 - 1)] 24)).drew) := by
  subst hc
  refine ⟨_, _, rfl, rfl, (((Below.refl _ _).alloc (Nat.le_refl _) _).alloc (by simp) _).drew, Nat.le_refl _, by simp; omega, by omega, by simp, ⟨?_, ?_, ?_, ?_, ?_⟩, ⟨?_, ?_, ?_, ?_, ?_⟩⟩
  · exact (World.cell?_alloc_lt _ _ ⟨_, _, none⟩ (by simp)).trans ((cell_top _ _ _ _ _ rfl).trans rfl)
  · exact (World.cell?_alloc_lt _ _ ⟨_, _, none⟩ (by simp)).trans ((cell_top _ _ _ _ _ rfl).trans rfl)
  · exact (World.cell?_alloc_lt _ _ ⟨_, _, none⟩ (by simp)).trans ((cell_top _ _ _ _ _ rfl).trans rfl)
  · exact (World.cell?_alloc_lt _ _ ⟨_, _, none⟩ (by simp)).trans ((cell_top _ _ _ _ _ rfl).trans rfl)
  · exact (World.cell?_alloc_lt _ _ ⟨_, _, none⟩ (by simp)).trans ((cell_top _ _ _ _ _ rfl).trans rfl)
  · exact (cell_top _ _ _ _ _ (by simp)).trans rfl
  · exact (cell_top _ _ _ _ _ (by simp)).trans rfl
  · exact (cell_top _ _ _ _ _ (by simp)).trans rfl
  · exact (cell_top _ _ _ _ _ (by simp)).trans rfl
  · exact (cell_top _ _ _ _ _ (by simp)).trans rfl
theorem PairP.ba (wy : World) (bz offz cap0 c : Nat) (hc : c = wy.heap.size) : PairP wy bz offz cap0 (.pointer (some ⟨c + 1, 0, none⟩)) (.pointer (some ⟨c, 0, none⟩)) (((wy.alloc (.cells #[.int .i64 4, .string ⟨#[]⟩, .string ⟨#[]⟩, .int .i64 0, .slice (some ⟨bz, offz + 5, none⟩) 1 (cap0 - 1)] 24)).alloc (.cells #[.int .i64 4, .string ⟨#[]⟩, .string ⟨#[]⟩, .int .i64 0, .slice (some ⟨bz, offz, none⟩) 1 cap0] 24)).drew) := by
  subst hc
  refine ⟨_, _, rfl, rfl, (((Below.refl _ _).alloc (Nat.le_refl _) _).alloc (by simp) _).drew, by omega, by simp, Nat.le_refl _, by simp; omega, ⟨?_, ?_, ?_, ?_, ?_⟩, ⟨?_, ?_, ?_, ?_, ?_⟩⟩
  · exact (cell_top _ _ _ _ _ (by simp)).trans rfl
  · exact (cell_top _ _ _ _ _ (by simp)).trans rfl
  · exact (cell_top _ _ _ _ _ (by simp)).trans rfl
  · exact (cell_top _ _ _ _ _ (by simp)).trans rfl
  · exact (cell_top _ _ _ _ _ (by simp)).trans rfl
  · exact (World.cell?_alloc_lt _ _ ⟨_, _, none⟩ (by simp)).trans ((cell_top _ _ _ _ _ rfl).trans rfl)
  · exact (World.cell?_alloc_lt _ _ ⟨_, _, none⟩ (by simp)).trans ((cell_top _ _ _ _ _ rfl).trans rfl)
  · exact (World.cell?_alloc_lt _ _ ⟨_, _, none⟩ (by simp)).trans ((cell_top _ _ _ _ _ rfl).trans rfl)
  · exact (World.cell?_alloc_lt _ _ ⟨_, _, none⟩ (by simp)).trans ((cell_top _ _ _ _ _ rfl).trans rfl)
  · exact (World.cell?_alloc_lt _ _ ⟨_, _, none⟩ (by simp)).trans ((cell_top _ _ _ _ _ rfl).trans rfl)
set_option maxRecDepth 20000 in
set_option maxHeartbeats 64000000 in
theorem pushed_all : ∀ (N : Nat) (x : Ask) (v : Value) (w : World) (A : Nat), x.size ≤ N → x.err = 0 → A ≤ w.heap.size → AskVP (fun b => b < A) w x v → Calls Tryd.prog 10 #[v] w (NrmQ A w (x.nrm false)) := by
  intro N
  induction N with
  | zero => intro x v w A h; have := Ask.one_le x; omega
  | succ N ih =>
    intro x v w A hN herr hA hx
    have HIH := Lib.hid ih
    have hx2 := hx
    cases x with
    | mk k ka va nu l =>
    by_cases h56 : k = 5 ∨ k = 6
    · exact pushed_two N ih k ka va nu l h56 v w A hN herr hA hx
    rw [AskVP] at hx
    obtain ⟨ad, n, cap, rfl, hn, hcap, hmax, u1, u2, hrow⟩ := hx
    obtain ⟨hb0, hes⟩ := Ask.err_zero herr
    obtain ⟨hk1, hk6, hlen, hnu, _, _, hka, hva, _⟩ := Ask.bad_zero hb0
    rw [Ask.size] at hN
    rw [← hn] at hlen
    have HLEN := Lib.hid hlen
    have HN := Lib.hid hn
    have HR := Lib.hid hrow
    have HES := Lib.hid hes
    obtain ⟨V, hV⟩ : ∃ V, (Ask.mk k ka va nu l).nrm false = V := ⟨_, rfl⟩
    have HV := Lib.hid hV
    rw [hV]
    have HX2 := Lib.hid hx2
    have HF : Hid (4 ≤ k → ka = [] ∧ va = [] ∧ nu = 0) := Lib.hid (fun h => ⟨hka h, hva (by omega), hnu (by omega)⟩)
    obtain ⟨a1, ha1⟩ : ∃ a, bts ka = a := ⟨_, rfl⟩
    obtain ⟨a2, ha2⟩ : ∃ a, bts va = a := ⟨_, rfl⟩
    have HA1 := Lib.hid ha1
    have HA2 := Lib.hid ha2
    rw [ha1, ha2] at HX2 ⊢
    have HCAP := Lib.hid hcap
    have HMAX := Lib.hid hmax
    clear ih herr hx2 hn hrow hb0 hes hV ha1 ha2 u1 u2 hlen hnu hka hva hcap hmax
    obtain ⟨W0, hW0⟩ : ∃ W, W = (w.alloc (.cells #[.int .i64 k, .string a1, .string a2, .int .i64 nu, .slice ad n cap] 24)).alloc (.cells #[.int .i64 0, .string ⟨#[]⟩, .string ⟨#[]⟩, .int .i64 0, .slice none 0 0] 24) := ⟨_, rfl⟩
    have hb9 : Below w.heap.size w W0 := by rw [hW0]; exact ((Below.refl _ _).alloc (Nat.le_refl _) _).alloc (by simp) _
    have HB9 := Lib.hid hb9
    have hsz : W0.heap.size = w.heap.size + 2 := by rw [hW0]; simp
    have d0 : W0.cell? ⟨w.heap.size, 0, none⟩ = some (.int .i64 k) := by rw [hW0]; simp
    have d1 : W0.cell? ⟨w.heap.size, 1, none⟩ = some (.string a1) := by rw [hW0]; simp
    have d2 : W0.cell? ⟨w.heap.size, 2, none⟩ = some (.string a2) := by rw [hW0]; simp
    have d3 : W0.cell? ⟨w.heap.size, 3, none⟩ = some (.int .i64 nu) := by rw [hW0]; simp
    have d4 : W0.cell? ⟨w.heap.size, 4, none⟩ = some (.slice ad n cap) := by rw [hW0]; simp
    have r0 : W0.cell? ⟨w.heap.size + 1, 0, none⟩ = some (.int .i64 0) := by rw [hW0]; simp
    have r1 : W0.cell? ⟨w.heap.size + 1, 1, none⟩ = some (.string ⟨#[]⟩) := by rw [hW0]; simp
    have r2 : W0.cell? ⟨w.heap.size + 1, 2, none⟩ = some (.string ⟨#[]⟩) := by rw [hW0]; simp
    have r3 : W0.cell? ⟨w.heap.size + 1, 3, none⟩ = some (.int .i64 0) := by rw [hW0]; simp
    have r4 : W0.cell? ⟨w.heap.size + 1, 4, none⟩ = some (.slice none 0 0) := by rw [hW0]; simp
    have p0 : ∀ i, W0.frozen? ⟨w.heap.size + 1, i, none⟩ = false := fun i => by rw [hW0]; exact frozen_top _ _ _ _ _ (by simp)
    have pd4 : W0.frozen? ⟨w.heap.size, 4, none⟩ = false := by
      rw [hW0]
      exact (((Below.refl _ (w.alloc _)).alloc (Nat.le_refl _) _).frozen (p := ⟨w.heap.size, 4, none⟩) (by simp)).trans (frozen_top _ _ _ _ _ rfl)
    obtain ⟨cx, hcx⟩ : ∃ c, c = w.heap.size := ⟨_, rfl⟩
    rw [← hcx] at p0 pd4
    rw [← hcx] at d0 d1 d2 d3 d4 r0 r1 r2 r3 r4 hsz
    have HXA := Lib.hid (AskVP.stays (fun _ h => h) hb9.size (fun b h _ => hb9.block b (Nat.lt_of_lt_of_le h hA)) _ _ HX2.out)
    have hcx0 : cx < W0.heap.size := by omega
    have hcx1 : cx + 1 < W0.heap.size := by omega
    have q0 := p0 0
    have q1 := p0 1
    have q2 := p0 2
    have q3 := p0 3
    have q4 := p0 4
    by_cases h3 : k ≤ 3
    · obtain rfl : n = 0 := by rw [HLEN.out]; unfold Ask.inner; rw [if_neg (by omega), if_neg (by omega)]
      have hl : l = [] := List.eq_nil_of_length_eq_zero HN.out.symm
      have HVV : Hid (V = Ask.mk k ka va nu l) := Lib.hid (by rw [← HV.out, Ask.nrm, if_neg (by omega), if_neg (by omega)]; rfl)
      have e4 : (k == 4) = false := by simp; omega
      have HCX := Lib.hid hcx
      have HSZ := Lib.hid hsz
      clear h3 hk1 hk6 hl hN hb9 hsz p0 hA
      go_enter Tryd.func10, Tryd.ntmps10
      go_upto_region 1 with fail
      rw [← hW0, ← hcx]
      clear hW0 hcx
      go_wp2_with fail
      go_loopg [6, 49] 0 (fun g x y wr => x = .slice none 0 0 ∧ y = .int .i64 0 ∧ wr = W0)
      case atStart => exact ⟨rfl, rfl, rfl⟩
      case round =>
        obtain ⟨rfl, rfl, rfl⟩ := hrel
        go_wp2_with fail
        have hcx := HCX.out
        refine bodyPost_ret (v := .agg #[.int .i64 k, .string a1, .string a2, .int .i64 nu, .slice none 0 0]) (by simp [results, Tryd.results10, go_sem, r0, r1, r2, r3, r4]) rfl ?_
        refine ⟨_, _, _, _, _, _, _, rfl, ?_, five_below (HB9.out.setCell (p := ⟨cx, 4, none⟩) (by show _ ≤ cx; omega) _) (cx + 1) _ _ _ _ _ (by omega)⟩
        rw [HVV.out, AskVP]
        have hx := HX2.out
        rw [AskVP] at hx
        obtain ⟨_, _, _, e, e1, e2, e3, e5, e6, e7⟩ := hx
        cases e
        exact ⟨_, _, _, by rw [HA1.out, HA2.out], e1, Nat.le_refl _, by omega, e5, e6, fun h => absurd h (by omega)⟩
    have hn0 : 0 < n := by rw [HLEN.out]; unfold Ask.inner; split <;> (try split) <;> omega
    obtain ⟨y, hy⟩ : ∃ y, l[0]? = some y := ⟨_, List.getElem?_eq_getElem (by rw [← HN.out]; exact hn0)⟩
    obtain ⟨bl, off, rfl, hb, hbA, hat⟩ := HR.out hn0
    have hy1 := Ask.sizes_at hy
    have HY0 := Lib.hid (Ask.errs_at HES.out hy)
    have hat0 := AsksVP.stays (q := fun b => b < A) (fun b h => h) hb9.size (fun b h _ => hb9.block b (by omega)) l bl off hbA hb hat
    obtain ⟨k0, k1, k2, k3, ad0, len0, cap0, c0, c1, c2, c3, c4, hyv⟩ := hat0.get' hy
    simp only [Nat.zero_mul, Nat.add_zero] at c0 c1 c2 c3 c4
    have hbr : bl < W0.heap.size := Nat.lt_of_lt_of_le hb HB9.out.size
    have hnz : (0 : Int) < (n : Int) := by omega
    · obtain rfl : k = 4 := by omega
      obtain rfl : n = 1 := by rw [HLEN.out]; rfl
      have HL : Hid (l = [y]) := Lib.hid (by
        match l, hy, HN.out with
        | [_], hy, _ => simp at hy; rw [hy])
      obtain ⟨rfl, rfl, rfl⟩ := HF.out (by omega)
      obtain ⟨wy, hwy⟩ : ∃ wy, wy = W0.alloc (.cells #[.int .i64 k0, .string k1, .string k2, .int .i64 k3, .slice ad0 len0 cap0] 24) := ⟨_, rfl⟩
      have hby : Below W0.heap.size W0 wy := by rw [hwy]; exact (Below.refl _ _).alloc (Nat.le_refl _) _
      obtain ⟨cy, hcy⟩ : ∃ c, c = W0.heap.size := ⟨_, rfl⟩
      have y0 : wy.cell? ⟨cy, 0, none⟩ = some (.int .i64 k0) := by rw [hwy]; exact (cell_top _ _ _ _ _ hcy).trans rfl
      have y4 : wy.cell? ⟨cy, 4, none⟩ = some (.slice ad0 len0 cap0) := by rw [hwy]; exact (cell_top _ _ _ _ _ hcy).trans rfl
      have hcy0 : cy < wy.heap.size := by rw [hwy, hcy]; simp
      have hsy : wy.heap.size = cx + 3 := by rw [hwy]; simp; omega
      have HBY := Lib.hid (HB9.out.trans (hby.mono HB9.out.size))
      have f0 := (hby.cell (p := ⟨cx + 1, 0, none⟩) hcx1).trans r0
      have f1 := (hby.cell (p := ⟨cx + 1, 1, none⟩) hcx1).trans r1
      have f2 := (hby.cell (p := ⟨cx + 1, 2, none⟩) hcx1).trans r2
      have f3 := (hby.cell (p := ⟨cx + 1, 3, none⟩) hcx1).trans r3
      have f4 := (hby.cell (p := ⟨cx + 1, 4, none⟩) hcx1).trans r4
      have fz := fun i => (hby.frozen (p := ⟨cx + 1, i, none⟩) hcx1).trans (p0 i)
      have g0 := (hby.cell (p := ⟨cx, 0, none⟩) hcx0).trans d0
      have g1 := (hby.cell (p := ⟨cx, 1, none⟩) hcx0).trans d1
      have g2 := (hby.cell (p := ⟨cx, 2, none⟩) hcx0).trans d2
      have g3 := (hby.cell (p := ⟨cx, 3, none⟩) hcx0).trans d3
      have g4 := (hby.cell (p := ⟨cx, 4, none⟩) hcx0).trans d4
      have hcx1y : cx + 1 < wy.heap.size := by omega
      have hyv2 : AskVP (fun b => b < A) wy y (.agg #[.int .i64 k0, .string k1, .string k2, .int .i64 k3, .slice ad0 len0 cap0]) := AskVP.stays (fun _ h => h) hby.size (fun b _ h => hby.block b h) _ _ hyv
      cases y with
      | mk ky kya kyv kyn ly =>
      have hyv3 := hyv2
      rw [AskVP] at hyv3
      obtain ⟨ady, ny, capy, ey, hny, hcapy, hmaxy, uy1, uy2, hrowy⟩ := hyv3
      obtain ⟨hyb0, hyes⟩ := Ask.err_zero HY0.out
      obtain ⟨hyk1, hyk6, hylen, hynu, _, _, hyka, hyva, _⟩ := Ask.bad_zero hyb0
      simp only [Value.agg.injEq, Array.mk.injEq, List.cons.injEq, Value.int.injEq, Value.string.injEq, Value.slice.injEq, and_true, true_and] at ey
      obtain ⟨rfl, ek1, ek2, rfl, rfl, rfl, rfl⟩ := ey
      rw [← hny] at hylen
      have HYES := Lib.hid hyes
      have HNYL := Lib.hid hny
      have HRY := Lib.hid hrowy
      have HYV := Lib.hid hyv2
      rw [Ask.size] at hy1
      have HCX := Lib.hid hcx
      have HHA := Lib.hid hA
      have HSY := Lib.hid hsy
      have HCY : Hid (cy = cx + 2) := Lib.hid (by omega)
      have HYF : Hid (4 ≤ k0 → kya = [] ∧ kyv = [] ∧ k3 = 0) := Lib.hid (fun h => ⟨hyka h, hyva (by omega), hynu (by omega)⟩)
      have HVT : Hid (V = (Ask.mk k0 kya kyv k3 ly).nrm true) := Lib.hid (by rw [← HV.out, HL.out, Ask.nrm, if_pos rfl, Ask.nrms]; rfl)
      clear hat hat0 hy hyv hb9 hyb0 hyes hynu hyka hyva hrowy hyv2 ek1 ek2 uy1 uy2 hby p0 hny
      by_cases hy4 : k0 = 4
      · subst hy4
        obtain rfl : len0 = 1 := by rw [hylen]; rfl
        obtain ⟨z, hz⟩ : ∃ z, ly[0]? = some z := ⟨_, List.getElem?_eq_getElem (by rw [← HNYL.out]; omega)⟩
        obtain ⟨bz, offz, rfl, hbz, hbzA, hatz⟩ := HRY.out (by omega)
        obtain ⟨m0, m1, m2, m3, ad1, len1, cap1, z0, z1, z2, z3, z4, hzv⟩ := hatz.get' hz
        simp only [Nat.zero_mul, Nat.add_zero] at z0 z1 z2 z3 z4
        have hz1 := Ask.sizes_at hz
        have HVV : Hid (V = z.nrm false) := Lib.hid (by rw [HVT.out, Ask.nrm, if_pos rfl]; exact Ask.nrms_at hz _)
        have HC := Lib.hid (HIH.out z _ wy A (by omega) (Ask.errs_at HYES.out hz) (by omega) hzv)
        clear hatz hz hzv hylen hA hsy hsz hN hy1 hz1 hcapy hmaxy hk1 hk6 hyk1 hyk6
        go_enter Tryd.func10, Tryd.ntmps10
        go_upto_region 1 with fail
        rw [← hW0, ← hcx]
        clear hW0 hcx
        go_upto_region 3 with fail
        rw [← hwy, ← hcy]
        clear hwy hcy
        go_wp2_with fail
        refine Calls.mono HC.out ?_
        rintro e' W3 ⟨x0, x1, x2, x3, xd, xl, xc, rfl, hxv, hl⟩
        have HXV := Lib.hid hxv
        have HL3 := Lib.hid hl
        have s0 := (hl.cell (p := ⟨cx + 1, 0, none⟩) hcx1y).trans f0
        have s1 := (hl.cell (p := ⟨cx + 1, 1, none⟩) hcx1y).trans f1
        have s2 := (hl.cell (p := ⟨cx + 1, 2, none⟩) hcx1y).trans f2
        have s3 := (hl.cell (p := ⟨cx + 1, 3, none⟩) hcx1y).trans f3
        have s4 := (hl.cell (p := ⟨cx + 1, 4, none⟩) hcx1y).trans f4
        have t0 := fun i => (hl.frozen (p := ⟨cx + 1, i, none⟩) hcx1y).trans (fz i)
        have q0 := t0 0
        have q1 := t0 1
        have q2 := t0 2
        have q3 := t0 3
        have q4 := t0 4
        have hc3 : cx + 1 < W3.heap.size := Nat.lt_of_lt_of_le hcx1y hl.size
        clear hl hxv t0 fz
        go_wp2_with fail
        have hcx := HCX.out
        have hsy := HSY.out
        have hA := HHA.out
        refine bodyPost_ret (v := .agg #[.int .i64 x0, .string x1, .string x2, .int .i64 x3, .slice xd xl xc]) (by simp [results, Tryd.results10, go_sem, s0, s1, s2, s3, s4]) rfl ?_
        show NrmQ A w V _ (five W3 (cx + 1) (.int .i64 x0) (.string x1) (.string x2) (.int .i64 x3) (.slice xd xl xc))
        refine ⟨x0, x1, x2, x3, xd, xl, xc, rfl, ?_, five_below (HBY.out.trans (HL3.out.mono HBY.out.size)) _ _ _ _ _ _ (by omega)⟩
        rw [HVV.out]
        refine AskVP.stays (fun b h => ?_) (by rw [five_size]; exact Nat.le_refl _) (fun b h _ => five_heap _ _ _ _ _ _ _ b ?_) _ _ HXV.out
        · rcases h with h | h
          · exact .inl h
          · exact .inr (by omega)
        · rcases h with h | h <;> omega
      by_cases hy3 : k0 ≤ 3
      · have HVV : Hid (V = Ask.mk 4 [] [] 0 [Ask.mk k0 kya kyv k3 ly]) := Lib.hid (by rw [HVT.out, Ask.nrm, if_neg hy4, if_neg (by omega)]; rfl)
        have hy5 : (k0 == 5) = false := by simp; omega
        have hy6 : (k0 == 6) = false := by simp; omega
        have hy4' : (k0 == 4) = false := by simpa using hy4
        have HXA2 := Lib.hid (AskVP.stays (fun _ h => h) HBY.out.size (fun b h _ => HBY.out.block b (Nat.lt_of_lt_of_le h hA)) _ _ HX2.out)
        have q0 := fz 0
        have q1 := fz 1
        have q2 := fz 2
        have q3 := fz 3
        have q4 := fz 4
        have HSZ := Lib.hid hsz
        clear hy3 hy4 hylen hA hsy hsz hN hy1 hcapy hmaxy hk1 hk6 hyk1 hyk6 fz
        go_enter Tryd.func10, Tryd.ntmps10
        go_upto_region 1 with fail
        rw [← hW0, ← hcx]
        clear hW0 hcx
        go_upto_region 3 with fail
        rw [← hwy, ← hcy]
        clear hwy hcy
        go_wp2_with fail
        have hcx := HCX.out
        have hA := HHA.out
        have hsy := HSY.out
        refine bodyPost_ret (v := .agg #[.int .i64 4, .string a1, .string a2, .int .i64 0, .slice (some ⟨bl, off, none⟩) 1 cap]) (by simp [results, Tryd.results10, go_sem, f0, f1, f2, f3, f4]) rfl ?_
        refine ⟨_, _, _, _, _, _, _, rfl, ?_, five_below HBY.out (cx + 1) _ _ _ _ _ (by omega)⟩
        rw [HVV.out, ← HL.out]
        exact AskVP.stays (fun b h => .inl h) (Nat.le_of_eq (five_size _ _ _ _ _ _ _).symm) (fun b h _ => five_heap _ _ _ _ _ _ _ b (by omega)) _ _ HXA2.out
      · have hk56 : k0 = 5 ∨ k0 = 6 := by omega
        obtain rfl : len0 = 2 := by rw [hylen]; unfold Ask.inner; rw [if_pos hk56]
        obtain ⟨yy, hyy⟩ : ∃ z, ly[0]? = some z := ⟨_, List.getElem?_eq_getElem (by rw [← HNYL.out]; omega)⟩
        obtain ⟨zz, hzz⟩ : ∃ z, ly[1]? = some z := ⟨_, List.getElem?_eq_getElem (by rw [← HNYL.out]; omega)⟩
        have HLY : Hid (ly = [yy, zz]) := Lib.hid (by
          match ly, hyy, hzz, HNYL.out with
          | [_, _], hy, hz, _ => simp at hy hz; rw [hy, hz])
        obtain ⟨bz, offz, rfl, hbz, hbzA, hatz⟩ := HRY.out (by omega)
        have HE0 := Lib.hid (hatz.at' hyy)
        have HE1 := Lib.hid (hatz.at' hzz)
        have hyy1 := Ask.sizes_at hyy
        have hzz1 := Ask.sizes_at hzz
        have hys2 : yy.size + zz.size ≤ Ask.sizes ly := by rw [HLY.out]; simp only [Ask.sizes]; omega
        have HEY := Lib.hid (Ask.errs_at HYES.out hyy)
        have HEZ := Lib.hid (Ask.errs_at HYES.out hzz)
        obtain ⟨rfl, rfl, rfl⟩ := HYF.out (by omega)
        have HVV : Hid (V = Ask.mk (11 - k0) [] [] 0 [yy.nrm true, zz.nrm true]) := Lib.hid (by rw [HVT.out, Ask.nrm, if_neg hy4, if_pos hk56, HLY.out]; rfl)
        have hc2 : (2 : Int) ≤ (cap0 : Int) := by omega
        have hc1 : (1 : Int) ≤ (cap0 : Int) := by omega
        have y4a : ∀ o, (wy.alloc o).cell? ⟨cy, 4, none⟩ = some (.slice (some ⟨bz, offz, none⟩) 2 cap0) := fun o => (World.cell?_alloc_lt _ _ ⟨cy, 4, none⟩ hcy0).trans y4
        have y4b : ∀ o o', ((wy.alloc o).alloc o').cell? ⟨cy, 4, none⟩ = some (.slice (some ⟨bz, offz, none⟩) 2 cap0) := fun o o' => (World.cell?_alloc_lt _ _ ⟨cy, 4, none⟩ (by simp; omega)).trans (y4a o)
        have HPA : Hid (AskVP (fun b => b < A) wy (.mk 4 [] [] 0 [yy]) (.agg #[.int .i64 4, .string ⟨#[]⟩, .string ⟨#[]⟩, .int .i64 0, .slice (some ⟨bz, offz, none⟩) 1 cap0])) := Lib.hid (AskVP.one hbzA hbz (by omega) (by omega) (by simpa using HE0.out))
        have HPB : Hid (AskVP (fun b => b < A) wy (.mk 4 [] [] 0 [zz]) (.agg #[.int .i64 4, .string ⟨#[]⟩, .string ⟨#[]⟩, .int .i64 0, .slice (some ⟨bz, offz + 5, none⟩) 1 (cap0 - 1)])) := Lib.hid (AskVP.one hbzA hbz (by omega) (by omega) (by simpa using HE1.out))
        have HP0 : Hid (∀ W, Below wy.heap.size wy W → Calls Tryd.prog 10 #[.agg #[.int .i64 4, .string ⟨#[]⟩, .string ⟨#[]⟩, .int .i64 0, .slice (some ⟨bz, offz, none⟩) 1 cap0]] W (NrmQ A W (yy.nrm true))) := Lib.hid (fun W hW => HIH.out (.mk 4 [] [] 0 [yy]) _ W A (by simp only [Ask.size, Ask.sizes]; have := Ask.one_le zz; omega) (err_four HEY.out) (by have := hW.size; omega) (AskVP.stays (fun b h => h) hW.size (fun b _ h => hW.block b h) _ _ HPA.out))
        have HP1 : Hid (∀ W, Below wy.heap.size wy W → Calls Tryd.prog 10 #[.agg #[.int .i64 4, .string ⟨#[]⟩, .string ⟨#[]⟩, .int .i64 0, .slice (some ⟨bz, offz + 5, none⟩) 1 (cap0 - 1)]] W (NrmQ A W (zz.nrm true))) := Lib.hid (fun W hW => HIH.out (.mk 4 [] [] 0 [zz]) _ W A (by simp only [Ask.size, Ask.sizes]; have := Ask.one_le yy; omega) (err_four HEZ.out) (by have := hW.size; omega) (AskVP.stays (fun b h => h) hW.size (fun b _ h => hW.block b h) _ _ HPB.out))
        clear hatz hyy hzz hylen hA hsz hN hy1 hmaxy hk1 hk6 hyk1 hyk6 hyy1 hzz1 hys2
        rcases hk56 with rfl | rfl
        · go_enter Tryd.func10, Tryd.ntmps10
          go_upto_region 1 with fail
          rw [← hW0, ← hcx]
          clear hW0 hcx
          go_upto_region 3 with fail
          rw [← hwy, ← hcy]
          clear hwy hcy
          go_upto_region 8 with fail
          go_cut [4, 5] (fun x y W => PairP wy bz offz cap0 x y W)
          case first =>
            go_region
            all_goals
              go_wp2_with fail
              go_meet
            all_goals
              first | exact PairP.ab wy bz offz cap0 (cx + 3) hsy.symm | exact PairP.ba wy bz offz cap0 (cx + 3) hsy.symm
          case rest =>
            obtain ⟨ca, cb, rfl, rfl, hbc, ga, la, gb, lb, ⟨e0, e1, e2, e3, e4⟩, ⟨b0, b1, b2, b3, b4⟩⟩ := hcut
            have y := (hbc.cell (p := ⟨cy, 0, none⟩) hcy0).trans y0
            have ly : cy < wc.heap.size := Nat.lt_of_lt_of_le hcy0 hbc.size
            have ne1 : ¬ cx + 1 = cy := by have := HCY.out; omega
            have ne2 : ¬ cy = cx + 1 := by have := HCY.out; omega
            have ne3 : ¬ cx + 1 = ca := by omega
            have ne4 : ¬ ca = cx + 1 := by omega
            have ne5 : ¬ cx + 1 = cb := by omega
            have ne6 : ¬ cb = cx + 1 := by omega
            have w6 : IntKind.i64.wrap 6 = 6 := IntWalk.i64_in _ (by decide)
            have w5 : IntKind.i64.wrap 5 = 5 := IntWalk.i64_in _ (by decide)
            clear ga gb
            have HBC := Lib.hid hbc
            have HBWC := Lib.hid (HBY.out.trans (hbc.mono HBY.out.size))
            have HC0 : Hid (∀ W, Below wc.heap.size wc W → Calls Tryd.prog 10 #[.agg #[.int .i64 4, .string ⟨#[]⟩, .string ⟨#[]⟩, .int .i64 0, .slice (some ⟨bz, offz, none⟩) 1 cap0]] W (NrmQ A W (yy.nrm true))) := Lib.hid (fun W hW => HP0.out W (HBC.out.trans (hW.mono HBC.out.size)))
            have HC1 : Hid (∀ W, Below wc.heap.size wc W → Calls Tryd.prog 10 #[.agg #[.int .i64 4, .string ⟨#[]⟩, .string ⟨#[]⟩, .int .i64 0, .slice (some ⟨bz, offz + 5, none⟩) 1 (cap0 - 1)]] W (NrmQ A W (zz.nrm true))) := Lib.hid (fun W hW => HP1.out W (HBC.out.trans (hW.mono HBC.out.size)))
            have lr : cx + 1 < wc.heap.size := Nat.lt_of_lt_of_le hcx1y hbc.size
            have r0' := (hbc.cell (p := ⟨cx + 1, 0, none⟩) hcx1y).trans f0
            have r1' := (hbc.cell (p := ⟨cx + 1, 1, none⟩) hcx1y).trans f1
            have r2' := (hbc.cell (p := ⟨cx + 1, 2, none⟩) hcx1y).trans f2
            have r3' := (hbc.cell (p := ⟨cx + 1, 3, none⟩) hcx1y).trans f3
            have r4' := (hbc.cell (p := ⟨cx + 1, 4, none⟩) hcx1y).trans f4
            have rz := fun i => (hbc.frozen (p := ⟨cx + 1, i, none⟩) hcx1y).trans (fz i)
            clear hbc f0 f1 f2 f3 f4 fz y0 y4 y4a y4b d0 d1 d2 d3 d4 r0 r1 r2 r3 r4 g0 g1 g2 g3 g4
            go_upto_region 9 with fail
            have yd : wc.drew.cell? ⟨cy, 0, none⟩ = some (.int .i64 5) := y
            have e0d : wc.drew.cell? ⟨ca, 0, none⟩ = some (.int .i64 4) := e0
            have e1d : wc.drew.cell? ⟨ca, 1, none⟩ = some (.string ⟨#[]⟩) := e1
            have e2d : wc.drew.cell? ⟨ca, 2, none⟩ = some (.string ⟨#[]⟩) := e2
            have e3d : wc.drew.cell? ⟨ca, 3, none⟩ = some (.int .i64 0) := e3
            have e4d : wc.drew.cell? ⟨ca, 4, none⟩ = some (.slice (some ⟨bz, offz, none⟩) 1 cap0) := e4
            have b0d : wc.drew.cell? ⟨cb, 0, none⟩ = some (.int .i64 4) := b0
            have b1d : wc.drew.cell? ⟨cb, 1, none⟩ = some (.string ⟨#[]⟩) := b1
            have b2d : wc.drew.cell? ⟨cb, 2, none⟩ = some (.string ⟨#[]⟩) := b2
            have b3d : wc.drew.cell? ⟨cb, 3, none⟩ = some (.int .i64 0) := b3
            have b4d : wc.drew.cell? ⟨cb, 4, none⟩ = some (.slice (some ⟨bz, offz + 5, none⟩) 1 (cap0 - 1)) := b4
            first | (go_region_held3 (fun W => W.cell? ⟨cy, 0, none⟩ = some (.int .i64 5) ∧ W.cell? ⟨ca, 0, none⟩ = some (.int .i64 4) ∧ W.cell? ⟨ca, 1, none⟩ = some (.string ⟨#[]⟩) ∧ W.cell? ⟨ca, 2, none⟩ = some (.string ⟨#[]⟩) ∧ W.cell? ⟨ca, 3, none⟩ = some (.int .i64 0) ∧ W.cell? ⟨ca, 4, none⟩ = some (.slice (some ⟨bz, offz, none⟩) 1 cap0) ∧ W.cell? ⟨cb, 0, none⟩ = some (.int .i64 4) ∧ W.cell? ⟨cb, 1, none⟩ = some (.string ⟨#[]⟩) ∧ W.cell? ⟨cb, 2, none⟩ = some (.string ⟨#[]⟩) ∧ W.cell? ⟨cb, 3, none⟩ = some (.int .i64 0) ∧ W.cell? ⟨cb, 4, none⟩ = some (.slice (some ⟨bz, offz + 5, none⟩) 1 (cap0 - 1))) (first | with_reducible exact ⟨y, e0, e1, e2, e3, e4, b0, b1, b2, b3, b4⟩ | with_reducible exact ⟨yd, e0d, e1d, e2d, e3d, e4d, b0d, b1d, b2d, b3d, b4d⟩ | with_reducible exact ⟨ya, e0a, e1a, e2a, e3a, e4a, b0a, b1a, b2a, b3a, b4a⟩ | with_reducible exact ⟨yb, e0b, e1b, e2b, e3b, e4b, b0b, b1b, b2b, b3b, b4b⟩ | (with_reducible exact ⟨(World.cell?_alloc_lt _ _ ⟨cy, 0, none⟩ ly2).trans yb, (World.cell?_alloc_lt _ _ ⟨ca, 0, none⟩ la2).trans e0b, (World.cell?_alloc_lt _ _ ⟨ca, 1, none⟩ la2).trans e1b, (World.cell?_alloc_lt _ _ ⟨ca, 2, none⟩ la2).trans e2b, (World.cell?_alloc_lt _ _ ⟨ca, 3, none⟩ la2).trans e3b, (World.cell?_alloc_lt _ _ ⟨ca, 4, none⟩ la2).trans e4b, (World.cell?_alloc_lt _ _ ⟨cb, 0, none⟩ lb2).trans b0b, (World.cell?_alloc_lt _ _ ⟨cb, 1, none⟩ lb2).trans b1b, (World.cell?_alloc_lt _ _ ⟨cb, 2, none⟩ lb2).trans b2b, (World.cell?_alloc_lt _ _ ⟨cb, 3, none⟩ lb2).trans b3b, (World.cell?_alloc_lt _ _ ⟨cb, 4, none⟩ lb2).trans b4b⟩) | go_keep) (first | (go_at_call 10; have hxx := hb1.size; clear hxx; refine Calls.mono (HC1.out _ ((show Below wc.heap.size wc wc.drew from by go_grown).trans hb1)) ?_; rintro e w2 ⟨n0, n1, n2, n3, nd, nl, nc, rfl, hy2, hb2⟩; have HY2 := Lib.hid hy2; clear hy2; have s0 := (hb2.cell (p := ⟨cx + 1, 0, none⟩) (Nat.lt_of_lt_of_le lr hb1.size)).trans ((hb1.cell (p := ⟨cx + 1, 0, none⟩) lr).trans r0'); have s1 := (hb2.cell (p := ⟨cx + 1, 1, none⟩) (Nat.lt_of_lt_of_le lr hb1.size)).trans ((hb1.cell (p := ⟨cx + 1, 1, none⟩) lr).trans r1'); have s2 := (hb2.cell (p := ⟨cx + 1, 2, none⟩) (Nat.lt_of_lt_of_le lr hb1.size)).trans ((hb1.cell (p := ⟨cx + 1, 2, none⟩) lr).trans r2'); have s3 := (hb2.cell (p := ⟨cx + 1, 3, none⟩) (Nat.lt_of_lt_of_le lr hb1.size)).trans ((hb1.cell (p := ⟨cx + 1, 3, none⟩) lr).trans r3'); have s4 := (hb2.cell (p := ⟨cx + 1, 4, none⟩) (Nat.lt_of_lt_of_le lr hb1.size)).trans ((hb1.cell (p := ⟨cx + 1, 4, none⟩) lr).trans r4'); have q0 := (hb2.frozen (p := ⟨cx + 1, 0, none⟩) (Nat.lt_of_lt_of_le lr hb1.size)).trans ((hb1.frozen (p := ⟨cx + 1, 0, none⟩) lr).trans (rz 0)); have q1 := (hb2.frozen (p := ⟨cx + 1, 1, none⟩) (Nat.lt_of_lt_of_le lr hb1.size)).trans ((hb1.frozen (p := ⟨cx + 1, 1, none⟩) lr).trans (rz 1)); have q2 := (hb2.frozen (p := ⟨cx + 1, 2, none⟩) (Nat.lt_of_lt_of_le lr hb1.size)).trans ((hb1.frozen (p := ⟨cx + 1, 2, none⟩) lr).trans (rz 2)); have q3 := (hb2.frozen (p := ⟨cx + 1, 3, none⟩) (Nat.lt_of_lt_of_le lr hb1.size)).trans ((hb1.frozen (p := ⟨cx + 1, 3, none⟩) lr).trans (rz 3)); have q4 := (hb2.frozen (p := ⟨cx + 1, 4, none⟩) (Nat.lt_of_lt_of_le lr hb1.size)).trans ((hb1.frozen (p := ⟨cx + 1, 4, none⟩) lr).trans (rz 4)); have yb : w2.cell? ⟨cy, 0, none⟩ = some (.int .i64 5) := (hb2.cell (p := ⟨cy, 0, none⟩) (Nat.lt_of_lt_of_le ly hb1.size)).trans ya; have e0b : w2.cell? ⟨ca, 0, none⟩ = some (.int .i64 4) := (hb2.cell (p := ⟨ca, 0, none⟩) (Nat.lt_of_lt_of_le la hb1.size)).trans e0a; have e1b : w2.cell? ⟨ca, 1, none⟩ = some (.string ⟨#[]⟩) := (hb2.cell (p := ⟨ca, 1, none⟩) (Nat.lt_of_lt_of_le la hb1.size)).trans e1a; have e2b : w2.cell? ⟨ca, 2, none⟩ = some (.string ⟨#[]⟩) := (hb2.cell (p := ⟨ca, 2, none⟩) (Nat.lt_of_lt_of_le la hb1.size)).trans e2a; have e3b : w2.cell? ⟨ca, 3, none⟩ = some (.int .i64 0) := (hb2.cell (p := ⟨ca, 3, none⟩) (Nat.lt_of_lt_of_le la hb1.size)).trans e3a; have e4b : w2.cell? ⟨ca, 4, none⟩ = some (.slice (some ⟨bz, offz, none⟩) 1 cap0) := (hb2.cell (p := ⟨ca, 4, none⟩) (Nat.lt_of_lt_of_le la hb1.size)).trans e4a; have b0b : w2.cell? ⟨cb, 0, none⟩ = some (.int .i64 4) := (hb2.cell (p := ⟨cb, 0, none⟩) (Nat.lt_of_lt_of_le lb hb1.size)).trans b0a; have b1b : w2.cell? ⟨cb, 1, none⟩ = some (.string ⟨#[]⟩) := (hb2.cell (p := ⟨cb, 1, none⟩) (Nat.lt_of_lt_of_le lb hb1.size)).trans b1a; have b2b : w2.cell? ⟨cb, 2, none⟩ = some (.string ⟨#[]⟩) := (hb2.cell (p := ⟨cb, 2, none⟩) (Nat.lt_of_lt_of_le lb hb1.size)).trans b2a; have b3b : w2.cell? ⟨cb, 3, none⟩ = some (.int .i64 0) := (hb2.cell (p := ⟨cb, 3, none⟩) (Nat.lt_of_lt_of_le lb hb1.size)).trans b3a; have b4b : w2.cell? ⟨cb, 4, none⟩ = some (.slice (some ⟨bz, offz + 5, none⟩) 1 (cap0 - 1)) := (hb2.cell (p := ⟨cb, 4, none⟩) (Nat.lt_of_lt_of_le lb hb1.size)).trans b4a; have ly2 : cy < w2.heap.size := Nat.lt_of_lt_of_le (Nat.lt_of_lt_of_le ly hb1.size) hb2.size; have la2 : ca < w2.heap.size := Nat.lt_of_lt_of_le (Nat.lt_of_lt_of_le la hb1.size) hb2.size; have lb2 : cb < w2.heap.size := Nat.lt_of_lt_of_le (Nat.lt_of_lt_of_le lb hb1.size) hb2.size; have hc2 : cx + 1 < w2.heap.size := Nat.lt_of_lt_of_le (Nat.lt_of_lt_of_le lr hb1.size) hb2.size) | (go_at_call 10; refine Calls.mono (HC0.out _ (by first | exact Below.refl _ _ | go_grown)) ?_; rintro e w1 ⟨x0, x1, x2, x3, xd, xl, xc, rfl, hx1, hb1⟩; have HX1 := Lib.hid hx1; clear hx1; have ya : w1.cell? ⟨cy, 0, none⟩ = some (.int .i64 5) := (hb1.cell (p := ⟨cy, 0, none⟩) ly).trans y; have e0a : w1.cell? ⟨ca, 0, none⟩ = some (.int .i64 4) := (hb1.cell (p := ⟨ca, 0, none⟩) la).trans e0; have e1a : w1.cell? ⟨ca, 1, none⟩ = some (.string ⟨#[]⟩) := (hb1.cell (p := ⟨ca, 1, none⟩) la).trans e1; have e2a : w1.cell? ⟨ca, 2, none⟩ = some (.string ⟨#[]⟩) := (hb1.cell (p := ⟨ca, 2, none⟩) la).trans e2; have e3a : w1.cell? ⟨ca, 3, none⟩ = some (.int .i64 0) := (hb1.cell (p := ⟨ca, 3, none⟩) la).trans e3; have e4a : w1.cell? ⟨ca, 4, none⟩ = some (.slice (some ⟨bz, offz, none⟩) 1 cap0) := (hb1.cell (p := ⟨ca, 4, none⟩) la).trans e4; have b0a : w1.cell? ⟨cb, 0, none⟩ = some (.int .i64 4) := (hb1.cell (p := ⟨cb, 0, none⟩) lb).trans b0; have b1a : w1.cell? ⟨cb, 1, none⟩ = some (.string ⟨#[]⟩) := (hb1.cell (p := ⟨cb, 1, none⟩) lb).trans b1; have b2a : w1.cell? ⟨cb, 2, none⟩ = some (.string ⟨#[]⟩) := (hb1.cell (p := ⟨cb, 2, none⟩) lb).trans b2; have b3a : w1.cell? ⟨cb, 3, none⟩ = some (.int .i64 0) := (hb1.cell (p := ⟨cb, 3, none⟩) lb).trans b3; have b4a : w1.cell? ⟨cb, 4, none⟩ = some (.slice (some ⟨bz, offz + 5, none⟩) 1 (cap0 - 1)) := (hb1.cell (p := ⟨cb, 4, none⟩) lb).trans b4))) | fail
            all_goals
              go_wp2_with fail
              have hcx := HCX.out
              have hA := HHA.out
              have hsy := HSY.out
              have hwc := HBC.out.size
              have HB1 : Below wc.heap.size wc w1 := (show Below wc.heap.size wc wc.drew from by go_grown).trans hb1
              have HBw2 : Below w.heap.size w w2 := HBWC.out.trans ((HB1.trans (hb2.mono HB1.size)).mono HBWC.out.size)
              refine bodyPost_ret (v := .agg #[.int .i64 6, .string ⟨#[]⟩, .string ⟨#[]⟩, .int .i64 0, .slice (some ⟨w2.heap.size, 0, none⟩) 2 2]) (by simp [results, Tryd.results10, go_sem, s0, s1, s2, s3, s4, World.cell?_alloc_lt, hc2]) rfl ?_
              rw [HVV.out]
              exact two_end 6 HBw2 hb2 HB1.size (by omega) hcx hA HX1.out HY2.out
        · go_enter Tryd.func10, Tryd.ntmps10
          go_upto_region 1 with fail
          rw [← hW0, ← hcx]
          clear hW0 hcx
          go_upto_region 3 with fail
          rw [← hwy, ← hcy]
          clear hwy hcy
          go_upto_region 8 with fail
          go_cut [4, 5] (fun x y W => PairP wy bz offz cap0 x y W)
          case first =>
            go_region
            all_goals
              go_wp2_with fail
              go_meet
            all_goals
              first | exact PairP.ab wy bz offz cap0 (cx + 3) hsy.symm | exact PairP.ba wy bz offz cap0 (cx + 3) hsy.symm
          case rest =>
            obtain ⟨ca, cb, rfl, rfl, hbc, ga, la, gb, lb, ⟨e0, e1, e2, e3, e4⟩, ⟨b0, b1, b2, b3, b4⟩⟩ := hcut
            have y := (hbc.cell (p := ⟨cy, 0, none⟩) hcy0).trans y0
            have ly : cy < wc.heap.size := Nat.lt_of_lt_of_le hcy0 hbc.size
            have ne1 : ¬ cx + 1 = cy := by have := HCY.out; omega
            have ne2 : ¬ cy = cx + 1 := by have := HCY.out; omega
            have ne3 : ¬ cx + 1 = ca := by omega
            have ne4 : ¬ ca = cx + 1 := by omega
            have ne5 : ¬ cx + 1 = cb := by omega
            have ne6 : ¬ cb = cx + 1 := by omega
            have w6 : IntKind.i64.wrap 6 = 6 := IntWalk.i64_in _ (by decide)
            have w5 : IntKind.i64.wrap 5 = 5 := IntWalk.i64_in _ (by decide)
            clear ga gb
            have HBC := Lib.hid hbc
            have HBWC := Lib.hid (HBY.out.trans (hbc.mono HBY.out.size))
            have HC0 : Hid (∀ W, Below wc.heap.size wc W → Calls Tryd.prog 10 #[.agg #[.int .i64 4, .string ⟨#[]⟩, .string ⟨#[]⟩, .int .i64 0, .slice (some ⟨bz, offz, none⟩) 1 cap0]] W (NrmQ A W (yy.nrm true))) := Lib.hid (fun W hW => HP0.out W (HBC.out.trans (hW.mono HBC.out.size)))
            have HC1 : Hid (∀ W, Below wc.heap.size wc W → Calls Tryd.prog 10 #[.agg #[.int .i64 4, .string ⟨#[]⟩, .string ⟨#[]⟩, .int .i64 0, .slice (some ⟨bz, offz + 5, none⟩) 1 (cap0 - 1)]] W (NrmQ A W (zz.nrm true))) := Lib.hid (fun W hW => HP1.out W (HBC.out.trans (hW.mono HBC.out.size)))
            have lr : cx + 1 < wc.heap.size := Nat.lt_of_lt_of_le hcx1y hbc.size
            have r0' := (hbc.cell (p := ⟨cx + 1, 0, none⟩) hcx1y).trans f0
            have r1' := (hbc.cell (p := ⟨cx + 1, 1, none⟩) hcx1y).trans f1
            have r2' := (hbc.cell (p := ⟨cx + 1, 2, none⟩) hcx1y).trans f2
            have r3' := (hbc.cell (p := ⟨cx + 1, 3, none⟩) hcx1y).trans f3
            have r4' := (hbc.cell (p := ⟨cx + 1, 4, none⟩) hcx1y).trans f4
            have rz := fun i => (hbc.frozen (p := ⟨cx + 1, i, none⟩) hcx1y).trans (fz i)
            clear hbc f0 f1 f2 f3 f4 fz y0 y4 y4a y4b d0 d1 d2 d3 d4 r0 r1 r2 r3 r4 g0 g1 g2 g3 g4
            go_upto_region 9 with fail
            have yd : wc.drew.cell? ⟨cy, 0, none⟩ = some (.int .i64 6) := y
            have e0d : wc.drew.cell? ⟨ca, 0, none⟩ = some (.int .i64 4) := e0
            have e1d : wc.drew.cell? ⟨ca, 1, none⟩ = some (.string ⟨#[]⟩) := e1
            have e2d : wc.drew.cell? ⟨ca, 2, none⟩ = some (.string ⟨#[]⟩) := e2
            have e3d : wc.drew.cell? ⟨ca, 3, none⟩ = some (.int .i64 0) := e3
            have e4d : wc.drew.cell? ⟨ca, 4, none⟩ = some (.slice (some ⟨bz, offz, none⟩) 1 cap0) := e4
            have b0d : wc.drew.cell? ⟨cb, 0, none⟩ = some (.int .i64 4) := b0
            have b1d : wc.drew.cell? ⟨cb, 1, none⟩ = some (.string ⟨#[]⟩) := b1
            have b2d : wc.drew.cell? ⟨cb, 2, none⟩ = some (.string ⟨#[]⟩) := b2
            have b3d : wc.drew.cell? ⟨cb, 3, none⟩ = some (.int .i64 0) := b3
            have b4d : wc.drew.cell? ⟨cb, 4, none⟩ = some (.slice (some ⟨bz, offz + 5, none⟩) 1 (cap0 - 1)) := b4
            first | (go_region_held3 (fun W => W.cell? ⟨cy, 0, none⟩ = some (.int .i64 6) ∧ W.cell? ⟨ca, 0, none⟩ = some (.int .i64 4) ∧ W.cell? ⟨ca, 1, none⟩ = some (.string ⟨#[]⟩) ∧ W.cell? ⟨ca, 2, none⟩ = some (.string ⟨#[]⟩) ∧ W.cell? ⟨ca, 3, none⟩ = some (.int .i64 0) ∧ W.cell? ⟨ca, 4, none⟩ = some (.slice (some ⟨bz, offz, none⟩) 1 cap0) ∧ W.cell? ⟨cb, 0, none⟩ = some (.int .i64 4) ∧ W.cell? ⟨cb, 1, none⟩ = some (.string ⟨#[]⟩) ∧ W.cell? ⟨cb, 2, none⟩ = some (.string ⟨#[]⟩) ∧ W.cell? ⟨cb, 3, none⟩ = some (.int .i64 0) ∧ W.cell? ⟨cb, 4, none⟩ = some (.slice (some ⟨bz, offz + 5, none⟩) 1 (cap0 - 1))) (first | with_reducible exact ⟨y, e0, e1, e2, e3, e4, b0, b1, b2, b3, b4⟩ | with_reducible exact ⟨yd, e0d, e1d, e2d, e3d, e4d, b0d, b1d, b2d, b3d, b4d⟩ | with_reducible exact ⟨ya, e0a, e1a, e2a, e3a, e4a, b0a, b1a, b2a, b3a, b4a⟩ | with_reducible exact ⟨yb, e0b, e1b, e2b, e3b, e4b, b0b, b1b, b2b, b3b, b4b⟩ | (with_reducible exact ⟨(World.cell?_alloc_lt _ _ ⟨cy, 0, none⟩ ly2).trans yb, (World.cell?_alloc_lt _ _ ⟨ca, 0, none⟩ la2).trans e0b, (World.cell?_alloc_lt _ _ ⟨ca, 1, none⟩ la2).trans e1b, (World.cell?_alloc_lt _ _ ⟨ca, 2, none⟩ la2).trans e2b, (World.cell?_alloc_lt _ _ ⟨ca, 3, none⟩ la2).trans e3b, (World.cell?_alloc_lt _ _ ⟨ca, 4, none⟩ la2).trans e4b, (World.cell?_alloc_lt _ _ ⟨cb, 0, none⟩ lb2).trans b0b, (World.cell?_alloc_lt _ _ ⟨cb, 1, none⟩ lb2).trans b1b, (World.cell?_alloc_lt _ _ ⟨cb, 2, none⟩ lb2).trans b2b, (World.cell?_alloc_lt _ _ ⟨cb, 3, none⟩ lb2).trans b3b, (World.cell?_alloc_lt _ _ ⟨cb, 4, none⟩ lb2).trans b4b⟩) | go_keep) (first | (go_at_call 10; have hxx := hb1.size; clear hxx; refine Calls.mono (HC1.out _ ((show Below wc.heap.size wc wc.drew from by go_grown).trans hb1)) ?_; rintro e w2 ⟨n0, n1, n2, n3, nd, nl, nc, rfl, hy2, hb2⟩; have HY2 := Lib.hid hy2; clear hy2; have s0 := (hb2.cell (p := ⟨cx + 1, 0, none⟩) (Nat.lt_of_lt_of_le lr hb1.size)).trans ((hb1.cell (p := ⟨cx + 1, 0, none⟩) lr).trans r0'); have s1 := (hb2.cell (p := ⟨cx + 1, 1, none⟩) (Nat.lt_of_lt_of_le lr hb1.size)).trans ((hb1.cell (p := ⟨cx + 1, 1, none⟩) lr).trans r1'); have s2 := (hb2.cell (p := ⟨cx + 1, 2, none⟩) (Nat.lt_of_lt_of_le lr hb1.size)).trans ((hb1.cell (p := ⟨cx + 1, 2, none⟩) lr).trans r2'); have s3 := (hb2.cell (p := ⟨cx + 1, 3, none⟩) (Nat.lt_of_lt_of_le lr hb1.size)).trans ((hb1.cell (p := ⟨cx + 1, 3, none⟩) lr).trans r3'); have s4 := (hb2.cell (p := ⟨cx + 1, 4, none⟩) (Nat.lt_of_lt_of_le lr hb1.size)).trans ((hb1.cell (p := ⟨cx + 1, 4, none⟩) lr).trans r4'); have q0 := (hb2.frozen (p := ⟨cx + 1, 0, none⟩) (Nat.lt_of_lt_of_le lr hb1.size)).trans ((hb1.frozen (p := ⟨cx + 1, 0, none⟩) lr).trans (rz 0)); have q1 := (hb2.frozen (p := ⟨cx + 1, 1, none⟩) (Nat.lt_of_lt_of_le lr hb1.size)).trans ((hb1.frozen (p := ⟨cx + 1, 1, none⟩) lr).trans (rz 1)); have q2 := (hb2.frozen (p := ⟨cx + 1, 2, none⟩) (Nat.lt_of_lt_of_le lr hb1.size)).trans ((hb1.frozen (p := ⟨cx + 1, 2, none⟩) lr).trans (rz 2)); have q3 := (hb2.frozen (p := ⟨cx + 1, 3, none⟩) (Nat.lt_of_lt_of_le lr hb1.size)).trans ((hb1.frozen (p := ⟨cx + 1, 3, none⟩) lr).trans (rz 3)); have q4 := (hb2.frozen (p := ⟨cx + 1, 4, none⟩) (Nat.lt_of_lt_of_le lr hb1.size)).trans ((hb1.frozen (p := ⟨cx + 1, 4, none⟩) lr).trans (rz 4)); have yb : w2.cell? ⟨cy, 0, none⟩ = some (.int .i64 6) := (hb2.cell (p := ⟨cy, 0, none⟩) (Nat.lt_of_lt_of_le ly hb1.size)).trans ya; have e0b : w2.cell? ⟨ca, 0, none⟩ = some (.int .i64 4) := (hb2.cell (p := ⟨ca, 0, none⟩) (Nat.lt_of_lt_of_le la hb1.size)).trans e0a; have e1b : w2.cell? ⟨ca, 1, none⟩ = some (.string ⟨#[]⟩) := (hb2.cell (p := ⟨ca, 1, none⟩) (Nat.lt_of_lt_of_le la hb1.size)).trans e1a; have e2b : w2.cell? ⟨ca, 2, none⟩ = some (.string ⟨#[]⟩) := (hb2.cell (p := ⟨ca, 2, none⟩) (Nat.lt_of_lt_of_le la hb1.size)).trans e2a; have e3b : w2.cell? ⟨ca, 3, none⟩ = some (.int .i64 0) := (hb2.cell (p := ⟨ca, 3, none⟩) (Nat.lt_of_lt_of_le la hb1.size)).trans e3a; have e4b : w2.cell? ⟨ca, 4, none⟩ = some (.slice (some ⟨bz, offz, none⟩) 1 cap0) := (hb2.cell (p := ⟨ca, 4, none⟩) (Nat.lt_of_lt_of_le la hb1.size)).trans e4a; have b0b : w2.cell? ⟨cb, 0, none⟩ = some (.int .i64 4) := (hb2.cell (p := ⟨cb, 0, none⟩) (Nat.lt_of_lt_of_le lb hb1.size)).trans b0a; have b1b : w2.cell? ⟨cb, 1, none⟩ = some (.string ⟨#[]⟩) := (hb2.cell (p := ⟨cb, 1, none⟩) (Nat.lt_of_lt_of_le lb hb1.size)).trans b1a; have b2b : w2.cell? ⟨cb, 2, none⟩ = some (.string ⟨#[]⟩) := (hb2.cell (p := ⟨cb, 2, none⟩) (Nat.lt_of_lt_of_le lb hb1.size)).trans b2a; have b3b : w2.cell? ⟨cb, 3, none⟩ = some (.int .i64 0) := (hb2.cell (p := ⟨cb, 3, none⟩) (Nat.lt_of_lt_of_le lb hb1.size)).trans b3a; have b4b : w2.cell? ⟨cb, 4, none⟩ = some (.slice (some ⟨bz, offz + 5, none⟩) 1 (cap0 - 1)) := (hb2.cell (p := ⟨cb, 4, none⟩) (Nat.lt_of_lt_of_le lb hb1.size)).trans b4a; have ly2 : cy < w2.heap.size := Nat.lt_of_lt_of_le (Nat.lt_of_lt_of_le ly hb1.size) hb2.size; have la2 : ca < w2.heap.size := Nat.lt_of_lt_of_le (Nat.lt_of_lt_of_le la hb1.size) hb2.size; have lb2 : cb < w2.heap.size := Nat.lt_of_lt_of_le (Nat.lt_of_lt_of_le lb hb1.size) hb2.size; have hc2 : cx + 1 < w2.heap.size := Nat.lt_of_lt_of_le (Nat.lt_of_lt_of_le lr hb1.size) hb2.size) | (go_at_call 10; refine Calls.mono (HC0.out _ (by first | exact Below.refl _ _ | go_grown)) ?_; rintro e w1 ⟨x0, x1, x2, x3, xd, xl, xc, rfl, hx1, hb1⟩; have HX1 := Lib.hid hx1; clear hx1; have ya : w1.cell? ⟨cy, 0, none⟩ = some (.int .i64 6) := (hb1.cell (p := ⟨cy, 0, none⟩) ly).trans y; have e0a : w1.cell? ⟨ca, 0, none⟩ = some (.int .i64 4) := (hb1.cell (p := ⟨ca, 0, none⟩) la).trans e0; have e1a : w1.cell? ⟨ca, 1, none⟩ = some (.string ⟨#[]⟩) := (hb1.cell (p := ⟨ca, 1, none⟩) la).trans e1; have e2a : w1.cell? ⟨ca, 2, none⟩ = some (.string ⟨#[]⟩) := (hb1.cell (p := ⟨ca, 2, none⟩) la).trans e2; have e3a : w1.cell? ⟨ca, 3, none⟩ = some (.int .i64 0) := (hb1.cell (p := ⟨ca, 3, none⟩) la).trans e3; have e4a : w1.cell? ⟨ca, 4, none⟩ = some (.slice (some ⟨bz, offz, none⟩) 1 cap0) := (hb1.cell (p := ⟨ca, 4, none⟩) la).trans e4; have b0a : w1.cell? ⟨cb, 0, none⟩ = some (.int .i64 4) := (hb1.cell (p := ⟨cb, 0, none⟩) lb).trans b0; have b1a : w1.cell? ⟨cb, 1, none⟩ = some (.string ⟨#[]⟩) := (hb1.cell (p := ⟨cb, 1, none⟩) lb).trans b1; have b2a : w1.cell? ⟨cb, 2, none⟩ = some (.string ⟨#[]⟩) := (hb1.cell (p := ⟨cb, 2, none⟩) lb).trans b2; have b3a : w1.cell? ⟨cb, 3, none⟩ = some (.int .i64 0) := (hb1.cell (p := ⟨cb, 3, none⟩) lb).trans b3; have b4a : w1.cell? ⟨cb, 4, none⟩ = some (.slice (some ⟨bz, offz + 5, none⟩) 1 (cap0 - 1)) := (hb1.cell (p := ⟨cb, 4, none⟩) lb).trans b4))) | fail
            all_goals
              go_wp2_with fail
              have hcx := HCX.out
              have hA := HHA.out
              have hsy := HSY.out
              have hwc := HBC.out.size
              have HB1 : Below wc.heap.size wc w1 := (show Below wc.heap.size wc wc.drew from by go_grown).trans hb1
              have HBw2 : Below w.heap.size w w2 := HBWC.out.trans ((HB1.trans (hb2.mono HB1.size)).mono HBWC.out.size)
              refine bodyPost_ret (v := .agg #[.int .i64 5, .string ⟨#[]⟩, .string ⟨#[]⟩, .int .i64 0, .slice (some ⟨w2.heap.size, 0, none⟩) 2 2]) (by simp [results, Tryd.results10, go_sem, s0, s1, s2, s3, s4, World.cell?_alloc_lt, hc2]) rfl ?_
              rw [HVV.out]
              exact two_end 5 HBw2 hb2 HB1.size (by omega) hcx hA HX1.out HY2.out
theorem Pushed_any (x : Ask) (v : Value) (w : World) (he : x.err = 0) (hx : AskV w x v) : Calls Tryd.prog 10 #[v] w (NrmQ w.heap.size w (x.nrm false)) := pushed_all x.size x v w w.heap.size (Nat.le_refl _) he (Nat.le_refl _) (AskV.toP x v hx)
end Go.Proofs.YtkelkpfjkjcmgaaDoor
