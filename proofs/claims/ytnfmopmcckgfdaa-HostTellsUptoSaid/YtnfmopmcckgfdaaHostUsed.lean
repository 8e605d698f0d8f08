/- Contracts: WithUsed: the row with other amounts in use at one; SameHosts of two rows that read alike; the document's. -/
import Derived.Test.YtnfmopmcckgfdaaHostTake
import Derived.Test.YtnfmopmcckgfdaaHostFitM
import Derived.BigQuiet
namespace Go.Proofs.Ytnfmopmcckgfdaa
open Go.ChangeShapes Go.WideShapes Go.ChangeAt Go.RowKit
set_option linter.unusedVariables false
open Tp
def UsedQ (w : World) (L : List Hst) (e : Ending) (w' : World) : Prop := ∃ a cp, e = .returned (.slice a L.length cp) ∧ Hosts w' a L ∧ L.length ≤ cp ∧ Below w.heap.size w w'
set_option maxRecDepth 20000 in
set_option maxHeartbeats 8000000 in
theorem WithUsed_any (L : List Hst) (a : Option Addr) (n cap k : Nat) (h : Hst) (A : Amt) (w : World) (hn : n = L.length) (hl : n ≤ 30) (hx : L[k]? = some h) (hL : Hosts w a L) :
    Calls Try.prog 19 #[.slice a n cap, .int .i64 (k : Int), A.v] w fun e w' => UsedQ w (L.set k (h.useSet A)) e w' := by
  obtain ⟨W0, hW0⟩ : ∃ W, W = w.alloc (.cells #[.int .i64 A.cpu, .int .i64 A.mem, .int .i64 A.gpu] 27) := ⟨_, rfl⟩
  obtain ⟨ca, hca⟩ : ∃ c, c = w.heap.size := ⟨_, rfl⟩
  have HA := Lib.hid (amtBox hca hW0)
  have hb : Below w.heap.size w W0 := by rw [hW0]; exact (Below.refl _ _).alloc (Nat.le_refl _) _
  have HB := Lib.hid hb
  have HX := Lib.hid hx
  have hkn : k < n := by rw [hn]; exact (List.getElem?_eq_some_iff.1 hx).1
  obtain ⟨b, off, rfl, hbw, hc⟩ := (hL.below hb) (by omega)
  obtain ⟨xs, hr, hxs⟩ := hosts_row hc
  have HLEN : Hid (xs.length = n * 8) := Lib.hid (by rw [hr.len, hn])
  have H1 := Lib.hid hr.one
  have HNW : Hid (∀ j u, xs[j]? = some u → W0.cell? ((⟨b, off, none⟩ : Addr).add j) = some u) := Lib.hid (fun j u hj => by rw [Addr.add_mid]; exact hxs j u hj)
  have HR : Hid (HRow (fun b => b < W0.heap.size) W0 L xs) := Lib.hid (hr.stays (fun b _ h => h) (Nat.le_refl _) (fun _ _ _ => rfl))
  have HN := Lib.hid hn
  obtain ⟨i0, hi, hz0, hz1, hz2⟩ := info_parts infoHost
  have hk1 : (0 : Int) ≤ (k : Int) := by omega
  have hk2 : (k : Int) < (n : Int) := by omega
  clear hn hx hL hb hbw hc hr hxs
  unfold Amt.v
  go_enter Try.func19, Try.ntmps19
  go_upto_region 1 with fail
  rw [← hW0, ← hca]
  clear hW0 hca
  go_upto_region 2 with (at_builtin; refine wpList_append_own_at _ (by rfl) _ _ 22 (by rfl) W0.heap.size 30 i0 (.agg #[.string ⟨#[]⟩, .slice none 0 0, .int .i64 0, .int .i64 0, .int .i64 0, .int .i64 0, .int .i64 0, .int .i64 0]) 8 88 Try.underlying22 hi hz0 hz1 hz2 (by rfl) (by decide) (.slice none 0 0) 0 [] (by rfl) (World.ownsRow_nil _ _ _ _) ⟨b, off, none⟩ n cap xs (by rfl) HLEN.out HNW.out H1.out (by unfold maxLen; omega) (by omega) (Nat.le_refl _) ?_; intro v9 w1 hown1 hgrow1 q1 q2; clear q1 q2; simp only [Nat.zero_add, List.nil_append] at hown1; have HB1 := Lib.hid (show Below W0.heap.size W0 w1 from (Below.refl _ _).grown hgrow1 (Nat.le_refl _) (fun k hk => by simp [Value.ownBlock] at hk)); have HO := Lib.hid hown1; clear hown1 hgrow1)
  have HO2 := Lib.hid (clone_own HN.out HO.out (HR.out.stays (fun b h _ => h) HB1.out.size (fun b h _ => HB1.out.block b h)))
  clear HO
  obtain ⟨a4, cp4, rfl, hcp, hcp2, hO9⟩ := HO2.out
  obtain ⟨g, rfl, hO⟩ := hO9 (by rw [← HN.out]; omega)
  clear hO9
  rw [← HN.out] at hcp HO2 ⊢
  have HO := Lib.hid hO
  obtain ⟨la', lc', hcell', _, _, _, _⟩ := hO.row k h HX.out
  have x5 := hcell' 5 _ rfl
  have x6 := hcell' 6 _ rfl
  have x7 := hcell' 7 _ rfl
  have z5 := hO.frz (k * 8 + 5)
  have z6 := hO.frz (k * 8 + 6)
  have z7 := hO.frz (k * 8 + 7)
  have hcn := HA.out.lt
  have m0 := (HB1.out.cell (p := ⟨ca, 0, none⟩) hcn).trans HA.out.c0
  have m1 := (HB1.out.cell (p := ⟨ca, 1, none⟩) hcn).trans HA.out.c1
  have m2 := (HB1.out.cell (p := ⟨ca, 2, none⟩) hcn).trans HA.out.c2
  have hg4 := hO.lt
  clear hcell' hO hcn
  go_wp2_with fail
  go_ret
  have hs := OwnG.setUsed (u := A) HO.out HX.out
  have hlo : w.heap.size ≤ g := Nat.le_trans HB.out.size HO.out.lo
  refine ⟨some ⟨g, 0, none⟩, cp4, by rw [List.length_set, ← HN.out]; rfl, fun _ => ⟨g, 0, rfl, hs.lt, fun i x hx => by rw [Nat.zero_add]; exact (hs.row i x hx).toC⟩, by rw [List.length_set, ← HN.out]; exact hcp, ?_⟩
  exact (((HB.out.trans (HB1.out.mono HB.out.size)).setCell (p := ⟨g, k * 8 + 5, none⟩) hlo _).setCell (p := ⟨g, k * 8 + 5 + 1, none⟩) hlo _).setCell (p := ⟨g, k * 8 + 5 + 2, none⟩) hlo _
set_option maxRecDepth 20000 in
set_option maxHeartbeats 8000000 in
theorem SameHosts_same (L : List Hst) (a1 a2 : Option Addr) (n c1 c2 : Nat) (w : World) (hn : n = L.length) (hl : n ≤ 30) (h8 : ∀ (i : Nat) (h : Hst), L[i]? = some h → h.labels.length ≤ 8) (h1 : Hosts w a1 L) (h2 : Hosts w a2 L) :
    Calls Try.prog 18 #[.slice a1 n c1, .slice a2 n c2] w fun e w' => e = .returned (.bool true) ∧ Below w.heap.size w w' := by
  have H1 := Lib.hid h1
  have H2 := Lib.hid h2
  have HN := Lib.hid hn
  have hnn : ((n : Int) != (n : Int)) = false := by simp
  clear h1 h2 hn
  go_enter Try.func18, Try.ntmps18
  go_wp2_with fail
  go_loopg [14] n (fun g y wr => ∃ (j : Nat), j + g = n ∧ y = .int .i64 (j : Int) ∧ Hid (Below w.heap.size w wr))
  case atStart => exact ⟨0, by omega, rfl, Lib.hid (Below.refl _ _)⟩
  case round =>
    obtain ⟨j, hj, rfl, HB⟩ := hrel
    have HJ := Lib.hid hj
    by_cases hjn : j < n
    · obtain ⟨x, hx⟩ : ∃ x, L[j]? = some x := ⟨_, List.getElem?_eq_getElem (by rw [← HN.out]; exact hjn)⟩
      obtain ⟨b, off, rfl, hb, hat⟩ := (H1.out.below HB.out) (by rw [← HN.out]; omega)
      obtain ⟨b', off', rfl, hb', hat'⟩ := (H2.out.below HB.out) (by rw [← HN.out]; omega)
      obtain ⟨la, lc, hhv, x0, x1, x2, x3, x4, x5, x6, x7⟩ := (hat j x hx).val
      obtain ⟨la', lc', hhv', y0, y1, y2, y3, y4, y5, y6, y7⟩ := (hat' j x hx).val
      obtain ⟨_, _, hcc, _, _, hlabs, _⟩ := hat j x hx
      obtain ⟨_, _, hcc', _, _, hlabs', _⟩ := hat' j x hx
      have e1 := (hcc 1 _ rfl).symm.trans x1
      have e2 := (hcc' 1 _ rfl).symm.trans y1
      cases e1
      cases e2
      have HLA := Lib.hid hlabs
      have HLB := Lib.hid hlabs'
      obtain ⟨nm, hnm⟩ : ∃ s, bts x.name = s := ⟨_, rfl⟩
      obtain ⟨m, hm⟩ : ∃ m, x.labels.length = m := ⟨_, rfl⟩
      have HM := Lib.hid hm
      have hm8 : m ≤ 8 := by rw [← hm]; exact h8 j x hx
      rw [hnm] at x0 y0
      rw [hm] at x1 y1
      have hj1 : (0 : Int) ≤ (j : Int) := by omega
      have hj2 : (j : Int) < (n : Int) := by omega
      have hmm : ((m : Int) != (m : Int)) = false := by simp
      have HAt1 := Lib.hid (hat j x hx)
      clear hat hat' hcc hcc' hlabs hlabs' hhv hhv' hnm hm hx hj
      go_upto_region 6 with fail
      go_quiet (fail)
      go_upto_region 9 with fail
      have HX1 : Hid (∀ W, Below wr.heap.size wr W → W.cell? ⟨b, off + j * 8 + 1, none⟩ = some (.slice la m lc) ∧ W.cell? ⟨b', off' + j * 8 + 1, none⟩ = some (.slice la' m lc') ∧ Labs W la x.labels ∧ Labs W la' x.labels) := Lib.hid (fun W h => ⟨(h.cell (p := ⟨b, off + j * 8 + 1, none⟩) hb).trans x1, (h.cell (p := ⟨b', off' + j * 8 + 1, none⟩) hb').trans y1, HLA.out.below h (Nat.le_refl _), HLB.out.below h (Nat.le_refl _)⟩)
      have HBN := Lib.hid ((Drawn.drewN wr nq).below wr.heap.size)
      clear x0 x1 x2 x3 x4 x5 x6 x7 y0 y1 y2 y3 y4 y5 y6 y7
      go_loopg [6, 75, 77, 78, 79, 80, 81, 82, 83, 84, 85, 86, 87, 88, 89, 90, 91, 92, 93, 94, 95] m (fun g u y s77 s78 s79 s80 s81 s82 s83 s84 s85 s86 s87 s88 s89 s90 s91 s92 s93 s94 s95 wr2 => ∃ (t : Nat), t + g = m ∧ y = .int .i64 (t : Int) ∧ Hid (Below wr.heap.size wr wr2))
      case atStart => exact ⟨0, by omega, rfl, HBN⟩
      case round =>
        obtain ⟨t, ht, rfl, HBT⟩ := hrel
        have HT := Lib.hid ht
        by_cases htm : t < m
        · obtain ⟨z, hz⟩ : ∃ z, x.labels[t]? = some z := ⟨_, List.getElem?_eq_getElem (by rw [HM.out]; exact htm)⟩
          obtain ⟨x1, y1, hla, hlb⟩ := HX1.out _ HBT.out
          obtain ⟨lb, lo, rfl, hlb1, hlc1⟩ := hla (by rw [HM.out]; omega)
          obtain ⟨lb', lo', rfl, hlb2, hlc2⟩ := hlb (by rw [HM.out]; omega)
          obtain ⟨p0, p1⟩ := hlc1 t z hz
          obtain ⟨q0, q1⟩ := hlc2 t z hz
          obtain ⟨s1, hs1⟩ : ∃ s, bts z.1 = s := ⟨_, rfl⟩
          obtain ⟨s2, hs2⟩ : ∃ s, bts z.2 = s := ⟨_, rfl⟩
          rw [hs1] at p0 q0
          rw [hs2] at p1 q1
          have ht1 : (0 : Int) ≤ (t : Int) := by omega
          have ht2 : (t : Int) < (m : Int) := by omega
          clear hlc1 hlc2 hs1 hs2 hz ht hla hlb
          go_upto_region 11 with fail
          go_quiet (fail)
          go_wp2_with fail
          go_roundg (m - (t + 1))
          case measure => (have := HT.out; omega)
          case rel => exact ⟨t + 1, by have := HT.out; omega, by simp, Lib.hid (HBT.out.trans ((Drawn.drewN _ _).below _))⟩
        · obtain rfl : t = m := by omega
          go_wp2_with fail
          go_roundg (n - (j + 1))
          case measure => (have := HJ.out; omega)
          case rel => exact ⟨j + 1, by have := HJ.out; omega, by simp, Lib.hid (HB.out.trans (HBT.out.mono HB.out.size))⟩
    · obtain rfl : j = n := by omega
      go_wp2_with fail
      go_ret
      exact ⟨rfl, HB.out⟩
end Go.Proofs.Ytnfmopmcckgfdaa
