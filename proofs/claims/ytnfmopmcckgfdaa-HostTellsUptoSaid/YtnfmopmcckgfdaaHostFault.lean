/- Contract: the document's HostsFault. -/
import Derived.Test.YtnfmopmcckgfdaaHostCheck
import Derived.Test.YtnfmopmcckgfdaaNeedFits
namespace Go.Proofs.Ytnfmopmcckgfdaa
open Go.ChangeShapes Go.WideShapes Go.ChangeAt Go.RowKit
set_option linter.unusedVariables false
open Tp
/-- none of the first q is named so -/
def NoName (L : List Hst) (q : Nat) (t : Bs) : Prop := ∀ p y, p < q → L[p]? = some y → y.name ≠ t
theorem NoName.none {L : List Hst} {j : Nat} {t : Bs} (h : NoName L j t) : ¬ t ∈ hnames (L.take j) := by
  intro hm
  obtain ⟨y, hy, e⟩ := List.mem_map.1 hm
  obtain ⟨p, hp, e2⟩ := List.getElem_of_mem hy
  have hp2 : p < j ∧ p < L.length := by rw [List.length_take] at hp; omega
  refine h p y hp2.1 ?_ e
  rw [← e2, List.getElem_take]
  exact List.getElem?_eq_getElem hp2.2
theorem name_in {L : List Hst} {p j : Nat} {y : Hst} (h : L[p]? = some y) (hp : p < j) : y.name ∈ hnames (L.take j) :=
  List.mem_map.2 ⟨y, List.mem_of_getElem? (i := p) (by rw [List.getElem?_take, if_pos hp]; exact h), rfl⟩
def NoKey (l : List Lab) (q : Nat) (t : Bs) : Prop := ∀ p y, p < q → l[p]? = some y → y.1 ≠ t
theorem NoKey.none {l : List Lab} {j : Nat} {t : Bs} (h : NoKey l j t) : ¬ t ∈ keys (l.take j) := by
  intro hm
  obtain ⟨y, hy, e⟩ := List.mem_map.1 hm
  obtain ⟨p, hp, e2⟩ := List.getElem_of_mem hy
  have hp2 : p < j ∧ p < l.length := by rw [List.length_take] at hp; omega
  refine h p y hp2.1 ?_ e
  rw [← e2, List.getElem_take]
  exact List.getElem?_eq_getElem hp2.2
theorem key_in {l : List Lab} {p j : Nat} {y : Lab} (h : l[p]? = some y) (hp : p < j) : y.1 ∈ keys (l.take j) :=
  List.mem_map.2 ⟨y, List.mem_of_getElem? (i := p) (by rw [List.getElem?_take, if_pos hp]; exact h), rfl⟩
set_option maxRecDepth 20000 in
set_option maxHeartbeats 32000000 in
theorem hFault_any (L : List Hst) (a : Option Addr) (n cap : Nat) (w : World) (hn : n = L.length) (hcap : n ≤ cap) (hmax : n ≤ 9223372036854775807) (hL : Hosts w a L) : Calls Try.prog 5 #[.slice a n cap] w fun e w' => e = .returned (.int .i64 (hostsE L)) ∧ Below w.heap.size w w' := by
  have HN := Lib.hid hn
  have HL := Lib.hid hL
  obtain ⟨V, hV⟩ : ∃ V, hostsE L = V := ⟨_, rfl⟩
  have HV := Lib.hid hV
  rw [hV]
  clear hn hL hV
  by_cases h30 : 30 < n
  · have HR : Hid (V = 2) := Lib.hid (by rw [← HV.out]; unfold hostsE; rw [if_pos (by rw [← HN.out]; exact h30)])
    have h30' : (30 : Int) < (n : Int) := by omega
    clear h30
    go_enter Try.func5, Try.ntmps5
    go_wp2_with fail
    go_ret
    exact ⟨ret_int HR.out.symm, Below.refl _ _⟩
  have h30' : ¬ (30 : Int) < (n : Int) := by omega
  have H30 : Hid (¬ 30 < L.length) := Lib.hid (by rw [← HN.out]; exact h30)
  have hn30 : n ≤ 30 := by omega
  have HCAP := Lib.hid hcap
  clear h30 hcap
  go_enter Try.func5, Try.ntmps5
  go_wp2_with fail
  go_loopg [18] n (fun g y wr => ∃ j : Nat, j + g = n ∧ y = .int .i64 (j : Int) ∧ Hid (HostTo L j) ∧ Hid (Below w.heap.size w wr))
  case atStart => exact ⟨0, by omega, rfl, Lib.hid (HostTo.zero _), Lib.hid (Below.refl _ _)⟩
  case round =>
    obtain ⟨j, hj, rfl, HT, HB⟩ := hrel
    by_cases hjn : j < n
    · obtain ⟨h, hx⟩ : ∃ h, L[j]? = some h := ⟨_, List.getElem?_eq_getElem (by rw [← HN.out]; exact hjn)⟩
      have HX := Lib.hid hx
      obtain ⟨b, off, rfl, hb, hat⟩ := HL.out (by have := HN.out; omega)
      obtain ⟨la, lc, hcell, hlc, hl63, hlab, hsz⟩ := hat j h hx
      obtain ⟨nm, hnm⟩ : ∃ s, bts h.name = s := ⟨_, rfl⟩
      obtain ⟨m, hm⟩ : ∃ m, h.labels.length = m := ⟨_, rfl⟩
      have HNM := Lib.hid hnm
      have HM := Lib.hid hm
      have HLB := Lib.hid hlab
      have HSZ := Lib.hid hsz
      unfold hcs at hcell
      rw [hnm, hm] at hcell
      have hbl := HB.out
      have c0 := (hbl.cell (p := ⟨b, off + j * 8 + 0, none⟩) hb).trans (hcell 0 _ rfl)
      have c1 := (hbl.cell (p := ⟨b, off + j * 8 + 1, none⟩) hb).trans (hcell 1 _ rfl)
      have c2 := (hbl.cell (p := ⟨b, off + j * 8 + 2, none⟩) hb).trans (hcell 2 _ rfl)
      have c3 := (hbl.cell (p := ⟨b, off + j * 8 + 3, none⟩) hb).trans (hcell 3 _ rfl)
      have c4 := (hbl.cell (p := ⟨b, off + j * 8 + 4, none⟩) hb).trans (hcell 4 _ rfl)
      have c5 := (hbl.cell (p := ⟨b, off + j * 8 + 5, none⟩) hb).trans (hcell 5 _ rfl)
      have c6 := (hbl.cell (p := ⟨b, off + j * 8 + 6, none⟩) hb).trans (hcell 6 _ rfl)
      have c7 := (hbl.cell (p := ⟨b, off + j * 8 + 7, none⟩) hb).trans (hcell 7 _ rfl)
      simp only [Nat.add_zero] at c0
      have hbr : b < wr.heap.size := Nat.lt_of_lt_of_le hb hbl.size
      have hj1 : (0 : Int) ≤ (j : Int) := by omega
      have hj2 : (j : Int) < (n : Int) := by omega
      obtain ⟨wx, hwx⟩ : ∃ W, W = wr.alloc (.cells #[.string nm, .slice la m lc, .int .i64 h.has.cpu, .int .i64 h.has.mem, .int .i64 h.has.gpu, .int .i64 h.used.cpu, .int .i64 h.used.mem, .int .i64 h.used.gpu] 30) := ⟨_, rfl⟩
      obtain ⟨cx, hcx⟩ : ∃ c, c = wr.heap.size := ⟨_, rfl⟩
      have hbx : Below wr.heap.size wr wx := by rw [hwx]; exact (Below.refl _ _).alloc (Nat.le_refl _) _
      have HBX := Lib.hid (hbl.trans (hbx.mono hbl.size))
      have d0 : wx.cell? ⟨cx, 0, none⟩ = some (.string nm) := by rw [hwx, hcx]; simp
      have d1 : wx.cell? ⟨cx, 1, none⟩ = some (.slice la m lc) := by rw [hwx, hcx]; simp
      have d2 : wx.cell? ⟨cx, 2, none⟩ = some (.int .i64 h.has.cpu) := by rw [hwx, hcx]; simp
      have d3 : wx.cell? ⟨cx, 3, none⟩ = some (.int .i64 h.has.mem) := by rw [hwx, hcx]; simp
      have d4 : wx.cell? ⟨cx, 4, none⟩ = some (.int .i64 h.has.gpu) := by rw [hwx, hcx]; simp
      have d5 : wx.cell? ⟨cx, 5, none⟩ = some (.int .i64 h.used.cpu) := by rw [hwx, hcx]; simp
      have d6 : wx.cell? ⟨cx, 6, none⟩ = some (.int .i64 h.used.mem) := by rw [hwx, hcx]; simp
      have d7 : wx.cell? ⟨cx, 7, none⟩ = some (.int .i64 h.used.gpu) := by rw [hwx, hcx]; simp
      have hcxl : cx < wx.heap.size := by rw [hwx, hcx]; simp
      have HLG := Lib.hid (gLabel_any nm wx (by rw [← hnm, bts_size]; exact hsz.1))
      rw [show lab (lst nm) = lab h.name from by rw [← hnm, lst_bts]] at HLG
      have HAT := Lib.hid hat
      clear hcell hlab hsz hat hx hbl hbx hnm hm
      cases hlb : lab h.name with
      | false =>
        rw [hlb] at HLG
        have HR : Hid (V = 3) := Lib.hid (by rw [← HV.out]; exact hostsE_bad H30.out HT.out HX.out (hostF_lab hlb) (by decide))
        clear hlb
        go_wp2_with fail
        rw [← hwx, ← hcx]
        clear hwx hcx
        refine Calls.mono HLG.out ?_
        rintro e' W3 ⟨rfl, hl⟩
        have HB3 := Lib.hid (HBX.out.trans (hl.mono HBX.out.size))
        clear hl
        go_wp2_with fail
        go_ret
        exact ⟨ret_int HR.out.symm, HB3.out⟩
      | true =>
        rw [hlb] at HLG
        have HLAB := Lib.hid hlb
        clear hlb
        go_wp2_with fail
        rw [← hwx, ← hcx]
        clear hwx hcx c0 c1 c2 c3 c4 c5 c6 c7
        refine Calls.mono HLG.out ?_
        rintro e' W3 ⟨rfl, hl⟩
        have HB3 := Lib.hid (HBX.out.trans (hl.mono HBX.out.size))
        have e0 := (hl.cell (p := ⟨cx, 0, none⟩) hcxl).trans d0
        have e1 := (hl.cell (p := ⟨cx, 1, none⟩) hcxl).trans d1
        have e2 := (hl.cell (p := ⟨cx, 2, none⟩) hcxl).trans d2
        have e3 := (hl.cell (p := ⟨cx, 3, none⟩) hcxl).trans d3
        have e4 := (hl.cell (p := ⟨cx, 4, none⟩) hcxl).trans d4
        have e5 := (hl.cell (p := ⟨cx, 5, none⟩) hcxl).trans d5
        have e6 := (hl.cell (p := ⟨cx, 6, none⟩) hcxl).trans d6
        have e7 := (hl.cell (p := ⟨cx, 7, none⟩) hcxl).trans d7
        have hcx3 : cx < W3.heap.size := Nat.lt_of_lt_of_le hcxl hl.size
        clear hl d0 d1 d2 d3 d4 d5 d6 d7 hcxl
        have hjc : (j : Int) ≤ (cap : Int) := by have := HCAP.out; omega
        go_wp2_with fail
        go_loopg [31] j (fun g z wr => ∃ q : Nat, q + g = j ∧ z = .int .i64 (q : Int) ∧ Hid (NoName L q h.name) ∧ Hid (Below W3.heap.size W3 wr))
        case atStart => exact ⟨0, by omega, rfl, Lib.hid (fun p y hp => absurd hp (by omega)), Lib.hid (Below.refl _ _)⟩
        case round =>
          obtain ⟨q, hq, rfl, HNO, HBQ⟩ := hrel
          have HBW := Lib.hid (HB3.out.trans (HBQ.out.mono HB3.out.size))
          have hbq := HBQ.out
          have g0 := (hbq.cell (p := ⟨cx, 0, none⟩) hcx3).trans e0
          have g1 := (hbq.cell (p := ⟨cx, 1, none⟩) hcx3).trans e1
          have hcxq : cx < wr.heap.size := Nat.lt_of_lt_of_le hcx3 hbq.size
          by_cases hqj : q < j
          · obtain ⟨h', hx'⟩ : ∃ h, L[q]? = some h := ⟨_, List.getElem?_eq_getElem (by rw [← HN.out]; omega)⟩
            obtain ⟨la', lc', hcell, hlc', hl63', _, _⟩ := HAT.out q h' hx'
            obtain ⟨nm', hnm'⟩ : ∃ s, bts h'.name = s := ⟨_, rfl⟩
            obtain ⟨m', hm'⟩ : ∃ m, h'.labels.length = m := ⟨_, rfl⟩
            unfold hcs at hcell
            rw [hnm', hm'] at hcell
            have hbl := HBW.out
            have x0 := (hbl.cell (p := ⟨b, off + q * 8 + 0, none⟩) hb).trans (hcell 0 _ rfl)
            have x1 := (hbl.cell (p := ⟨b, off + q * 8 + 1, none⟩) hb).trans (hcell 1 _ rfl)
            have x2 := (hbl.cell (p := ⟨b, off + q * 8 + 2, none⟩) hb).trans (hcell 2 _ rfl)
            have x3 := (hbl.cell (p := ⟨b, off + q * 8 + 3, none⟩) hb).trans (hcell 3 _ rfl)
            have x4 := (hbl.cell (p := ⟨b, off + q * 8 + 4, none⟩) hb).trans (hcell 4 _ rfl)
            have x5 := (hbl.cell (p := ⟨b, off + q * 8 + 5, none⟩) hb).trans (hcell 5 _ rfl)
            have x6 := (hbl.cell (p := ⟨b, off + q * 8 + 6, none⟩) hb).trans (hcell 6 _ rfl)
            have x7 := (hbl.cell (p := ⟨b, off + q * 8 + 7, none⟩) hb).trans (hcell 7 _ rfl)
            simp only [Nat.add_zero] at x0
            have hbr : b < wr.heap.size := Nat.lt_of_lt_of_le hb hbl.size
            have hq1 : (0 : Int) ≤ (q : Int) := by omega
            have hq2 : (q : Int) < (j : Int) := by omega
            have HX' := Lib.hid hx'
            have HNM' := Lib.hid hnm'
            obtain ⟨wz, hwz⟩ : ∃ W, W = wr.alloc (.cells #[.string nm', .slice la' m' lc', .int .i64 h'.has.cpu, .int .i64 h'.has.mem, .int .i64 h'.has.gpu, .int .i64 h'.used.cpu, .int .i64 h'.used.mem, .int .i64 h'.used.gpu] 30) := ⟨_, rfl⟩
            obtain ⟨cz, hcz⟩ : ∃ c, c = wr.heap.size := ⟨_, rfl⟩
            have hbz : Below wr.heap.size wr wz := by rw [hwz]; exact (Below.refl _ _).alloc (Nat.le_refl _) _
            have v0 : wz.cell? ⟨cz, 0, none⟩ = some (.string nm') := by rw [hwz, hcz]; simp
            have k0 := (hbz.cell (p := ⟨cx, 0, none⟩) hcxq).trans g0
            have HBZ := Lib.hid (HBQ.out.trans (hbz.mono HBQ.out.size))
            clear hcell hx' hnm' hm' hbl hbz hlc' hl63' hbq
            by_cases heq : h'.name = h.name
            · have HR : Hid (V = 6) := Lib.hid (by rw [← HV.out]; exact hostsE_bad H30.out HT.out HX.out (hostF_there HLAB.out (by rw [← heq]; exact name_in HX'.out hqj)) (by decide))
              have he2 : (nm'.toList == nm.toList) = true := by rw [← HNM'.out, ← HNM.out, bts_eq]; simpa using heq
              clear heq
              go_upto_region 11 with fail
              rw [← hwz, ← hcz]
              clear hwz hcz
              go_wp2_with fail
              go_ret
              exact ⟨ret_int HR.out.symm, HB3.out.trans (HBZ.out.mono HB3.out.size)⟩
            · have HQ : Hid (NoName L (q + 1) h.name) := Lib.hid (fun p y hp hy => by
                by_cases e : p = q
                · subst e
                  have := HX'.out; rw [hy] at this; cases this
                  exact heq
                · exact HNO.out p y (by omega) hy)
              have he2 : (nm'.toList == nm.toList) = false := by rw [← HNM'.out, ← HNM.out, bts_eq]; simpa using heq
              clear heq
              go_upto_region 11 with fail
              rw [← hwz, ← hcz]
              clear hwz hcz
              go_wp2_with fail
              go_roundg (j - (q + 1))
              case measure => omega
              case rel => exact ⟨q + 1, by omega, by simp, HQ, HBZ⟩
          · obtain rfl : q = j := by omega
            have HIN := Lib.hid HNO.out.none
            have g2 := (hbq.cell (p := ⟨cx, 2, none⟩) hcx3).trans e2
            have g3 := (hbq.cell (p := ⟨cx, 3, none⟩) hcx3).trans e3
            have g4 := (hbq.cell (p := ⟨cx, 4, none⟩) hcx3).trans e4
            have g5 := (hbq.cell (p := ⟨cx, 5, none⟩) hcx3).trans e5
            have g6 := (hbq.cell (p := ⟨cx, 6, none⟩) hcx3).trans e6
            have g7 := (hbq.cell (p := ⟨cx, 7, none⟩) hcx3).trans e7
            clear hbq e0 e1 e2 e3 e4 e5 e6 e7
            obtain ⟨W5, hW5⟩ : ∃ W, W = wr := ⟨_, rfl⟩
            rw [← hW5] at g0 g1 g2 g3 g4 g5 g6 g7 hcxq HBW HBQ ⊢
            clear hW5
            by_cases h8 : 8 < m
            · have HR : Hid (V = 2) := Lib.hid (by rw [← HV.out]; exact hostsE_bad H30.out HT.out HX.out (hostF_many HLAB.out HIN.out (by rw [HM.out]; exact h8)) (by decide))
              have h8' : (8 : Int) < (m : Int) := by omega
              clear h8
              go_wp2_with fail
              go_ret
              exact ⟨ret_int HR.out.symm, HBW.out⟩
            have H8 : Hid (¬ 8 < h.labels.length) := Lib.hid (by rw [HM.out]; exact h8)
            have h8' : ¬ (8 : Int) < (m : Int) := by omega
            have hm8 : m ≤ 8 := by omega
            clear h8
            go_wp2_with fail
            go_loopg [48] m (fun g z wr => ∃ i : Nat, i + g = m ∧ z = .int .i64 (i : Int) ∧ Hid (LabTo h.labels i) ∧ Hid (Below W5.heap.size W5 wr))
            case atStart => exact ⟨0, by omega, rfl, Lib.hid (LabTo.zero _), Lib.hid (Below.refl _ _)⟩
            case round =>
              obtain ⟨i, hi, rfl, HLT, HBI⟩ := hrel
              have HBV := Lib.hid (HBW.out.trans (HBI.out.mono HBW.out.size))
              by_cases him : i < m
              · obtain ⟨x, hx⟩ : ∃ x, h.labels[i]? = some x := ⟨_, List.getElem?_eq_getElem (by rw [HM.out]; exact him)⟩
                have HLX := Lib.hid hx
                obtain ⟨bl, lo, rfl, hbl, hlat⟩ := HLB.out (by rw [HM.out]; omega)
                have HLAT := Lib.hid hlat
                obtain ⟨r0, r1⟩ := (hlat.below HBV.out hbl) i x hx
                obtain ⟨k1, hk1⟩ : ∃ s, bts x.1 = s := ⟨_, rfl⟩
                obtain ⟨k2, hk2⟩ : ∃ s, bts x.2 = s := ⟨_, rfl⟩
                have HK1 := Lib.hid hk1
                have hxs := HSZ.out.2 x (List.mem_of_getElem? hx)
                rw [hk1] at r0
                rw [hk2] at r1
                have hbr : bl < wr.heap.size := Nat.lt_of_lt_of_le hbl HBV.out.size
                have hi1 : (0 : Int) ≤ (i : Int) := by omega
                have hi2 : (i : Int) < (m : Int) := by omega
                obtain ⟨wy, hwy⟩ : ∃ W, W = wr.alloc (.cells #[.string k1, .string k2] 56) := ⟨_, rfl⟩
                obtain ⟨cy, hcy⟩ : ∃ c, c = wr.heap.size := ⟨_, rfl⟩
                have hby : Below wr.heap.size wr wy := by rw [hwy]; exact (Below.refl _ _).alloc (Nat.le_refl _) _
                have y0 : wy.cell? ⟨cy, 0, none⟩ = some (.string k1) := by rw [hwy, hcy]; simp
                have y1 : wy.cell? ⟨cy, 1, none⟩ = some (.string k2) := by rw [hwy, hcy]; simp
                have hcyl : cy < wy.heap.size := by rw [hwy, hcy]; simp
                have HBY := Lib.hid (HBI.out.trans (hby.mono HBI.out.size))
                have HL1 := Lib.hid (gLabel_any k1 wy (by rw [← hk1, bts_size]; exact hxs.1))
                have HL2 : Hid (∀ W, Calls Try.prog 22 #[.string k2] W fun e w' => e = .returned (.bool (lab x.2)) ∧ Below W.heap.size W w') := Lib.hid (fun W => by
                  have h9 := gLabel_any k2 W (by rw [← hk2, bts_size]; exact hxs.2)
                  rw [show lab (lst k2) = lab x.2 from by rw [← hk2, lst_bts]] at h9
                  exact h9)
                rw [show lab (lst k1) = lab x.1 from by rw [← hk1, lst_bts]] at HL1
                clear hx hlat hxs hk1 hk2 hby
                cases hb1 : lab x.1 with
                | false =>
                  rw [hb1] at HL1
                  have HR : Hid (V = 3) := Lib.hid (by rw [← HV.out]; exact hostsE_bad H30.out HT.out HX.out (hostF_labs HLAB.out HIN.out H8.out (HLT.out.bad1 HLX.out (.inl hb1)) (by decide)) (by decide))
                  clear hb1
                  go_wp2_with fail
                  rw [← hwy, ← hcy]
                  clear hwy hcy
                  refine Calls.mono HL1.out ?_
                  rintro e' W8 ⟨rfl, hl⟩
                  have HB8 := Lib.hid (HBW.out.trans ((HBY.out.trans (hl.mono HBY.out.size)).mono HBW.out.size))
                  clear hl
                  go_wp2_with fail
                  go_ret
                  exact ⟨ret_int HR.out.symm, HB8.out⟩
                | true =>
                  rw [hb1] at HL1
                  have HLA := Lib.hid hb1
                  clear hb1
                  go_wp2_with fail
                  rw [← hwy, ← hcy]
                  clear hwy hcy r0 r1
                  refine Calls.mono HL1.out ?_
                  rintro e' W8 ⟨rfl, hl⟩
                  have HBY8 := Lib.hid (HBY.out.trans (hl.mono HBY.out.size))
                  have y0 := (hl.cell (p := ⟨cy, 0, none⟩) hcyl).trans y0
                  have y1 := (hl.cell (p := ⟨cy, 1, none⟩) hcyl).trans y1
                  have hcyl : cy < W8.heap.size := Nat.lt_of_lt_of_le hcyl hl.size
                  clear hl
                  cases hb2 : lab x.2 with
                  | false =>
                    rw [hb2] at HL2
                    have HR : Hid (V = 3) := Lib.hid (by rw [← HV.out]; exact hostsE_bad H30.out HT.out HX.out (hostF_labs HLAB.out HIN.out H8.out (HLT.out.bad1 HLX.out (.inr hb2)) (by decide)) (by decide))
                    clear hb2
                    go_wp2_with fail
                    refine Calls.mono (HL2.out _) ?_
                    rintro e' W9 ⟨rfl, hl⟩
                    have HB9 := Lib.hid (HBW.out.trans ((HBY8.out.trans (hl.mono HBY8.out.size)).mono HBW.out.size))
                    clear hl
                    go_wp2_with fail
                    go_ret
                    exact ⟨ret_int HR.out.symm, HB9.out⟩
                  | true =>
                    rw [hb2] at HL2
                    have HLA2 := Lib.hid hb2
                    clear hb2
                    go_wp2_with fail
                    refine Calls.mono (HL2.out _) ?_
                    rintro e' W9 ⟨rfl, hl⟩
                    have HBY9 := Lib.hid (HBY8.out.trans (hl.mono HBY8.out.size))
                    have y0 := (hl.cell (p := ⟨cy, 0, none⟩) hcyl).trans y0
                    have hcy9 : cy < W9.heap.size := Nat.lt_of_lt_of_le hcyl hl.size
                    have hb59 := HBY9.out
                    have j1 := (hb59.cell (p := ⟨cx, 1, none⟩) hcxq).trans g1
                    have hic : (i : Int) ≤ (lc : Int) := by have := HM.out; omega
                    clear hl y1 hb59
                    go_wp2_with fail
                    go_loopg [68] i (fun g z wr => ∃ p : Nat, p + g = i ∧ z = .int .i64 (p : Int) ∧ Hid (NoKey h.labels p x.1) ∧ Hid (Below W9.heap.size W9 wr))
                    case atStart => exact ⟨0, by omega, rfl, Lib.hid (fun p y hp => absurd hp (by omega)), Lib.hid (Below.refl _ _)⟩
                    case round =>
                      obtain ⟨p, hp, rfl, HNK, HBP⟩ := hrel
                      have HBU := Lib.hid (HBW.out.trans ((HBY9.out.trans (HBP.out.mono HBY9.out.size)).mono HBW.out.size))
                      have HBU5 := Lib.hid (HBY9.out.trans (HBP.out.mono HBY9.out.size))
                      by_cases hpi : p < i
                      · obtain ⟨x', hx'⟩ : ∃ x, h.labels[p]? = some x := ⟨_, List.getElem?_eq_getElem (by rw [HM.out]; omega)⟩
                        obtain ⟨s0, s1⟩ := (HLAT.out.below HBU.out hbl) p x' hx'
                        obtain ⟨k3, hk3⟩ : ∃ s, bts x'.1 = s := ⟨_, rfl⟩
                        obtain ⟨k4, hk4⟩ : ∃ s, bts x'.2 = s := ⟨_, rfl⟩
                        rw [hk3] at s0
                        rw [hk4] at s1
                        have HX' := Lib.hid hx'
                        have HK3 := Lib.hid hk3
                        have hbr : bl < wr.heap.size := Nat.lt_of_lt_of_le hbl HBU.out.size
                        have hp1 : (0 : Int) ≤ (p : Int) := by omega
                        have hp2 : (p : Int) < (i : Int) := by omega
                        obtain ⟨wz, hwz⟩ : ∃ W, W = wr.alloc (.cells #[.string k3, .string k4] 56) := ⟨_, rfl⟩
                        obtain ⟨cz, hcz⟩ : ∃ c, c = wr.heap.size := ⟨_, rfl⟩
                        have hbz : Below wr.heap.size wr wz := by rw [hwz]; exact (Below.refl _ _).alloc (Nat.le_refl _) _
                        have v0 : wz.cell? ⟨cz, 0, none⟩ = some (.string k3) := by rw [hwz, hcz]; simp
                        have y0' := (hbz.cell (p := ⟨cy, 0, none⟩) (Nat.lt_of_lt_of_le hcy9 HBP.out.size)).trans ((HBP.out.cell (p := ⟨cy, 0, none⟩) hcy9).trans y0)
                        have HBZ := Lib.hid (HBP.out.trans (hbz.mono HBP.out.size))
                        clear hx' hk3 hk4 hbz
                        by_cases heq : x'.1 = x.1
                        · have HR : Hid (V = 6) := Lib.hid (by rw [← HV.out]; exact hostsE_bad H30.out HT.out HX.out (hostF_labs HLAB.out HIN.out H8.out (HLT.out.bad2 HLX.out HLA.out HLA2.out (by rw [← heq]; exact key_in HX'.out hpi)) (by decide)) (by decide))
                          have he2 : (k3.toList == k1.toList) = true := by rw [← HK3.out, ← HK1.out, bts_eq]; simpa using heq
                          clear heq
                          go_upto_region 24 with fail
                          rw [← hwz, ← hcz]
                          clear hwz hcz
                          go_wp2_with fail
                          go_ret
                          exact ⟨ret_int HR.out.symm, HBW.out.trans ((HBY9.out.trans (HBZ.out.mono HBY9.out.size)).mono HBW.out.size)⟩
                        · have HQ : Hid (NoKey h.labels (p + 1) x.1) := Lib.hid (fun p' y hp' hy => by
                            by_cases e : p' = p
                            · subst e
                              have := HX'.out; rw [hy] at this; cases this
                              exact heq
                            · exact HNK.out p' y (by omega) hy)
                          have he2 : (k3.toList == k1.toList) = false := by rw [← HK3.out, ← HK1.out, bts_eq]; simpa using heq
                          clear heq
                          go_upto_region 24 with fail
                          rw [← hwz, ← hcz]
                          clear hwz hcz
                          go_wp2_with fail
                          go_roundg (i - (p + 1))
                          case measure => omega
                          case rel => exact ⟨p + 1, by omega, by simp, HQ, HBZ⟩
                      · obtain rfl : p = i := by omega
                        have HQ := Lib.hid (HLT.out.succ HLX.out HLA.out HLA2.out HNK.out.none)
                        go_wp2_with fail
                        go_roundg (m - (p + 1))
                        case measure => omega
                        case rel => exact ⟨p + 1, by omega, by simp, HQ, HBU5⟩
              · obtain rfl : i = m := by omega
                have HL0 : Hid (labsF [] h.labels = 0) := Lib.hid (HLT.out.fin (by rw [HM.out]; exact Nat.le_refl _))
                have hbk := HBI.out
                have p2 := (hbk.cell (p := ⟨cx, 2, none⟩) hcxq).trans g2
                have p3 := (hbk.cell (p := ⟨cx, 3, none⟩) hcxq).trans g3
                have p4 := (hbk.cell (p := ⟨cx, 4, none⟩) hcxq).trans g4
                have p5 := (hbk.cell (p := ⟨cx, 5, none⟩) hcxq).trans g5
                have p6 := (hbk.cell (p := ⟨cx, 6, none⟩) hcxq).trans g6
                have p7 := (hbk.cell (p := ⟨cx, 7, none⟩) hcxq).trans g7
                have hcxw : cx < wr.heap.size := Nat.lt_of_lt_of_le hcxq hbk.size
                have HNF1 : Hid (∀ W, Calls Try.prog 13 #[.agg #[.int .i64 h.has.cpu, .int .i64 h.has.mem, .int .i64 h.has.gpu]] W fun e w' => e = .returned (.int .i64 (needE h.has.cpu h.has.mem h.has.gpu)) ∧ Below W.heap.size W w') := Lib.hid (fun W => needFault_any _ _ _ W)
                have HNF2 : Hid (∀ W, Calls Try.prog 13 #[.agg #[.int .i64 h.used.cpu, .int .i64 h.used.mem, .int .i64 h.used.gpu]] W fun e w' => e = .returned (.int .i64 (needE h.used.cpu h.used.mem h.used.gpu)) ∧ Below W.heap.size W w') := Lib.hid (fun W => needFault_any _ _ _ W)
                have HFI : Hid (∀ W, Calls Try.prog 17 #[.agg #[.int .i64 h.used.cpu, .int .i64 h.used.mem, .int .i64 h.used.gpu], .agg #[.int .i64 h.has.cpu, .int .i64 h.has.mem, .int .i64 h.has.gpu]] W fun e w' => e = .returned (.bool (fitsB h.used.cpu h.used.mem h.used.gpu h.has.cpu h.has.mem h.has.gpu)) ∧ Below W.heap.size W w') := Lib.hid (fun W => needFits_any _ _ _ _ _ _ W)
                have HAM := Lib.hid (hostF_amt HLAB.out HIN.out H8.out HL0.out)
                clear hbk g0 g1 g2 g3 g4 g5 g6 g7
                cases hB : needB h.has.cpu h.has.mem h.has.gpu with
                | false =>
                  rw [needE_no hB] at HNF1
                  have HR : Hid (V = 4) := Lib.hid (by rw [← HV.out]; exact hostsE_bad H30.out HT.out HX.out (HAM.out.trans (amt_has hB)) (by decide))
                  clear hB
                  go_wp2_with fail
                  refine Calls.mono (HNF1.out _) ?_
                  rintro e' W8 ⟨rfl, hl⟩
                  have HB8 := Lib.hid (HBV.out.trans (hl.mono HBV.out.size))
                  clear hl
                  go_wp2_with fail
                  go_ret
                  exact ⟨ret_int HR.out.symm, HB8.out⟩
                | true =>
                  rw [needE_yes hB] at HNF1
                  go_wp2_with fail
                  refine Calls.mono (HNF1.out _) ?_
                  rintro e' W8 ⟨rfl, hl⟩
                  have HB8 := Lib.hid (HBV.out.trans (hl.mono HBV.out.size))
                  have q2 := (hl.cell (p := ⟨cx, 2, none⟩) hcxw).trans p2
                  have q3 := (hl.cell (p := ⟨cx, 3, none⟩) hcxw).trans p3
                  have q4 := (hl.cell (p := ⟨cx, 4, none⟩) hcxw).trans p4
                  have q5 := (hl.cell (p := ⟨cx, 5, none⟩) hcxw).trans p5
                  have q6 := (hl.cell (p := ⟨cx, 6, none⟩) hcxw).trans p6
                  have q7 := (hl.cell (p := ⟨cx, 7, none⟩) hcxw).trans p7
                  have hcxq : cx < W8.heap.size := Nat.lt_of_lt_of_le hcxw hl.size
                  clear hl p2 p3 p4 p5 p6 p7
                  cases uB : needB h.used.cpu h.used.mem h.used.gpu with
                  | false =>
                    rw [needE_no uB] at HNF2
                    have HR : Hid (V = 4) := Lib.hid (by rw [← HV.out]; exact hostsE_bad H30.out HT.out HX.out (HAM.out.trans (amt_used hB uB)) (by decide))
                    clear hB uB
                    go_wp2_with fail
                    refine Calls.mono (HNF2.out _) ?_
                    rintro e' W9 ⟨rfl, hl⟩
                    have HB9 := Lib.hid (HB8.out.trans (hl.mono HB8.out.size))
                    clear hl
                    go_wp2_with fail
                    go_ret
                    exact ⟨ret_int HR.out.symm, HB9.out⟩
                  | true =>
                    rw [needE_yes uB] at HNF2
                    go_wp2_with fail
                    refine Calls.mono (HNF2.out _) ?_
                    rintro e' W9 ⟨rfl, hl⟩
                    have HB9 := Lib.hid (HB8.out.trans (hl.mono HB8.out.size))
                    have r2 := (hl.cell (p := ⟨cx, 2, none⟩) hcxq).trans q2
                    have r3 := (hl.cell (p := ⟨cx, 3, none⟩) hcxq).trans q3
                    have r4 := (hl.cell (p := ⟨cx, 4, none⟩) hcxq).trans q4
                    have r5 := (hl.cell (p := ⟨cx, 5, none⟩) hcxq).trans q5
                    have r6 := (hl.cell (p := ⟨cx, 6, none⟩) hcxq).trans q6
                    have r7 := (hl.cell (p := ⟨cx, 7, none⟩) hcxq).trans q7
                    have hcxr : cx < W9.heap.size := Nat.lt_of_lt_of_le hcxq hl.size
                    clear hl q2 q3 q4 q5 q6 q7
                    cases fB : fitsB h.used.cpu h.used.mem h.used.gpu h.has.cpu h.has.mem h.has.gpu with
                    | false =>
                      rw [fB] at HFI
                      have HR : Hid (V = 10) := Lib.hid (by rw [← HV.out]; exact hostsE_bad H30.out HT.out HX.out (HAM.out.trans (amt_over hB uB fB)) (by decide))
                      clear hB uB fB
                      go_wp2_with fail
                      refine Calls.mono (HFI.out _) ?_
                      rintro e' WA ⟨rfl, hl⟩
                      have HBA := Lib.hid (HB9.out.trans (hl.mono HB9.out.size))
                      clear hl
                      go_wp2_with fail
                      go_ret
                      exact ⟨ret_int HR.out.symm, HBA.out⟩
                    | true =>
                      rw [fB] at HFI
                      have HQ := Lib.hid (HT.out.succ HX.out (HAM.out.trans (amt_ok hB uB fB)))
                      clear hB uB fB
                      go_wp2_with fail
                      refine Calls.mono (HFI.out _) ?_
                      rintro e' WA ⟨rfl, hl⟩
                      have HBA := Lib.hid (HB9.out.trans (hl.mono HB9.out.size))
                      clear hl
                      go_wp2_with fail
                      go_roundg (n - (q + 1))
                      case measure => omega
                      case rel => exact ⟨q + 1, by omega, by simp, HQ, HBA⟩
    · obtain rfl : j = n := by omega
      have HR : Hid (V = 0) := Lib.hid (by rw [← HV.out]; unfold hostsE; rw [if_neg H30.out]; exact HT.out.fin (by rw [← HN.out]; exact Nat.le_refl _))
      go_wp2_with fail
      go_ret
      exact ⟨ret_int HR.out.symm, HB.out⟩
end Go.Proofs.Ytnfmopmcckgfdaa
