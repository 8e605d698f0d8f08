/- Contract: Check of hosts, the program's. -/
import Derived.Test.YtnfmopmcckgfdaaHostM
import Derived.Test.YtnfmopmcckgfdaaHostBox
namespace Go.Proofs.Ytnfmopmcckgfdaa
open Go.ChangeShapes Go.WideShapes Go.ChangeAt Go.RowKit
set_option linter.unusedVariables false
open Tp
theorem hostF_lab {S : List Bs} {h : Hst} (h1 : lab h.name = false) : hostF S h = 3 := by unfold hostF; rw [if_pos h1]
theorem hostF_there {S : List Bs} {h : Hst} (h1 : lab h.name = true) (h2 : h.name ∈ S) : hostF S h = 6 := by unfold hostF; rw [if_neg (by simp [h1]), if_pos h2]
theorem hostF_many {S : List Bs} {h : Hst} (h1 : lab h.name = true) (h2 : ¬ h.name ∈ S) (h3 : 8 < h.labels.length) : hostF S h = 2 := by unfold hostF; rw [if_neg (by simp [h1]), if_neg h2, if_pos h3]
theorem hostF_labs {S : List Bs} {h : Hst} (h1 : lab h.name = true) (h2 : ¬ h.name ∈ S) (h3 : ¬ 8 < h.labels.length) {e : Int} (h4 : labsF [] h.labels = e) (h5 : e ≠ 0) : hostF S h = e := by unfold hostF; rw [if_neg (by simp [h1]), if_neg h2, if_neg h3, if_pos (by rw [h4]; exact h5), h4]
theorem hostF_amt {S : List Bs} {h : Hst} (h1 : lab h.name = true) (h2 : ¬ h.name ∈ S) (h3 : ¬ 8 < h.labels.length) (h4 : labsF [] h.labels = 0) : hostF S h = amtF h := by unfold hostF; rw [if_neg (by simp [h1]), if_neg h2, if_neg h3, if_neg (by simp [h4])]
theorem hostsE_bad {L : List Hst} {j : Nat} {x : Hst} {e : Int} (h30 : ¬ 30 < L.length) (h : HostTo L j) (hx : L[j]? = some x) (hb : hostF (hnames (L.take j)) x = e) (he : e ≠ 0) : hostsE L = e := by
  unfold hostsE
  rw [if_neg h30, h.bad hx (by rw [hb]; exact he), hb]
theorem amt_has {h : Hst} (h1 : needB h.has.cpu h.has.mem h.has.gpu = false) : amtF h = 4 := by unfold amtF; rw [if_pos h1]
theorem amt_used {h : Hst} (h1 : needB h.has.cpu h.has.mem h.has.gpu = true) (h2 : needB h.used.cpu h.used.mem h.used.gpu = false) : amtF h = 4 := by unfold amtF; rw [if_neg (by simp [h1]), if_pos h2]
theorem amt_over {h : Hst} (h1 : needB h.has.cpu h.has.mem h.has.gpu = true) (h2 : needB h.used.cpu h.used.mem h.used.gpu = true) (h3 : fitsB h.used.cpu h.used.mem h.used.gpu h.has.cpu h.has.mem h.has.gpu = false) : amtF h = 10 := by unfold amtF; rw [if_neg (by simp [h1]), if_neg (by simp [h2]), if_pos h3]
theorem amt_ok {h : Hst} (h1 : needB h.has.cpu h.has.mem h.has.gpu = true) (h2 : needB h.used.cpu h.used.mem h.used.gpu = true) (h3 : fitsB h.used.cpu h.used.mem h.used.gpu h.has.cpu h.has.mem h.has.gpu = true) : amtF h = 0 := by unfold amtF; rw [if_neg (by simp [h1]), if_neg (by simp [h2]), if_neg (by simp [h3])]
set_option maxRecDepth 20000 in
set_option maxHeartbeats 32000000 in
theorem hCheck_any (L : List Hst) (a : Option Addr) (n cap : Nat) (w : World) (hn : n = L.length) (hmax : n ≤ 9223372036854775807) (hL : Hosts w a L) : Calls Try.prog 11 #[.slice a n cap] w fun e w' => e = .returned (.int .i64 (hostsE L)) ∧ Below w.heap.size w w' := by
  have HN := Lib.hid hn
  have HL := Lib.hid hL
  obtain ⟨V, hV⟩ : ∃ V, hostsE L = V := ⟨_, rfl⟩
  have HV := Lib.hid hV
  rw [hV]
  clear hn hL hV
  by_cases h30 : 30 < n
  · have HR : Hid (V = 2) := Lib.hid (by rw [← HV.out]; unfold hostsE; rw [if_pos (by rw [← HN.out]; exact h30)])
    have h30' : (30 : Int) < (n : Int) := by omega
    clear h30
    go_enter Try.func11, Try.ntmps11
    go_wp2_with fail
    go_ret
    exact ⟨ret_int HR.out.symm, Below.refl _ _⟩
  have h30' : ¬ (30 : Int) < (n : Int) := by omega
  have H30 : Hid (¬ 30 < L.length) := Lib.hid (by rw [← HN.out]; exact h30)
  have hn30 : n ≤ 30 := by omega
  clear h30
  obtain ⟨W1, hW1⟩ : ∃ W, W = w.alloc (.map #[] 0) := ⟨_, rfl⟩
  obtain ⟨gm, hgm⟩ : ∃ g, g = w.heap.size := ⟨_, rfl⟩
  have HB1 : Hid (Below w.heap.size w W1) := Lib.hid (by rw [hW1]; exact (Below.refl _ _).alloc (Nat.le_refl _) _)
  have HS1 : Hid (SetB gm 0 (hnames (L.take 0)) W1) := Lib.hid (by rw [hW1, hgm]; exact SetB.made w)
  have HGM := Lib.hid hgm
  have hmm := @run_makeMap Try.prog
  go_enter Try.func11, Try.ntmps11
  go_upto_region 4 with fail
  rw [← hW1, ← hgm]
  clear hW1 hgm
  go_wp2_with fail
  go_loopg [18] n (fun g y wr => ∃ j : Nat, j + g = n ∧ y = .int .i64 (j : Int) ∧ Hid (HostTo L j) ∧ Hid (SetB gm j (hnames (L.take j)) wr) ∧ Hid (Below w.heap.size w wr))
  case atStart => exact ⟨0, by omega, rfl, Lib.hid (HostTo.zero _), HS1, HB1⟩
  case round =>
    clear HS1 HB1
    obtain ⟨j, hj, rfl, HT, HS, HB⟩ := hrel
    by_cases hjn : j < n
    · obtain ⟨h, hx⟩ : ∃ h, L[j]? = some h := ⟨_, List.getElem?_eq_getElem (by rw [← HN.out]; exact hjn)⟩
      have HX := Lib.hid hx
      obtain ⟨b, off, rfl, hb, hat⟩ := HL.out (by have := HN.out; omega)
      obtain ⟨la, lc, hcell, hlc, hl63, hlab, hsz⟩ := hat j h hx
      obtain ⟨nm, hnm⟩ : ∃ s, bts h.name = s := ⟨_, rfl⟩
      obtain ⟨m, hm⟩ : ∃ m, h.labels.length = m := ⟨_, rfl⟩
      have HNM := Lib.hid hnm
      have HM := Lib.hid hm
      have HLB := Lib.hid hlab
      have HSZ := Lib.hid hsz
      unfold hcs at hcell
      rw [hnm, hm] at hcell
      have hbl := HB.out
      have c0 := (hbl.cell (p := ⟨b, off + j * 8 + 0, none⟩) hb).trans (hcell 0 _ rfl)
      have c1 := (hbl.cell (p := ⟨b, off + j * 8 + 1, none⟩) hb).trans (hcell 1 _ rfl)
      have c2 := (hbl.cell (p := ⟨b, off + j * 8 + 2, none⟩) hb).trans (hcell 2 _ rfl)
      have c3 := (hbl.cell (p := ⟨b, off + j * 8 + 3, none⟩) hb).trans (hcell 3 _ rfl)
      have c4 := (hbl.cell (p := ⟨b, off + j * 8 + 4, none⟩) hb).trans (hcell 4 _ rfl)
      have c5 := (hbl.cell (p := ⟨b, off + j * 8 + 5, none⟩) hb).trans (hcell 5 _ rfl)
      have c6 := (hbl.cell (p := ⟨b, off + j * 8 + 6, none⟩) hb).trans (hcell 6 _ rfl)
      have c7 := (hbl.cell (p := ⟨b, off + j * 8 + 7, none⟩) hb).trans (hcell 7 _ rfl)
      simp only [Nat.add_zero] at c0
      have hbr : b < wr.heap.size := Nat.lt_of_lt_of_le hb hbl.size
      have hj1 : (0 : Int) ≤ (j : Int) := by omega
      have hj2 : (j : Int) < (n : Int) := by omega
      obtain ⟨wx, hwx⟩ : ∃ W, W = wr.alloc (.cells #[.string nm, .slice la m lc, .int .i64 h.has.cpu, .int .i64 h.has.mem, .int .i64 h.has.gpu, .int .i64 h.used.cpu, .int .i64 h.used.mem, .int .i64 h.used.gpu] 30) := ⟨_, rfl⟩
      obtain ⟨cx, hcx⟩ : ∃ c, c = wr.heap.size := ⟨_, rfl⟩
      have hbx : Below wr.heap.size wr wx := by rw [hwx]; exact (Below.refl _ _).alloc (Nat.le_refl _) _
      have HBX := Lib.hid (hbl.trans (hbx.mono hbl.size))
      have HSX := Lib.hid (HS.out.below hbx)
      have d0 : wx.cell? ⟨cx, 0, none⟩ = some (.string nm) := by rw [hwx, hcx]; simp
      have d1 : wx.cell? ⟨cx, 1, none⟩ = some (.slice la m lc) := by rw [hwx, hcx]; simp
      have d2 : wx.cell? ⟨cx, 2, none⟩ = some (.int .i64 h.has.cpu) := by rw [hwx, hcx]; simp
      have d3 : wx.cell? ⟨cx, 3, none⟩ = some (.int .i64 h.has.mem) := by rw [hwx, hcx]; simp
      have d4 : wx.cell? ⟨cx, 4, none⟩ = some (.int .i64 h.has.gpu) := by rw [hwx, hcx]; simp
      have d5 : wx.cell? ⟨cx, 5, none⟩ = some (.int .i64 h.used.cpu) := by rw [hwx, hcx]; simp
      have d6 : wx.cell? ⟨cx, 6, none⟩ = some (.int .i64 h.used.mem) := by rw [hwx, hcx]; simp
      have d7 : wx.cell? ⟨cx, 7, none⟩ = some (.int .i64 h.used.gpu) := by rw [hwx, hcx]; simp
      have hcxl : cx < wx.heap.size := by rw [hwx, hcx]; simp
      have HNE : Hid (cx ≠ gm) := Lib.hid (by have := HS.out.lt; omega)
      have HLG := Lib.hid (Label_any nm wx (by rw [← hnm, bts_size]; exact hsz.1))
      rw [show lab (lst nm) = lab h.name from by rw [← hnm, lst_bts]] at HLG
      clear hcell hlab hsz hat hx hbl hbx hnm hm
      cases hlb : lab h.name with
      | false =>
        rw [hlb] at HLG
        have HR : Hid (V = 3) := Lib.hid (by rw [← HV.out]; exact hostsE_bad H30.out HT.out HX.out (hostF_lab hlb) (by decide))
        clear hlb
        go_wp2_with fail
        rw [← hwx, ← hcx]
        clear hwx hcx
        refine Calls.mono HLG.out ?_
        rintro e' W3 ⟨rfl, hl⟩
        have HB3 := Lib.hid (HBX.out.trans (hl.mono HBX.out.size))
        clear hl
        go_wp2_with fail
        go_ret
        exact ⟨ret_int HR.out.symm, HB3.out⟩
      | true =>
        rw [hlb] at HLG
        have HLAB := Lib.hid hlb
        clear hlb
        go_wp2_with fail
        rw [← hwx, ← hcx]
        clear hwx hcx c0 c1 c2 c3 c4 c5 c6 c7
        refine Calls.mono HLG.out ?_
        rintro e' W3 ⟨rfl, hl⟩
        have HB3 := Lib.hid (HBX.out.trans (hl.mono HBX.out.size))
        have HS3 := Lib.hid (HSX.out.below hl)
        have e0 := (hl.cell (p := ⟨cx, 0, none⟩) hcxl).trans d0
        have e1 := (hl.cell (p := ⟨cx, 1, none⟩) hcxl).trans d1
        have e2 := (hl.cell (p := ⟨cx, 2, none⟩) hcxl).trans d2
        have e3 := (hl.cell (p := ⟨cx, 3, none⟩) hcxl).trans d3
        have e4 := (hl.cell (p := ⟨cx, 4, none⟩) hcxl).trans d4
        have e5 := (hl.cell (p := ⟨cx, 5, none⟩) hcxl).trans d5
        have e6 := (hl.cell (p := ⟨cx, 6, none⟩) hcxl).trans d6
        have e7 := (hl.cell (p := ⟨cx, 7, none⟩) hcxl).trans d7
        have hcx3 : cx < W3.heap.size := Nat.lt_of_lt_of_le hcxl hl.size
        have hget := HS3.out.get (k := h.name) (by unfold maxLen; exact HSZ.out.1)
        rw [HNM.out] at hget
        clear hl d0 d1 d2 d3 d4 d5 d6 d7 hcxl
        by_cases hin : h.name ∈ hnames (L.take j)
        · rw [show decide (h.name ∈ hnames (L.take j)) = true from by simpa using hin] at hget
          have HR : Hid (V = 6) := Lib.hid (by rw [← HV.out]; exact hostsE_bad H30.out HT.out HX.out (hostF_there HLAB.out hin) (by decide))
          clear hin
          go_wp2_with fail
          go_ret
          exact ⟨ret_int HR.out.symm, HB3.out⟩
        rw [show decide (h.name ∈ hnames (L.take j)) = false from by simpa using hin] at hget
        have HIN := Lib.hid hin
        by_cases h8 : 8 < m
        · have HR : Hid (V = 2) := Lib.hid (by rw [← HV.out]; exact hostsE_bad H30.out HT.out HX.out (hostF_many HLAB.out hin (by rw [HM.out]; exact h8)) (by decide))
          have h8' : (8 : Int) < (m : Int) := by omega
          clear hin h8
          go_wp2_with fail
          go_ret
          exact ⟨ret_int HR.out.symm, HB3.out⟩
        have H8 : Hid (¬ 8 < h.labels.length) := Lib.hid (by rw [HM.out]; exact h8)
        have h8' : ¬ (8 : Int) < (m : Int) := by omega
        have hm8 : m ≤ 8 := by omega
        obtain ⟨W5, hup, hS5, hg5⟩ := HS3.out.upd (by unfold maxLen; omega) (k := h.name) (by unfold maxLen; exact HSZ.out.1)
        rw [HNM.out] at hup
        have HTK : Hid (hnames (L.take j) ++ [h.name] = hnames (L.take (j + 1))) := Lib.hid (by rw [take_snoc HX.out]; simp [hnames])
        rw [HTK.out] at hS5
        have HS5 := Lib.hid hS5
        have HB5 : Hid (Below w.heap.size w W5) := Lib.hid (HB3.out.grown hg5 HB3.out.size (by intro k hk; cases hk; have := HGM.out; omega))
        have hk5 := fun i => (cell_of_block (p := ⟨cx, i, none⟩) (hg5.block cx hcx3 (by intro e; cases e; exact HNE.out rfl)))
        have f0 := (hk5 0).trans e0
        have f1 := (hk5 1).trans e1
        have f2 := (hk5 2).trans e2
        have f3 := (hk5 3).trans e3
        have f4 := (hk5 4).trans e4
        have f5 := (hk5 5).trans e5
        have f6 := (hk5 6).trans e6
        have f7 := (hk5 7).trans e7
        have hcx5 : cx < W5.heap.size := Nat.lt_of_lt_of_le hcx3 hg5.size
        obtain ⟨W6, hW6⟩ : ∃ W, W = W5.alloc (.map #[] 0) := ⟨_, rfl⟩
        obtain ⟨gk, hgk⟩ : ∃ g, g = W5.heap.size := ⟨_, rfl⟩
        have HS6 : Hid (SetB gk 0 (keys (h.labels.take 0)) W6) := Lib.hid (by rw [hW6, hgk]; exact SetB.made W5)
        have hb6 : Below W5.heap.size W5 W6 := by rw [hW6]; exact (Below.refl _ _).alloc (Nat.le_refl _) _
        have HB6 := Lib.hid hb6
        have HGK := Lib.hid hgk
        have f1' := (hb6.cell (p := ⟨cx, 1, none⟩) hcx5).trans f1
        clear hin h8 hS5 hg5 hk5 e2 e3 e4 e5 e6 e7 hb6
        go_upto_region 15 with fail
        rw [← hW6, ← hgk]
        clear hW6 hgk hup hget e0 e1
        go_wp2_with fail
        go_loopg [44] m (fun g z wr => ∃ i : Nat, i + g = m ∧ z = .int .i64 (i : Int) ∧ Hid (LabTo h.labels i) ∧ Hid (SetB gk i (keys (h.labels.take i)) wr) ∧ Hid (Below W5.heap.size W5 wr))
        case atStart => exact ⟨0, by omega, rfl, Lib.hid (LabTo.zero _), HS6, HB6⟩
        case round =>
          clear HS6 HB6
          obtain ⟨i, hi, rfl, HLT, HSK, HBK⟩ := hrel
          have HBW := Lib.hid (HB5.out.trans (HBK.out.mono HB5.out.size))
          by_cases him : i < m
          · obtain ⟨x, hx⟩ : ∃ x, h.labels[i]? = some x := ⟨_, List.getElem?_eq_getElem (by rw [HM.out]; exact him)⟩
            have HLX := Lib.hid hx
            obtain ⟨bl, lo, rfl, hbl, hlat⟩ := HLB.out (by rw [HM.out]; omega)
            obtain ⟨r0, r1⟩ := (hlat.below HBW.out hbl) i x hx
            obtain ⟨k1, hk1⟩ : ∃ s, bts x.1 = s := ⟨_, rfl⟩
            obtain ⟨k2, hk2⟩ : ∃ s, bts x.2 = s := ⟨_, rfl⟩
            have HK1 := Lib.hid hk1
            have hxs := HSZ.out.2 x (List.mem_of_getElem? hx)
            have HXS := Lib.hid hxs
            rw [hk1] at r0
            rw [hk2] at r1
            have hbr : bl < wr.heap.size := Nat.lt_of_lt_of_le hbl HBW.out.size
            have hi1 : (0 : Int) ≤ (i : Int) := by omega
            have hi2 : (i : Int) < (m : Int) := by omega
            obtain ⟨wy, hwy⟩ : ∃ W, W = wr.alloc (.cells #[.string k1, .string k2] 56) := ⟨_, rfl⟩
            obtain ⟨cy, hcy⟩ : ∃ c, c = wr.heap.size := ⟨_, rfl⟩
            have hby : Below wr.heap.size wr wy := by rw [hwy]; exact (Below.refl _ _).alloc (Nat.le_refl _) _
            have y0 : wy.cell? ⟨cy, 0, none⟩ = some (.string k1) := by rw [hwy, hcy]; simp
            have y1 : wy.cell? ⟨cy, 1, none⟩ = some (.string k2) := by rw [hwy, hcy]; simp
            have hcyl : cy < wy.heap.size := by rw [hwy, hcy]; simp
            have HBY := Lib.hid (HBK.out.trans (hby.mono HBK.out.size))
            have HSY := Lib.hid (HSK.out.below hby)
            have HL1 := Lib.hid (Label_any k1 wy (by rw [← hk1, bts_size]; exact hxs.1))
            have HL2 : Hid (∀ W, Calls Try.prog 36 #[.string k2] W fun e w' => e = .returned (.bool (lab x.2)) ∧ Below W.heap.size W w') := Lib.hid (fun W => by
              have h9 := Label_any k2 W (by rw [← hk2, bts_size]; exact hxs.2)
              rw [show lab (lst k2) = lab x.2 from by rw [← hk2, lst_bts]] at h9
              exact h9)
            rw [show lab (lst k1) = lab x.1 from by rw [← hk1, lst_bts]] at HL1
            have HCY := Lib.hid hcy
            clear hx hlat hxs hk1 hk2 hby
            cases hb1 : lab x.1 with
            | false =>
              rw [hb1] at HL1
              have HR : Hid (V = 3) := Lib.hid (by rw [← HV.out]; exact hostsE_bad H30.out HT.out HX.out (hostF_labs HLAB.out HIN.out H8.out (HLT.out.bad1 HLX.out (.inl hb1)) (by decide)) (by decide))
              clear hb1
              go_wp2_with fail
              rw [← hwy, ← hcy]
              clear hwy hcy
              refine Calls.mono HL1.out ?_
              rintro e' W8 ⟨rfl, hl⟩
              have HB8 := Lib.hid (HB5.out.trans ((HBY.out.trans (hl.mono HBY.out.size)).mono HB5.out.size))
              clear hl
              go_wp2_with fail
              go_ret
              exact ⟨ret_int HR.out.symm, HB8.out⟩
            | true =>
              rw [hb1] at HL1
              have HLA := Lib.hid hb1
              clear hb1
              go_wp2_with fail
              rw [← hwy, ← hcy]
              clear hwy hcy r0 r1
              refine Calls.mono HL1.out ?_
              rintro e' W8 ⟨rfl, hl⟩
              have HBY8 := Lib.hid (HBY.out.trans (hl.mono HBY.out.size))
              have HSK8 := Lib.hid (HSY.out.below hl)
              have y0 := (hl.cell (p := ⟨cy, 0, none⟩) hcyl).trans y0
              have y1 := (hl.cell (p := ⟨cy, 1, none⟩) hcyl).trans y1
              have hcyl : cy < W8.heap.size := Nat.lt_of_lt_of_le hcyl hl.size
              clear hl
              cases hb2 : lab x.2 with
              | false =>
                rw [hb2] at HL2
                have HR : Hid (V = 3) := Lib.hid (by rw [← HV.out]; exact hostsE_bad H30.out HT.out HX.out (hostF_labs HLAB.out HIN.out H8.out (HLT.out.bad1 HLX.out (.inr hb2)) (by decide)) (by decide))
                clear hb2
                go_wp2_with fail
                refine Calls.mono (HL2.out _) ?_
                rintro e' W9 ⟨rfl, hl⟩
                have HB9 := Lib.hid (HB5.out.trans ((HBY8.out.trans (hl.mono HBY8.out.size)).mono HB5.out.size))
                clear hl
                go_wp2_with fail
                go_ret
                exact ⟨ret_int HR.out.symm, HB9.out⟩
              | true =>
                rw [hb2] at HL2
                have HLA2 := Lib.hid hb2
                clear hb2
                go_wp2_with fail
                refine Calls.mono (HL2.out _) ?_
                rintro e' W9 ⟨rfl, hl⟩
                have HBY9 := Lib.hid (HBY8.out.trans (hl.mono HBY8.out.size))
                have HSK9 := Lib.hid (HSK8.out.below hl)
                have y0 := (hl.cell (p := ⟨cy, 0, none⟩) hcyl).trans y0
                have hget := HSK9.out.get (k := x.1) (by unfold maxLen; exact HXS.out.1)
                rw [HK1.out] at hget
                clear hl y1
                by_cases hin : x.1 ∈ keys (h.labels.take i)
                · rw [show decide (x.1 ∈ keys (h.labels.take i)) = true from by simpa using hin] at hget
                  have HR : Hid (V = 6) := Lib.hid (by rw [← HV.out]; exact hostsE_bad H30.out HT.out HX.out (hostF_labs HLAB.out HIN.out H8.out (HLT.out.bad2 HLX.out HLA.out HLA2.out hin) (by decide)) (by decide))
                  clear hin
                  go_wp2_with fail
                  go_ret
                  exact ⟨ret_int HR.out.symm, HB5.out.trans (HBY9.out.mono HB5.out.size)⟩
                · rw [show decide (x.1 ∈ keys (h.labels.take i)) = false from by simpa using hin] at hget
                  have HQ := Lib.hid (HLT.out.succ HLX.out HLA.out HLA2.out hin)
                  obtain ⟨Wz, hup, hSz, hgz⟩ := HSK9.out.upd (by unfold maxLen; omega) (k := x.1) (by unfold maxLen; exact HXS.out.1)
                  rw [HK1.out] at hup
                  rw [show keys (h.labels.take i) ++ [x.1] = keys (h.labels.take (i + 1)) from by rw [take_snoc HLX.out]; simp [keys]] at hSz
                  have HSz := Lib.hid hSz
                  have HBz : Hid (Below W5.heap.size W5 Wz) := Lib.hid (HBY9.out.grown hgz HBY9.out.size (by intro k hk; cases hk; have := HGK.out; omega))
                  clear hin hSz hgz
                  go_wp2_with fail
                  go_roundg (m - (i + 1))
                  case measure => omega
                  case rel => exact ⟨i + 1, by omega, by simp, HQ, HSz, HBz⟩
          · obtain rfl : i = m := by omega
            have HL0 : Hid (labsF [] h.labels = 0) := Lib.hid (HLT.out.fin (by rw [HM.out]; exact Nat.le_refl _))
            have hbk := HBK.out
            have p2 := (hbk.cell (p := ⟨cx, 2, none⟩) hcx5).trans f2
            have p3 := (hbk.cell (p := ⟨cx, 3, none⟩) hcx5).trans f3
            have p4 := (hbk.cell (p := ⟨cx, 4, none⟩) hcx5).trans f4
            have p5 := (hbk.cell (p := ⟨cx, 5, none⟩) hcx5).trans f5
            have p6 := (hbk.cell (p := ⟨cx, 6, none⟩) hcx5).trans f6
            have p7 := (hbk.cell (p := ⟨cx, 7, none⟩) hcx5).trans f7
            have hcxw : cx < wr.heap.size := Nat.lt_of_lt_of_le hcx5 hbk.size
            have HSW := Lib.hid (HS5.out.below hbk)
            have HFI := Lib.hid (Fits_any h.used.cpu h.used.mem h.used.gpu h.has.cpu h.has.mem h.has.gpu wr)
            have HCK : Hid (∀ W, Calls Try.prog 28 #[.agg #[.int .i64 h.has.cpu, .int .i64 h.has.mem, .int .i64 h.has.gpu]] W fun e w' => e = .returned (.int .i64 (needE h.has.cpu h.has.mem h.has.gpu)) ∧ Below W.heap.size W w') := Lib.hid (fun W => Check_any _ _ _ W)
            obtain ⟨fb, hfb⟩ : ∃ q, (bothB h.used.cpu h.used.mem h.used.gpu h.has.cpu h.has.mem h.has.gpu && fitsB h.used.cpu h.used.mem h.used.gpu h.has.cpu h.has.mem h.has.gpu) = q := ⟨_, rfl⟩
            obtain ⟨fe, hfe⟩ : ∃ q, bothE h.used.cpu h.used.mem h.used.gpu h.has.cpu h.has.mem h.has.gpu = q := ⟨_, rfl⟩
            obtain ⟨ne, hne⟩ : ∃ q, needE h.has.cpu h.has.mem h.has.gpu = q := ⟨_, rfl⟩
            rw [hfb, hfe] at HFI
            rw [hne] at HCK
            have HFB := Lib.hid hfb
            have HFE := Lib.hid hfe
            have HNEE := Lib.hid hne
            clear hbk f0 f1 f2 f3 f4 f5 f6 f7 f1' hfb hfe hne
            go_wp2_with fail
            refine Calls.mono HFI.out ?_
            rintro e' W8 ⟨rfl, hl⟩
            have HB8 := Lib.hid (HBW.out.trans (hl.mono HBW.out.size))
            have HS8 := Lib.hid (HSW.out.below hl)
            have q2 := (hl.cell (p := ⟨cx, 2, none⟩) hcxw).trans p2
            have q3 := (hl.cell (p := ⟨cx, 3, none⟩) hcxw).trans p3
            have q4 := (hl.cell (p := ⟨cx, 4, none⟩) hcxw).trans p4
            clear hl p2 p3 p4 p5 p6 p7
            go_wp2_with fail
            refine Calls.mono (HCK.out _) ?_
            rintro e' W9 ⟨rfl, hl⟩
            have HB9 := Lib.hid (HB8.out.trans (hl.mono HB8.out.size))
            have HS9 := Lib.hid (HS8.out.below hl)
            clear hl q2 q3 q4
            have HAM := Lib.hid (hostF_amt HLAB.out HIN.out H8.out HL0.out)
            cases hB : needB h.has.cpu h.has.mem h.has.gpu with
            | false =>
              obtain rfl : ne = 4 := by rw [← HNEE.out]; exact needE_no hB
              have HR : Hid (V = 4) := Lib.hid (by rw [← HV.out]; exact hostsE_bad H30.out HT.out HX.out (HAM.out.trans (amt_has hB)) (by decide))
              clear hB
              go_wp2_with fail
              go_ret
              exact ⟨ret_int HR.out.symm, HB9.out⟩
            | true =>
              obtain rfl : ne = 0 := by rw [← HNEE.out]; exact needE_yes hB
              cases uB : needB h.used.cpu h.used.mem h.used.gpu with
              | false =>
                obtain rfl : fe = 4 := by rw [← HFE.out]; unfold bothE bothB; rw [uB]; rfl
                have HR : Hid (V = 4) := Lib.hid (by rw [← HV.out]; exact hostsE_bad H30.out HT.out HX.out (HAM.out.trans (amt_used hB uB)) (by decide))
                clear hB uB
                go_wp2_with fail
                go_ret
                exact ⟨ret_int HR.out.symm, HB9.out⟩
              | true =>
                obtain rfl : fe = 0 := by rw [← HFE.out]; unfold bothE bothB; rw [uB, hB]; rfl
                cases fB : fitsB h.used.cpu h.used.mem h.used.gpu h.has.cpu h.has.mem h.has.gpu with
                | false =>
                  obtain rfl : fb = false := by rw [← HFB.out, fB, Bool.and_false]
                  have HR : Hid (V = 10) := Lib.hid (by rw [← HV.out]; exact hostsE_bad H30.out HT.out HX.out (HAM.out.trans (amt_over hB uB fB)) (by decide))
                  clear hB uB fB
                  go_wp2_with fail
                  go_ret
                  exact ⟨ret_int HR.out.symm, HB9.out⟩
                | true =>
                  obtain rfl : fb = true := by rw [← HFB.out, fB]; unfold bothB; rw [uB, hB]; rfl
                  have HQ := Lib.hid (HT.out.succ HX.out (HAM.out.trans (amt_ok hB uB fB)))
                  clear hB uB fB
                  go_wp2_with fail
                  go_roundg (n - (j + 1))
                  case measure => omega
                  case rel => exact ⟨j + 1, by omega, by simp, HQ, HS9, HB9⟩
    · obtain rfl : j = n := by omega
      have HR : Hid (V = 0) := Lib.hid (by rw [← HV.out]; unfold hostsE; rw [if_neg H30.out]; exact HT.out.fin (by rw [← HN.out]; exact Nat.le_refl _))
      go_wp2_with fail
      go_ret
      exact ⟨ret_int HR.out.symm, HB.out⟩
end Go.Proofs.Ytnfmopmcckgfdaa
