/- The walk of the law WheelPlays: for every row of acts it answers true. -/
import Derived.Test.YtjoejdpoehpkiaaWheelPlay
namespace Go.Proofs.Ytjoejdpoehpkiaa
open Go.ChangeShapes Go.WideShapes Go.ChangeAt Go.RowKit
set_option linter.unusedVariables false
open Wh
def PlayE (B gw gr k : Nat) (w wr : World) : Prop := ∃ F G now T, Playing B gw gr k F G now T w wr
set_option maxRecDepth 20000 in
set_option maxHeartbeats 8000000 in
theorem wheelLaw (L : List Ac) (a : Option Addr) (n cap : Nat) (w : World) (hn : n = L.length) (hmax : n ≤ 9223372036854775807) (hW : Vals w a (acts L)) (hid : ∀ t, t ∈ L → (Lit.int .i64 t.id).wf = true ∧ (Lit.int .i64 t.at').wf = true) :
    Calls Try.prog 3 #[.slice a n cap] w fun e w' => e = .returned (.bool true) ∧ Below w.heap.size w w' := by
  have HW := Lib.hid hW
  have HN := Lib.hid hn
  have HID := Lib.hid hid
  clear hW hn hid
  by_cases hl : 300 < n
  · have hl1 : (n : Int) > 300 := by omega
    go_enter Try.func3, Try.ntmps3
    go_wp2_with fail
    go_ret
    exact ⟨rfl, Below.refl _ _⟩
  · have hl1 : ¬ (n : Int) > 300 := by omega
    obtain ⟨B, hB⟩ : ∃ B, B = w.heap.size := ⟨_, rfl⟩
    have HB0 := Lib.hid hB
    clear hB
    go_enter Try.func3, Try.ntmps3
    go_upto_region 5 with (go_at_call 4; refine Calls.mono (New_any _) ?_; rintro e w1 ⟨gw, gm, rfl, hq, hm, hgm, hb⟩; have HQ := Lib.hid hq; have HM := Lib.hid hm; have HGM := Lib.hid hgm; have HB := Lib.hid hb; clear hq hm hgm hb)
    obtain ⟨W2, hW2⟩ : ∃ W, W = w1.alloc (.cells #[.int .i64 0, .slice none 0 0] 28) := ⟨_, rfl⟩
    rw [← hW2]
    obtain ⟨gr, hgr⟩ : ∃ gr, gr = w1.heap.size := ⟨_, rfl⟩
    rw [← hgr]
    have HP0 : Hid (PlayE B gw gr 0 w W2) := Lib.hid (by
      have hb2 : Below w1.heap.size w1 W2 := by rw [hW2]; exact (Below.refl _ _).alloc (Nat.le_refl _) _
      have hp : PWE (fun k => w.heap.size ≤ k) gw 0 0 [] w1 := ⟨gm, 0, _, _, _, _, 0, 0, HQ.out, HM.out, HGM.out, ⟨⟨fun id => by simp, fun t ht => by simp at ht, rfl⟩, ⟨fun i t => by simp, fun i => by simp⟩, Came.nil, fun t ht => by simp at ht, fun t ht => by simp at ht, by simp, by simp, by simp, fun t ht => by simp at ht⟩⟩
      have hr : RWE (fun k => w1.heap.size ≤ k) gr 0 [] W2 := by rw [hgr, hW2]; exact ⟨_, rwh_new w1⟩
      have hs := HB.out.size
      have hs2 := hb2.size
      refine ⟨_, _, 0, [], hp.small.kept_all (fun x hx hxl => hb2.block x hxl), RWE.small hr, fun x hx hg => ?_, fun x hx => ?_, fun x hx => ?_, ?_⟩
      · have := hx.2; have := hg.1; omega
      · have := HB0.out
        rcases hx with hx | hx
        · have := hx.1; omega
        · have := hx.1; omega
      · rcases hx with hx | hx
        · have := hx.2; omega
        · exact hx.2
      · rw [HB0.out]; exact HB.out.trans (hb2.mono hs))
    clear HQ HM HGM HB hW2 hgr
    go_wp2_with fail
    go_loopw [23] (fun x wr => ∃ (k : Nat), k ≤ n ∧ x = .int .i64 k ∧ Hid (PlayE B gw gr k w wr)) (fun v _ => n - (intOf v).toNat)
    case atStart => exact ⟨0, by omega, rfl, HP0⟩
    case round =>
      clear HP0
      obtain ⟨k, hk, rfl, HPE⟩ := hrel
      obtain ⟨F, G, now, T, hp⟩ := HPE.out
      have HP := Lib.hid hp
      clear hp
      have hsz := HP.out.below.size
      by_cases hkn : k < n
      · obtain ⟨t, ht⟩ : ∃ t, L[k]? = some t := ⟨_, List.getElem?_eq_getElem (by have := HN.out; omega)⟩
        obtain ⟨b, off, rfl, hb, t0, t1, t2, t3⟩ := actCells (HW.out.below (HB0.out ▸ HP.out.below) (Nat.le_refl _)) ht
        have hwf := (HID.out t (List.mem_of_getElem? ht)).1
        have hat : -9223372036854775808 ≤ t.at' ∧ t.at' ≤ 9223372036854775807 := by
          have := (HID.out t (List.mem_of_getElem? ht)).2
          simp only [Lit.wf, IntKind.min, IntKind.max, IntKind.signed, IntKind.bits, Bool.and_eq_true, decide_eq_true_eq, if_true] at this
          omega
        have HAT := Lib.hid hat
        have HWF := Lib.hid hwf
        obtain ⟨W3, hW3⟩ : ∃ W, W = wr.alloc (.cells #[.int .i64 t.kind, .int .i64 t.id, .int .i64 t.prio, .int .i64 t.at'] 30) := ⟨_, rfl⟩
        clear hat hwf
        go_upto_region 8 with fail
        rw [← hW3]
        have hB3 : Below wr.heap.size wr W3 := by rw [hW3]; exact (Below.refl _ _).alloc (Nat.le_refl _) _
        have hA3 : Act4 wr.heap.size t W3 := ⟨by rw [hW3]; simp, by rw [hW3]; simp, by rw [hW3]; simp, by rw [hW3]; simp⟩
        obtain ⟨d0, d1, d3, l3⟩ := hA3
        have HA := Lib.hid (show Act4 wr.heap.size t W3.drew from ⟨d0, d1, d3, l3⟩)
        have HA3 := Lib.hid (show Act4 wr.heap.size t W3 from ⟨d0, d1, d3, l3⟩)
        have HP3 := Lib.hid (HP.out.step hB3 (by have := HB0.out; omega))
        have HBE : Hid (B ≤ W3.heap.size) := Lib.hid (by have := HB0.out; have := hB3.size; omega)
        have HPd := Lib.hid ((HP.out.step hB3 (by have := HB0.out; omega)).step (Below.refl _ _).drew (by have := HB0.out; have := hB3.size; omega))
        have HNF : Hid (¬ F wr.heap.size ∧ ¬ G wr.heap.size) := Lib.hid ⟨fun h => by have := HP.out.hi _ (.inl h); omega, fun h => by have := HP.out.hi _ (.inr h); omega⟩
        have HFA := Lib.hid HPd.out.pw.facts
        have HBD : Hid (B ≤ W3.drew.heap.size) := Lib.hid (by have := HB0.out; have := hB3.size; show B ≤ W3.heap.size; omega)
        have HK3 : Hid (k ≤ 300) := Lib.hid (by omega)
        obtain ⟨b6, hb6⟩ : ∃ b6, b6 = wr.heap.size := ⟨_, rfl⟩
        rw [← hb6] at HA HA3 HNF d0 d1 d3 l3
        rw [← hb6]
        clear hW3 hB3 ht t0 t1 t2 t3 hb6
        go_upto_block 2 with fail
        go_cut [7] (fun v wx => Hid (PlayE B gw gr (k + 1) w wx))
        case first =>
          cases k1 : (t.kind == 1) with
          | true =>
            go_upto_region 14 with fail
            go_region_held3 (fun W => W.cell? ⟨b6, 1, none⟩ = some (.int .i64 t.id) ∧ W.cell? ⟨b6, 3, none⟩ = some (.int .i64 t.at'))
              ((first | exact HA.out.two | exact HA5.out.two | exact HA6.out.two))
              (first
                | (go_at_call 5; refine Calls.mono (wAdd_all t.at' t.id HPd.out.pw HK3.out HAT.out HWF.out) ?_; rintro e w5 ⟨bo, z, T', rfl, hs, hp, hk5⟩; have HS := Lib.hid hs; have HP5 := Lib.hid hp; have HK5 := Lib.hid hk5; have HA5 := Lib.hid (HA.out.kept hk5 HNF.out.1); have HR5 := Lib.hid (HPd.out.rwAt hk5); clear hs hp hk5)
                | (go_at_call 6; refine Calls.mono (rAdd_all HR5.out HFA.out HK3.out HAT.out HS.out) ?_; rintro e w6 ⟨rfl, hr, hk6⟩; have HR6 := Lib.hid hr; have HK6 := Lib.hid hk6; have HA6 := Lib.hid (HA5.out.kept hk6 HNF.out.2); clear hr hk6))
            all_goals
              go_wp2_with fail
              go_meet
              obtain ⟨F', G', h⟩ := HPd.out.acted HBD.out HP5.out HK5.out HR6.out HK6.out
              exact Lib.hid ⟨F', G', _, _, h⟩
          | false =>
            cases k2 : (t.kind == 2) with
            | true =>
              go_upto_region 17 with fail
              go_region_held3 (fun W => W.cell? ⟨b6, 1, none⟩ = some (.int .i64 t.id) ∧ W.cell? ⟨b6, 3, none⟩ = some (.int .i64 t.at'))
                ((first | exact HA.out.two | exact HA5.out.two | exact HA6.out.two))
                (first
                  | (go_at_call 7; refine Calls.mono (wCancel_any F gw k now T t.id _ HPd.out.pw HK3.out HWF.out) ?_; rintro e w5 ⟨z, T', rfl, hs, hp, hk5⟩; have HS := Lib.hid hs; have HP5 := Lib.hid hp; have HK5 := Lib.hid hk5; have HA5 := Lib.hid (HA.out.kept hk5 HNF.out.1); have HR5 := Lib.hid (HPd.out.rwAt hk5); clear hs hp hk5)
                  | (go_at_call 8; refine Calls.mono (rCancel_all HR5.out HFA.out HS.out) ?_; rintro e w6 ⟨rfl, hr, hk6⟩; have HR6 := Lib.hid hr; have HK6 := Lib.hid hk6; have HA6 := Lib.hid (HA5.out.kept hk6 HNF.out.2); clear hr hk6))
              all_goals
                go_wp2_with fail
                go_meet
                obtain ⟨F', G', h⟩ := HPd.out.acted HBD.out HP5.out HK5.out HR6.out HK6.out
                exact Lib.hid ⟨F', G', _, _, h⟩
            | false =>
              go_wp2_with fail
              refine Calls.mono (wAdvance_any F gw k now T t.at' _ HP3.out.pw HK3.out) ?_
              rintro e w5 (⟨hn1, rfl, rfl⟩ | ⟨hn1, out, left, vo, rfl, hu, hp, hs, hk5⟩)
              · have HN1 := Lib.hid hn1
                clear hn1
                go_wp2_with fail
                refine Calls.mono (rAdvance_arg HP3.out.rw' HFA.out HK3.out HN1.out) ?_
                rintro e w6 ⟨rfl, rfl⟩
                have HE := Lib.hid (eqFires [] (.slice none 0 0) (.slice none 0 0) w6 (by simp) ⟨none, 0, rfl, Vals.nil _ _⟩ ⟨none, 0, rfl, Vals.nil _ _⟩)
                go_wp2_with (go_at_call 11; refine Calls.mono HE.out ?_; rintro e w7 ⟨rfl, hb7⟩; have HB7 := Lib.hid hb7; clear hb7)
                go_meet
                have h := HP3.out.step HB7.out HBE.out
                exact Lib.hid ⟨F, G, now, T, h.pw.next, h.rw', h.dis, h.lo, h.hi, h.below⟩
              · have HN1 := Lib.hid hn1
                have HU := Lib.hid hu
                have HP5 := Lib.hid hp
                have HS5 := Lib.hid hs
                have HK5 := Lib.hid hk5
                have HR5 := Lib.hid (HP3.out.rwAt hk5)
                obtain ⟨-, -, e3, el⟩ := HA3.out.kept hk5 HNF.out.1
                clear hn1 hu hp hs hk5
                go_wp2_with fail
                refine Calls.mono (rAdvance_all HR5.out HFA.out HK3.out HN1.out HU.out) ?_
                rintro e w6 ⟨v2, rfl, hr6, hi6, hk6⟩
                have HR6 := Lib.hid hr6
                have HK6 := Lib.hid hk6
                have HLN : Hid (out.length ≤ 1000) := Lib.hid (by
                  have hnd : out.Nodup := HU.out.told.row.imp fun {a b} hab e => by subst e; exact lt_irrefl _ hab
                  have := hnd.length_le_of_subset (l₂ := T) fun t ht => HU.out.told.sub t ht
                  have := HFA.out.short
                  omega)
                have HE : Hid (Calls Try.prog 11 #[vo, v2] w6 fun e w' => e = .returned (.bool true) ∧ Below w6.heap.size w6 w') := Lib.hid (by
                  obtain ⟨a1, c1, e1, _, _, _, _, hv1⟩ := (HS5.out.block (w' := w6) fun x hx => hk6.block x (HS5.out.lt x hx).2 (fun hg => by
                    have h1 := (HS5.out.lt x hx).1
                    have h2 := HP3.out.hi x (.inr hg)
                    omega)).form
                  exact eqFires out vo v2 w6 HLN.out ⟨a1, c1, e1, hv1⟩ hi6)
                clear hr6 hi6 hk6 e3 el
                go_wp2_with (go_at_call 11; refine Calls.mono HE.out ?_; rintro e w7 ⟨rfl, hb7⟩; have HB7 := Lib.hid hb7; clear hb7)
                go_meet
                obtain ⟨F', G', h⟩ := HP3.out.acted HBE.out HP5.out HK5.out HR6.out HK6.out
                exact Lib.hid ⟨F', G', _, _, h.step HB7.out (by have := HBE.out; have := HK5.out.size; have := HK6.out.size; omega)⟩
        case rest =>
          obtain ⟨F', G', now', T', hp'⟩ := hcut.out
          have HPN := Lib.hid hp'
          have HFN := Lib.hid hp'.pw.facts
          have hbc : B ≤ wc.heap.size := by have h1 := hp'.below.size; have := HB0.out; omega
          clear hp'
          go_upto_region 21 with (first
            | (go_at_call 12; refine Calls.mono (wNext_all HPN.out.pw) ?_; rintro e w5 ⟨z, is, rfl, hz, hb5⟩; have HZ := Lib.hid hz; have HP5 := Lib.hid (HPN.out.step hb5 hbc); have hs5 := hb5.size; clear hz hb5)
            | (go_at_call 13; refine Calls.mono (rNext_all HP5.out.rw' HFN.out HZ.out) ?_; rintro e w6 ⟨rfl, hb6⟩; have HP6 := Lib.hid (HP5.out.step hb6 (by omega)); have hs6 := hb6.size; clear hb6))
          obtain ⟨p0, p1⟩ := HP6.out.pw.cell
          obtain ⟨r0, r1⟩ := HP6.out.rw'.cell
          have z1 : (z != z) = false := by simp
          have z2 : (is != is) = false := by simp
          have z3 : (now' != now') = false := by simp
          have HNW : Hid (∀ q, Calls Try.prog 14 #[.pointer (some ⟨gw, 0, none⟩)] (w6.drewN q) fun e w' => e = .returned (.int .i64 now') ∧ ∃ m, w' = w6.drewN m) := Lib.hid fun q => (Now_any (w := w6.drewN q) (gw := gw) (now := now') p0 p1).mono fun _ _ ⟨h1, h2⟩ => ⟨h1, q, h2⟩
          clear hs5 hs6
          go_quiet ((go_at_call 14; exact HNW.out _))
          go_wp2_with fail
          go_roundw
          case rel => exact ⟨k + 1, by omega, rfl, Lib.hid ⟨F', G', now', T', HP6.out.step ((Drawn.drewN w6 nq).below _) (by have h1 := HP6.out.below.size; have := HB0.out; omega)⟩⟩
          case measure => simp [intOf]; omega
      · go_wp2_with fail
        go_ret
        exact ⟨rfl, HB0.out ▸ HP.out.below⟩
end Go.Proofs.Ytjoejdpoehpkiaa
