/- Contract: things in a row, each into the first box that has room: the program's way. -/
import Derived.Test.YtfjoakhcgpckgaaPackCheck
import Derived.Test.YtfjoakhcgpckgaaWorkDo
import Derived.Test.YtfjoakhcgpckgaaWorkLong
import Derived.Test.YtfjoakhcgpckgaaWorkLst
namespace Go.Proofs.Ytfjoakhcgpckgaa
open Go.ChangeShapes Go.WideShapes Go.ChangeAt Go.RowKit
set_option linter.unusedVariables false
open Wk St
theorem own_keep {w w' : World} {base n size : Nat} {e : TypeId} {v : Value} {xs : List Value} (h : w.ownsRow base e size v n xs) (hn : ∀ k, v.ownBlock = some k → w'.heap[k]? = w.heap[k]?) : w'.ownsRow base e size v n xs := by
  refine ⟨h.1, ?_⟩
  rcases h.2 with h0 | ⟨g, cap, cur, e1, hb, hg, rest⟩
  · exact .inl h0
  · exact .inr ⟨g, cap, cur, e1, hb, by rw [hn g (by rw [e1]; rfl)]; exact hg, rest⟩
/-- the memory of the loop -/
structure FirI (gi n : Nat) (D : List Int) (s : (Nat → Option Nat) × Nat) (v : Value) (w0 w : World) : Prop where
  inr : RowN w gi n (fun i => onZ 0 (s.1 i))
  own : w.ownsRow (gi + 1) 2 1 v s.2 ((List.range s.2).map fun k => .int .i64 (fl D s.1 n k))
  bel : Below gi w0 w
theorem FirI.drewN {gi n : Nat} {D : List Int} {s : (Nat → Option Nat) × Nat} {v : Value} {w0 w : World} (h : FirI gi n D s v w0 w) (z : Nat) : FirI gi n D s v w0 (w.drewN z) :=
  ⟨rowIs_drewN h.inr z, ownsRow_below h.own ((Drawn.drewN w z).below _), h.bel.trans ((Drawn.drewN w z).below _)⟩
theorem FirI.step {gi n g cap c' k o : Nat} {D : List Int} {size u x : Int} {s : (Nat → Option Nat) × Nat} {w0 w : World} (hin : RowN w gi n (fun i => onZ 0 (s.1 i))) (hown : ownF w (gi + 1) g cap c' 2 (fun j => .int .i64 (fl D s.1 n j))) (hbel : Below gi w0 w) (hno : s.1 o = none) (hon : o < n) (hk : ffk (fits n D size s.1 (D.getD o 0)) s.2 = k) (hc : max s.2 (k + 1) = c') (hu : fl D s.1 n k = u) (hx : D.getD o 0 = x) :
    FirI gi n D (pstep n D size s (o : Int)) (.slice (some ⟨g, 0, none⟩) c' cap) w0 (((w.setCell ⟨g, k, none⟩ (.int .i64 (u + x))).drew).setCell ⟨gi, o, none⟩ (.int .i64 k)) := by
  have hg := hown.lt.1
  have e : pstep n D size s (o : Int) = (updo s.1 o k, c') := by
    unfold pstep
    simp only [Int.toNat_natCast]
    rw [hk, hc]
  rw [e]
  refine ⟨?_, ?_, (((hbel.setCell (p := ⟨g, k, none⟩) (by show gi ≤ g; omega) _).drew).setCell (p := ⟨gi, o, none⟩) (Nat.le_refl _) _)⟩
  · have h1 : (w.setCell ⟨g, k, none⟩ (.int .i64 (u + x))).drew.rowIs gi 3 n (fun i => .int .i64 (onZ 0 (s.1 i))) := World.rowIs.setOther hin (show gi ≠ g from by omega) _
    refine (World.rowIs.set h1 o (.int .i64 (k : Int))).congr fun j hj => ?_
    simp only [updo]
    by_cases e : j = o
    · simp [e, onZ]
    · simp [e]
  · have h1 := (hown.set k (.int .i64 (u + x))).drew
    have h2 : ownF (w.setCell ⟨g, k, none⟩ (.int .i64 (u + x))).drew (gi + 1) g cap c' 2 (fun j => .int .i64 (fl D (updo s.1 o k) n j)) := h1.congr fun j hj => by
      rw [fl_set D s.1 o k j hno n]
      by_cases e : j = k
      · rw [if_pos e, if_pos ⟨hon, e⟩, e, hu, hx]
      · rw [if_neg e, if_neg (fun h => e h.2), Int.add_zero]
    refine own_keep h2 fun j hj => ?_
    have : g = j := by simpa [Value.ownBlock] using hj
    exact Below.heap_setCell _ _ _ _ (by show j ≠ gi; omega)
def FirstPost (n : Nat) (D : List Int) (size : Int) (os : List Int) (w : World) (e : Ending) (w' : World) : Prop :=
  ∃ v, e = .returned (.tuple #[v, .int .i64 ((ps n D size os).2 : Int)]) ∧ IsVals w' v (ints64 (pin n 0 (ps n D size os))) ∧ Below w.heap.size w w'
theorem pinRow {w : World} {gi n cap : Nat} {z : Int} {s : (Nat → Option Nat) × Nat} (h : RowN w gi n (fun i => onZ z (s.1 i))) : IsVals w (.slice (some ⟨gi, 0, none⟩) n cap) (ints64 (pin n z s)) := by
  have h1 := intsRow (cap := cap) h
  have e : ((List.range n).map fun j => Value.int .i64 (onZ z (s.1 j))) = ints64 (pin n z s) := by
    unfold pin ints64; rw [List.map_map]; rfl
  rwa [e] at h1
set_option maxRecDepth 20000 in
set_option maxHeartbeats 6400000 in
theorem first_any (n r : Nat) (D os : List Int) (size : Int) (a1 a2 : Option Addr) (c1 c2 : Nat) (w : World) (hn : n = D.length) (h4 : n ≤ 100) (hs1 : 1 ≤ size) (hs2 : size ≤ 1099511627776) (hD : Vals w a1 (ints64 D)) (hok : ∀ x, x ∈ D → 1 ≤ x ∧ x ≤ size) (hr : r = os.length) (hos : Vals w a2 (ints64 os)) (hob : ∀ o, o ∈ os → 0 ≤ o ∧ o < n) (hnd : os.Nodup) (hr2 : r ≤ 100) :
    Calls Try.prog 121 #[.slice a1 n c1, .int .i64 size, .slice a2 r c2] w fun e w' => FirstPost n D size os w e w' := by
  have HD := Lib.hid hD
  have HN := Lib.hid hn
  have HO := Lib.hid hok
  have HS := Lib.hid hos
  have HR := Lib.hid hr
  have HB := Lib.hid hob
  have HND := Lib.hid hnd
  have HPI := Lib.hid (ps_inv (n := n) (D := D) (os := os) (size := size) (by omega) (fun x hx => (hok x hx).2) hnd hob hn)
  have HFN := Lib.hid (fun on q b => fl_nonneg (D := D) (fun x hx => by have := hok x hx; omega) on q b)
  have hmk := run_make_row' (P := Try.prog) 58 3 (.int .i64 0) 8 Try.underlying58 infoIntD rfl .i64 .i64 n (by omega) (by omega)
  obtain ⟨gi, hgi⟩ : ∃ g, g = w.heap.size := ⟨_, rfl⟩
  obtain ⟨W1, hW1⟩ : ∃ W, W = w.alloc (.cells (madeCells #[.int .i64 0] n) 3) := ⟨_, rfl⟩
  have HI0 : Hid (FirI gi n D (ps n D size (os.take 0)) (.slice none 0 0) w W1) := Lib.hid (by
    rw [hW1, hgi]
    exact ⟨(rowIs_made_at w (.int .i64 0) n 3 rfl).congr fun j hj => rfl, World.ownsRow_nil _ _ _ _, (Below.refl _ _).alloc (Nat.le_refl _) _⟩)
  have HGL := Lib.hid hgi
  clear hD hn hok hos hr hob hnd
  go_enter Try.func121, Try.ntmps121
  go_upto_region 2 with fail
  rw [← hW1, ← hgi]
  clear hmk hW1 hgi
  obtain ⟨w0, rfl⟩ : ∃ x, x = w := ⟨_, rfl⟩
  go_wp2_with fail
  go_loopg [9, 18] r (fun gk v x wr => ∃ q : Nat, q + gk = r ∧ x = .int .i64 (q : Int) ∧ Hid (FirI gi n D (ps n D size (os.take q)) v w0 wr))
  case atStart => exact ⟨0, by omega, rfl, HI0⟩
  case round =>
    clear HI0
    obtain ⟨q, hq, rfl, HI⟩ := hrel
    by_cases hqr : q < r
    · obtain ⟨o, ho⟩ : ∃ o, os[q]? = some o := ⟨_, List.getElem?_eq_getElem (by have := HR.out; omega)⟩
      have hob := HB.out o (List.mem_of_getElem? ho)
      obtain ⟨p, rfl⟩ : ∃ p : Nat, o = (p : Int) := ⟨o.toNat, (Int.toNat_of_nonneg hob.1).symm⟩
      obtain ⟨x, hx⟩ : ∃ x, D[p]? = some x := ⟨_, List.getElem?_eq_getElem (by have := HN.out; omega)⟩
      have HDB := Lib.hid (HD.out.below HI.out.bel (Nat.le_of_eq HGL.out.symm))
      obtain ⟨b1, o1, rfl, hb1, d0⟩ := i64at HD.out hx
      obtain ⟨b2, o2, rfl, hb2, d2⟩ := i64at (HS.out.below HI.out.bel (Nat.le_of_eq HGL.out.symm)) ho
      have hb1g : b1 < gi := by have := HGL.out; omega
      have HST := Lib.hid (ps_take (n := n) (D := D) (size := size) ho)
      have HPQ := Lib.hid (HPI.out q)
      obtain ⟨s, hs⟩ : ∃ s, ps n D size (os.take q) = s := ⟨_, rfl⟩
      rw [hs] at HI HST HPQ
      have HNO : Hid (s.1 p = none) := Lib.hid (HPQ.out.non p (by
        intro hm
        obtain ⟨j, hj, hj2⟩ := List.mem_iff_getElem.1 hm
        rw [List.length_take] at hj
        have hq := (List.getElem?_eq_some_iff.1 ho).1
        have e3 : os[j]? = some (p : Int) := by rw [← hj2, List.getElem_take]; exact List.getElem?_eq_getElem _
        have := (List.getElem?_inj hq HND.out).1 (ho.trans e3.symm)
        omega))
      have HX : Hid (D.getD p 0 = x) := Lib.hid (by rw [List.getD_eq_getElem?_getD, hx]; rfl)
      have hxb := HO.out x (List.mem_of_getElem? hx)
      have hp0 : (0 : Int) ≤ (p : Int) := by omega
      have hp2 : (p : Int) < (n : Int) := by omega
      have hp3 : p < n := by omega
      have hqr2 : (q : Int) < (r : Int) := by omega
      have HD0 := Lib.hid (fun (W : World) (h : Below gi w0 W) => (h.cell (p := ⟨b1, o1 + p, none⟩) hb1g).trans d0)
      have hcnt : s.2 ≤ 100 := by have := HPQ.out.cnt; rw [List.length_take] at this; have := HR.out; omega
      obtain ⟨a9, c9, rfl, hv9⟩ := IsVals.own HI.out.own
      have hlen : ((List.range s.2).map fun k => Value.int .i64 (fl D s.1 n k)).length = s.2 := by simp
      rw [hlen] at HI ⊢
      obtain ⟨cnt, hcn⟩ : ∃ c, s.2 = c := ⟨_, rfl⟩
      have HCN := Lib.hid hcn
      rw [hcn] at hcnt ⊢
      have HI2 : Hid (FirI gi n D s (.slice a9 cnt c9) w0 wr) := Lib.hid (by have h := HI.out; rwa [hcn] at h)
      clear hx ho hs d0 hv9 hlen HI hcn
      obtain ⟨gq, rfl⟩ : ∃ g, g = gk := ⟨_, rfl⟩
      obtain ⟨wq, rfl⟩ : ∃ x, x = wr := ⟨_, rfl⟩
      go_wp2_with fail
      go_loopg [12] (cnt + 1) (fun gk y wr => ∃ k : Nat, k + gk = cnt + 1 ∧ k ≤ cnt ∧ y = .int .i64 (k : Int) ∧ Hid (∀ j, j < k → fits n D size s.1 (D.getD p 0) j = false) ∧ Hid (FirI gi n D s (.slice a9 cnt c9) w0 wr))
      case atStart => exact ⟨0, by omega, by omega, rfl, Lib.hid (fun j hj => by omega), HI2⟩
      case round =>
        clear HI2
        obtain ⟨k, hk, hkc, rfl, HF, HI⟩ := hrel
        have d1 := HD0.out wr HI.out.bel
        have hbw : b1 < wr.heap.size := by have := HI.out.bel.size; have := hb1; omega
        have hk0 : (0 : Int) ≤ (k : Int) := by omega
        have hsz := HI.out.bel.size
        by_cases hkm : k < cnt
        · have hkm2 : (k : Int) < (cnt : Int) := by omega
          have hown := HI.out.own
          rw [HCN.out] at hown
          obtain ⟨g, cap, e9, hg1, hg2⟩ := hown.form (by omega)
          cases e9
          have HOF : Hid (ownF wr (gi + 1) g c9 cnt 2 (fun j => .int .i64 (fl D s.1 n j))) := Lib.hid hown
          have r1 := HOF.out.cell hkm
          obtain ⟨u, hu⟩ : ∃ u, fl D s.1 n k = u := ⟨_, rfl⟩
          have HU := Lib.hid hu
          have hub : 0 ≤ u ∧ u ≤ size := by rw [← hu]; exact ⟨HFN.out _ _ _, HPQ.out.le k⟩
          rw [hu] at r1
          have wy : IntKind.i64.wrap (u + x) = u + x := IntWalk.i64_in _ (by omega)
          clear hown hu
          by_cases hfit : u + x ≤ size
          · have hcb : decide (size < u + x) = false := by simp; omega
            have HKF : Hid (ffk (fits n D size s.1 (D.getD p 0)) s.2 = k) := Lib.hid (ffk_uniq (by rw [HCN.out]; omega) HF.out (fun _ => by show decide (fl D s.1 n k + D.getD p 0 ≤ size) = true; rw [HU.out, HX.out]; simp; omega))
            have hce : ((k : Int) == (cnt : Int)) = false := by simp; omega
            have HIN : Hid (∀ z, RowN (wr.drewN z) gi n (fun i => onZ 0 (s.1 i))) := Lib.hid (fun z => (HI.out.drewN z).inr)
            have HOFN : Hid (∀ z, ownF (wr.drewN z) (gi + 1) g c9 cnt 2 (fun j => .int .i64 (fl D s.1 n j))) := Lib.hid (fun z => HOF.out.below ((Drawn.drewN wr z).below _))
            have HBN : Hid (∀ z, Below gi w0 (wr.drewN z)) := Lib.hid (fun z => (HI.out.drewN z).bel)
            have HMX : Hid (max s.2 (k + 1) = cnt) := Lib.hid (by rw [HCN.out]; omega)
            go_wp2_with fail
            go_quiet (fail)
            obtain ⟨wz, hwz⟩ : ∃ W, W = wr.drewN nq := ⟨_, rfl⟩
            have HIN := Lib.hid (HIN.out nq)
            have HOFN := Lib.hid (HOFN.out nq)
            have HBN := Lib.hid (HBN.out nq)
            rw [← hwz] at HIN HOFN HBN ⊢
            clear hwz
            have k0 := HOFN.out.cell hkm
            rw [HU.out] at k0
            have k1 := HOFN.out.frozen k
            have k2 := HOFN.out.lt
            have k3 := World.rowIs.frozen HIN.out p
            have k4 := World.rowIs.lt HIN.out
            obtain ⟨z, k5⟩ : ∃ z, wz.cell? ⟨gi, p, none⟩ = some (.int .i64 z) := ⟨_, World.rowIs.cell HIN.out hp3⟩
            have hg3 : g < wz.heap.size := k2.2
            have hgg : gi < g := by have := k2.1; omega
            have d3 := HD0.out wz HBN.out
            have HBS := HBN.out.size
            have hb3 : b1 < wz.heap.size := by omega
            have HNX : Hid (FirI gi n D (ps n D size (os.take (q + 1))) (.slice (some ⟨g, 0, none⟩) cnt c9) w0 ((wz.setCell ⟨g, k, none⟩ (.int .i64 (u + x))).setCell ⟨gi, p, none⟩ (.int .i64 (k : Int))).drew) := Lib.hid (by rw [HST.out, ← World.setCell_drew]; exact FirI.step HIN.out HOFN.out HBN.out HNO.out hp3 HKF.out HMX.out HU.out HX.out)
            go_wp2_with fail
            go_still_tail 10, (by kernel_rfl)
            change wpList _ _ _ _ _ wz.drew
            go_wp2_with fail
            go_roundg (gq - 1)
            case measure => omega
            case rel => exact ⟨q + 1, by omega, by simp, HNX⟩
          · have hcb : decide (size < u + x) = true := by simp; omega
            have HF2 : Hid (∀ j, j < k + 1 → fits n D size s.1 (D.getD p 0) j = false) := Lib.hid (fun j hj => by
              rcases Nat.lt_or_ge j k with h1 | h1
              · exact HF.out j h1
              · obtain rfl : j = k := by omega
                show decide (fl D s.1 n j + D.getD p 0 ≤ size) = false
                rw [HU.out, HX.out]; simp; omega)
            have HI3 := Lib.hid (fun z => HI.out.drewN z)
            go_wp2_with fail
            go_quiet (fail)
            go_wp2_with fail
            go_roundg (gk - 1)
            case measure => omega
            case rel => exact ⟨k + 1, by omega, by omega, by simp, HF2, Lib.hid (HI3.out _)⟩
        · obtain rfl : k = cnt := by omega
          have hkm2 : ¬ (k : Int) < (k : Int) := by omega
          have HKF : Hid (ffk (fits n D size s.1 (D.getD p 0)) s.2 = k) := Lib.hid (ffk_uniq (by rw [HCN.out]; omega) HF.out (fun h => by rw [HCN.out] at h; omega))
          have HMX : Hid (max s.2 (k + 1) = k + 1) := Lib.hid (by rw [HCN.out]; omega)
          have HU : Hid (fl D s.1 n k = 0) := Lib.hid (HPQ.out.beyond (by rw [HCN.out]; omega) n)
          have HI3 := Lib.hid (fun z => HI.out.drewN z)
          have wy : IntKind.i64.wrap (0 + x) = 0 + x := IntWalk.i64_in _ (by omega)
          have hce : ((k : Int) == (k : Int)) = true := by simp
          go_wp2_with fail
          go_quiet (fail)
          obtain ⟨wz, hwz⟩ : ∃ W, W = wr.drewN nq := ⟨_, rfl⟩
          have HI4 := Lib.hid (HI3.out nq)
          rw [← hwz] at HI4 ⊢
          clear hwz
          have hz1 := HI4.out.bel.size
          have HOW : Hid (wz.ownsRow (gi + 1) 2 1 (.slice a9 k c9) k ((List.range k).map fun j => .int .i64 (fl D s.1 n j))) := Lib.hid (by have h := HI4.out.own; rwa [HCN.out] at h)
          have hgz : gi + 1 ≤ wz.heap.size := by have := World.rowIs.lt HI4.out.inr; omega
          go_wp2_with (at_builtin; refine wpList_push _ (by rfl) _ _ 36 (by rfl) (gi + 1) 2 (.int .i64 0) 8 Try.underlying36 infoI64w (by rfl) (.slice a9 k c9) k _ (.int .i64 0) _ rfl (by rfl) HOW.out (by rfl) (by rfl) (by unfold maxLen; omega) (by omega) hgz ?_; intro g cap2 w4 hown1 hgrow1 hgb hgl; have HOF := Lib.hid (show ownF w4 (gi + 1) g cap2 (k + 1) 2 (fun j => .int .i64 (fl D s.1 n j)) from by unfold ownF; rw [List.range_succ, List.map_append, List.map_cons, List.map_nil, HU.out]; exact hown1); have HIN := Lib.hid (rowIs_grown HI4.out.inr hgrow1 (ownBlock_ne HOW.out (Nat.lt_succ_self _))); have HBN := Lib.hid (HI4.out.bel.grown hgrow1 (Nat.le_of_succ_le hgz) (ownBlock_ge HOW.out (Nat.le_succ gi))); clear hown1 hgrow1 hgb)
          have k0 := HOF.out.cell (Nat.lt_succ_self k)
          rw [HU.out] at k0
          have k1 := HOF.out.frozen k
          have k2 := HOF.out.lt
          have k3 := World.rowIs.frozen HIN.out p
          have k4 := World.rowIs.lt HIN.out
          obtain ⟨z, k5⟩ : ∃ z, w4.cell? ⟨gi, p, none⟩ = some (.int .i64 z) := ⟨_, World.rowIs.cell HIN.out hp3⟩
          have hg3 : g < w4.heap.size := k2.2
          have hgg : gi < g := by have := k2.1; omega
          have d3 := HD0.out w4 HBN.out
          have HBS := HBN.out.size
          have hkk : (k : Int) < (k : Int) + 1 := by omega
          have hb3 : b1 < w4.heap.size := by omega
          have HNX : Hid (FirI gi n D (ps n D size (os.take (q + 1))) (.slice (some ⟨g, 0, none⟩) (k + 1) cap2) w0 ((w4.setCell ⟨g, k, none⟩ (.int .i64 x)).setCell ⟨gi, p, none⟩ (.int .i64 (k : Int))).drew) := Lib.hid (by rw [HST.out, ← World.setCell_drew]; have h := FirI.step HIN.out HOF.out HBN.out HNO.out hp3 HKF.out HMX.out HU.out HX.out; rwa [Int.zero_add] at h)
          go_still_tail 10, (by kernel_rfl)
          change wpList _ _ _ _ _ w4.drew
          go_wp2_with fail
          go_roundg (gq - 1)
          case measure => omega
          case rel => exact ⟨q + 1, by omega, by simp, HNX⟩
    · have hqr2 : ¬ (q : Int) < (r : Int) := by omega
      obtain rfl : q = r := by omega
      have hI := HI.out
      rw [List.take_of_length_le (by have := HR.out; omega)] at hI
      obtain ⟨a9, c9, rfl, hv9⟩ := IsVals.own hI.own
      rw [List.length_map, List.length_range] at hI ⊢
      have HE := Lib.hid (pinRow (cap := n) hI.inr)
      have HBL := Lib.hid hI.bel
      clear hI
      go_wp2_with fail
      go_ret2
      exact ⟨_, rfl, HE.out, by have h := HBL.out; rwa [HGL.out] at h⟩
end Go.Proofs.Ytfjoakhcgpckgaa
