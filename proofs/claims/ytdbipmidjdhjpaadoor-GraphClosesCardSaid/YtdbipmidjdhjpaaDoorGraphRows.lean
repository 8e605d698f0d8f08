/- Contracts: the rows of bits of a graph, and their closure; the program's. -/
import Derived.Test.YtdbipmidjdhjpaaDoorGraph
import Derived.Test.YtdbipmidjdhjpaaDoorGraphBits
import Derived.RegionTactic
namespace Go.Proofs.YtdbipmidjdhjpaaDoor
open Go.ChangeShapes Go.WideShapes Go.ChangeAt Go.RowKit
set_option linter.unusedVariables false
open Gr (El)
theorem infoU64 : (Tryd.prog.info? 56).map (fun i => (i.zero, i.size, i.bytes)) = some (some (.int .u64 0), 1, 8) := by kernel_rfl
theorem infoInt : (Tryd.prog.info? 3).map (fun i => (i.zero, i.size, i.bytes)) = some (some (.int .i64 0), 1, 8) := by kernel_rfl
theorem infoBool : (Tryd.prog.info? 4).map (fun i => (i.zero, i.size, i.bytes)) = some (some (.bool false), 1, 1) := by kernel_rfl
def u64s (f : Nat → Nat) (i : Nat) : Value := .int .u64 (f i : Nat)
/-- a new row of bits -/
def RowsPost (f : Nat → Nat) (n : Nat) (w : World) (e : Ending) (w' : World) : Prop := ∃ g c, e = .returned (.slice (some ⟨g, 0, none⟩) n c) ∧ w.heap.size ≤ g ∧ w'.rowIs g 56 n (u64s f) ∧ Below w.heap.size w w'
theorem rowK_go {L : El} {k : Nat} {x y : Int} (h : L[k]? = some (x, y)) (i : Nat) : Gr.rowK L (k + 1) i = if x = (i : Int) then Gr.rowK L k i ||| 2 ^ y.toNat else Gr.rowK L k i := by simp [Gr.rowK, h]
set_option maxRecDepth 20000 in
set_option maxHeartbeats 2000000 in
theorem rows_any (n : Nat) (L : El) (a : Option Addr) (l cap : Nat) (w : World) (hn : l = L.length) (hmax : l ≤ 400) (h60 : n ≤ 60) (hL : Edges w a L) (hO : Gr.Ok n L) :
    Calls Tryd.prog 49 #[.int .i64 n, .slice a l cap] w (RowsPost (Gr.rowN L) n w) := by
  have HL := Lib.hid hL
  have HN := Lib.hid hn
  have HO := Lib.hid hO
  clear hL hn hO
  have hmk := run_make_row' (P := Tryd.prog) 72 56 (.int .u64 0) 8 Tryd.underlying72 infoU64 rfl .i64 .i64 n (by omega) (by omega)
  go_enter Tryd.func49, Tryd.ntmps49
  go_wp2_with fail
  clear hmk
  go_loopw [12] (fun x wr => ∃ k : Nat, k ≤ l ∧ x = .int .i64 k ∧ Hid (wr.rowIs w.heap.size 56 n (u64s (Gr.rowK L k))) ∧ Below w.heap.size w wr) (fun x _ => l - (intOf x).toNat)
  case atStart => exact ⟨0, by omega, rfl, Lib.hid ((rowIs_made_at _ _ _ _ rfl).congr fun i hi => by simp [u64s, Gr.rowK]), by go_grown⟩
  case round =>
    obtain ⟨k, hk, rfl, HR, hB⟩ := hrel
    by_cases hkl : k < l
    · obtain ⟨b, off, rfl, hb, hat⟩ := HL.out (by have := HN.out; omega)
      obtain ⟨⟨x, y⟩, hx⟩ : ∃ x, L[k]? = some x := ⟨_, List.getElem?_eq_getElem (by have := HN.out; omega)⟩
      obtain ⟨q0, q1⟩ := hat.below hB hb k x y hx
      obtain ⟨o1, o2, o3, o4⟩ := HO.out _ (List.mem_of_getElem? hx)
      simp only at o1 o2 o3 o4
      have HX := Lib.hid (rowK_go hx)
      have hbr : b < wr.heap.size := Nat.lt_of_lt_of_le hb hB.size
      obtain ⟨i, rfl⟩ := Int.eq_ofNat_of_zero_le o1
      obtain ⟨j, rfl⟩ := Int.eq_ofNat_of_zero_le o3
      have hi : i < n := by omega
      have hj : j < 60 := by omega
      have hHs := HR.out.lt
      have c0 := HR.out.cell hi
      have c1 := HR.out.frozen i
      have hlt := Gr.lt64 h60 (Gr.rowK_lt HO.out i k (by have := HN.out; omega))
      have HOR := Lib.hid (Gr.or_pow hlt hj)
      clear hlt
      unfold u64s at c0
      have HS : Hid ((wr.setCell ⟨w.heap.size, i, none⟩ (.int .u64 ((Gr.rowK L k i ||| 2 ^ j : Nat) : Int))).rowIs w.heap.size 56 n (u64s (Gr.rowK L (k + 1)))) := Lib.hid ((HR.out.set i _).congr fun m hm => by
        unfold u64s
        rw [HX.out]
        by_cases e : m = i
        · subst e; simp
        · have : ¬ (i : Int) = (m : Int) := by omega
          simp [e, this])
      generalize Gr.rowK L k i = z at *
      have hi1 : (0 : Int) ≤ (i : Int) := by omega
      have hi2 : (i : Int) < (n : Int) := by omega
      have hj1 : (0 : Int) ≤ (j : Int) := by omega
      clear hat hx
      go_wp2_with fail
      go_region
      all_goals
        go_wp2_with fail
        go_roundw
        case rel =>
          refine ⟨k + 1, by omega, rfl, Lib.hid ?_, by go_grown⟩
          rw [HOR.out]
          exact (HS.out.alloc _).drew
        case measure => simp [intOf]; omega
    · obtain rfl : k = l := by omega
      go_wp2_with fail
      go_ret
      refine ⟨_, _, rfl, Nat.le_refl _, ?_, hB⟩
      have := HR.out
      rwa [HN.out] at this
def ClosedOwn (n : Nat) (r : Nat → Nat) (w : World) (e : Ending) (w' : World) : Prop := ∃ v, e = .returned v ∧ w'.ownsRow w.heap.size 56 1 v n ((List.range n).map (u64s (Gr.wOut n r n))) ∧ Below w.heap.size w w'
def ClosedPost (n : Nat) (r : Nat → Nat) (w : World) (e : Ending) (w' : World) : Prop := ∃ v, e = .returned v ∧ IsVals w' v ((List.range n).map (u64s (Gr.wOut n r n))) ∧ Below w.heap.size w w'
/-- within column k: the rows below i are done -/
def CW (n : Nat) (r : Nat → Nat) (k i : Nat) : Nat → Nat := Gr.wIn (Gr.wOut n r k) k i
theorem CW_next (n : Nat) (r : Nat → Nat) (k : Nat) : CW n r k n = CW n r (k + 1) 0 := rfl
theorem CW_lt {n : Nat} {r : Nat → Nat} (h : ∀ i, r i < 2 ^ 60) (k i x : Nat) : CW n r k i x < 18446744073709551616 := Gr.lt64 (Nat.le_refl _) (Gr.wIn_lt (Gr.wOut_lt h k) i x)
theorem CW_go (n : Nat) (r : Nat → Nat) (k i x : Nat) : CW n r k (i + 1) x = if x = i then (if (CW n r k i i).testBit k then CW n r k i i ||| CW n r k i k else CW n r k i i) else CW n r k i x := rfl
set_option maxRecDepth 20000 in
set_option maxHeartbeats 2000000 in
theorem closed_own (n : Nat) (r : Nat → Nat) (g c : Nat) (w : World) (h60 : n ≤ 60) (hr : w.rowIs g 56 n (u64s r)) (hlt : ∀ i, r i < 2 ^ 60) :
    Calls Tryd.prog 48 #[.slice (some ⟨g, 0, none⟩) n c] w (ClosedOwn n r w) := by
  have HR := Lib.hid hr
  have HLT := Lib.hid hlt
  clear hr hlt
  obtain ⟨i0, hi, hz0, hz1, hz2⟩ := info_parts infoU64
  have HNW : Hid (∀ j u, ((List.range n).map (u64s r))[j]? = some u → w.cell? ((⟨g, 0, none⟩ : Addr).add j) = some u) := Lib.hid fun j u hu => by
    have hj : j < n := by have := (List.getElem?_eq_some_iff.1 hu).1; simpa using this
    rw [List.getElem?_map, List.getElem?_range hj] at hu
    rw [show (⟨g, 0, none⟩ : Addr).add j = ⟨g, j, none⟩ from by unfold Addr.add; split <;> simp_all, HR.out.cell hj]
    simpa using hu
  by_cases hn0 : n = 0
  · have HN0 := Lib.hid hn0
    have hR : (List.range n).map (u64s (Gr.wOut n r n)) = [] := by rw [hn0]; rfl
    have HRR := Lib.hid hR
    clear hn0 hR
    go_enter Tryd.func48, Tryd.ntmps48
    go_wp2_with ((at_builtin; refine wpList_append_own_at _ (by rfl) _ _ 72 (by rfl) w.heap.size 56 i0 (.int .u64 0) 1 8 Tryd.underlying72 hi hz0 hz1 hz2 (by rfl) (by decide) (.slice none 0 0) 0 [] (by rfl) (World.ownsRow_nil _ _ _ _) ⟨g, 0, none⟩ n c ((List.range n).map (u64s r)) (by rfl) (by simp) HNW.out (by intro u hu; obtain ⟨i, _, rfl⟩ := List.mem_map.1 hu; rfl) (by unfold maxLen; omega) (by omega) (Nat.le_refl _) ?_; intro v' w1 hown1 hgrow1 hnil1 _; simp only [Nat.zero_add, List.nil_append] at hown1; have hB1 : Below w.heap.size w w1 := (Below.refl _ _).grown hgrow1 (Nat.le_refl _) (fun k hk => by cases hk); obtain rfl := hnil1.2 (by first | exact ⟨rfl, HN0.out⟩ | (have := HN0.out; simp [this])); clear hown1 hgrow1 hnil1))
    go_rounds 1
    go_ret
    exact ⟨_, rfl, by rw [HRR.out, HN0.out]; exact World.ownsRow_nil _ _ _ _, hB1⟩
  have hn1 : 0 < n := by omega
  clear hn0
  go_enter Tryd.func48, Tryd.ntmps48
  go_wp2_with ((at_builtin; refine wpList_append_own_at _ (by rfl) _ _ 72 (by rfl) w.heap.size 56 i0 (.int .u64 0) 1 8 Tryd.underlying72 hi hz0 hz1 hz2 (by rfl) (by decide) (.slice none 0 0) 0 [] (by rfl) (World.ownsRow_nil _ _ _ _) ⟨g, 0, none⟩ n c ((List.range n).map (u64s r)) (by rfl) (by simp) HNW.out (by intro u hu; obtain ⟨i, _, rfl⟩ := List.mem_map.1 hu; rfl) (by unfold maxLen; omega) (by omega) (Nat.le_refl _) ?_; intro v' w1 hown1 hgrow1 hnil1 _; simp only [Nat.zero_add, List.nil_append] at hown1; have hB1 : Below w.heap.size w w1 := (Below.refl _ _).grown hgrow1 (Nat.le_refl _) (fun k hk => by cases hk); obtain ⟨gg, cap, rfl, hgg, hgl⟩ := hown1.form hn1; have HO := Lib.hid (show ownF w1 w.heap.size gg cap n 56 (u64s (CW n r 0 0)) from hown1); clear hown1 hgrow1 hnil1))
  clear HNW
  have hs1 := hB1.size
  go_loopw [10] (fun x wr => ∃ k : Nat, k ≤ n ∧ x = .int .i64 k ∧ Hid (ownF wr w.heap.size gg cap n 56 (u64s (CW n r k 0))) ∧ Below w.heap.size w wr) (fun x _ => n - (intOf x).toNat)
  case atStart => exact ⟨0, by omega, rfl, HO, hB1⟩
  case round =>
    clear HO
    obtain ⟨k, hk, rfl, HO, hB⟩ := hrel
    by_cases hkn : k < n
    · go_wp2_with fail
      go_loopw [15] (fun x wx => ∃ i : Nat, i ≤ n ∧ x = .int .i64 i ∧ Hid (ownF wx w.heap.size gg cap n 56 (u64s (CW n r k i))) ∧ Below w.heap.size w wx) (fun x _ => n - (intOf x).toNat)
      case atStart => exact ⟨0, by omega, rfl, HO, hB⟩
      case round =>
        clear HO hB
        obtain ⟨i, hi', rfl, HO, hB⟩ := hrel
        by_cases hin : i < n
        · have c0 := HO.out.cell hin
          have c1 := HO.out.frozen i
          have c2 := HO.out.cell hkn
          have hl := HO.out.lt.2
          unfold u64s at c0 c2
          have hz := CW_lt (n := n) HLT.out k i i
          have hy := CW_lt (n := n) HLT.out k i k
          have htst := Gr.test_one (n := k) hz
          have HOR := Lib.hid (u64_or_nat _ _ hz hy)
          have HST := Lib.hid (fun u : Nat => HO.out.set i (.int .u64 (u : Int)))
          have HGO := Lib.hid (CW_go n r k i)
          have hi1 : (0 : Int) ≤ (i : Int) := by omega
          have hi2 : (i : Int) < (n : Int) := by omega
          have hk1 : (0 : Int) ≤ (k : Int) := by omega
          have hk2 : (k : Int) < (n : Int) := by omega
          clear hz hy
          cases hb : (CW n r k i i).testBit k with
          | true =>
            rw [hb] at htst
            have HS : Hid (ownF (wr.setCell ⟨gg, i, none⟩ (.int .u64 ((CW n r k i i ||| CW n r k i k : Nat) : Int))) w.heap.size gg cap n 56 (u64s (CW n r k (i + 1)))) := Lib.hid ((HST.out _).congr fun m hm => by
              unfold u64s
              rw [HGO.out m, hb]
              by_cases e : m = i
              · subst e; simp
              · simp [e])
            clear hb
            generalize CW n r k i i = z at *
            generalize CW n r k i k = y at *
            go_wp2_with fail
            go_region
            all_goals
              go_wp2_with fail
              go_roundw
              case rel =>
                refine ⟨i + 1, by omega, rfl, Lib.hid ?_, by go_grown⟩
                rw [HOR.out]
                exact HS.out.drew
              case measure => simp [intOf]; omega
          | false =>
            rw [hb] at htst
            have HS : Hid (ownF wr w.heap.size gg cap n 56 (u64s (CW n r k (i + 1)))) := Lib.hid (HO.out.congr fun m hm => by
              unfold u64s
              rw [HGO.out m, hb]
              by_cases e : m = i
              · subst e; simp
              · simp [e])
            clear hb
            generalize CW n r k i i = z at *
            generalize CW n r k i k = y at *
            go_wp2_with fail
            go_roundw
            case rel => exact ⟨i + 1, by omega, rfl, HS, hB⟩
            case measure => simp [intOf]; omega
        · obtain rfl : i = n := by omega
          have HO2 := Lib.hid (show ownF wr w.heap.size gg cap i 56 (u64s (CW i r (k + 1) 0)) from HO.out)
          go_wp2_with fail
          go_roundw
          case rel => exact ⟨k + 1, by omega, rfl, HO2, hB⟩
          case measure => simp [intOf]; omega
    · obtain rfl : k = n := by omega
      have HV := Lib.hid (show wr.ownsRow w.heap.size 56 1 (.slice (some ⟨gg, 0, none⟩) k cap) k ((List.range k).map (u64s (Gr.wOut k r k))) from HO.out)
      go_wp2_with fail
      go_ret
      exact ⟨_, rfl, HV.out, hB⟩
theorem closed_any (n : Nat) (r : Nat → Nat) (g c : Nat) (w : World) (h60 : n ≤ 60) (hr : w.rowIs g 56 n (u64s r)) (hlt : ∀ i, r i < 2 ^ 60) :
    Calls Tryd.prog 48 #[.slice (some ⟨g, 0, none⟩) n c] w (ClosedPost n r w) := (closed_own n r g c w h60 hr hlt).mono fun e w' ⟨v, h1, h2, h3⟩ => ⟨v, h1, IsVals.own h2, h3⟩
end Go.Proofs.YtdbipmidjdhjpaaDoor
