/- Contract: a new table. -/
import Derived.Test.YtfjoakhcgpckgaaDoorMatchFind
namespace Go.Proofs.YtfjoakhcgpckgaaDoor
open Go.ChangeShapes Go.WideShapes Go.ChangeAt Go.RowKit
set_option linter.unusedVariables false
open Gr (El)
open Mt
/-- edges are right -/
def Ok2 (n m : Nat) (L : El) : Prop := ∀ x, x ∈ L → 0 ≤ x.1 ∧ x.1 < n ∧ 0 ≤ x.2 ∧ x.2 < m
theorem Ok2.ok {n m : Nat} {L : El} (h : Ok2 n m L) (hn : n ≤ 60) (hm : m ≤ 60) : Gr.Ok 60 L := fun x hx => by
  have := h x hx; omega
structure NewW (B gt gm gh n m : Nat) (may : Nat → Nat) (h : Hs) (w0 w : World) : Prop where
  tab : TabW gt gm gh n m may h 0 w
  bel : Below B w0 w
  b1 : B ≤ gt
  b2 : B ≤ gm
  b3 : B ≤ gh
def NewPost (n m : Nat) (L : El) (w : World) (e : Ending) (w' : World) : Prop := ∃ gt gm gh, e = .returned (.pointer (some ⟨gt, 0, none⟩)) ∧ NewW w.heap.size gt gm gh n m (Gr.rowN L) (fun _ => -1) w w'
theorem tabM_row (w : World) (gm gh n m : Nat) {H : Nat} (h : w.heap.size = H) : (w.alloc (.cells #[.slice (some ⟨gm, 0, none⟩) n n, .slice (some ⟨gh, 0, none⟩) m m, .int .u64 0] 86)).rowIs H 86 3 (tabF gm gh n m 0) := by
  subst h
  refine World.rowIs_alloc w _ _ _ fun i hi => ?_
  have hi : i < 3 := hi
  have : i = 0 ∨ i = 1 ∨ i = 2 := by omega
  rcases this with rfl | rfl | rfl <;> rfl
theorem tabM_0 (w : World) (n m : Nat) : NewW w.heap.size (w.heap.size + 1 + 1) w.heap.size (w.heap.size + 1) n m (fun _ => 0) (fun _ => 0) w (((w.alloc (.cells (madeCells #[.int .u64 0] n) 60)).alloc (.cells (madeCells #[.int .i64 0] m) 3)).alloc (.cells #[.slice (some ⟨w.heap.size, 0, none⟩) n n, .slice (some ⟨w.heap.size + 1, 0, none⟩) m m, .int .u64 0] 86)).drew :=
  ⟨⟨(tabM_row _ _ _ _ _ (by simp)).drew, ((((rowIs_made_at _ _ _ _ rfl).alloc _).alloc _).drew).congr fun j hj => rfl, (((rowIs_made_at _ _ _ _ (by simp)).alloc _).drew).congr fun j hj => rfl, by omega, by omega, by omega⟩, by go_grown, by omega, by omega, by omega⟩
theorem tabM_1 (w : World) (n m : Nat) : NewW w.heap.size (w.heap.size + 1 + 1) (w.heap.size + 1) w.heap.size n m (fun _ => 0) (fun _ => 0) w (((w.alloc (.cells (madeCells #[.int .i64 0] m) 3)).alloc (.cells (madeCells #[.int .u64 0] n) 60)).alloc (.cells #[.slice (some ⟨w.heap.size + 1, 0, none⟩) n n, .slice (some ⟨w.heap.size, 0, none⟩) m m, .int .u64 0] 86)).drew :=
  ⟨⟨(tabM_row _ _ _ _ _ (by simp)).drew, (((rowIs_made_at _ _ _ _ (by simp)).alloc _).drew).congr fun j hj => rfl, ((((rowIs_made_at _ _ _ _ rfl).alloc _).alloc _).drew).congr fun j hj => rfl, by omega, by omega, by omega⟩, by go_grown, by omega, by omega, by omega⟩
theorem NewW.below {B gt gm gh n m : Nat} {may : Nat → Nat} {h : Hs} {w0 w w' : World} (t : NewW B gt gm gh n m may h w0 w) (hb : Below w.heap.size w w') (hB : B ≤ w.heap.size) : NewW B gt gm gh n m may h w0 w' := ⟨t.tab.below hb, t.bel.trans (hb.mono hB), t.b1, t.b2, t.b3⟩
theorem NewW.row {B gt gm gh n m : Nat} {may may' : Nat → Nat} {h : Hs} {w0 w : World} (t : NewW B gt gm gh n m may h w0 w) (i x : Nat) (e : ∀ j, j < n → may' j = if j = i then x else may j) : NewW B gt gm gh n m may' h w0 (w.setCell ⟨gm, i, none⟩ (.int .u64 (x : Int))) :=
  ⟨⟨World.rowIs.setOther t.tab.tab t.tab.ne1 _, (World.rowIs.set t.tab.row i (.int .u64 (x : Int))).congr fun j hj => (by
      unfold u64s
      rw [e j hj]
      by_cases h : j = i
      · simp [h]
      · simp [h]), World.rowIs.setOther t.tab.has t.tab.ne3.symm _, t.tab.ne1, t.tab.ne2, t.tab.ne3⟩, t.bel.setCell (p := ⟨gm, i, none⟩) t.b2 _, t.b1, t.b2, t.b3⟩
theorem NewW.hs {B gt gm gh n m : Nat} {may : Nat → Nat} {h h' : Hs} {w0 w : World} (t : NewW B gt gm gh n m may h w0 w) (k : Nat) (e : ∀ j, j < m → h' j = if j = k then -1 else h j) : NewW B gt gm gh n m may h' w0 (w.setCell ⟨gh, k, none⟩ (.int .i64 (-1))) :=
  ⟨⟨World.rowIs.setOther t.tab.tab t.tab.ne2 _, World.rowIs.setOther t.tab.row t.tab.ne3 _, (World.rowIs.set t.tab.has k (.int .i64 (-1))).congr fun j hj => (by
      unfold hsF
      rw [e j hj]
      by_cases h : j = k
      · simp [h]
      · simp [h]), t.tab.ne1, t.tab.ne2, t.tab.ne3⟩, t.bel.setCell (p := ⟨gh, k, none⟩) t.b3 _, t.b1, t.b2, t.b3⟩
theorem NewW.same {B gt gm gh n m : Nat} {may : Nat → Nat} {h h' : Hs} {w0 w : World} (t : NewW B gt gm gh n m may h w0 w) (e : ∀ j, j < m → h' j = h j) : NewW B gt gm gh n m may h' w0 w :=
  ⟨⟨t.tab.tab, t.tab.row, t.tab.has.congr fun j hj => (by unfold hsF; rw [e j hj]), t.tab.ne1, t.tab.ne2, t.tab.ne3⟩, t.bel, t.b1, t.b2, t.b3⟩
set_option maxRecDepth 20000 in
set_option maxHeartbeats 3200000 in
theorem new_any (n m : Nat) (L : El) (a : Option Addr) (l cap : Nat) (w : World) (hn : n ≤ 60) (hm : m ≤ 60) (hl : l = L.length) (hl4 : l ≤ 400) (hL : Edges w a L) (hO : Ok2 n m L) :
    Calls Tryd.prog 46 #[.int .i64 (n : Int), .int .i64 (m : Int), .slice a l cap] w fun e w' => NewPost n m L w e w' := by
  have HL := Lib.hid hL
  have HN := Lib.hid hl
  have HO := Lib.hid hO
  have hmk := run_make_row' (P := Tryd.prog) 84 60 (.int .u64 0) 8 Tryd.underlying84 infoU64 rfl .i64 .i64 n (by omega) (by omega)
  have hmk2 := run_make_row' (P := Tryd.prog) 23 3 (.int .i64 0) 8 Tryd.underlying23 infoInt rfl .i64 .i64 m (by omega) (by omega)
  clear hL hl hO
  go_enter Tryd.func46, Tryd.ntmps46
  go_upto_region 1 with fail
  go_cut [7] (fun v W => ∃ gt gm gh, v = .pointer (some ⟨gt, 0, none⟩) ∧ NewW w.heap.size gt gm gh n m (fun _ => 0) (fun _ => 0) w W)
  case first =>
    go_region
    all_goals
      go_wp2_with fail
      go_meet
    · exact ⟨_, _, _, rfl, tabM_0 w n m⟩
    · exact ⟨_, _, _, rfl, tabM_1 w n m⟩
  case rest =>
    obtain ⟨gt, gm, gh, rfl, hNW⟩ := hcut
    have HW := Lib.hid hNW
    clear hNW hmk hmk2
    go_wp2_with fail
    go_loopg [19] l (fun gk x wr => ∃ k : Nat, k + gk = l ∧ x = .int .i64 (k : Int) ∧ Hid (NewW w.heap.size gt gm gh n m (Gr.rowK L k) (fun _ => 0) w wr))
    case atStart => exact ⟨0, by omega, rfl, HW⟩
    case round =>
      clear HW
      obtain ⟨k, hk, rfl, HW⟩ := hrel
      by_cases hkl : k < l
      · have hB := HW.out.bel
        obtain ⟨b, off, rfl, hb, hat⟩ := HL.out (by have := HN.out; omega)
        obtain ⟨⟨x, y⟩, hx⟩ : ∃ x, L[k]? = some x := ⟨_, List.getElem?_eq_getElem (by have := HN.out; omega)⟩
        obtain ⟨q0, q1⟩ := hat.below hB hb k x y hx
        obtain ⟨o1, o2, o3, o4⟩ := HO.out _ (List.mem_of_getElem? hx)
        simp only at o1 o2 o3 o4
        have HX := Lib.hid (rowK_go hx)
        have hbr : b < wr.heap.size := Nat.lt_of_lt_of_le hb hB.size
        obtain ⟨i, rfl⟩ := Int.eq_ofNat_of_zero_le o1
        obtain ⟨j, rfl⟩ := Int.eq_ofNat_of_zero_le o3
        have hi : i < n := by omega
        have hj : j < 60 := by omega
        have HOK := Lib.hid (HO.out.ok hn hm)
        have t0 := HW.out.tab.c0
        have tl := HW.out.tab.tab.lt
        have tml := HW.out.tab.row.lt
        have c0 := HW.out.tab.row.cell hi
        have c1 := HW.out.tab.row.frozen i
        have hlt := Gr.lt64 (Nat.le_refl _) (Gr.rowK_lt HOK.out i k (by have := HN.out; omega))
        have HOR := Lib.hid (Gr.or_pow hlt hj)
        clear hlt
        unfold u64s at c0
        have HBW := Lib.hid (show w.heap.size ≤ wr.heap.size from hB.size)
        have HS : Hid (∀ W, Below wr.heap.size wr W → NewW w.heap.size gt gm gh n m (Gr.rowK L (k + 1)) (fun _ => 0) w (W.setCell ⟨gm, i, none⟩ (.int .u64 ((Gr.rowK L k i ||| 2 ^ j : Nat) : Int)))) := Lib.hid (fun W hb => (HW.out.below hb HBW.out).row i _ (fun jj hjj => by
          rw [HX.out]
          by_cases e : jj = i
          · subst e; simp
          · have : ¬ (i : Int) = (jj : Int) := by omega
            simp [e, this]))
        generalize Gr.rowK L k i = z at *
        have hi1 : (0 : Int) ≤ (i : Int) := by omega
        have hi2 : (i : Int) < (n : Int) := by omega
        have hj1 : (0 : Int) ≤ (j : Int) := by omega
        have hkl2 : (k : Int) < (l : Int) := by omega
        clear hat hx
        go_wp2_with fail
        go_region
        all_goals
          go_wp2_with fail
          go_roundg (gk - 1)
          case measure => omega
          case rel =>
            refine ⟨k + 1, by omega, by simp, Lib.hid ?_⟩
            rw [HOR.out]
            exact (HS.out wr (Below.refl _ _)).below (((Below.refl _ _).alloc (Nat.le_refl _) _).drew) (by have := HBW.out; simpa using this)
      · obtain rfl : k = l := by omega
        have hkl2 : ¬ (k : Int) < (k : Int) := by omega
        have t1 := HW.out.tab.c1
        have tl := HW.out.tab.tab.lt
        have HW2 : Hid (NewW w.heap.size gt gm gh n m (Gr.rowN L) (fun j => if j < 0 then -1 else 0) w wr) := Lib.hid (by
          have h := HW.out
          rw [HN.out] at h
          exact h.same fun j hj => by simp)
        clear HW hk hkl
        go_wp2_with fail
        go_loopg [42] m (fun gk x wr => ∃ q : Nat, q + gk = m ∧ x = .int .i64 (q : Int) ∧ Hid (NewW w.heap.size gt gm gh n m (Gr.rowN L) (fun j => if j < q then -1 else 0) w wr))
        case atStart => exact ⟨0, by omega, rfl, HW2⟩
        case round =>
          clear HW2 t1 tl
          obtain ⟨q, hq, rfl, HW⟩ := hrel
          have t1 := HW.out.tab.c1
          have tl := HW.out.tab.tab.lt
          by_cases hqm : q < m
          · have hqm2 : (q : Int) < (m : Int) := by omega
            have hq0 : (0 : Int) ≤ (q : Int) := by omega
            have hl2 := HW.out.tab.has.lt
            have hf2 := World.rowIs.frozen HW.out.tab.has q
            obtain ⟨y, hc2⟩ : ∃ y, wr.cell? ⟨gh, q, none⟩ = some (.int .i64 y) := ⟨_, World.rowIs.cell HW.out.tab.has hqm⟩
            have HW2 : Hid (NewW w.heap.size gt gm gh n m (Gr.rowN L) (fun j => if j < q + 1 then -1 else 0) w (wr.setCell ⟨gh, q, none⟩ (.int .i64 (-1)))) := Lib.hid (HW.out.hs q (fun j hj => by
              by_cases e : j = q
              · subst e; simp
              · simp only [e, if_false]
                by_cases h : j < q
                · rw [if_pos h, if_pos (by omega)]
                · rw [if_neg h, if_neg (by omega)]))
            go_wp2_with fail
            go_roundg (gk - 1)
            case measure => omega
            case rel => exact ⟨q + 1, by omega, by simp, HW2⟩
          · obtain rfl : q = m := by omega
            have hqm2 : ¬ (q : Int) < (q : Int) := by omega
            have HV : Hid (NewW w.heap.size gt gm gh n q (Gr.rowN L) (fun _ => -1) w wr) := Lib.hid (HW.out.same fun j hj => by rw [if_pos hj])
            go_wp2_with fail
            go_ret
            exact ⟨gt, gm, gh, rfl, HV.out⟩
theorem rowN_ed {n m : Nat} {L : El} (hO : Ok2 n m L) (hn : n ≤ 60) (hm : m ≤ 60) (i j : Nat) : Ed (Gr.rowN L) i j ↔ Gr.ed L i j := Gr.rowN_bit (hO.ok hn hm) i j
theorem rowN_lt {n m : Nat} {L : El} (hO : Ok2 n m L) (hn : n ≤ 60) (hm : m ≤ 60) (i : Nat) : Gr.rowN L i < 2 ^ m := Nat.lt_pow_two_of_testBit _ (fun j hj => by
  cases h : (Gr.rowN L i).testBit j with
  | false => rfl
  | true =>
    have h1 := hO _ ((rowN_ed hO hn hm i j).1 h)
    simp only at h1
    omega)
end Go.Proofs.YtfjoakhcgpckgaaDoor
