/- Contract: pairs of all. -/
import Derived.Test.YtfjoakhcgpckgaaDoorMatchNew
namespace Go.Proofs.YtfjoakhcgpckgaaDoor
open Go.ChangeShapes Go.WideShapes Go.ChangeAt Go.RowKit
set_option linter.unusedVariables false
open Gr (El)
open Mt
theorem pairs_find {n m q s' : Nat} {may : Nat → Nat} {h h' : Hs} {r : Bool} (p : Mt.Pairs (Ed may) n m q h) (hq : q < n) (hy : r = true → Aug (Ed may) h (fun k => k < m ∧ (0 : Nat).testBit k = false) q h') (hno : r = false → h' = h ∧ Seen may h 0 s' ∧ ∀ k, Ed may q k → s'.testBit k = true) : Mt.Pairs (Ed may) n m (q + 1) h' := by
  cases r with
  | true => exact p.yes hq (fun x hx => hx.1) (fun x hx => ⟨hx, Nat.zero_testBit x⟩) (hy rfl)
  | false =>
    obtain ⟨e, h1, h2⟩ := hno rfl
    subst e
    exact p.no (T := fun k => s'.testBit k = true) (fun k hk => h1.shut k hk (Nat.zero_testBit k)) h2
/-- with whom i goes, of the first q -/
def outK (h : Hs) : Nat → Nat → Int
  | 0, _ => -1
  | q + 1, i => if h q = (i : Int) then (q : Int) else outK h q i
structure PairsW (B gt gm gh go n m : Nat) (L : El) (h : Hs) (w0 w : World) : Prop where
  tab : ∃ s, TabW gt gm gh n m (Gr.rowN L) h s w
  all : AllR (Gr.rowN L) n h
  pairs : Mt.Pairs (Ed (Gr.rowN L)) n m n h
  out : w.rowIs go 3 n (fun i => .int .i64 (outK h m i))
  bel : Below B w0 w
  b1 : B ≤ gt
  b2 : B ≤ gm
  b3 : B ≤ gh
  b4 : B ≤ go
def PairsPost (n m : Nat) (L : El) (w : World) (e : Ending) (w' : World) : Prop := ∃ gt gm gh go h, e = .returned (.tuple #[.pointer (some ⟨gt, 0, none⟩), .slice (some ⟨go, 0, none⟩) n n]) ∧ PairsW w.heap.size gt gm gh go n m L h w w'
set_option maxRecDepth 20000 in
set_option maxHeartbeats 3200000 in
theorem pairs_any (n m : Nat) (L : El) (a : Option Addr) (l cap : Nat) (w : World) (hn : n ≤ 60) (hm : m ≤ 60) (hl : l = L.length) (hl4 : l ≤ 400) (hL : Edges w a L) (hO : Ok2 n m L) (hT : Gr.Bru w) (hG : 0 < w.heap.size) :
    Calls Tryd.prog 24 #[.int .i64 (n : Int), .int .i64 (m : Int), .slice a l cap] w fun e w' => PairsPost n m L w e w' := by
  have HC := Lib.hid (new_any n m L a l cap w hn hm hl hl4 hL hO)
  have HT := Lib.hid hT
  have HLT := Lib.hid (rowN_lt hO hn hm)
  obtain ⟨may, hmay⟩ : ∃ may, Gr.rowN L = may := ⟨_, rfl⟩
  have HMY := Lib.hid hmay
  rw [hmay] at HLT
  clear hl hl4 hL hO hT hmay
  go_enter Tryd.func24, Tryd.ntmps24
  obtain ⟨w0, rfl⟩ : ∃ x, x = w := ⟨_, rfl⟩
  go_wp2_with (go_at_call 46; refine Calls.mono HC.out ?_; rintro e w1 ⟨gt, gm, gh, rfl, hN⟩; rw [HMY.out] at hN; have HN := Lib.hid hN; clear hN)
  have HI0 : Hid (∃ h s, AllR may 0 h ∧ Mt.Pairs (Ed may) n m 0 h ∧ TabW gt gm gh n m may h s w1 ∧ Below w0.heap.size w0 w1) := Lib.hid ⟨_, 0, AllR.start, Mt.Pairs.start _ _ _, HN.out.tab, HN.out.bel⟩
  have hb1 := HN.out.b1
  have hb2 := HN.out.b2
  have hb3 := HN.out.b3
  clear HN HC
  go_loopg [19] n (fun gk x wr => ∃ q : Nat, q + gk = n ∧ x = .int .i64 (q : Int) ∧ Hid (∃ h s, AllR may q h ∧ Mt.Pairs (Ed may) n m q h ∧ TabW gt gm gh n m may h s wr ∧ Below w0.heap.size w0 wr))
  case atStart => exact ⟨0, by omega, rfl, HI0⟩
  case round =>
    clear HI0
    obtain ⟨q, hq, rfl, HI⟩ := hrel
    obtain ⟨h, s, har, hp, ht, hb⟩ := HI.out
    have HAR := Lib.hid har
    clear har
    by_cases hqn : q < n
    · have hqn2 : (q : Int) < (n : Int) := by omega
      have tl := ht.tab.lt
      have tf := World.rowIs.frozen ht.tab 2
      have t2 := ht.c2
      have HP := Lib.hid hp
      have HT2 := Lib.hid (ht.mark 0)
      have HB2 := Lib.hid (hb.setCell (p := ⟨gt, 2, none⟩) hb1 (.int .u64 ((0 : Nat) : Int)))
      have hs2 := HB2.out.size
      have HF := Lib.hid (find_any w0.heap.size gt gm gh n m may hn hm HLT.out hG hb1 hb3 (un 0 m) h 0 q _ (Nat.le_refl _) hqn (by decide) hp.ok HT2.out (HT.out.below HB2.out hG) hs2)
      have e0 : ((0 : Nat) : Int) = 0 := rfl
      rw [e0] at HF HT2 HB2 hs2
      clear hp ht hb HI e0
      obtain ⟨wq, hwq⟩ : ∃ W, W = wr.setCell ⟨gt, 2, none⟩ (.int .u64 0) := ⟨_, rfl⟩
      rw [← hwq] at HF HT2 HB2 hs2
      go_wp2_with (rw [← hwq]; go_at_call 47; refine Calls.mono HF.out ?_; rintro e w4 ⟨r, h', s', rfl, hT4, hs4, hB4, hfr, hy, hno⟩; have HI2 : Hid (∃ h s, AllR may (q + 1) h ∧ Mt.Pairs (Ed may) n m (q + 1) h ∧ TabW gt gm gh n m may h s w4 ∧ Below w0.heap.size w0 w4) := Lib.hid ⟨h', s', AllR.next HAR.out hfr, pairs_find HP.out hqn hy hno, hT4, HB2.out.trans hB4⟩; clear hT4 hs4 hB4 hfr hy hno)
      go_roundg (gk - 1)
      case measure => omega
      case rel => exact ⟨q + 1, by omega, by simp, HI2⟩
    · obtain rfl : q = n := by omega
      have hqn2 : ¬ (q : Int) < (q : Int) := by omega
      have HP := Lib.hid hp
      have HTB := Lib.hid ht
      have HB := Lib.hid hb
      have hmk := run_make_row' (P := Tryd.prog) 23 3 (.int .i64 0) 8 Tryd.underlying23 infoInt rfl .i64 .i64 q (by omega) (by omega)
      obtain ⟨W1, hW1⟩ : ∃ W, W = wr.alloc (.cells (madeCells #[.int .i64 0] q) 3) := ⟨_, rfl⟩
      obtain ⟨go, hgo⟩ : ∃ g, g = wr.heap.size := ⟨_, rfl⟩
      have hs2 := hb.size
      have HG := Lib.hid (Nat.le_of_eq hgo.symm)
      have HR1 : Hid (W1.rowIs go 3 q (fun j => .int .i64 (if j < 0 then -1 else 0))) := Lib.hid (by rw [hW1, hgo]; exact (rowIs_made_at wr (.int .i64 0) q 3 rfl).congr fun j hj => by simp)
      have HB1 : Hid (Below wr.heap.size wr W1) := Lib.hid (by rw [hW1]; exact (Below.refl _ _).alloc (Nat.le_refl _) _)
      have hgw : w0.heap.size ≤ go := by omega
      clear hp ht hb HI hqn hq
      obtain ⟨n, rfl⟩ : ∃ n, n = q := ⟨_, rfl⟩
      obtain ⟨wp, rfl⟩ : ∃ x, x = wr := ⟨_, rfl⟩
      go_upto_region 9 with fail
      rw [← hW1, ← hgo]
      clear hW1 hgo hmk
      go_wp2_with fail
      go_loopg [33] n (fun gk x wx => ∃ q : Nat, q + gk = n ∧ x = .int .i64 (q : Int) ∧ Hid (wx.rowIs go 3 n (fun j => .int .i64 (if j < q then -1 else 0))) ∧ Hid (Below wp.heap.size wp wx))
      case atStart => exact ⟨0, by omega, rfl, HR1, HB1⟩
      case round =>
        clear HR1 HB1
        obtain ⟨q, hq, rfl, HR, HB1⟩ := hrel
        by_cases hqn : q < n
        · have hqn2 : (q : Int) < (n : Int) := by omega
          have hq0 : (0 : Int) ≤ (q : Int) := by omega
          have k0 := World.rowIs.cell HR.out hqn
          have k1 := World.rowIs.frozen HR.out q
          have k2 := World.rowIs.lt HR.out
          have HR2 : Hid ((wr.setCell ⟨go, q, none⟩ (.int .i64 (-1))).rowIs go 3 n (fun j => .int .i64 (if j < q + 1 then -1 else 0))) := Lib.hid ((World.rowIs.set HR.out q (.int .i64 (-1))).congr fun j hj => by
            by_cases e : j = q
            · subst e; simp
            · rw [if_neg e]
              by_cases h : j < q
              · rw [if_pos h, if_pos (by omega)]
              · rw [if_neg h, if_neg (by omega)])
          have HB2 := Lib.hid (HB1.out.setCell (p := ⟨go, q, none⟩) HG.out (.int .i64 (-1)))
          go_wp2_with fail
          go_roundg (gk - 1)
          case measure => omega
          case rel => exact ⟨q + 1, by omega, by simp, HR2, HB2⟩
        · obtain rfl : q = n := by omega
          have hqn2 : ¬ (q : Int) < (q : Int) := by omega
          have HR0 : Hid (wr.rowIs go 3 q (fun i => .int .i64 (outK h 0 i))) := Lib.hid ((HR.out).congr fun j hj => by
            rw [if_pos hj]; rfl)
          have ht2 := HTB.out.below HB1.out
          have t1 := ht2.c1
          have tl := ht2.tab.lt
          clear HR ht2 hqn hq
          obtain ⟨n, rfl⟩ : ∃ n, n = q := ⟨_, rfl⟩
          go_wp2_with fail
          go_loopg [45] m (fun gk x wr => ∃ q : Nat, q + gk = m ∧ x = .int .i64 (q : Int) ∧ Hid (wr.rowIs go 3 n (fun i => .int .i64 (outK h q i))) ∧ Hid (Below wp.heap.size wp wr))
          case atStart => exact ⟨0, by omega, rfl, HR0, HB1⟩
          case round =>
            clear HR0 HB1 t1 tl
            obtain ⟨q, hq, rfl, HR, HB1⟩ := hrel
            have HT4 := Lib.hid (HTB.out.below HB1.out)
            by_cases hqm : q < m
            · have hqm2 : (q : Int) < (m : Int) := by omega
              have hq0 : (0 : Int) ≤ (q : Int) := by omega
              have c1 : wr.cell? ⟨gh, q, none⟩ = some (.int .i64 (h q)) := World.rowIs.cell HT4.out.has hqm
              have hgl := HT4.out.has.lt
              obtain ⟨y, hy⟩ : ∃ y, h q = y := ⟨_, rfl⟩
              have HY := Lib.hid hy
              rw [hy] at c1
              by_cases hy0 : 0 ≤ y
              · obtain ⟨j, rfl⟩ : ∃ j : Nat, y = (j : Int) := ⟨y.toNat, by omega⟩
                have hjn := (HP.out.ok.edge q j hy).1
                have hjn2 : (j : Int) < (n : Int) := by omega
                have hj0 : decide ((0 : Int) ≤ (j : Int)) = true := by simp
                have hj1 : (0 : Int) ≤ (j : Int) := by omega
                have k0 := World.rowIs.cell HR.out hjn
                have k1 := World.rowIs.frozen HR.out j
                have k2 := World.rowIs.lt HR.out
                have HR2 : Hid ((wr.setCell ⟨go, j, none⟩ (.int .i64 (q : Int))).rowIs go 3 n (fun i => .int .i64 (outK h (q + 1) i))) := Lib.hid ((World.rowIs.set HR.out j (.int .i64 (q : Int))).congr fun i hi => by
                  simp only [outK, HY.out]
                  by_cases e : i = j
                  · subst e; simp
                  · have : ¬ (j : Int) = (i : Int) := by omega
                    simp [e, this])
                have HB2 := Lib.hid (HB1.out.setCell (p := ⟨go, j, none⟩) HG.out (.int .i64 (q : Int)))
                clear hy hy0
                go_wp2_with fail
                go_roundg (gk - 1)
                case measure => omega
                case rel => exact ⟨q + 1, by omega, by simp, HR2, HB2⟩
              · have hyb : decide ((0 : Int) ≤ y) = false := by simp only [hy0, decide_false]
                have HR2 : Hid (wr.rowIs go 3 n (fun i => .int .i64 (outK h (q + 1) i))) := Lib.hid ((HR.out).congr fun i hi => by
                  simp only [outK, HY.out]
                  have : ¬ y = (i : Int) := by omega
                  simp [this])
                clear hy
                go_wp2_with fail
                go_roundg (gk - 1)
                case measure => omega
                case rel => exact ⟨q + 1, by omega, by simp, HR2, HB1⟩
            · obtain rfl : q = m := by omega
              have hqm2 : ¬ (q : Int) < (q : Int) := by omega
              have HQ : Hid (PairsPost n q L w0 (.returned (.tuple #[.pointer (some ⟨gt, 0, none⟩), .slice (some ⟨go, 0, none⟩) n n])) wr) := Lib.hid ⟨gt, gm, gh, go, h, rfl, ⟨s, by rw [HMY.out]; exact HT4.out⟩, by rw [HMY.out]; exact HAR.out, by rw [HMY.out]; exact HP.out, HR.out, HB.out.trans (HB1.out.mono hs2), hb1, hb2, hb3, hgw⟩
              go_wp2_with fail
              go_ret2
              exact HQ.out
end Go.Proofs.YtfjoakhcgpckgaaDoor
