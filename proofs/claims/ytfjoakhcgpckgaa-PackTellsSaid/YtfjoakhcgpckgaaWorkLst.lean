/- Contracts: the least span; the document's; the numbers up to n. -/
import Derived.Test.YtfjoakhcgpckgaaWorkLong
import Derived.Test.YtfjoakhcgpckgaaWorkShort
namespace Go.Proofs.Ytfjoakhcgpckgaa
open Go.ChangeShapes Go.WideShapes Go.ChangeAt Go.RowKit
set_option linter.unusedVariables false
open Wk St
/-- the answer: the best way's -/
structure LeastR (m : Nat) (D : List Int) (c : Int) : Prop where
  best : Bst m (fun _ => 0) D 1152921504606846976 c
theorem LeastR.uniq {m : Nat} {D : List Int} {c c' : Int} (h : LeastR m D c) (h' : LeastR m D c') : c = c' := h.best.uniq h'.best
theorem LeastR.of {m n : Nat} {D os : List Int} {r : Int} (hm : 0 < m) (hn : n = D.length) (hn2 : n ≤ 60) (hD : ∀ x, x ∈ D → 0 ≤ x ∧ x ≤ 1000000000) (hp : os.Perm (upn n)) (h : Bst m (fun _ => 0) D (mx (gs m D os).1 m) r) : LeastR m D r := by
  subst hn
  obtain ⟨aw, h1, h2⟩ := gs_way (m := m) hm hp
  have hb : mx (gs m D os).1 m ≤ 60000000000 := by
    refine mx_le (by omega) fun i hi => ?_
    have h3 := gs_bound (m := m) (os := os) hD os.length i
    rw [List.take_length] at h3
    have : os.length = D.length := by rw [hp.length_eq, upn_length]
    omega
  refine ⟨⟨?_, h.all, ?_⟩⟩
  · have := h.le; omega
  · rcases h.is with e | e
    · exact .inr ⟨aw, h1, by rw [e, h2]⟩
    · exact .inr e
theorem zrow {w : World} (m : Nat) {H : Nat} (h : w.heap.size = H) : RowF (w.alloc (.cells (madeCells #[.int .i64 0] m) 2)) H m (fun _ => 0) := rowIs_made_at w (.int .i64 0) m 2 h
set_option maxRecDepth 20000 in
set_option maxHeartbeats 1600000 in
theorem wShort_any (m n cap : Nat) (D : List Int) (a : Option Addr) (w : World) (hm : 0 < m) (hm2 : m ≤ 20) (hn : n = D.length) (hn9 : n ≤ 9) (hc : n ≤ cap) (hD : Vals w a (ints64 D)) (hok : ∀ x, x ∈ D → 0 ≤ x ∧ x ≤ 1000000000) :
    Calls Try.prog 53 #[.int .i64 m, .slice a n cap] w fun e w' => ∃ r, e = .returned (.int .i64 r) ∧ LeastR m D r ∧ Below w.heap.size w w' := by
  have hmk := run_make_row' (P := Try.prog) 36 2 (.int .i64 0) 8 Try.underlying36 infoI64w rfl .i64 .i64 m (by omega) (by omega)
  obtain ⟨W1, hW1⟩ : ∃ W, W = w.alloc (.cells (madeCells #[.int .i64 0] m) 2) := ⟨_, rfl⟩
  have HB1 : Hid (Below w.heap.size w W1) := Lib.hid (by rw [hW1]; exact (Below.refl _ _).alloc (Nat.le_refl _) _)
  have HR1 : Hid (RowF W1 w.heap.size m (fun _ => 0)) := Lib.hid (by rw [hW1]; exact zrow m rfl)
  have HC := Lib.hid (short_any m hm hm2 D hok (fun _ => 0) 1152921504606846976 a n cap w.heap.size m 0 W1 hn hc ((VB.of hD (Nat.le_refl _)).below HB1.out (Nat.le_refl _) |>.low HB1.out.size) HR1.out.g (fun i => by omega) (by omega))
  obtain ⟨gl, hgl⟩ : ∃ g, g = w.heap.size := ⟨_, rfl⟩
  rw [← hgl] at HC
  clear hD hok hn HR1
  go_enter Try.func53, Try.ntmps53
  go_wp2_with (rw [← hW1]; try rw [← hgl]; go_at_call 134; refine Calls.mono HC.out ?_; rintro e w2 ⟨r, rfl, h1, h2⟩; have HR := Lib.hid h1; have HB := Lib.hid (HB1.out.trans (h2.mono HB1.out.size)); clear h1 h2)
  go_ret
  exact ⟨r, rfl, ⟨HR.out⟩, HB.out⟩
set_option maxHeartbeats 1600000 in
theorem wLeast_bad (m : Int) (D : List Int) (a : Option Addr) (n cap : Nat) (w : World) (hn : n = D.length) (hmax : n ≤ 9223372036854775807) (hD : Vals w a (ints64 D)) (hb : workE m D ≠ 0) :
    Calls Try.prog 49 #[.int .i64 m, .slice a n cap] w fun e w' => e = .returned (.tuple #[.int .i64 0, .int .i64 (workE m D)]) ∧ w' = w := by
  have C := Lib.hid (wCheck_any m D a n cap w hn hmax hD)
  obtain ⟨z, hz⟩ : ∃ z, workE m D = z := ⟨_, rfl⟩
  rw [hz] at C hb ⊢
  have hb2 : (z != 0) = true := by simpa using hb
  clear hD hn hz
  go_enter Try.func49, Try.ntmps49
  go_wp2_with (go_at_call 128; refine Calls.mono C.out ?_; rintro e w1 ⟨rfl, h1⟩; obtain rfl := h1.symm)
  go_ret2
  exact ⟨rfl, rfl⟩
set_option maxHeartbeats 1600000 in
theorem wLeast_large (m : Nat) (D : List Int) (a : Option Addr) (n cap : Nat) (w : World) (hn : n = D.length) (hmax : n ≤ 9223372036854775807) (hD : Vals w a (ints64 D)) (hb : workE m D = 0) (h9 : 9 < n) :
    Calls Try.prog 49 #[.int .i64 m, .slice a n cap] w fun e w' => e = .returned (.tuple #[.int .i64 0, .int .i64 2]) ∧ w' = w := by
  have C : Hid (Calls Try.prog 128 #[.int .i64 m, .slice a n cap] w fun e w' => e = .returned (.int .i64 0) ∧ w' = w) := Lib.hid (by have := wCheck_any m D a n cap w hn hmax hD; rwa [hb] at this)
  have h9b : (n : Int) > 9 := by omega
  clear hD hn hb
  go_enter Try.func49, Try.ntmps49
  go_wp2_with (go_at_call 128; refine Calls.mono C.out ?_; rintro e w1 ⟨rfl, h1⟩; obtain rfl := h1.symm)
  go_ret2
  exact ⟨rfl, rfl⟩
def LeastPost (m : Nat) (D : List Int) (w : World) (e : Ending) (w' : World) : Prop := ∃ r, e = .returned (.tuple #[.int .i64 r, .int .i64 0]) ∧ LeastR m D r ∧ Below w.heap.size w w'
set_option maxRecDepth 20000 in
set_option maxHeartbeats 1600000 in
theorem wLeast_good (m : Nat) (D : List Int) (a : Option Addr) (n cap : Nat) (w : World) (hn : n = D.length) (hmax : n ≤ 9223372036854775807) (hc : n ≤ cap) (hD : Vals w a (ints64 D)) (hb : workE m D = 0) (h9 : n ≤ 9) :
    Calls Try.prog 49 #[.int .i64 m, .slice a n cap] w fun e w' => LeastPost m D w e w' := by
  obtain ⟨g1, g2, g3, g4⟩ := workE_good hb
  have hm : 0 < m := by omega
  have hm2 : m ≤ 20 := by omega
  have C : Hid (Calls Try.prog 128 #[.int .i64 m, .slice a n cap] w fun e w' => e = .returned (.int .i64 0) ∧ w' = w) := Lib.hid (by have := wCheck_any m D a n cap w hn hmax hD; rwa [hb] at this)
  have hmk := run_make_row' (P := Try.prog) 36 2 (.int .i64 0) 8 Try.underlying36 infoI64w rfl .i64 .i64 m (by omega) (by omega)
  have CL := Lib.hid (wLong_good m D a n cap w hn hmax hD hb)
  have h9b : ¬ (n : Int) > 9 := by omega
  have HN := Lib.hid hn
  have HD := Lib.hid hD
  have HO := Lib.hid g4
  clear hD hn hb g1 g2 g3 g4
  go_enter Try.func49, Try.ntmps49
  go_upto_region 7 with (first
    | (go_at_call 128; refine Calls.mono C.out ?_; rintro e w1 ⟨rfl, h1⟩; obtain rfl := h1.symm)
    | (go_at_call 48; refine Calls.mono CL.out ?_; rintro e w2 ⟨os, v, rfl, h1, h2, h3, h4⟩; have HP := Lib.hid h2; have HB2 := Lib.hid h4; clear h1 h2 h3 h4))
  obtain ⟨W1, hW1⟩ : ∃ W, W = w2.alloc (.cells (madeCells #[.int .i64 0] m) 2) := ⟨_, rfl⟩
  have HB1 : Hid (Below w.heap.size w W1) := Lib.hid (by rw [hW1]; exact HB2.out.alloc HB2.out.size _)
  have HR1 : Hid (RowF W1 w2.heap.size m (fun _ => 0)) := Lib.hid (by rw [hW1]; exact zrow m rfl)
  obtain ⟨b, hbq⟩ : ∃ b, mx (gs m D os).1 m = b := ⟨_, rfl⟩
  have HC := Lib.hid (least_any m w2.heap.size hm hm2 D HO.out (fun _ => 0) b a n cap 0 W1 HN.out hc (((VB.of HD.out (Nat.le_refl _)).below HB1.out (Nat.le_refl _)).low HB2.out.size) HR1.out (fun i => by omega) (by omega))
  have HRR : Hid (∀ r, Bst m (fun _ => 0) D b r → LeastR m D r) := Lib.hid (fun r h => LeastR.of hm HN.out (by omega) HO.out HP.out (by rw [hbq]; exact h))
  have HBS := Lib.hid HB2.out.size
  rw [hbq]
  obtain ⟨gl, hgl⟩ : ∃ g, g = w2.heap.size := ⟨_, rfl⟩
  rw [← hgl] at HC HBS
  clear HR1 hbq HP
  go_wp2_with (rw [← hW1]; try rw [← hgl]; go_at_call 132; refine Calls.mono HC.out ?_; rintro e w3 ⟨r, rfl, h1, h2, h3⟩; have HR := Lib.hid h1; have HB := Lib.hid (HB1.out.trans (h3.mono HBS.out)); clear h1 h2 h3)
  go_ret2
  exact ⟨r, rfl, HRR.out r HR.out, HB.out⟩
set_option maxRecDepth 20000 in
set_option maxHeartbeats 1600000 in
theorem upTo_nums (n : Nat) (w : World) (h4 : n ≤ 1000) :
    Calls Try.prog 43 #[.int .i64 n] w fun e w' => ∃ v, e = .returned v ∧ IsVals w' v (ints64 (upn n)) ∧ Below w.heap.size w w' := by
  have hmk := run_make_row' (P := Try.prog) 58 3 (.int .i64 0) 8 Try.underlying58 infoIntD rfl .i64 .i64 n (by omega) (by omega)
  obtain ⟨W1, hW1⟩ : ∃ W, W = w.alloc (.cells (madeCells #[.int .i64 0] n) 3) := ⟨_, rfl⟩
  have HB1 : Hid (Below w.heap.size w W1) := Lib.hid (by rw [hW1]; exact (Below.refl _ _).alloc (Nat.le_refl _) _)
  obtain ⟨gl, hgl⟩ : ∃ g, g = w.heap.size := ⟨_, rfl⟩
  have HR1 : Hid (RowN W1 gl n (fun j => if j < 0 then (j : Int) else 0)) := Lib.hid (by rw [hW1, hgl]; exact (rowIs_made_at w (.int .i64 0) n 3 rfl).congr fun j hj => by simp)
  have HG := Lib.hid (Nat.le_of_eq hgl.symm)
  go_enter Try.func43, Try.ntmps43
  go_upto_region 3 with fail
  rw [← hW1, ← hgl]
  clear hW1 hgl hmk
  go_wp2_with fail
  go_loopg [9] n (fun gk x wr => ∃ q : Nat, q + gk = n ∧ x = .int .i64 (q : Int) ∧ Hid (RowN wr gl n (fun j => if j < q then (j : Int) else 0)) ∧ Hid (Below w.heap.size w wr))
  case atStart => exact ⟨0, by omega, rfl, HR1, HB1⟩
  case round =>
    clear HR1 HB1
    obtain ⟨q, hq, rfl, HR, HB⟩ := hrel
    by_cases hqn : q < n
    · have hqn2 : (q : Int) < (n : Int) := by omega
      have hq0 : (0 : Int) ≤ (q : Int) := by omega
      have k0 := World.rowIs.cell HR.out hqn
      have k1 := World.rowIs.frozen HR.out q
      have k2 := World.rowIs.lt HR.out
      have HR2 : Hid (RowN (wr.setCell ⟨gl, q, none⟩ (.int .i64 q)) gl n (fun j => if j < q + 1 then (j : Int) else 0)) := Lib.hid ((World.rowIs.set HR.out q (.int .i64 q)).congr fun j hj => by
        by_cases e : j = q
        · subst e; simp
        · rw [if_neg e]
          show Value.int .i64 (if j < q then (j : Int) else 0) = .int .i64 (if j < q + 1 then (j : Int) else 0)
          by_cases h : j < q
          · rw [if_pos h, if_pos (by omega)]
          · rw [if_neg h, if_neg (by omega)])
      have HB2 := Lib.hid (HB.out.setCell (p := ⟨gl, q, none⟩) HG.out (.int .i64 (q : Int)))
      go_wp2_with fail
      go_roundg (gk - 1)
      case measure => omega
      case rel => exact ⟨q + 1, by omega, by simp, HR2, HB2⟩
    · obtain rfl : q = n := by omega
      have hqn2 : ¬ (q : Int) < (q : Int) := by omega
      have HE : Hid (IsVals wr (.slice (some ⟨gl, 0, none⟩) q q) (ints64 (upn q))) := Lib.hid (by
        have h := intsRow (cap := q) HR.out
        have e : ((List.range q).map fun j => Value.int .i64 (if j < q then (j : Int) else 0)) = ints64 (upn q) := by
          unfold upn ints64
          rw [List.map_map]
          refine List.map_congr_left fun j hj => ?_
          rw [if_pos (List.mem_range.1 hj)]; rfl
        rwa [e] at h)
      go_wp2_with fail
      go_ret
      exact ⟨_, rfl, HE.out, HB.out⟩
end Go.Proofs.Ytfjoakhcgpckgaa
