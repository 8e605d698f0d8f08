/- Contract: BestHost: the host with the least left; the document's. -/
import Derived.Test.YtnfmopmcckgfdaaHostBest
import Derived.Test.YtnfmopmcckgfdaaHostFitting
import Derived.BigQuiet
namespace Go.Proofs.Ytnfmopmcckgfdaa
open Go.ChangeShapes Go.WideShapes Go.ChangeAt Go.RowKit
set_option linter.unusedVariables false
set_option linter.unusedSimpArgs false
open Tp
/-- the best so far, and one more -/
def bestF (L : List Hst) : Option Nat → List Nat → Option Nat
  | b, [] => b
  | none, x :: l => bestF L (some x) l
  | some m, x :: l => bestF L (some (if czL L x m < 0 then x else m)) l
theorem bestF_some (L : List Hst) : ∀ (l : List Nat) (m : Nat), bestF L (some m) l = some (minF (czL L) m l)
  | [], m => rfl
  | x :: l, m => by rw [bestF, bestF_some, minF]
theorem bestF_none (L : List Hst) (l : List Nat) : bestF L none l = bestL L l := by
  cases l with
  | nil => rfl
  | cons m l => rw [bestF, bestF_some, bestL]
def obV : Option Nat → Int
  | none => -1
  | some m => (m : Int)
theorem cmpI_lt {x y : Int} (h : x < y) : cmpI x y = -1 := by unfold cmpI; rw [if_pos h]
theorem cmpI_gt {x y : Int} (h : y < x) : cmpI x y = 1 := by unfold cmpI; rw [if_neg (by omega), if_pos h]
theorem cmpI_eq {x y : Int} (h : x = y) : cmpI x y = 0 := by unfold cmpI; rw [if_neg (by omega), if_neg (by omega)]
def Amt.at (a : Amt) (j : Nat) : Int := if j = 0 then a.cpu else if j = 1 then a.mem else a.gpu
/-- the first j are alike -/
def Alike3 (a b : Amt) (j : Nat) : Prop := ∀ i, i < j → a.at i = b.at i
theorem Alike3.succ {a b : Amt} {j : Nat} (h : Alike3 a b j) (e : a.at j = b.at j) : Alike3 a b (j + 1) := fun i hi => by
  by_cases e2 : i = j
  · rw [e2]; exact e
  · exact h i (by omega)
theorem cmp_less {a b : Amt} {j : Nat} (hj : j < 3) (h : Alike3 a b j) (hl : a.at j < b.at j) : a.cmp b < 0 := by
  unfold Amt.cmp or3
  match j, hj with
  | 0, _ =>
    have h0 : cmpI a.cpu b.cpu = -1 := cmpI_lt hl
    rw [h0]; simp
  | 1, _ =>
    have h0 : cmpI a.cpu b.cpu = 0 := cmpI_eq (h 0 (by omega))
    have h1 : cmpI a.mem b.mem = -1 := cmpI_lt hl
    rw [h0, h1]; simp
  | 2, _ =>
    have h0 : cmpI a.cpu b.cpu = 0 := cmpI_eq (h 0 (by omega))
    have h1 : cmpI a.mem b.mem = 0 := cmpI_eq (h 1 (by omega))
    have h2 : cmpI a.gpu b.gpu = -1 := cmpI_lt hl
    rw [h0, h1, h2]; simp
theorem cmp_more {a b : Amt} {j : Nat} (hj : j < 3) (h : Alike3 a b j) (hl : b.at j < a.at j) : ¬ a.cmp b < 0 := by
  unfold Amt.cmp or3
  match j, hj with
  | 0, _ =>
    have h0 : cmpI a.cpu b.cpu = 1 := cmpI_gt hl
    rw [h0]; simp
  | 1, _ =>
    have h0 : cmpI a.cpu b.cpu = 0 := cmpI_eq (h 0 (by omega))
    have h1 : cmpI a.mem b.mem = 1 := cmpI_gt hl
    rw [h0, h1]; simp
  | 2, _ =>
    have h0 : cmpI a.cpu b.cpu = 0 := cmpI_eq (h 0 (by omega))
    have h1 : cmpI a.mem b.mem = 0 := cmpI_eq (h 1 (by omega))
    have h2 : cmpI a.gpu b.gpu = 1 := cmpI_gt hl
    rw [h0, h1, h2]; simp
theorem cmp_same {a b : Amt} (h : Alike3 a b 3) : ¬ a.cmp b < 0 := by
  unfold Amt.cmp or3
  have h0 : cmpI a.cpu b.cpu = 0 := cmpI_eq (h 0 (by omega))
  have h1 : cmpI a.mem b.mem = 0 := cmpI_eq (h 1 (by omega))
  have h2 : cmpI a.gpu b.gpu = 0 := cmpI_eq (h 2 (by omega))
  rw [h0, h1, h2]; simp
set_option maxRecDepth 20000 in
set_option maxHeartbeats 32000000 in
theorem BestHost_any (x : Ask) (A : Amt) (L : List Hst) (a : Option Addr) (n cap : Nat) (vx : Value) (w : World) (hn : n = L.length) (hn40 : n ≤ 40) (hexr : x.err = 0) (hok : ∀ (i : Nat) (h : Hst), L[i]? = some h → h.has.ok = true ∧ h.used.ok = true) (hL : Hosts w a L) (hx : AskV w x vx) :
    Calls Try.prog 16 #[.slice a n cap, vx, A.v] w fun e w' => e = .returned (.int .i64 (obV (bestL L (fitL x A L n)))) ∧ Below w.heap.size w w' := by
  obtain ⟨k, a1, a2, nu, ad, m, cp, rfl⟩ := askForm hx
  obtain ⟨W0, hW0⟩ : ∃ W, W = (w.alloc (.cells #[.int .i64 k, .string a1, .string a2, .int .i64 nu, .slice ad m cp] 25)).alloc (.cells #[.int .i64 A.cpu, .int .i64 A.mem, .int .i64 A.gpu] 27) := ⟨_, rfl⟩
  obtain ⟨c, hc⟩ : ∃ c, c = w.heap.size := ⟨_, rfl⟩
  have HX2 := Lib.hid (Box2.made hc hW0)
  have hb9 : Below w.heap.size w W0 := by rw [hW0]; exact ((Below.refl _ _).alloc (Nat.le_refl _) _).alloc (by simp) _
  have HB0 := Lib.hid hb9
  have HXV := Lib.hid (AskV.below hb9 _ _ hx)
  have HFI := Lib.hid (Fitting_any x A L a n cap _ W0 hn hn40 hexr hok (hL.below hb9) HXV.out)
  have HN := Lib.hid hn
  have HL := Lib.hid (hL.below hb9)
  have HOK := Lib.hid hok
  obtain ⟨x0, x1, x2, x3, x4, y0, y1, y2, _⟩ := HX2.out
  have HLT : Hid (∀ i, i ∈ fitL x A L n → i < n) := Lib.hid (fun i hi => fitL_lt hi)
  obtain ⟨l, hl⟩ : ∃ l, fitL x A L n = l := ⟨_, rfl⟩
  rw [hl] at HFI HLT ⊢
  obtain ⟨fn, hfn⟩ : ∃ q, l.length = q := ⟨_, rfl⟩
  unfold FittingQ at HFI
  rw [hfn] at HFI
  have HFN := Lib.hid hfn
  have hfn40 : fn ≤ 40 := by
    have := fitL_len x A L n
    rw [hl, hfn] at this
    omega
  unfold Amt.v at HFI ⊢
  clear hn hL hexr hx hb9 hok hl hfn
  go_enter Try.func16, Try.ntmps16
  go_upto_region 1 with fail
  rw [← hW0, ← hc]
  clear hW0 hc
  go_wp2_with fail
  refine Calls.mono HFI.out ?_
  rintro e' W1 ⟨v, rfl, ho, hl⟩
  have HB1 := Lib.hid (HB0.out.trans (hl.mono HB0.out.size))
  obtain ⟨a', cp', rfl, hvv⟩ := isVals1 ho
  have HV1 := Lib.hid hvv
  have HL1 := Lib.hid (HL.out.below hl)
  clear hl ho hvv x0 x1 x2 x3 x4 y0 y1 y2
  go_wp2_with fail
  go_loopg [7, 18] fn (fun g u y wr => ∃ (j : Nat) (ob : Option Nat), j + g = fn ∧ y = .int .i64 (j : Int) ∧ u = .int .i64 (obV ob) ∧ Hid (∀ m, ob = some m → m ∈ l) ∧ Hid (bestL L l = bestF L ob (l.drop j)) ∧ Hid (Below W1.heap.size W1 wr))
  case atStart => exact ⟨0, none, by omega, rfl, rfl, Lib.hid (fun m h => by cases h), Lib.hid (bestF_none L l).symm, Lib.hid (Below.refl _ _)⟩
  case round =>
    obtain ⟨j, ob, hj, rfl, rfl, HM, HD, HB⟩ := hrel
    by_cases hjn : j < fn
    · obtain ⟨i, hi⟩ : ∃ i, l[j]? = some i := ⟨_, List.getElem?_eq_getElem (by rw [HFN.out]; exact hjn)⟩
      obtain ⟨fb, fo, rfl, hfb, cj⟩ := natCell (HV1.out.below HB.out (Nat.le_refl _)) hi
      have HIM := Lib.hid (List.mem_of_getElem? hi)
      have hdrop := List.drop_eq_getElem_cons (List.getElem?_eq_some_iff.1 hi).1
      rw [(List.getElem?_eq_some_iff.1 hi).2] at hdrop
      have hj1 : (0 : Int) ≤ (j : Int) := by omega
      have hj2 : (j : Int) < (fn : Int) := by omega
      have HJ := Lib.hid hj
      cases ob with
      | none =>
        have HX : Hid (bestL L l = bestF L (some i) (l.drop (j + 1))) := Lib.hid (by rw [HD.out, hdrop, bestF])
        clear hdrop hi hj
        unfold obV
        go_wp2_with fail
        go_roundg (fn - (j + 1))
        case measure => (have := HJ.out; omega)
        case rel => exact ⟨j + 1, some i, by have := HJ.out; omega, by simp, rfl, Lib.hid (fun m h => by cases h; exact HIM.out), HX, HB⟩
      | some mb =>
        have HX : Hid (bestL L l = bestF L (some (if czL L i mb < 0 then i else mb)) (l.drop (j + 1))) := Lib.hid (by rw [HD.out, hdrop, bestF])
        have hin := HLT.out i HIM.out
        have hmn := HLT.out mb (HM.out mb rfl)
        obtain ⟨h1, hx1⟩ : ∃ h, L[i]? = some h := ⟨_, List.getElem?_eq_getElem (by rw [← HN.out]; exact hin)⟩
        obtain ⟨h2, hx2⟩ : ∃ h, L[mb]? = some h := ⟨_, List.getElem?_eq_getElem (by rw [← HN.out]; exact hmn)⟩
        have HCZ : Hid (czL L i mb = h1.left.cmp h2.left) := Lib.hid (by unfold czL; rw [leftAt_eq hx1, leftAt_eq hx2])
        obtain ⟨b, off, rfl, hb, hat⟩ := (HL1.out.below HB.out) (by rw [← HN.out]; omega)
        obtain ⟨la, lc, hhv, c0, c1, c2, c3, c4, c5, c6, c7⟩ := (hat i h1 hx1).val
        obtain ⟨la', lc', hhv', d0, d1, d2, d3, d4, d5, d6, d7⟩ := (hat mb h2 hx2).val
        obtain ⟨ok1, ok2⟩ := HOK.out i h1 hx1
        obtain ⟨ok3, ok4⟩ := HOK.out mb h2 hx2
        obtain ⟨nm, hnm⟩ : ∃ s, bts h1.name = s := ⟨_, rfl⟩
        obtain ⟨lm, hlm⟩ : ∃ s, h1.labels.length = s := ⟨_, rfl⟩
        obtain ⟨nm', hnm'⟩ : ∃ s, bts h2.name = s := ⟨_, rfl⟩
        obtain ⟨lm', hlm'⟩ : ∃ s, h2.labels.length = s := ⟨_, rfl⟩
        rw [hnm] at c0 hhv
        rw [hlm] at c1 hhv
        rw [hnm'] at d0 hhv'
        rw [hlm'] at d1 hhv'
        have HF1 : Hid (∀ W, Below wr.heap.size wr W → Calls Try.prog 6 #[.agg #[.string nm, .slice la lm lc, .int .i64 h1.has.cpu, .int .i64 h1.has.mem, .int .i64 h1.has.gpu, .int .i64 h1.used.cpu, .int .i64 h1.used.mem, .int .i64 h1.used.gpu]] W fun e w' => e = .returned (.agg #[.int .i64 h1.left.cpu, .int .i64 h1.left.mem, .int .i64 h1.left.gpu]) ∧ Below W.heap.size W w') := Lib.hid (fun W hW => FreeOf_any h1 _ W (hhv.below hW) ok1 ok2)
        have HF2 : Hid (∀ W, Below wr.heap.size wr W → Calls Try.prog 6 #[.agg #[.string nm', .slice la' lm' lc', .int .i64 h2.has.cpu, .int .i64 h2.has.mem, .int .i64 h2.has.gpu, .int .i64 h2.used.cpu, .int .i64 h2.used.mem, .int .i64 h2.used.gpu]] W fun e w' => e = .returned (.agg #[.int .i64 h2.left.cpu, .int .i64 h2.left.mem, .int .i64 h2.left.gpu]) ∧ Below W.heap.size W w') := Lib.hid (fun W hW => FreeOf_any h2 _ W (hhv'.below hW) ok3 ok4)
        obtain ⟨P, hP⟩ : ∃ q, h1.left = q := ⟨_, rfl⟩
        obtain ⟨Q, hQ⟩ : ∃ q, h2.left = q := ⟨_, rfl⟩
        rw [hP] at HF1 HCZ
        rw [hQ] at HF2 HCZ
        have HA1 : Hid (∀ W, Below wr.heap.size wr W → Calls Try.prog 39 #[.agg #[.int .i64 P.cpu, .int .i64 P.mem, .int .i64 P.gpu]] W fun e w' => e = .returned (.agg #[.int .i64 P.cpu, .int .i64 P.mem, .int .i64 P.gpu]) ∧ Below W.heap.size W w') := Lib.hid (fun W _ => amounts_any P.cpu P.mem P.gpu W)
        have HA2 : Hid (∀ W, Below wr.heap.size wr W → Calls Try.prog 39 #[.agg #[.int .i64 Q.cpu, .int .i64 Q.mem, .int .i64 Q.gpu]] W fun e w' => e = .returned (.agg #[.int .i64 Q.cpu, .int .i64 Q.mem, .int .i64 Q.gpu]) ∧ Below W.heap.size W w') := Lib.hid (fun W _ => amounts_any Q.cpu Q.mem Q.gpu W)
        have hi1 : (0 : Int) ≤ (i : Int) := by omega
        have hi2 : (i : Int) < (n : Int) := by omega
        have hm1 : (0 : Int) ≤ (mb : Int) := by omega
        have hm2 : (mb : Int) < (n : Int) := by omega
        have hmneg : ¬ (mb : Int) < 0 := by omega
        clear hdrop hi hj hat hhv hhv' hnm hlm hnm' hlm' hP hQ ok1 ok2 ok3 ok4 hx1 hx2
        unfold obV
        go_upto_region 7 with fail
        refine wp_region_held_drew (S := fun W => Below wr.heap.size wr W) (by kernel_rfl) (Below.drew (Below.refl _ _)) (fun hHeld => ?_)
        refine wpAnyH_take (i := 0) (v := ?vb1b0x1) rfl (by kernel_rfl) (by kernel_rfl) (by kernel_rfl) (fun _ _ _ h => h) (Or.inl ⟨by rfl, ?hyb1b0x1⟩) (by assumption) ?restb1b0x1
        case hyb1b0x1 =>
          intro w hSw
          (try dsimp only at hSw)
          go_simp
          (try with_reducible rfl)
        change wpAnyH _ _ _ _ _ _ _ (Act.put _ (some 25) _) _
        try simp only [Act.put, List.setIfInBounds_toArray, List.set_cons_zero, List.set_cons_succ]
        refine wpAnyH_take (i := 1) (v := ?vb1b1x2) rfl (by kernel_rfl) (by kernel_rfl) (by kernel_rfl) (fun _ _ _ h => h) (Or.inl ⟨by rfl, ?hyb1b1x2⟩) (by assumption) ?restb1b1x2
        case hyb1b1x2 =>
          intro w hSw
          (try dsimp only at hSw)
          go_simp
          (try with_reducible rfl)
        change wpAnyH _ _ _ _ _ _ _ (Act.put _ (some 26) _) _
        try simp only [Act.put, List.setIfInBounds_toArray, List.set_cons_zero, List.set_cons_succ]
        refine wpAnyH_take (i := 2) (v := ?vb1b2x3) rfl (by kernel_rfl) (by kernel_rfl) (by kernel_rfl) (fun _ _ _ h => h) (Or.inl ⟨by rfl, ?hyb1b2x3⟩) (by assumption) ?restb1b2x3
        case hyb1b2x3 =>
          intro w hSw
          (try dsimp only at hSw)
          go_simp
          (try with_reducible rfl)
        change wpAnyH _ _ _ _ _ _ _ (Act.put _ (some 27) _) _
        try simp only [Act.put, List.setIfInBounds_toArray, List.set_cons_zero, List.set_cons_succ]
        refine wpAnyH_take (i := 3) (v := ?vb1b3x4) rfl (by kernel_rfl) (by kernel_rfl) (by kernel_rfl) (fun _ _ _ h => h) (Or.inl ⟨by rfl, ?hyb1b3x4⟩) (by assumption) ?restb1b3x4
        case hyb1b3x4 =>
          intro w hSw
          (try dsimp only at hSw)
          have c0 := (hSw.cell (p := ⟨b, off + i * 8, none⟩) hb).trans c0
          have c1 := (hSw.cell (p := ⟨b, off + i * 8 + 1, none⟩) hb).trans c1
          have c2 := (hSw.cell (p := ⟨b, off + i * 8 + 2, none⟩) hb).trans c2
          have c3 := (hSw.cell (p := ⟨b, off + i * 8 + 3, none⟩) hb).trans c3
          have c4 := (hSw.cell (p := ⟨b, off + i * 8 + 4, none⟩) hb).trans c4
          have c5 := (hSw.cell (p := ⟨b, off + i * 8 + 5, none⟩) hb).trans c5
          have c6 := (hSw.cell (p := ⟨b, off + i * 8 + 6, none⟩) hb).trans c6
          have c7 := (hSw.cell (p := ⟨b, off + i * 8 + 7, none⟩) hb).trans c7
          have d0 := (hSw.cell (p := ⟨b, off + mb * 8, none⟩) hb).trans d0
          have d1 := (hSw.cell (p := ⟨b, off + mb * 8 + 1, none⟩) hb).trans d1
          have d2 := (hSw.cell (p := ⟨b, off + mb * 8 + 2, none⟩) hb).trans d2
          have d3 := (hSw.cell (p := ⟨b, off + mb * 8 + 3, none⟩) hb).trans d3
          have d4 := (hSw.cell (p := ⟨b, off + mb * 8 + 4, none⟩) hb).trans d4
          have d5 := (hSw.cell (p := ⟨b, off + mb * 8 + 5, none⟩) hb).trans d5
          have d6 := (hSw.cell (p := ⟨b, off + mb * 8 + 6, none⟩) hb).trans d6
          have d7 := (hSw.cell (p := ⟨b, off + mb * 8 + 7, none⟩) hb).trans d7
          go_simp
          (try with_reducible rfl)
        change wpAnyH _ _ _ _ _ _ _ (Act.put _ (some 28) _) _
        try simp only [Act.put, List.setIfInBounds_toArray, List.set_cons_zero, List.set_cons_succ]
        refine wpAnyH_take (i := 6) (v := ?vb1b6x5) rfl (by kernel_rfl) (by kernel_rfl) (by kernel_rfl) (fun _ _ _ h => h) (Or.inl ⟨by rfl, ?hyb1b6x5⟩) (by assumption) ?restb1b6x5
        case hyb1b6x5 =>
          intro w hSw
          (try dsimp only at hSw)
          go_simp
          (try with_reducible rfl)
        change wpAnyH _ _ _ _ _ _ _ (Act.put _ (some 31) _) _
        try simp only [Act.put, List.setIfInBounds_toArray, List.set_cons_zero, List.set_cons_succ]
        refine wpAnyH_take (i := 7) (v := ?vb1b7x6) rfl (by kernel_rfl) (by kernel_rfl) (by kernel_rfl) (fun _ _ _ h => h) (Or.inl ⟨by rfl, ?hyb1b7x6⟩) (by assumption) ?restb1b7x6
        case hyb1b7x6 =>
          intro w hSw
          (try dsimp only at hSw)
          go_simp
          (try with_reducible rfl)
        change wpAnyH _ _ _ _ _ _ _ (Act.put _ (some 32) _) _
        try simp only [Act.put, List.setIfInBounds_toArray, List.set_cons_zero, List.set_cons_succ]
        refine wpAnyH_take (i := 8) (v := ?vb1b8x7) rfl (by kernel_rfl) (by kernel_rfl) (by kernel_rfl) (fun _ _ _ h => h) (Or.inl ⟨by rfl, ?hyb1b8x7⟩) (by assumption) ?restb1b8x7
        case hyb1b8x7 =>
          intro w hSw
          (try dsimp only at hSw)
          go_simp
          (try with_reducible rfl)
        change wpAnyH _ _ _ _ _ _ _ (Act.put _ (some 33) _) _
        try simp only [Act.put, List.setIfInBounds_toArray, List.set_cons_zero, List.set_cons_succ]
        refine wpAnyH_take (i := 9) (v := ?vb1b9x8) rfl (by kernel_rfl) (by kernel_rfl) (by kernel_rfl) (fun _ _ _ h => h) (Or.inl ⟨by rfl, ?hyb1b9x8⟩) (by assumption) ?restb1b9x8
        case hyb1b9x8 =>
          intro w hSw
          (try dsimp only at hSw)
          have c0 := (hSw.cell (p := ⟨b, off + i * 8, none⟩) hb).trans c0
          have c1 := (hSw.cell (p := ⟨b, off + i * 8 + 1, none⟩) hb).trans c1
          have c2 := (hSw.cell (p := ⟨b, off + i * 8 + 2, none⟩) hb).trans c2
          have c3 := (hSw.cell (p := ⟨b, off + i * 8 + 3, none⟩) hb).trans c3
          have c4 := (hSw.cell (p := ⟨b, off + i * 8 + 4, none⟩) hb).trans c4
          have c5 := (hSw.cell (p := ⟨b, off + i * 8 + 5, none⟩) hb).trans c5
          have c6 := (hSw.cell (p := ⟨b, off + i * 8 + 6, none⟩) hb).trans c6
          have c7 := (hSw.cell (p := ⟨b, off + i * 8 + 7, none⟩) hb).trans c7
          have d0 := (hSw.cell (p := ⟨b, off + mb * 8, none⟩) hb).trans d0
          have d1 := (hSw.cell (p := ⟨b, off + mb * 8 + 1, none⟩) hb).trans d1
          have d2 := (hSw.cell (p := ⟨b, off + mb * 8 + 2, none⟩) hb).trans d2
          have d3 := (hSw.cell (p := ⟨b, off + mb * 8 + 3, none⟩) hb).trans d3
          have d4 := (hSw.cell (p := ⟨b, off + mb * 8 + 4, none⟩) hb).trans d4
          have d5 := (hSw.cell (p := ⟨b, off + mb * 8 + 5, none⟩) hb).trans d5
          have d6 := (hSw.cell (p := ⟨b, off + mb * 8 + 6, none⟩) hb).trans d6
          have d7 := (hSw.cell (p := ⟨b, off + mb * 8 + 7, none⟩) hb).trans d7
          go_simp
          (try with_reducible rfl)
        change wpAnyH _ _ _ _ _ _ _ (Act.put _ (some 34) _) _
        try simp only [Act.put, List.setIfInBounds_toArray, List.set_cons_zero, List.set_cons_succ]
        refine fold_any (fun G hG => ?_)
        have HS411 : ∀ (w : World) (ca cc : Nat), Below wr.heap.size wr w → Zr wr.heap.size w ca → Zr wr.heap.size w cc → ca ≠ cc → G 2 #[true, true, true, true, true, true, true, true, true, true, true, true, true, true, false, false] { tmps := #[.slice (some ⟨b, off, none⟩) n cap, .agg #[.int .i64 k, .string a1, .string a2, .int .i64 nu, .slice ad m cp], .agg #[.int .i64 A.cpu, .int .i64 A.mem, .int .i64 A.gpu], undef, .pointer (some ⟨c, 0, none⟩), .pointer (some ⟨c + 1, 0, none⟩), .int .i64 0, .int .i64 (mb : Int), undef, .int .i64 (i : Int), .pointer (some ⟨ca, 0, none⟩), .pointer (some ⟨cc, 0, none⟩), u12, .slice (some ⟨b, off, none⟩) n cap, .agg #[.int .i64 k, .string a1, .string a2, .int .i64 nu, .slice ad m cp], .agg #[.int .i64 A.cpu, .int .i64 A.mem, .int .i64 A.gpu], .slice (some ⟨fb, fo, none⟩) fn cp', .int .i64 (fn : Int), .int .i64 (j : Int), .bool true, .pointer (some ⟨fb, fo + j, none⟩), .int .i64 (i : Int), .int .i64 (mb : Int), .bool false, u24, .slice (some ⟨b, off, none⟩) n cap, .int .i64 (i : Int), .pointer (some ⟨b, off + i * 8, none⟩), .agg #[.string nm, .slice la lm lc, .int .i64 h1.has.cpu, .int .i64 h1.has.mem, .int .i64 h1.has.gpu, .int .i64 h1.used.cpu, .int .i64 h1.used.mem, .int .i64 h1.used.gpu], .agg #[.int .i64 P.cpu, .int .i64 P.mem, .int .i64 P.gpu], .agg #[.int .i64 P.cpu, .int .i64 P.mem, .int .i64 P.gpu], .slice (some ⟨b, off, none⟩) n cap, .int .i64 (mb : Int), .pointer (some ⟨b, off + mb * 8, none⟩), .agg #[.string nm', .slice la' lm' lc', .int .i64 h2.has.cpu, .int .i64 h2.has.mem, .int .i64 h2.has.gpu, .int .i64 h2.used.cpu, .int .i64 h2.used.mem, .int .i64 h2.used.gpu], .agg #[.int .i64 Q.cpu, .int .i64 Q.mem, .int .i64 Q.gpu], .agg #[.int .i64 Q.cpu, .int .i64 Q.mem, .int .i64 Q.gpu], u37, u38, u39, u40, u41, u42, u43, u44, u45, u46, u47, u48, u49, u50, u51, u52, u53, u54, u55, u56, undef], defers := [] } w := by
          intro w ca cc hHeld zca zcc necacc 
          rw [hG]
          obtain ⟨za, hla, za0, za1, za2, fa0, fa1, fa2⟩ := zca
          obtain ⟨zc, hlb, zc0, zc1, zc2, fc0, fc1, fc2⟩ := zcc
          have nx1 : ¬ ca = cc := necacc
          have nx2 : ¬ cc = ca := fun e => necacc e.symm
          obtain ⟨W9, hW9⟩ : ∃ W, W = ((((((w.setCell ⟨ca, 0, none⟩ (.int .i64 P.cpu)).setCell ⟨ca, 1, none⟩ (.int .i64 P.mem)).setCell ⟨ca, 2, none⟩ (.int .i64 P.gpu)).setCell ⟨cc, 0, none⟩ (.int .i64 Q.cpu)).setCell ⟨cc, 1, none⟩ (.int .i64 Q.mem)).setCell ⟨cc, 2, none⟩ (.int .i64 Q.gpu)) := ⟨_, rfl⟩
          have a0 : W9.cell? ⟨ca, 0, none⟩ = some (.int .i64 P.cpu) := by rw [hW9]; simp [cell_set, za0, za1, za2, zc0, zc1, zc2, nx1, nx2]
          have a1 : W9.cell? ⟨ca, 1, none⟩ = some (.int .i64 P.mem) := by rw [hW9]; simp [cell_set, za0, za1, za2, zc0, zc1, zc2, nx1, nx2]
          have a2 : W9.cell? ⟨ca, 2, none⟩ = some (.int .i64 P.gpu) := by rw [hW9]; simp [cell_set, za0, za1, za2, zc0, zc1, zc2, nx1, nx2]
          have b0 : W9.cell? ⟨cc, 0, none⟩ = some (.int .i64 Q.cpu) := by rw [hW9]; simp [cell_set, za0, za1, za2, zc0, zc1, zc2, nx1, nx2]
          have b1 : W9.cell? ⟨cc, 1, none⟩ = some (.int .i64 Q.mem) := by rw [hW9]; simp [cell_set, za0, za1, za2, zc0, zc1, zc2, nx1, nx2]
          have b2 : W9.cell? ⟨cc, 2, none⟩ = some (.int .i64 Q.gpu) := by rw [hW9]; simp [cell_set, za0, za1, za2, zc0, zc1, zc2, nx1, nx2]
          have hb9 : Below wr.heap.size wr W9 := by rw [hW9]; exact three_below (three_below hHeld ca _ _ _ za) cc _ _ _ zc
          have HB9 := Lib.hid (HB.out.trans (hb9.mono HB.out.size))
          have hl9 : W9.heap.size = w.heap.size := by rw [hW9]; simp
          have HP3 : Hid (∀ t, t < 3 → W9.cell? ⟨ca, t, none⟩ = some (.int .i64 (P.at t))) := Lib.hid (fun t ht => by match t, ht with | 0, _ => exact a0 | 1, _ => exact a1 | 2, _ => exact a2)
          have HQ3 : Hid (∀ t, t < 3 → W9.cell? ⟨cc, t, none⟩ = some (.int .i64 (Q.at t))) := Lib.hid (fun t ht => by match t, ht with | 0, _ => exact b0 | 1, _ => exact b1 | 2, _ => exact b2)
          refine wpAnyH_ready (rs := [14]) (by kernel_rfl) (by simp) ?_
          refine AllReadyH.cons rfl (fun K hK => ?_) AllReadyH.nil
          go_simp
          (try go_wp2_with fail)
          refine hK.out _ _ (three_below hHeld ca _ _ _ za) (fun hHeld => ?_)
          clear hK K
          try simp only [Act.put, List.setIfInBounds_toArray, List.set_cons_zero, List.set_cons_succ]
          refine wpAnyH_ready (rs := [15]) (by kernel_rfl) (by simp) ?_
          refine AllReadyH.cons rfl (fun K hK => ?_) AllReadyH.nil
          go_simp
          (try go_wp2_with fail)
          refine hK.out _ _ (three_below hHeld cc _ _ _ zc) (fun hHeld => ?_)
          clear hK K
          try simp only [Act.put, List.setIfInBounds_toArray, List.set_cons_zero, List.set_cons_succ]
          refine wpAnyH_done (by kernel_rfl) ?_ _
          rw [← hl9] at hla hlb
          rw [← hW9]
          clear hW9 hl9 za0 za1 za2 zc0 zc1 zc2 fa0 fa1 fa2 fc0 fc1 fc2 hb9 a0 a1 a2 b0 b1 b2 nx1 nx2 c0 c1 c2 c3 c4 c5 c6 c7 d0 d1 d2 d3 d4 d5 d6 d7
          go_wp2_with fail
          go_loopg [7, 37] 3 (fun g u y wr2 => ∃ t : Nat, t + g = 3 ∧ y = .int .i64 (t : Int) ∧ u = .int .i64 (mb : Int) ∧ Hid (Alike3 P Q t) ∧ Hid (Below W9.heap.size W9 wr2))
          case atStart => exact ⟨0, by omega, rfl, rfl, Lib.hid (fun i hi => absurd hi (by omega)), Lib.hid (Below.refl _ _)⟩
          case round =>
            obtain ⟨t, ht, rfl, rfl, HAL, HBT⟩ := hrel
            have HTT := Lib.hid ht
            by_cases ht3 : t < 3
            · have pt := (HBT.out.cell (p := ⟨ca, t, none⟩) hla).trans (HP3.out t ht3)
              have qt := (HBT.out.cell (p := ⟨cc, t, none⟩) hlb).trans (HQ3.out t ht3)
              have ht1 : (0 : Int) ≤ (t : Int) := by omega
              have ht2 : (t : Int) < 3 := by omega
              have HAS : Hid (P.at t = Q.at t → Alike3 P Q (t + 1)) := Lib.hid (fun e => HAL.out.succ e)
              have HLS : Hid (P.at t < Q.at t → czL L i mb < 0) := Lib.hid (fun e => by rw [HCZ.out]; exact cmp_less ht3 HAL.out e)
              have HMR : Hid (Q.at t < P.at t → ¬ czL L i mb < 0) := Lib.hid (fun e => by rw [HCZ.out]; exact cmp_more ht3 HAL.out e)
              obtain ⟨pp, hpp⟩ : ∃ q, P.at t = q := ⟨_, rfl⟩
              obtain ⟨qq, hqq⟩ : ∃ q, Q.at t = q := ⟨_, rfl⟩
              rw [hpp] at pt HAS HLS HMR
              rw [hqq] at qt HAS HLS HMR
              clear hpp hqq ht
              rcases Int.lt_trichotomy pp qq with hlt | heq | hgt
              · have HLT := Lib.hid hlt
                have hlt2 : decide (pp < qq) = true := by simpa using hlt
                have hne : (pp != qq) = true := by simp; omega
                go_wp2_with fail
                go_quiet (fail)
                go_wp2_with fail
                go_quiet (fail)
                go_wp2_with fail
                go_roundg (fn - (j + 1))
                case measure => (have := HJ.out; omega)
                case rel => (refine ⟨j + 1, some i, by have := HJ.out; omega, by simp, rfl, Lib.hid (fun m h => by cases h; first | exact HIM.out | exact HM.out _ rfl), Lib.hid (by rw [HX.out, if_pos (HLS.out HLT.out)]), Lib.hid (by first | exact HB9.out.trans (HBT.out.mono HB9.out.size) | exact HB9.out.trans ((HBT.out.trans ((Drawn.drewN _ _).below _)).mono HB9.out.size))⟩)
              · subst heq
                have hne : (pp != pp) = false := by simp
                have hnl : decide (pp < pp) = false := by simp
                go_wp2_with fail
                go_quiet (fail)
                go_wp2_with fail
                go_quiet (fail)
                go_wp2_with fail
                go_roundg (3 - (t + 1))
                case measure => (have := HTT.out; omega)
                case rel => (refine ⟨t + 1, by have := HTT.out; omega, by simp, rfl, Lib.hid ((by simpa using HAS.out)), Lib.hid (by first | exact HBT.out | exact HBT.out.trans ((Drawn.drewN _ _).below _))⟩)
              · have HGT := Lib.hid hgt
                have hlt2 : decide (pp < qq) = false := by simp; omega
                have hne : (pp != qq) = true := by simp; omega
                go_wp2_with fail
                go_quiet (fail)
                go_wp2_with fail
                go_quiet (fail)
                go_wp2_with fail
                go_roundg (fn - (j + 1))
                case measure => (have := HJ.out; omega)
                case rel => (refine ⟨j + 1, some mb, by have := HJ.out; omega, by simp, rfl, Lib.hid (fun m h => by cases h; first | exact HIM.out | exact HM.out _ rfl), Lib.hid (by rw [HX.out, if_neg (Int.not_lt.2 (by simpa using HMR.out HGT.out))]), Lib.hid (by first | exact HB9.out.trans (HBT.out.mono HB9.out.size) | exact HB9.out.trans ((HBT.out.trans ((Drawn.drewN _ _).below _)).mono HB9.out.size))⟩)
            · obtain rfl : t = 3 := by omega
              go_wp2_with fail
              go_roundg (fn - (j + 1))
              case measure => (have := HJ.out; omega)
              case rel => (refine ⟨j + 1, some mb, by have := HJ.out; omega, by simp, rfl, Lib.hid (fun m h => by cases h; first | exact HIM.out | exact HM.out _ rfl), Lib.hid (by rw [HX.out, if_neg (by rw [HCZ.out]; exact cmp_same HAL.out)]), Lib.hid (by first | exact HB9.out.trans (HBT.out.mono HB9.out.size) | exact HB9.out.trans ((HBT.out.trans ((Drawn.drewN _ _).below _)).mono HB9.out.size))⟩)
        have HS311 : ∀ (w : World) (ca cc : Nat), Below wr.heap.size wr w → Zr wr.heap.size w ca → Zr wr.heap.size w cc → ca ≠ cc → G 3 #[true, true, true, true, true, true, true, true, true, true, true, false, true, true, false, false] { tmps := #[.slice (some ⟨b, off, none⟩) n cap, .agg #[.int .i64 k, .string a1, .string a2, .int .i64 nu, .slice ad m cp], .agg #[.int .i64 A.cpu, .int .i64 A.mem, .int .i64 A.gpu], undef, .pointer (some ⟨c, 0, none⟩), .pointer (some ⟨c + 1, 0, none⟩), .int .i64 0, .int .i64 (mb : Int), undef, .int .i64 (i : Int), .pointer (some ⟨ca, 0, none⟩), .pointer (some ⟨cc, 0, none⟩), u12, .slice (some ⟨b, off, none⟩) n cap, .agg #[.int .i64 k, .string a1, .string a2, .int .i64 nu, .slice ad m cp], .agg #[.int .i64 A.cpu, .int .i64 A.mem, .int .i64 A.gpu], .slice (some ⟨fb, fo, none⟩) fn cp', .int .i64 (fn : Int), .int .i64 (j : Int), .bool true, .pointer (some ⟨fb, fo + j, none⟩), .int .i64 (i : Int), .int .i64 (mb : Int), .bool false, u24, .slice (some ⟨b, off, none⟩) n cap, .int .i64 (i : Int), .pointer (some ⟨b, off + i * 8, none⟩), .agg #[.string nm, .slice la lm lc, .int .i64 h1.has.cpu, .int .i64 h1.has.mem, .int .i64 h1.has.gpu, .int .i64 h1.used.cpu, .int .i64 h1.used.mem, .int .i64 h1.used.gpu], .agg #[.int .i64 P.cpu, .int .i64 P.mem, .int .i64 P.gpu], .agg #[.int .i64 P.cpu, .int .i64 P.mem, .int .i64 P.gpu], .slice (some ⟨b, off, none⟩) n cap, .int .i64 (mb : Int), .pointer (some ⟨b, off + mb * 8, none⟩), .agg #[.string nm', .slice la' lm' lc', .int .i64 h2.has.cpu, .int .i64 h2.has.mem, .int .i64 h2.has.gpu, .int .i64 h2.used.cpu, .int .i64 h2.used.mem, .int .i64 h2.used.gpu], .agg #[.int .i64 Q.cpu, .int .i64 Q.mem, .int .i64 Q.gpu], u36, u37, u38, u39, u40, u41, u42, u43, u44, u45, u46, u47, u48, u49, u50, u51, u52, u53, u54, u55, u56, undef], defers := [] } w := by
          intro w ca cc hHeld zca zcc necacc 
          rw [hG]
          refine wpAnyH_ready (rs := [11]) (by kernel_rfl) (by simp) ?_
          refine AllReadyH.cons rfl (fun K hK => ?_) (AllReadyH.nil)
          · go_simp
            go_at_call 39
            refine Calls.mono (HA2.out w hHeld) ?_
            rintro e w1 ⟨rfl, hb1⟩
            (try go_wp2_with fail)
            have hHeld1 := hHeld.trans (hb1.mono hHeld.size)
            refine hK.out _ _ hHeld1 (fun _ => ?_)
            clear hK K
            rw [← hG]
            try simp only [Act.put, List.setIfInBounds_toArray, List.set_cons_zero, List.set_cons_succ]
            exact HS411 w1 ca cc hHeld1 (zca.below hb1) (zcc.below hb1) necacc
        have HS401 : ∀ (w : World) (cc : Nat), Below wr.heap.size wr w → Zr wr.heap.size w cc → G 3 #[true, true, true, true, true, true, true, true, true, true, true, true, false, true, false, false] { tmps := #[.slice (some ⟨b, off, none⟩) n cap, .agg #[.int .i64 k, .string a1, .string a2, .int .i64 nu, .slice ad m cp], .agg #[.int .i64 A.cpu, .int .i64 A.mem, .int .i64 A.gpu], undef, .pointer (some ⟨c, 0, none⟩), .pointer (some ⟨c + 1, 0, none⟩), .int .i64 0, .int .i64 (mb : Int), undef, .int .i64 (i : Int), u10, .pointer (some ⟨cc, 0, none⟩), u12, .slice (some ⟨b, off, none⟩) n cap, .agg #[.int .i64 k, .string a1, .string a2, .int .i64 nu, .slice ad m cp], .agg #[.int .i64 A.cpu, .int .i64 A.mem, .int .i64 A.gpu], .slice (some ⟨fb, fo, none⟩) fn cp', .int .i64 (fn : Int), .int .i64 (j : Int), .bool true, .pointer (some ⟨fb, fo + j, none⟩), .int .i64 (i : Int), .int .i64 (mb : Int), .bool false, u24, .slice (some ⟨b, off, none⟩) n cap, .int .i64 (i : Int), .pointer (some ⟨b, off + i * 8, none⟩), .agg #[.string nm, .slice la lm lc, .int .i64 h1.has.cpu, .int .i64 h1.has.mem, .int .i64 h1.has.gpu, .int .i64 h1.used.cpu, .int .i64 h1.used.mem, .int .i64 h1.used.gpu], .agg #[.int .i64 P.cpu, .int .i64 P.mem, .int .i64 P.gpu], .agg #[.int .i64 P.cpu, .int .i64 P.mem, .int .i64 P.gpu], .slice (some ⟨b, off, none⟩) n cap, .int .i64 (mb : Int), .pointer (some ⟨b, off + mb * 8, none⟩), .agg #[.string nm', .slice la' lm' lc', .int .i64 h2.has.cpu, .int .i64 h2.has.mem, .int .i64 h2.has.gpu, .int .i64 h2.used.cpu, .int .i64 h2.used.mem, .int .i64 h2.used.gpu], .agg #[.int .i64 Q.cpu, .int .i64 Q.mem, .int .i64 Q.gpu], .agg #[.int .i64 Q.cpu, .int .i64 Q.mem, .int .i64 Q.gpu], u37, u38, u39, u40, u41, u42, u43, u44, u45, u46, u47, u48, u49, u50, u51, u52, u53, u54, u55, u56, undef], defers := [] } w := by
          intro w cc hHeld zcc 
          rw [hG]
          refine wpAnyH_ready (rs := [12]) (by kernel_rfl) (by simp) ?_
          refine AllReadyH.cons rfl (fun K hK => ?_) (AllReadyH.nil)
          · go_simp
            (try go_wp2_with fail)
            have hal : Below w.heap.size w (w.alloc (.cells #[.int .i64 0, .int .i64 0, .int .i64 0] 68)) := (Below.refl _ _).alloc (Nat.le_refl _) _
            have hHeld1 := hHeld.trans (hal.mono hHeld.size)
            refine hK.out _ _ hHeld1 (fun _ => ?_)
            clear hK K
            rw [← hG]
            try simp only [Act.put, List.setIfInBounds_toArray, List.set_cons_zero, List.set_cons_succ]
            exact HS411 (w.alloc (.cells #[.int .i64 0, .int .i64 0, .int .i64 0] 68)) w.heap.size cc hHeld1 (Zr.made hHeld.size _) (zcc.below hal) (Nat.ne_of_gt zcc.lt)
        have HS410 : ∀ (w : World) (ca : Nat), Below wr.heap.size wr w → Zr wr.heap.size w ca → G 3 #[true, true, true, true, true, true, true, true, true, true, true, true, true, false, false, false] { tmps := #[.slice (some ⟨b, off, none⟩) n cap, .agg #[.int .i64 k, .string a1, .string a2, .int .i64 nu, .slice ad m cp], .agg #[.int .i64 A.cpu, .int .i64 A.mem, .int .i64 A.gpu], undef, .pointer (some ⟨c, 0, none⟩), .pointer (some ⟨c + 1, 0, none⟩), .int .i64 0, .int .i64 (mb : Int), undef, .int .i64 (i : Int), .pointer (some ⟨ca, 0, none⟩), u11, u12, .slice (some ⟨b, off, none⟩) n cap, .agg #[.int .i64 k, .string a1, .string a2, .int .i64 nu, .slice ad m cp], .agg #[.int .i64 A.cpu, .int .i64 A.mem, .int .i64 A.gpu], .slice (some ⟨fb, fo, none⟩) fn cp', .int .i64 (fn : Int), .int .i64 (j : Int), .bool true, .pointer (some ⟨fb, fo + j, none⟩), .int .i64 (i : Int), .int .i64 (mb : Int), .bool false, u24, .slice (some ⟨b, off, none⟩) n cap, .int .i64 (i : Int), .pointer (some ⟨b, off + i * 8, none⟩), .agg #[.string nm, .slice la lm lc, .int .i64 h1.has.cpu, .int .i64 h1.has.mem, .int .i64 h1.has.gpu, .int .i64 h1.used.cpu, .int .i64 h1.used.mem, .int .i64 h1.used.gpu], .agg #[.int .i64 P.cpu, .int .i64 P.mem, .int .i64 P.gpu], .agg #[.int .i64 P.cpu, .int .i64 P.mem, .int .i64 P.gpu], .slice (some ⟨b, off, none⟩) n cap, .int .i64 (mb : Int), .pointer (some ⟨b, off + mb * 8, none⟩), .agg #[.string nm', .slice la' lm' lc', .int .i64 h2.has.cpu, .int .i64 h2.has.mem, .int .i64 h2.has.gpu, .int .i64 h2.used.cpu, .int .i64 h2.used.mem, .int .i64 h2.used.gpu], .agg #[.int .i64 Q.cpu, .int .i64 Q.mem, .int .i64 Q.gpu], .agg #[.int .i64 Q.cpu, .int .i64 Q.mem, .int .i64 Q.gpu], u37, u38, u39, u40, u41, u42, u43, u44, u45, u46, u47, u48, u49, u50, u51, u52, u53, u54, u55, u56, undef], defers := [] } w := by
          intro w ca hHeld zca 
          rw [hG]
          refine wpAnyH_ready (rs := [13]) (by kernel_rfl) (by simp) ?_
          refine AllReadyH.cons rfl (fun K hK => ?_) (AllReadyH.nil)
          · go_simp
            (try go_wp2_with fail)
            have hal : Below w.heap.size w (w.alloc (.cells #[.int .i64 0, .int .i64 0, .int .i64 0] 68)) := (Below.refl _ _).alloc (Nat.le_refl _) _
            have hHeld1 := hHeld.trans (hal.mono hHeld.size)
            refine hK.out _ _ hHeld1 (fun _ => ?_)
            clear hK K
            rw [← hG]
            try simp only [Act.put, List.setIfInBounds_toArray, List.set_cons_zero, List.set_cons_succ]
            exact HS411 (w.alloc (.cells #[.int .i64 0, .int .i64 0, .int .i64 0] 68)) ca w.heap.size hHeld1 (zca.below hal) (Zr.made hHeld.size _) (Nat.ne_of_lt zca.lt)
        have HS211 : ∀ (w : World) (ca cc : Nat), Below wr.heap.size wr w → Zr wr.heap.size w ca → Zr wr.heap.size w cc → ca ≠ cc → G 4 #[true, true, true, true, true, true, true, true, true, true, false, false, true, true, false, false] { tmps := #[.slice (some ⟨b, off, none⟩) n cap, .agg #[.int .i64 k, .string a1, .string a2, .int .i64 nu, .slice ad m cp], .agg #[.int .i64 A.cpu, .int .i64 A.mem, .int .i64 A.gpu], undef, .pointer (some ⟨c, 0, none⟩), .pointer (some ⟨c + 1, 0, none⟩), .int .i64 0, .int .i64 (mb : Int), undef, .int .i64 (i : Int), .pointer (some ⟨ca, 0, none⟩), .pointer (some ⟨cc, 0, none⟩), u12, .slice (some ⟨b, off, none⟩) n cap, .agg #[.int .i64 k, .string a1, .string a2, .int .i64 nu, .slice ad m cp], .agg #[.int .i64 A.cpu, .int .i64 A.mem, .int .i64 A.gpu], .slice (some ⟨fb, fo, none⟩) fn cp', .int .i64 (fn : Int), .int .i64 (j : Int), .bool true, .pointer (some ⟨fb, fo + j, none⟩), .int .i64 (i : Int), .int .i64 (mb : Int), .bool false, u24, .slice (some ⟨b, off, none⟩) n cap, .int .i64 (i : Int), .pointer (some ⟨b, off + i * 8, none⟩), .agg #[.string nm, .slice la lm lc, .int .i64 h1.has.cpu, .int .i64 h1.has.mem, .int .i64 h1.has.gpu, .int .i64 h1.used.cpu, .int .i64 h1.used.mem, .int .i64 h1.used.gpu], .agg #[.int .i64 P.cpu, .int .i64 P.mem, .int .i64 P.gpu], .agg #[.int .i64 P.cpu, .int .i64 P.mem, .int .i64 P.gpu], .slice (some ⟨b, off, none⟩) n cap, .int .i64 (mb : Int), .pointer (some ⟨b, off + mb * 8, none⟩), .agg #[.string nm', .slice la' lm' lc', .int .i64 h2.has.cpu, .int .i64 h2.has.mem, .int .i64 h2.has.gpu, .int .i64 h2.used.cpu, .int .i64 h2.used.mem, .int .i64 h2.used.gpu], u35, u36, u37, u38, u39, u40, u41, u42, u43, u44, u45, u46, u47, u48, u49, u50, u51, u52, u53, u54, u55, u56, undef], defers := [] } w := by
          intro w ca cc hHeld zca zcc necacc 
          rw [hG]
          refine wpAnyH_ready (rs := [10]) (by kernel_rfl) (by simp) ?_
          refine AllReadyH.cons rfl (fun K hK => ?_) (AllReadyH.nil)
          · go_simp
            go_at_call 6
            refine Calls.mono (HF2.out w hHeld) ?_
            rintro e w1 ⟨rfl, hb1⟩
            (try go_wp2_with fail)
            have hHeld1 := hHeld.trans (hb1.mono hHeld.size)
            refine hK.out _ _ hHeld1 (fun _ => ?_)
            clear hK K
            rw [← hG]
            try simp only [Act.put, List.setIfInBounds_toArray, List.set_cons_zero, List.set_cons_succ]
            exact HS311 w1 ca cc hHeld1 (zca.below hb1) (zcc.below hb1) necacc
        have HS301 : ∀ (w : World) (cc : Nat), Below wr.heap.size wr w → Zr wr.heap.size w cc → G 4 #[true, true, true, true, true, true, true, true, true, true, true, false, false, true, false, false] { tmps := #[.slice (some ⟨b, off, none⟩) n cap, .agg #[.int .i64 k, .string a1, .string a2, .int .i64 nu, .slice ad m cp], .agg #[.int .i64 A.cpu, .int .i64 A.mem, .int .i64 A.gpu], undef, .pointer (some ⟨c, 0, none⟩), .pointer (some ⟨c + 1, 0, none⟩), .int .i64 0, .int .i64 (mb : Int), undef, .int .i64 (i : Int), u10, .pointer (some ⟨cc, 0, none⟩), u12, .slice (some ⟨b, off, none⟩) n cap, .agg #[.int .i64 k, .string a1, .string a2, .int .i64 nu, .slice ad m cp], .agg #[.int .i64 A.cpu, .int .i64 A.mem, .int .i64 A.gpu], .slice (some ⟨fb, fo, none⟩) fn cp', .int .i64 (fn : Int), .int .i64 (j : Int), .bool true, .pointer (some ⟨fb, fo + j, none⟩), .int .i64 (i : Int), .int .i64 (mb : Int), .bool false, u24, .slice (some ⟨b, off, none⟩) n cap, .int .i64 (i : Int), .pointer (some ⟨b, off + i * 8, none⟩), .agg #[.string nm, .slice la lm lc, .int .i64 h1.has.cpu, .int .i64 h1.has.mem, .int .i64 h1.has.gpu, .int .i64 h1.used.cpu, .int .i64 h1.used.mem, .int .i64 h1.used.gpu], .agg #[.int .i64 P.cpu, .int .i64 P.mem, .int .i64 P.gpu], .agg #[.int .i64 P.cpu, .int .i64 P.mem, .int .i64 P.gpu], .slice (some ⟨b, off, none⟩) n cap, .int .i64 (mb : Int), .pointer (some ⟨b, off + mb * 8, none⟩), .agg #[.string nm', .slice la' lm' lc', .int .i64 h2.has.cpu, .int .i64 h2.has.mem, .int .i64 h2.has.gpu, .int .i64 h2.used.cpu, .int .i64 h2.used.mem, .int .i64 h2.used.gpu], .agg #[.int .i64 Q.cpu, .int .i64 Q.mem, .int .i64 Q.gpu], u36, u37, u38, u39, u40, u41, u42, u43, u44, u45, u46, u47, u48, u49, u50, u51, u52, u53, u54, u55, u56, undef], defers := [] } w := by
          intro w cc hHeld zcc 
          rw [hG]
          refine wpAnyH_ready (rs := [11, 12]) (by kernel_rfl) (by simp) ?_
          refine AllReadyH.cons rfl (fun K hK => ?_) (AllReadyH.cons rfl (fun K hK => ?_) (AllReadyH.nil))
          · go_simp
            go_at_call 39
            refine Calls.mono (HA2.out w hHeld) ?_
            rintro e w1 ⟨rfl, hb1⟩
            (try go_wp2_with fail)
            have hHeld1 := hHeld.trans (hb1.mono hHeld.size)
            refine hK.out _ _ hHeld1 (fun _ => ?_)
            clear hK K
            rw [← hG]
            try simp only [Act.put, List.setIfInBounds_toArray, List.set_cons_zero, List.set_cons_succ]
            exact HS401 w1 cc hHeld1 (zcc.below hb1)
          · go_simp
            (try go_wp2_with fail)
            have hal : Below w.heap.size w (w.alloc (.cells #[.int .i64 0, .int .i64 0, .int .i64 0] 68)) := (Below.refl _ _).alloc (Nat.le_refl _) _
            have hHeld1 := hHeld.trans (hal.mono hHeld.size)
            refine hK.out _ _ hHeld1 (fun _ => ?_)
            clear hK K
            rw [← hG]
            try simp only [Act.put, List.setIfInBounds_toArray, List.set_cons_zero, List.set_cons_succ]
            exact HS311 (w.alloc (.cells #[.int .i64 0, .int .i64 0, .int .i64 0] 68)) w.heap.size cc hHeld1 (Zr.made hHeld.size _) (zcc.below hal) (Nat.ne_of_gt zcc.lt)
        have HS310 : ∀ (w : World) (ca : Nat), Below wr.heap.size wr w → Zr wr.heap.size w ca → G 4 #[true, true, true, true, true, true, true, true, true, true, true, false, true, false, false, false] { tmps := #[.slice (some ⟨b, off, none⟩) n cap, .agg #[.int .i64 k, .string a1, .string a2, .int .i64 nu, .slice ad m cp], .agg #[.int .i64 A.cpu, .int .i64 A.mem, .int .i64 A.gpu], undef, .pointer (some ⟨c, 0, none⟩), .pointer (some ⟨c + 1, 0, none⟩), .int .i64 0, .int .i64 (mb : Int), undef, .int .i64 (i : Int), .pointer (some ⟨ca, 0, none⟩), u11, u12, .slice (some ⟨b, off, none⟩) n cap, .agg #[.int .i64 k, .string a1, .string a2, .int .i64 nu, .slice ad m cp], .agg #[.int .i64 A.cpu, .int .i64 A.mem, .int .i64 A.gpu], .slice (some ⟨fb, fo, none⟩) fn cp', .int .i64 (fn : Int), .int .i64 (j : Int), .bool true, .pointer (some ⟨fb, fo + j, none⟩), .int .i64 (i : Int), .int .i64 (mb : Int), .bool false, u24, .slice (some ⟨b, off, none⟩) n cap, .int .i64 (i : Int), .pointer (some ⟨b, off + i * 8, none⟩), .agg #[.string nm, .slice la lm lc, .int .i64 h1.has.cpu, .int .i64 h1.has.mem, .int .i64 h1.has.gpu, .int .i64 h1.used.cpu, .int .i64 h1.used.mem, .int .i64 h1.used.gpu], .agg #[.int .i64 P.cpu, .int .i64 P.mem, .int .i64 P.gpu], .agg #[.int .i64 P.cpu, .int .i64 P.mem, .int .i64 P.gpu], .slice (some ⟨b, off, none⟩) n cap, .int .i64 (mb : Int), .pointer (some ⟨b, off + mb * 8, none⟩), .agg #[.string nm', .slice la' lm' lc', .int .i64 h2.has.cpu, .int .i64 h2.has.mem, .int .i64 h2.has.gpu, .int .i64 h2.used.cpu, .int .i64 h2.used.mem, .int .i64 h2.used.gpu], .agg #[.int .i64 Q.cpu, .int .i64 Q.mem, .int .i64 Q.gpu], u36, u37, u38, u39, u40, u41, u42, u43, u44, u45, u46, u47, u48, u49, u50, u51, u52, u53, u54, u55, u56, undef], defers := [] } w := by
          intro w ca hHeld zca 
          rw [hG]
          refine wpAnyH_ready (rs := [11, 13]) (by kernel_rfl) (by simp) ?_
          refine AllReadyH.cons rfl (fun K hK => ?_) (AllReadyH.cons rfl (fun K hK => ?_) (AllReadyH.nil))
          · go_simp
            go_at_call 39
            refine Calls.mono (HA2.out w hHeld) ?_
            rintro e w1 ⟨rfl, hb1⟩
            (try go_wp2_with fail)
            have hHeld1 := hHeld.trans (hb1.mono hHeld.size)
            refine hK.out _ _ hHeld1 (fun _ => ?_)
            clear hK K
            rw [← hG]
            try simp only [Act.put, List.setIfInBounds_toArray, List.set_cons_zero, List.set_cons_succ]
            exact HS410 w1 ca hHeld1 (zca.below hb1)
          · go_simp
            (try go_wp2_with fail)
            have hal : Below w.heap.size w (w.alloc (.cells #[.int .i64 0, .int .i64 0, .int .i64 0] 68)) := (Below.refl _ _).alloc (Nat.le_refl _) _
            have hHeld1 := hHeld.trans (hal.mono hHeld.size)
            refine hK.out _ _ hHeld1 (fun _ => ?_)
            clear hK K
            rw [← hG]
            try simp only [Act.put, List.setIfInBounds_toArray, List.set_cons_zero, List.set_cons_succ]
            exact HS311 (w.alloc (.cells #[.int .i64 0, .int .i64 0, .int .i64 0] 68)) ca w.heap.size hHeld1 (zca.below hal) (Zr.made hHeld.size _) (Nat.ne_of_lt zca.lt)
        have HS400 : ∀ (w : World), Below wr.heap.size wr w → G 4 #[true, true, true, true, true, true, true, true, true, true, true, true, false, false, false, false] { tmps := #[.slice (some ⟨b, off, none⟩) n cap, .agg #[.int .i64 k, .string a1, .string a2, .int .i64 nu, .slice ad m cp], .agg #[.int .i64 A.cpu, .int .i64 A.mem, .int .i64 A.gpu], undef, .pointer (some ⟨c, 0, none⟩), .pointer (some ⟨c + 1, 0, none⟩), .int .i64 0, .int .i64 (mb : Int), undef, .int .i64 (i : Int), u10, u11, u12, .slice (some ⟨b, off, none⟩) n cap, .agg #[.int .i64 k, .string a1, .string a2, .int .i64 nu, .slice ad m cp], .agg #[.int .i64 A.cpu, .int .i64 A.mem, .int .i64 A.gpu], .slice (some ⟨fb, fo, none⟩) fn cp', .int .i64 (fn : Int), .int .i64 (j : Int), .bool true, .pointer (some ⟨fb, fo + j, none⟩), .int .i64 (i : Int), .int .i64 (mb : Int), .bool false, u24, .slice (some ⟨b, off, none⟩) n cap, .int .i64 (i : Int), .pointer (some ⟨b, off + i * 8, none⟩), .agg #[.string nm, .slice la lm lc, .int .i64 h1.has.cpu, .int .i64 h1.has.mem, .int .i64 h1.has.gpu, .int .i64 h1.used.cpu, .int .i64 h1.used.mem, .int .i64 h1.used.gpu], .agg #[.int .i64 P.cpu, .int .i64 P.mem, .int .i64 P.gpu], .agg #[.int .i64 P.cpu, .int .i64 P.mem, .int .i64 P.gpu], .slice (some ⟨b, off, none⟩) n cap, .int .i64 (mb : Int), .pointer (some ⟨b, off + mb * 8, none⟩), .agg #[.string nm', .slice la' lm' lc', .int .i64 h2.has.cpu, .int .i64 h2.has.mem, .int .i64 h2.has.gpu, .int .i64 h2.used.cpu, .int .i64 h2.used.mem, .int .i64 h2.used.gpu], .agg #[.int .i64 Q.cpu, .int .i64 Q.mem, .int .i64 Q.gpu], .agg #[.int .i64 Q.cpu, .int .i64 Q.mem, .int .i64 Q.gpu], u37, u38, u39, u40, u41, u42, u43, u44, u45, u46, u47, u48, u49, u50, u51, u52, u53, u54, u55, u56, undef], defers := [] } w := by
          intro w hHeld 
          rw [hG]
          refine wpAnyH_ready (rs := [12, 13]) (by kernel_rfl) (by simp) ?_
          refine AllReadyH.cons rfl (fun K hK => ?_) (AllReadyH.cons rfl (fun K hK => ?_) (AllReadyH.nil))
          · go_simp
            (try go_wp2_with fail)
            have hal : Below w.heap.size w (w.alloc (.cells #[.int .i64 0, .int .i64 0, .int .i64 0] 68)) := (Below.refl _ _).alloc (Nat.le_refl _) _
            have hHeld1 := hHeld.trans (hal.mono hHeld.size)
            refine hK.out _ _ hHeld1 (fun _ => ?_)
            clear hK K
            rw [← hG]
            try simp only [Act.put, List.setIfInBounds_toArray, List.set_cons_zero, List.set_cons_succ]
            exact HS410 (w.alloc (.cells #[.int .i64 0, .int .i64 0, .int .i64 0] 68)) w.heap.size hHeld1 (Zr.made hHeld.size _)
          · go_simp
            (try go_wp2_with fail)
            have hal : Below w.heap.size w (w.alloc (.cells #[.int .i64 0, .int .i64 0, .int .i64 0] 68)) := (Below.refl _ _).alloc (Nat.le_refl _) _
            have hHeld1 := hHeld.trans (hal.mono hHeld.size)
            refine hK.out _ _ hHeld1 (fun _ => ?_)
            clear hK K
            rw [← hG]
            try simp only [Act.put, List.setIfInBounds_toArray, List.set_cons_zero, List.set_cons_succ]
            exact HS401 (w.alloc (.cells #[.int .i64 0, .int .i64 0, .int .i64 0] 68)) w.heap.size hHeld1 (Zr.made hHeld.size _)
        have HS111 : ∀ (w : World) (ca cc : Nat), Below wr.heap.size wr w → Zr wr.heap.size w ca → Zr wr.heap.size w cc → ca ≠ cc → G 5 #[true, true, true, true, true, false, true, true, true, true, false, false, true, true, false, false] { tmps := #[.slice (some ⟨b, off, none⟩) n cap, .agg #[.int .i64 k, .string a1, .string a2, .int .i64 nu, .slice ad m cp], .agg #[.int .i64 A.cpu, .int .i64 A.mem, .int .i64 A.gpu], undef, .pointer (some ⟨c, 0, none⟩), .pointer (some ⟨c + 1, 0, none⟩), .int .i64 0, .int .i64 (mb : Int), undef, .int .i64 (i : Int), .pointer (some ⟨ca, 0, none⟩), .pointer (some ⟨cc, 0, none⟩), u12, .slice (some ⟨b, off, none⟩) n cap, .agg #[.int .i64 k, .string a1, .string a2, .int .i64 nu, .slice ad m cp], .agg #[.int .i64 A.cpu, .int .i64 A.mem, .int .i64 A.gpu], .slice (some ⟨fb, fo, none⟩) fn cp', .int .i64 (fn : Int), .int .i64 (j : Int), .bool true, .pointer (some ⟨fb, fo + j, none⟩), .int .i64 (i : Int), .int .i64 (mb : Int), .bool false, u24, .slice (some ⟨b, off, none⟩) n cap, .int .i64 (i : Int), .pointer (some ⟨b, off + i * 8, none⟩), .agg #[.string nm, .slice la lm lc, .int .i64 h1.has.cpu, .int .i64 h1.has.mem, .int .i64 h1.has.gpu, .int .i64 h1.used.cpu, .int .i64 h1.used.mem, .int .i64 h1.used.gpu], .agg #[.int .i64 P.cpu, .int .i64 P.mem, .int .i64 P.gpu], u30, .slice (some ⟨b, off, none⟩) n cap, .int .i64 (mb : Int), .pointer (some ⟨b, off + mb * 8, none⟩), .agg #[.string nm', .slice la' lm' lc', .int .i64 h2.has.cpu, .int .i64 h2.has.mem, .int .i64 h2.has.gpu, .int .i64 h2.used.cpu, .int .i64 h2.used.mem, .int .i64 h2.used.gpu], u35, u36, u37, u38, u39, u40, u41, u42, u43, u44, u45, u46, u47, u48, u49, u50, u51, u52, u53, u54, u55, u56, undef], defers := [] } w := by
          intro w ca cc hHeld zca zcc necacc 
          rw [hG]
          refine wpAnyH_ready (rs := [5]) (by kernel_rfl) (by simp) ?_
          refine AllReadyH.cons rfl (fun K hK => ?_) (AllReadyH.nil)
          · go_simp
            go_at_call 39
            refine Calls.mono (HA1.out w hHeld) ?_
            rintro e w1 ⟨rfl, hb1⟩
            (try go_wp2_with fail)
            have hHeld1 := hHeld.trans (hb1.mono hHeld.size)
            refine hK.out _ _ hHeld1 (fun _ => ?_)
            clear hK K
            rw [← hG]
            try simp only [Act.put, List.setIfInBounds_toArray, List.set_cons_zero, List.set_cons_succ]
            exact HS211 w1 ca cc hHeld1 (zca.below hb1) (zcc.below hb1) necacc
        have HS201 : ∀ (w : World) (cc : Nat), Below wr.heap.size wr w → Zr wr.heap.size w cc → G 5 #[true, true, true, true, true, true, true, true, true, true, false, false, false, true, false, false] { tmps := #[.slice (some ⟨b, off, none⟩) n cap, .agg #[.int .i64 k, .string a1, .string a2, .int .i64 nu, .slice ad m cp], .agg #[.int .i64 A.cpu, .int .i64 A.mem, .int .i64 A.gpu], undef, .pointer (some ⟨c, 0, none⟩), .pointer (some ⟨c + 1, 0, none⟩), .int .i64 0, .int .i64 (mb : Int), undef, .int .i64 (i : Int), u10, .pointer (some ⟨cc, 0, none⟩), u12, .slice (some ⟨b, off, none⟩) n cap, .agg #[.int .i64 k, .string a1, .string a2, .int .i64 nu, .slice ad m cp], .agg #[.int .i64 A.cpu, .int .i64 A.mem, .int .i64 A.gpu], .slice (some ⟨fb, fo, none⟩) fn cp', .int .i64 (fn : Int), .int .i64 (j : Int), .bool true, .pointer (some ⟨fb, fo + j, none⟩), .int .i64 (i : Int), .int .i64 (mb : Int), .bool false, u24, .slice (some ⟨b, off, none⟩) n cap, .int .i64 (i : Int), .pointer (some ⟨b, off + i * 8, none⟩), .agg #[.string nm, .slice la lm lc, .int .i64 h1.has.cpu, .int .i64 h1.has.mem, .int .i64 h1.has.gpu, .int .i64 h1.used.cpu, .int .i64 h1.used.mem, .int .i64 h1.used.gpu], .agg #[.int .i64 P.cpu, .int .i64 P.mem, .int .i64 P.gpu], .agg #[.int .i64 P.cpu, .int .i64 P.mem, .int .i64 P.gpu], .slice (some ⟨b, off, none⟩) n cap, .int .i64 (mb : Int), .pointer (some ⟨b, off + mb * 8, none⟩), .agg #[.string nm', .slice la' lm' lc', .int .i64 h2.has.cpu, .int .i64 h2.has.mem, .int .i64 h2.has.gpu, .int .i64 h2.used.cpu, .int .i64 h2.used.mem, .int .i64 h2.used.gpu], u35, u36, u37, u38, u39, u40, u41, u42, u43, u44, u45, u46, u47, u48, u49, u50, u51, u52, u53, u54, u55, u56, undef], defers := [] } w := by
          intro w cc hHeld zcc 
          rw [hG]
          refine wpAnyH_ready (rs := [10, 12]) (by kernel_rfl) (by simp) ?_
          refine AllReadyH.cons rfl (fun K hK => ?_) (AllReadyH.cons rfl (fun K hK => ?_) (AllReadyH.nil))
          · go_simp
            go_at_call 6
            refine Calls.mono (HF2.out w hHeld) ?_
            rintro e w1 ⟨rfl, hb1⟩
            (try go_wp2_with fail)
            have hHeld1 := hHeld.trans (hb1.mono hHeld.size)
            refine hK.out _ _ hHeld1 (fun _ => ?_)
            clear hK K
            rw [← hG]
            try simp only [Act.put, List.setIfInBounds_toArray, List.set_cons_zero, List.set_cons_succ]
            exact HS301 w1 cc hHeld1 (zcc.below hb1)
          · go_simp
            (try go_wp2_with fail)
            have hal : Below w.heap.size w (w.alloc (.cells #[.int .i64 0, .int .i64 0, .int .i64 0] 68)) := (Below.refl _ _).alloc (Nat.le_refl _) _
            have hHeld1 := hHeld.trans (hal.mono hHeld.size)
            refine hK.out _ _ hHeld1 (fun _ => ?_)
            clear hK K
            rw [← hG]
            try simp only [Act.put, List.setIfInBounds_toArray, List.set_cons_zero, List.set_cons_succ]
            exact HS211 (w.alloc (.cells #[.int .i64 0, .int .i64 0, .int .i64 0] 68)) w.heap.size cc hHeld1 (Zr.made hHeld.size _) (zcc.below hal) (Nat.ne_of_gt zcc.lt)
        have HS210 : ∀ (w : World) (ca : Nat), Below wr.heap.size wr w → Zr wr.heap.size w ca → G 5 #[true, true, true, true, true, true, true, true, true, true, false, false, true, false, false, false] { tmps := #[.slice (some ⟨b, off, none⟩) n cap, .agg #[.int .i64 k, .string a1, .string a2, .int .i64 nu, .slice ad m cp], .agg #[.int .i64 A.cpu, .int .i64 A.mem, .int .i64 A.gpu], undef, .pointer (some ⟨c, 0, none⟩), .pointer (some ⟨c + 1, 0, none⟩), .int .i64 0, .int .i64 (mb : Int), undef, .int .i64 (i : Int), .pointer (some ⟨ca, 0, none⟩), u11, u12, .slice (some ⟨b, off, none⟩) n cap, .agg #[.int .i64 k, .string a1, .string a2, .int .i64 nu, .slice ad m cp], .agg #[.int .i64 A.cpu, .int .i64 A.mem, .int .i64 A.gpu], .slice (some ⟨fb, fo, none⟩) fn cp', .int .i64 (fn : Int), .int .i64 (j : Int), .bool true, .pointer (some ⟨fb, fo + j, none⟩), .int .i64 (i : Int), .int .i64 (mb : Int), .bool false, u24, .slice (some ⟨b, off, none⟩) n cap, .int .i64 (i : Int), .pointer (some ⟨b, off + i * 8, none⟩), .agg #[.string nm, .slice la lm lc, .int .i64 h1.has.cpu, .int .i64 h1.has.mem, .int .i64 h1.has.gpu, .int .i64 h1.used.cpu, .int .i64 h1.used.mem, .int .i64 h1.used.gpu], .agg #[.int .i64 P.cpu, .int .i64 P.mem, .int .i64 P.gpu], .agg #[.int .i64 P.cpu, .int .i64 P.mem, .int .i64 P.gpu], .slice (some ⟨b, off, none⟩) n cap, .int .i64 (mb : Int), .pointer (some ⟨b, off + mb * 8, none⟩), .agg #[.string nm', .slice la' lm' lc', .int .i64 h2.has.cpu, .int .i64 h2.has.mem, .int .i64 h2.has.gpu, .int .i64 h2.used.cpu, .int .i64 h2.used.mem, .int .i64 h2.used.gpu], u35, u36, u37, u38, u39, u40, u41, u42, u43, u44, u45, u46, u47, u48, u49, u50, u51, u52, u53, u54, u55, u56, undef], defers := [] } w := by
          intro w ca hHeld zca 
          rw [hG]
          refine wpAnyH_ready (rs := [10, 13]) (by kernel_rfl) (by simp) ?_
          refine AllReadyH.cons rfl (fun K hK => ?_) (AllReadyH.cons rfl (fun K hK => ?_) (AllReadyH.nil))
          · go_simp
            go_at_call 6
            refine Calls.mono (HF2.out w hHeld) ?_
            rintro e w1 ⟨rfl, hb1⟩
            (try go_wp2_with fail)
            have hHeld1 := hHeld.trans (hb1.mono hHeld.size)
            refine hK.out _ _ hHeld1 (fun _ => ?_)
            clear hK K
            rw [← hG]
            try simp only [Act.put, List.setIfInBounds_toArray, List.set_cons_zero, List.set_cons_succ]
            exact HS310 w1 ca hHeld1 (zca.below hb1)
          · go_simp
            (try go_wp2_with fail)
            have hal : Below w.heap.size w (w.alloc (.cells #[.int .i64 0, .int .i64 0, .int .i64 0] 68)) := (Below.refl _ _).alloc (Nat.le_refl _) _
            have hHeld1 := hHeld.trans (hal.mono hHeld.size)
            refine hK.out _ _ hHeld1 (fun _ => ?_)
            clear hK K
            rw [← hG]
            try simp only [Act.put, List.setIfInBounds_toArray, List.set_cons_zero, List.set_cons_succ]
            exact HS211 (w.alloc (.cells #[.int .i64 0, .int .i64 0, .int .i64 0] 68)) ca w.heap.size hHeld1 (zca.below hal) (Zr.made hHeld.size _) (Nat.ne_of_lt zca.lt)
        have HS300 : ∀ (w : World), Below wr.heap.size wr w → G 5 #[true, true, true, true, true, true, true, true, true, true, true, false, false, false, false, false] { tmps := #[.slice (some ⟨b, off, none⟩) n cap, .agg #[.int .i64 k, .string a1, .string a2, .int .i64 nu, .slice ad m cp], .agg #[.int .i64 A.cpu, .int .i64 A.mem, .int .i64 A.gpu], undef, .pointer (some ⟨c, 0, none⟩), .pointer (some ⟨c + 1, 0, none⟩), .int .i64 0, .int .i64 (mb : Int), undef, .int .i64 (i : Int), u10, u11, u12, .slice (some ⟨b, off, none⟩) n cap, .agg #[.int .i64 k, .string a1, .string a2, .int .i64 nu, .slice ad m cp], .agg #[.int .i64 A.cpu, .int .i64 A.mem, .int .i64 A.gpu], .slice (some ⟨fb, fo, none⟩) fn cp', .int .i64 (fn : Int), .int .i64 (j : Int), .bool true, .pointer (some ⟨fb, fo + j, none⟩), .int .i64 (i : Int), .int .i64 (mb : Int), .bool false, u24, .slice (some ⟨b, off, none⟩) n cap, .int .i64 (i : Int), .pointer (some ⟨b, off + i * 8, none⟩), .agg #[.string nm, .slice la lm lc, .int .i64 h1.has.cpu, .int .i64 h1.has.mem, .int .i64 h1.has.gpu, .int .i64 h1.used.cpu, .int .i64 h1.used.mem, .int .i64 h1.used.gpu], .agg #[.int .i64 P.cpu, .int .i64 P.mem, .int .i64 P.gpu], .agg #[.int .i64 P.cpu, .int .i64 P.mem, .int .i64 P.gpu], .slice (some ⟨b, off, none⟩) n cap, .int .i64 (mb : Int), .pointer (some ⟨b, off + mb * 8, none⟩), .agg #[.string nm', .slice la' lm' lc', .int .i64 h2.has.cpu, .int .i64 h2.has.mem, .int .i64 h2.has.gpu, .int .i64 h2.used.cpu, .int .i64 h2.used.mem, .int .i64 h2.used.gpu], .agg #[.int .i64 Q.cpu, .int .i64 Q.mem, .int .i64 Q.gpu], u36, u37, u38, u39, u40, u41, u42, u43, u44, u45, u46, u47, u48, u49, u50, u51, u52, u53, u54, u55, u56, undef], defers := [] } w := by
          intro w hHeld 
          rw [hG]
          refine wpAnyH_ready (rs := [11, 12, 13]) (by kernel_rfl) (by simp) ?_
          refine AllReadyH.cons rfl (fun K hK => ?_) (AllReadyH.cons rfl (fun K hK => ?_) (AllReadyH.cons rfl (fun K hK => ?_) (AllReadyH.nil)))
          · go_simp
            go_at_call 39
            refine Calls.mono (HA2.out w hHeld) ?_
            rintro e w1 ⟨rfl, hb1⟩
            (try go_wp2_with fail)
            have hHeld1 := hHeld.trans (hb1.mono hHeld.size)
            refine hK.out _ _ hHeld1 (fun _ => ?_)
            clear hK K
            rw [← hG]
            try simp only [Act.put, List.setIfInBounds_toArray, List.set_cons_zero, List.set_cons_succ]
            exact HS400 w1 hHeld1
          · go_simp
            (try go_wp2_with fail)
            have hal : Below w.heap.size w (w.alloc (.cells #[.int .i64 0, .int .i64 0, .int .i64 0] 68)) := (Below.refl _ _).alloc (Nat.le_refl _) _
            have hHeld1 := hHeld.trans (hal.mono hHeld.size)
            refine hK.out _ _ hHeld1 (fun _ => ?_)
            clear hK K
            rw [← hG]
            try simp only [Act.put, List.setIfInBounds_toArray, List.set_cons_zero, List.set_cons_succ]
            exact HS310 (w.alloc (.cells #[.int .i64 0, .int .i64 0, .int .i64 0] 68)) w.heap.size hHeld1 (Zr.made hHeld.size _)
          · go_simp
            (try go_wp2_with fail)
            have hal : Below w.heap.size w (w.alloc (.cells #[.int .i64 0, .int .i64 0, .int .i64 0] 68)) := (Below.refl _ _).alloc (Nat.le_refl _) _
            have hHeld1 := hHeld.trans (hal.mono hHeld.size)
            refine hK.out _ _ hHeld1 (fun _ => ?_)
            clear hK K
            rw [← hG]
            try simp only [Act.put, List.setIfInBounds_toArray, List.set_cons_zero, List.set_cons_succ]
            exact HS301 (w.alloc (.cells #[.int .i64 0, .int .i64 0, .int .i64 0] 68)) w.heap.size hHeld1 (Zr.made hHeld.size _)
        have HS011 : ∀ (w : World) (ca cc : Nat), Below wr.heap.size wr w → Zr wr.heap.size w ca → Zr wr.heap.size w cc → ca ≠ cc → G 6 #[true, true, true, true, false, false, true, true, true, true, false, false, true, true, false, false] { tmps := #[.slice (some ⟨b, off, none⟩) n cap, .agg #[.int .i64 k, .string a1, .string a2, .int .i64 nu, .slice ad m cp], .agg #[.int .i64 A.cpu, .int .i64 A.mem, .int .i64 A.gpu], undef, .pointer (some ⟨c, 0, none⟩), .pointer (some ⟨c + 1, 0, none⟩), .int .i64 0, .int .i64 (mb : Int), undef, .int .i64 (i : Int), .pointer (some ⟨ca, 0, none⟩), .pointer (some ⟨cc, 0, none⟩), u12, .slice (some ⟨b, off, none⟩) n cap, .agg #[.int .i64 k, .string a1, .string a2, .int .i64 nu, .slice ad m cp], .agg #[.int .i64 A.cpu, .int .i64 A.mem, .int .i64 A.gpu], .slice (some ⟨fb, fo, none⟩) fn cp', .int .i64 (fn : Int), .int .i64 (j : Int), .bool true, .pointer (some ⟨fb, fo + j, none⟩), .int .i64 (i : Int), .int .i64 (mb : Int), .bool false, u24, .slice (some ⟨b, off, none⟩) n cap, .int .i64 (i : Int), .pointer (some ⟨b, off + i * 8, none⟩), .agg #[.string nm, .slice la lm lc, .int .i64 h1.has.cpu, .int .i64 h1.has.mem, .int .i64 h1.has.gpu, .int .i64 h1.used.cpu, .int .i64 h1.used.mem, .int .i64 h1.used.gpu], u29, u30, .slice (some ⟨b, off, none⟩) n cap, .int .i64 (mb : Int), .pointer (some ⟨b, off + mb * 8, none⟩), .agg #[.string nm', .slice la' lm' lc', .int .i64 h2.has.cpu, .int .i64 h2.has.mem, .int .i64 h2.has.gpu, .int .i64 h2.used.cpu, .int .i64 h2.used.mem, .int .i64 h2.used.gpu], u35, u36, u37, u38, u39, u40, u41, u42, u43, u44, u45, u46, u47, u48, u49, u50, u51, u52, u53, u54, u55, u56, undef], defers := [] } w := by
          intro w ca cc hHeld zca zcc necacc 
          rw [hG]
          refine wpAnyH_ready (rs := [4]) (by kernel_rfl) (by simp) ?_
          refine AllReadyH.cons rfl (fun K hK => ?_) (AllReadyH.nil)
          · go_simp
            go_at_call 6
            refine Calls.mono (HF1.out w hHeld) ?_
            rintro e w1 ⟨rfl, hb1⟩
            (try go_wp2_with fail)
            have hHeld1 := hHeld.trans (hb1.mono hHeld.size)
            refine hK.out _ _ hHeld1 (fun _ => ?_)
            clear hK K
            rw [← hG]
            try simp only [Act.put, List.setIfInBounds_toArray, List.set_cons_zero, List.set_cons_succ]
            exact HS111 w1 ca cc hHeld1 (zca.below hb1) (zcc.below hb1) necacc
        have HS101 : ∀ (w : World) (cc : Nat), Below wr.heap.size wr w → Zr wr.heap.size w cc → G 6 #[true, true, true, true, true, false, true, true, true, true, false, false, false, true, false, false] { tmps := #[.slice (some ⟨b, off, none⟩) n cap, .agg #[.int .i64 k, .string a1, .string a2, .int .i64 nu, .slice ad m cp], .agg #[.int .i64 A.cpu, .int .i64 A.mem, .int .i64 A.gpu], undef, .pointer (some ⟨c, 0, none⟩), .pointer (some ⟨c + 1, 0, none⟩), .int .i64 0, .int .i64 (mb : Int), undef, .int .i64 (i : Int), u10, .pointer (some ⟨cc, 0, none⟩), u12, .slice (some ⟨b, off, none⟩) n cap, .agg #[.int .i64 k, .string a1, .string a2, .int .i64 nu, .slice ad m cp], .agg #[.int .i64 A.cpu, .int .i64 A.mem, .int .i64 A.gpu], .slice (some ⟨fb, fo, none⟩) fn cp', .int .i64 (fn : Int), .int .i64 (j : Int), .bool true, .pointer (some ⟨fb, fo + j, none⟩), .int .i64 (i : Int), .int .i64 (mb : Int), .bool false, u24, .slice (some ⟨b, off, none⟩) n cap, .int .i64 (i : Int), .pointer (some ⟨b, off + i * 8, none⟩), .agg #[.string nm, .slice la lm lc, .int .i64 h1.has.cpu, .int .i64 h1.has.mem, .int .i64 h1.has.gpu, .int .i64 h1.used.cpu, .int .i64 h1.used.mem, .int .i64 h1.used.gpu], .agg #[.int .i64 P.cpu, .int .i64 P.mem, .int .i64 P.gpu], u30, .slice (some ⟨b, off, none⟩) n cap, .int .i64 (mb : Int), .pointer (some ⟨b, off + mb * 8, none⟩), .agg #[.string nm', .slice la' lm' lc', .int .i64 h2.has.cpu, .int .i64 h2.has.mem, .int .i64 h2.has.gpu, .int .i64 h2.used.cpu, .int .i64 h2.used.mem, .int .i64 h2.used.gpu], u35, u36, u37, u38, u39, u40, u41, u42, u43, u44, u45, u46, u47, u48, u49, u50, u51, u52, u53, u54, u55, u56, undef], defers := [] } w := by
          intro w cc hHeld zcc 
          rw [hG]
          refine wpAnyH_ready (rs := [5, 12]) (by kernel_rfl) (by simp) ?_
          refine AllReadyH.cons rfl (fun K hK => ?_) (AllReadyH.cons rfl (fun K hK => ?_) (AllReadyH.nil))
          · go_simp
            go_at_call 39
            refine Calls.mono (HA1.out w hHeld) ?_
            rintro e w1 ⟨rfl, hb1⟩
            (try go_wp2_with fail)
            have hHeld1 := hHeld.trans (hb1.mono hHeld.size)
            refine hK.out _ _ hHeld1 (fun _ => ?_)
            clear hK K
            rw [← hG]
            try simp only [Act.put, List.setIfInBounds_toArray, List.set_cons_zero, List.set_cons_succ]
            exact HS201 w1 cc hHeld1 (zcc.below hb1)
          · go_simp
            (try go_wp2_with fail)
            have hal : Below w.heap.size w (w.alloc (.cells #[.int .i64 0, .int .i64 0, .int .i64 0] 68)) := (Below.refl _ _).alloc (Nat.le_refl _) _
            have hHeld1 := hHeld.trans (hal.mono hHeld.size)
            refine hK.out _ _ hHeld1 (fun _ => ?_)
            clear hK K
            rw [← hG]
            try simp only [Act.put, List.setIfInBounds_toArray, List.set_cons_zero, List.set_cons_succ]
            exact HS111 (w.alloc (.cells #[.int .i64 0, .int .i64 0, .int .i64 0] 68)) w.heap.size cc hHeld1 (Zr.made hHeld.size _) (zcc.below hal) (Nat.ne_of_gt zcc.lt)
        have HS110 : ∀ (w : World) (ca : Nat), Below wr.heap.size wr w → Zr wr.heap.size w ca → G 6 #[true, true, true, true, true, false, true, true, true, true, false, false, true, false, false, false] { tmps := #[.slice (some ⟨b, off, none⟩) n cap, .agg #[.int .i64 k, .string a1, .string a2, .int .i64 nu, .slice ad m cp], .agg #[.int .i64 A.cpu, .int .i64 A.mem, .int .i64 A.gpu], undef, .pointer (some ⟨c, 0, none⟩), .pointer (some ⟨c + 1, 0, none⟩), .int .i64 0, .int .i64 (mb : Int), undef, .int .i64 (i : Int), .pointer (some ⟨ca, 0, none⟩), u11, u12, .slice (some ⟨b, off, none⟩) n cap, .agg #[.int .i64 k, .string a1, .string a2, .int .i64 nu, .slice ad m cp], .agg #[.int .i64 A.cpu, .int .i64 A.mem, .int .i64 A.gpu], .slice (some ⟨fb, fo, none⟩) fn cp', .int .i64 (fn : Int), .int .i64 (j : Int), .bool true, .pointer (some ⟨fb, fo + j, none⟩), .int .i64 (i : Int), .int .i64 (mb : Int), .bool false, u24, .slice (some ⟨b, off, none⟩) n cap, .int .i64 (i : Int), .pointer (some ⟨b, off + i * 8, none⟩), .agg #[.string nm, .slice la lm lc, .int .i64 h1.has.cpu, .int .i64 h1.has.mem, .int .i64 h1.has.gpu, .int .i64 h1.used.cpu, .int .i64 h1.used.mem, .int .i64 h1.used.gpu], .agg #[.int .i64 P.cpu, .int .i64 P.mem, .int .i64 P.gpu], u30, .slice (some ⟨b, off, none⟩) n cap, .int .i64 (mb : Int), .pointer (some ⟨b, off + mb * 8, none⟩), .agg #[.string nm', .slice la' lm' lc', .int .i64 h2.has.cpu, .int .i64 h2.has.mem, .int .i64 h2.has.gpu, .int .i64 h2.used.cpu, .int .i64 h2.used.mem, .int .i64 h2.used.gpu], u35, u36, u37, u38, u39, u40, u41, u42, u43, u44, u45, u46, u47, u48, u49, u50, u51, u52, u53, u54, u55, u56, undef], defers := [] } w := by
          intro w ca hHeld zca 
          rw [hG]
          refine wpAnyH_ready (rs := [5, 13]) (by kernel_rfl) (by simp) ?_
          refine AllReadyH.cons rfl (fun K hK => ?_) (AllReadyH.cons rfl (fun K hK => ?_) (AllReadyH.nil))
          · go_simp
            go_at_call 39
            refine Calls.mono (HA1.out w hHeld) ?_
            rintro e w1 ⟨rfl, hb1⟩
            (try go_wp2_with fail)
            have hHeld1 := hHeld.trans (hb1.mono hHeld.size)
            refine hK.out _ _ hHeld1 (fun _ => ?_)
            clear hK K
            rw [← hG]
            try simp only [Act.put, List.setIfInBounds_toArray, List.set_cons_zero, List.set_cons_succ]
            exact HS210 w1 ca hHeld1 (zca.below hb1)
          · go_simp
            (try go_wp2_with fail)
            have hal : Below w.heap.size w (w.alloc (.cells #[.int .i64 0, .int .i64 0, .int .i64 0] 68)) := (Below.refl _ _).alloc (Nat.le_refl _) _
            have hHeld1 := hHeld.trans (hal.mono hHeld.size)
            refine hK.out _ _ hHeld1 (fun _ => ?_)
            clear hK K
            rw [← hG]
            try simp only [Act.put, List.setIfInBounds_toArray, List.set_cons_zero, List.set_cons_succ]
            exact HS111 (w.alloc (.cells #[.int .i64 0, .int .i64 0, .int .i64 0] 68)) ca w.heap.size hHeld1 (zca.below hal) (Zr.made hHeld.size _) (Nat.ne_of_lt zca.lt)
        have HS200 : ∀ (w : World), Below wr.heap.size wr w → G 6 #[true, true, true, true, true, true, true, true, true, true, false, false, false, false, false, false] { tmps := #[.slice (some ⟨b, off, none⟩) n cap, .agg #[.int .i64 k, .string a1, .string a2, .int .i64 nu, .slice ad m cp], .agg #[.int .i64 A.cpu, .int .i64 A.mem, .int .i64 A.gpu], undef, .pointer (some ⟨c, 0, none⟩), .pointer (some ⟨c + 1, 0, none⟩), .int .i64 0, .int .i64 (mb : Int), undef, .int .i64 (i : Int), u10, u11, u12, .slice (some ⟨b, off, none⟩) n cap, .agg #[.int .i64 k, .string a1, .string a2, .int .i64 nu, .slice ad m cp], .agg #[.int .i64 A.cpu, .int .i64 A.mem, .int .i64 A.gpu], .slice (some ⟨fb, fo, none⟩) fn cp', .int .i64 (fn : Int), .int .i64 (j : Int), .bool true, .pointer (some ⟨fb, fo + j, none⟩), .int .i64 (i : Int), .int .i64 (mb : Int), .bool false, u24, .slice (some ⟨b, off, none⟩) n cap, .int .i64 (i : Int), .pointer (some ⟨b, off + i * 8, none⟩), .agg #[.string nm, .slice la lm lc, .int .i64 h1.has.cpu, .int .i64 h1.has.mem, .int .i64 h1.has.gpu, .int .i64 h1.used.cpu, .int .i64 h1.used.mem, .int .i64 h1.used.gpu], .agg #[.int .i64 P.cpu, .int .i64 P.mem, .int .i64 P.gpu], .agg #[.int .i64 P.cpu, .int .i64 P.mem, .int .i64 P.gpu], .slice (some ⟨b, off, none⟩) n cap, .int .i64 (mb : Int), .pointer (some ⟨b, off + mb * 8, none⟩), .agg #[.string nm', .slice la' lm' lc', .int .i64 h2.has.cpu, .int .i64 h2.has.mem, .int .i64 h2.has.gpu, .int .i64 h2.used.cpu, .int .i64 h2.used.mem, .int .i64 h2.used.gpu], u35, u36, u37, u38, u39, u40, u41, u42, u43, u44, u45, u46, u47, u48, u49, u50, u51, u52, u53, u54, u55, u56, undef], defers := [] } w := by
          intro w hHeld 
          rw [hG]
          refine wpAnyH_ready (rs := [10, 12, 13]) (by kernel_rfl) (by simp) ?_
          refine AllReadyH.cons rfl (fun K hK => ?_) (AllReadyH.cons rfl (fun K hK => ?_) (AllReadyH.cons rfl (fun K hK => ?_) (AllReadyH.nil)))
          · go_simp
            go_at_call 6
            refine Calls.mono (HF2.out w hHeld) ?_
            rintro e w1 ⟨rfl, hb1⟩
            (try go_wp2_with fail)
            have hHeld1 := hHeld.trans (hb1.mono hHeld.size)
            refine hK.out _ _ hHeld1 (fun _ => ?_)
            clear hK K
            rw [← hG]
            try simp only [Act.put, List.setIfInBounds_toArray, List.set_cons_zero, List.set_cons_succ]
            exact HS300 w1 hHeld1
          · go_simp
            (try go_wp2_with fail)
            have hal : Below w.heap.size w (w.alloc (.cells #[.int .i64 0, .int .i64 0, .int .i64 0] 68)) := (Below.refl _ _).alloc (Nat.le_refl _) _
            have hHeld1 := hHeld.trans (hal.mono hHeld.size)
            refine hK.out _ _ hHeld1 (fun _ => ?_)
            clear hK K
            rw [← hG]
            try simp only [Act.put, List.setIfInBounds_toArray, List.set_cons_zero, List.set_cons_succ]
            exact HS210 (w.alloc (.cells #[.int .i64 0, .int .i64 0, .int .i64 0] 68)) w.heap.size hHeld1 (Zr.made hHeld.size _)
          · go_simp
            (try go_wp2_with fail)
            have hal : Below w.heap.size w (w.alloc (.cells #[.int .i64 0, .int .i64 0, .int .i64 0] 68)) := (Below.refl _ _).alloc (Nat.le_refl _) _
            have hHeld1 := hHeld.trans (hal.mono hHeld.size)
            refine hK.out _ _ hHeld1 (fun _ => ?_)
            clear hK K
            rw [← hG]
            try simp only [Act.put, List.setIfInBounds_toArray, List.set_cons_zero, List.set_cons_succ]
            exact HS201 (w.alloc (.cells #[.int .i64 0, .int .i64 0, .int .i64 0] 68)) w.heap.size hHeld1 (Zr.made hHeld.size _)
        have HS001 : ∀ (w : World) (cc : Nat), Below wr.heap.size wr w → Zr wr.heap.size w cc → G 7 #[true, true, true, true, false, false, true, true, true, true, false, false, false, true, false, false] { tmps := #[.slice (some ⟨b, off, none⟩) n cap, .agg #[.int .i64 k, .string a1, .string a2, .int .i64 nu, .slice ad m cp], .agg #[.int .i64 A.cpu, .int .i64 A.mem, .int .i64 A.gpu], undef, .pointer (some ⟨c, 0, none⟩), .pointer (some ⟨c + 1, 0, none⟩), .int .i64 0, .int .i64 (mb : Int), undef, .int .i64 (i : Int), u10, .pointer (some ⟨cc, 0, none⟩), u12, .slice (some ⟨b, off, none⟩) n cap, .agg #[.int .i64 k, .string a1, .string a2, .int .i64 nu, .slice ad m cp], .agg #[.int .i64 A.cpu, .int .i64 A.mem, .int .i64 A.gpu], .slice (some ⟨fb, fo, none⟩) fn cp', .int .i64 (fn : Int), .int .i64 (j : Int), .bool true, .pointer (some ⟨fb, fo + j, none⟩), .int .i64 (i : Int), .int .i64 (mb : Int), .bool false, u24, .slice (some ⟨b, off, none⟩) n cap, .int .i64 (i : Int), .pointer (some ⟨b, off + i * 8, none⟩), .agg #[.string nm, .slice la lm lc, .int .i64 h1.has.cpu, .int .i64 h1.has.mem, .int .i64 h1.has.gpu, .int .i64 h1.used.cpu, .int .i64 h1.used.mem, .int .i64 h1.used.gpu], u29, u30, .slice (some ⟨b, off, none⟩) n cap, .int .i64 (mb : Int), .pointer (some ⟨b, off + mb * 8, none⟩), .agg #[.string nm', .slice la' lm' lc', .int .i64 h2.has.cpu, .int .i64 h2.has.mem, .int .i64 h2.has.gpu, .int .i64 h2.used.cpu, .int .i64 h2.used.mem, .int .i64 h2.used.gpu], u35, u36, u37, u38, u39, u40, u41, u42, u43, u44, u45, u46, u47, u48, u49, u50, u51, u52, u53, u54, u55, u56, undef], defers := [] } w := by
          intro w cc hHeld zcc 
          rw [hG]
          refine wpAnyH_ready (rs := [4, 12]) (by kernel_rfl) (by simp) ?_
          refine AllReadyH.cons rfl (fun K hK => ?_) (AllReadyH.cons rfl (fun K hK => ?_) (AllReadyH.nil))
          · go_simp
            go_at_call 6
            refine Calls.mono (HF1.out w hHeld) ?_
            rintro e w1 ⟨rfl, hb1⟩
            (try go_wp2_with fail)
            have hHeld1 := hHeld.trans (hb1.mono hHeld.size)
            refine hK.out _ _ hHeld1 (fun _ => ?_)
            clear hK K
            rw [← hG]
            try simp only [Act.put, List.setIfInBounds_toArray, List.set_cons_zero, List.set_cons_succ]
            exact HS101 w1 cc hHeld1 (zcc.below hb1)
          · go_simp
            (try go_wp2_with fail)
            have hal : Below w.heap.size w (w.alloc (.cells #[.int .i64 0, .int .i64 0, .int .i64 0] 68)) := (Below.refl _ _).alloc (Nat.le_refl _) _
            have hHeld1 := hHeld.trans (hal.mono hHeld.size)
            refine hK.out _ _ hHeld1 (fun _ => ?_)
            clear hK K
            rw [← hG]
            try simp only [Act.put, List.setIfInBounds_toArray, List.set_cons_zero, List.set_cons_succ]
            exact HS011 (w.alloc (.cells #[.int .i64 0, .int .i64 0, .int .i64 0] 68)) w.heap.size cc hHeld1 (Zr.made hHeld.size _) (zcc.below hal) (Nat.ne_of_gt zcc.lt)
        have HS010 : ∀ (w : World) (ca : Nat), Below wr.heap.size wr w → Zr wr.heap.size w ca → G 7 #[true, true, true, true, false, false, true, true, true, true, false, false, true, false, false, false] { tmps := #[.slice (some ⟨b, off, none⟩) n cap, .agg #[.int .i64 k, .string a1, .string a2, .int .i64 nu, .slice ad m cp], .agg #[.int .i64 A.cpu, .int .i64 A.mem, .int .i64 A.gpu], undef, .pointer (some ⟨c, 0, none⟩), .pointer (some ⟨c + 1, 0, none⟩), .int .i64 0, .int .i64 (mb : Int), undef, .int .i64 (i : Int), .pointer (some ⟨ca, 0, none⟩), u11, u12, .slice (some ⟨b, off, none⟩) n cap, .agg #[.int .i64 k, .string a1, .string a2, .int .i64 nu, .slice ad m cp], .agg #[.int .i64 A.cpu, .int .i64 A.mem, .int .i64 A.gpu], .slice (some ⟨fb, fo, none⟩) fn cp', .int .i64 (fn : Int), .int .i64 (j : Int), .bool true, .pointer (some ⟨fb, fo + j, none⟩), .int .i64 (i : Int), .int .i64 (mb : Int), .bool false, u24, .slice (some ⟨b, off, none⟩) n cap, .int .i64 (i : Int), .pointer (some ⟨b, off + i * 8, none⟩), .agg #[.string nm, .slice la lm lc, .int .i64 h1.has.cpu, .int .i64 h1.has.mem, .int .i64 h1.has.gpu, .int .i64 h1.used.cpu, .int .i64 h1.used.mem, .int .i64 h1.used.gpu], u29, u30, .slice (some ⟨b, off, none⟩) n cap, .int .i64 (mb : Int), .pointer (some ⟨b, off + mb * 8, none⟩), .agg #[.string nm', .slice la' lm' lc', .int .i64 h2.has.cpu, .int .i64 h2.has.mem, .int .i64 h2.has.gpu, .int .i64 h2.used.cpu, .int .i64 h2.used.mem, .int .i64 h2.used.gpu], u35, u36, u37, u38, u39, u40, u41, u42, u43, u44, u45, u46, u47, u48, u49, u50, u51, u52, u53, u54, u55, u56, undef], defers := [] } w := by
          intro w ca hHeld zca 
          rw [hG]
          refine wpAnyH_ready (rs := [4, 13]) (by kernel_rfl) (by simp) ?_
          refine AllReadyH.cons rfl (fun K hK => ?_) (AllReadyH.cons rfl (fun K hK => ?_) (AllReadyH.nil))
          · go_simp
            go_at_call 6
            refine Calls.mono (HF1.out w hHeld) ?_
            rintro e w1 ⟨rfl, hb1⟩
            (try go_wp2_with fail)
            have hHeld1 := hHeld.trans (hb1.mono hHeld.size)
            refine hK.out _ _ hHeld1 (fun _ => ?_)
            clear hK K
            rw [← hG]
            try simp only [Act.put, List.setIfInBounds_toArray, List.set_cons_zero, List.set_cons_succ]
            exact HS110 w1 ca hHeld1 (zca.below hb1)
          · go_simp
            (try go_wp2_with fail)
            have hal : Below w.heap.size w (w.alloc (.cells #[.int .i64 0, .int .i64 0, .int .i64 0] 68)) := (Below.refl _ _).alloc (Nat.le_refl _) _
            have hHeld1 := hHeld.trans (hal.mono hHeld.size)
            refine hK.out _ _ hHeld1 (fun _ => ?_)
            clear hK K
            rw [← hG]
            try simp only [Act.put, List.setIfInBounds_toArray, List.set_cons_zero, List.set_cons_succ]
            exact HS011 (w.alloc (.cells #[.int .i64 0, .int .i64 0, .int .i64 0] 68)) ca w.heap.size hHeld1 (zca.below hal) (Zr.made hHeld.size _) (Nat.ne_of_lt zca.lt)
        have HS100 : ∀ (w : World), Below wr.heap.size wr w → G 7 #[true, true, true, true, true, false, true, true, true, true, false, false, false, false, false, false] { tmps := #[.slice (some ⟨b, off, none⟩) n cap, .agg #[.int .i64 k, .string a1, .string a2, .int .i64 nu, .slice ad m cp], .agg #[.int .i64 A.cpu, .int .i64 A.mem, .int .i64 A.gpu], undef, .pointer (some ⟨c, 0, none⟩), .pointer (some ⟨c + 1, 0, none⟩), .int .i64 0, .int .i64 (mb : Int), undef, .int .i64 (i : Int), u10, u11, u12, .slice (some ⟨b, off, none⟩) n cap, .agg #[.int .i64 k, .string a1, .string a2, .int .i64 nu, .slice ad m cp], .agg #[.int .i64 A.cpu, .int .i64 A.mem, .int .i64 A.gpu], .slice (some ⟨fb, fo, none⟩) fn cp', .int .i64 (fn : Int), .int .i64 (j : Int), .bool true, .pointer (some ⟨fb, fo + j, none⟩), .int .i64 (i : Int), .int .i64 (mb : Int), .bool false, u24, .slice (some ⟨b, off, none⟩) n cap, .int .i64 (i : Int), .pointer (some ⟨b, off + i * 8, none⟩), .agg #[.string nm, .slice la lm lc, .int .i64 h1.has.cpu, .int .i64 h1.has.mem, .int .i64 h1.has.gpu, .int .i64 h1.used.cpu, .int .i64 h1.used.mem, .int .i64 h1.used.gpu], .agg #[.int .i64 P.cpu, .int .i64 P.mem, .int .i64 P.gpu], u30, .slice (some ⟨b, off, none⟩) n cap, .int .i64 (mb : Int), .pointer (some ⟨b, off + mb * 8, none⟩), .agg #[.string nm', .slice la' lm' lc', .int .i64 h2.has.cpu, .int .i64 h2.has.mem, .int .i64 h2.has.gpu, .int .i64 h2.used.cpu, .int .i64 h2.used.mem, .int .i64 h2.used.gpu], u35, u36, u37, u38, u39, u40, u41, u42, u43, u44, u45, u46, u47, u48, u49, u50, u51, u52, u53, u54, u55, u56, undef], defers := [] } w := by
          intro w hHeld 
          rw [hG]
          refine wpAnyH_ready (rs := [5, 12, 13]) (by kernel_rfl) (by simp) ?_
          refine AllReadyH.cons rfl (fun K hK => ?_) (AllReadyH.cons rfl (fun K hK => ?_) (AllReadyH.cons rfl (fun K hK => ?_) (AllReadyH.nil)))
          · go_simp
            go_at_call 39
            refine Calls.mono (HA1.out w hHeld) ?_
            rintro e w1 ⟨rfl, hb1⟩
            (try go_wp2_with fail)
            have hHeld1 := hHeld.trans (hb1.mono hHeld.size)
            refine hK.out _ _ hHeld1 (fun _ => ?_)
            clear hK K
            rw [← hG]
            try simp only [Act.put, List.setIfInBounds_toArray, List.set_cons_zero, List.set_cons_succ]
            exact HS200 w1 hHeld1
          · go_simp
            (try go_wp2_with fail)
            have hal : Below w.heap.size w (w.alloc (.cells #[.int .i64 0, .int .i64 0, .int .i64 0] 68)) := (Below.refl _ _).alloc (Nat.le_refl _) _
            have hHeld1 := hHeld.trans (hal.mono hHeld.size)
            refine hK.out _ _ hHeld1 (fun _ => ?_)
            clear hK K
            rw [← hG]
            try simp only [Act.put, List.setIfInBounds_toArray, List.set_cons_zero, List.set_cons_succ]
            exact HS110 (w.alloc (.cells #[.int .i64 0, .int .i64 0, .int .i64 0] 68)) w.heap.size hHeld1 (Zr.made hHeld.size _)
          · go_simp
            (try go_wp2_with fail)
            have hal : Below w.heap.size w (w.alloc (.cells #[.int .i64 0, .int .i64 0, .int .i64 0] 68)) := (Below.refl _ _).alloc (Nat.le_refl _) _
            have hHeld1 := hHeld.trans (hal.mono hHeld.size)
            refine hK.out _ _ hHeld1 (fun _ => ?_)
            clear hK K
            rw [← hG]
            try simp only [Act.put, List.setIfInBounds_toArray, List.set_cons_zero, List.set_cons_succ]
            exact HS101 (w.alloc (.cells #[.int .i64 0, .int .i64 0, .int .i64 0] 68)) w.heap.size hHeld1 (Zr.made hHeld.size _)
        have HS000 : ∀ (w : World), Below wr.heap.size wr w → G 8 #[true, true, true, true, false, false, true, true, true, true, false, false, false, false, false, false] { tmps := #[.slice (some ⟨b, off, none⟩) n cap, .agg #[.int .i64 k, .string a1, .string a2, .int .i64 nu, .slice ad m cp], .agg #[.int .i64 A.cpu, .int .i64 A.mem, .int .i64 A.gpu], undef, .pointer (some ⟨c, 0, none⟩), .pointer (some ⟨c + 1, 0, none⟩), .int .i64 0, .int .i64 (mb : Int), undef, .int .i64 (i : Int), u10, u11, u12, .slice (some ⟨b, off, none⟩) n cap, .agg #[.int .i64 k, .string a1, .string a2, .int .i64 nu, .slice ad m cp], .agg #[.int .i64 A.cpu, .int .i64 A.mem, .int .i64 A.gpu], .slice (some ⟨fb, fo, none⟩) fn cp', .int .i64 (fn : Int), .int .i64 (j : Int), .bool true, .pointer (some ⟨fb, fo + j, none⟩), .int .i64 (i : Int), .int .i64 (mb : Int), .bool false, u24, .slice (some ⟨b, off, none⟩) n cap, .int .i64 (i : Int), .pointer (some ⟨b, off + i * 8, none⟩), .agg #[.string nm, .slice la lm lc, .int .i64 h1.has.cpu, .int .i64 h1.has.mem, .int .i64 h1.has.gpu, .int .i64 h1.used.cpu, .int .i64 h1.used.mem, .int .i64 h1.used.gpu], u29, u30, .slice (some ⟨b, off, none⟩) n cap, .int .i64 (mb : Int), .pointer (some ⟨b, off + mb * 8, none⟩), .agg #[.string nm', .slice la' lm' lc', .int .i64 h2.has.cpu, .int .i64 h2.has.mem, .int .i64 h2.has.gpu, .int .i64 h2.used.cpu, .int .i64 h2.used.mem, .int .i64 h2.used.gpu], u35, u36, u37, u38, u39, u40, u41, u42, u43, u44, u45, u46, u47, u48, u49, u50, u51, u52, u53, u54, u55, u56, undef], defers := [] } w := by
          intro w hHeld 
          rw [hG]
          refine wpAnyH_ready (rs := [4, 12, 13]) (by kernel_rfl) (by simp) ?_
          refine AllReadyH.cons rfl (fun K hK => ?_) (AllReadyH.cons rfl (fun K hK => ?_) (AllReadyH.cons rfl (fun K hK => ?_) (AllReadyH.nil)))
          · go_simp
            go_at_call 6
            refine Calls.mono (HF1.out w hHeld) ?_
            rintro e w1 ⟨rfl, hb1⟩
            (try go_wp2_with fail)
            have hHeld1 := hHeld.trans (hb1.mono hHeld.size)
            refine hK.out _ _ hHeld1 (fun _ => ?_)
            clear hK K
            rw [← hG]
            try simp only [Act.put, List.setIfInBounds_toArray, List.set_cons_zero, List.set_cons_succ]
            exact HS100 w1 hHeld1
          · go_simp
            (try go_wp2_with fail)
            have hal : Below w.heap.size w (w.alloc (.cells #[.int .i64 0, .int .i64 0, .int .i64 0] 68)) := (Below.refl _ _).alloc (Nat.le_refl _) _
            have hHeld1 := hHeld.trans (hal.mono hHeld.size)
            refine hK.out _ _ hHeld1 (fun _ => ?_)
            clear hK K
            rw [← hG]
            try simp only [Act.put, List.setIfInBounds_toArray, List.set_cons_zero, List.set_cons_succ]
            exact HS010 (w.alloc (.cells #[.int .i64 0, .int .i64 0, .int .i64 0] 68)) w.heap.size hHeld1 (Zr.made hHeld.size _)
          · go_simp
            (try go_wp2_with fail)
            have hal : Below w.heap.size w (w.alloc (.cells #[.int .i64 0, .int .i64 0, .int .i64 0] 68)) := (Below.refl _ _).alloc (Nat.le_refl _) _
            have hHeld1 := hHeld.trans (hal.mono hHeld.size)
            refine hK.out _ _ hHeld1 (fun _ => ?_)
            clear hK K
            rw [← hG]
            try simp only [Act.put, List.setIfInBounds_toArray, List.set_cons_zero, List.set_cons_succ]
            exact HS001 (w.alloc (.cells #[.int .i64 0, .int .i64 0, .int .i64 0] 68)) w.heap.size hHeld1 (Zr.made hHeld.size _)
        exact HS000 _ hHeld
    · obtain rfl : j = fn := by omega
      have HR : Hid (bestL L l = ob) := Lib.hid (by rw [HD.out, List.drop_eq_nil_of_le (by rw [HFN.out]; exact Nat.le_refl _)]; cases ob <;> rfl)
      go_wp2_with fail
      go_ret
      exact ⟨by rw [HR.out]; rfl, HB1.out.trans (HB.out.mono HB1.out.size)⟩
end Go.Proofs.Ytnfmopmcckgfdaa
