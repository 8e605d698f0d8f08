/- Contract: job.Text. -/
import Derived.Test.YtkemlckmfgacdaaGreatDoorJnP12
import Derived.Test.YtkemlckmfgacdaaGreatDoorJnP13
import Derived.Test.YtkemlckmfgacdaaGreatDoorJnP16
import Derived.Test.YtkemlckmfgacdaaGreatDoorJnP19
import Derived.Deep.RegionHeld3
namespace Go.Proofs.YtkemlckmfgacdaaGreatDoor
set_option maxRecDepth 20000
set_option maxHeartbeats 64000000
open Go.ChangeShapes Go.WideShapes Go.ChangeAt Go.RowKit
set_option linter.unusedVariables false
set_option linter.unusedSimpArgs false
open Tp Jm
def jobTxt (j : Jb) : ByteArray := if j.fault = 0 then bts j.text else ⟨#[]⟩
theorem join5 (a b c d e : Bs) : Lib.join [a, b, c, d, e] [32] = a ++ 32 :: (b ++ 32 :: (c ++ 32 :: (d ++ 32 :: e))) := by
 rw [Lib.join_cons]
 simp [Lib.joinTail]
theorem needText_len {a b c : Int} (h : needB a b c = true) : (Nt.needText (a.toNat, b.toNat, c.toNat)).length ≤ 72 := by
 have := txtN_len (can_of h) 3 lr
 rw [needText_txt]
 split
 ·simp
 ·omega
theorem aftT_len {l : List Int} (h8 : l.length ≤ 8) (hb : ∀ m, m ∈ l → 1 ≤ m ∧ m ≤ 60) : (aftT l).length ≤ 24 := by
 unfold aftT
 split
 ·simp
 ·have := joinC_len (m := 2) (l.map Nt.decI) (decs_len l hb)
  rw [List.length_map] at this
  omega
theorem decI_len {n : Int} (h0 : -1000 ≤ n) (h1 : n ≤ 1000) : (Nt.decI n).length ≤ 5 := by
 unfold Nt.decI
 split
 ·have := Nt.dec_len 3 n.natAbs (by omega)
  simp only [List.length_cons]; omega
 ·have := Nt.dec_len 3 n.toNat (by omega)
  omega
theorem lab_le {u : Bs} (h : lab u = true) : u.length ≤ 20 := by
 by_cases hl : u.length < 1 ∨ 20 < u.length
 ·rw [lab_len hl] at h; cases h
 ·omega
theorem text_sizes {j : Jb} (h : j.fault = 0) : j.user.length ≤ 20 ∧ (Nt.decI j.prio).length ≤ 5 ∧ (Nt.needText (j.a.toNat, j.b.toNat, j.c.toNat)).length ≤ 72 ∧ (aftT j.after).length ≤ 24 ∧ (Ar.txt j.ask).length ≤ 2700 := by
 obtain ⟨h1, h2, h3, h4, h5, h6⟩ := fault_parts h
 refine ⟨lab_le h1, decI_len h2.1 h2.2, needText_len h3, aftT_len h5 (aftE_at _ _ h6), ?_⟩
 have hg := Ar.fault_good h4
 have := Ar.txt_len j.ask.size j.ask lr (by have h := h4; unfold Ask.fault at h; rw [if_neg (by have := hg.2; omega)] at h; exact h)
 omega
theorem jobText_any (j : Jb) (v : Value) (w : World) (hs : j.ask.size ≤ 1000000000) (he : Env w) (hv : JobV w j v) : Calls Tryz.prog 6 #[v] w fun e w' => e = .returned (.tuple #[.string (jobTxt j), .int .i64 j.fault]) ∧ Below w.heap.size w w' := by
 obtain ⟨x0, x1, x2, x3, xd, xl, xc, aa, ac, rfl, hp⟩ := hv
 unfold jobVal
 obtain ⟨u, P, a, b, c, x, l⟩ := j
 simp only at hp hs ⊢
 obtain ⟨U, hU⟩ : ∃ U, bts u = U := ⟨_, rfl⟩
 obtain ⟨n, hn⟩ : ∃ n, l.length = n := ⟨_, rfl⟩
 rw [hU, hn]
 obtain ⟨B, hB⟩ : ∃ B, B = w.heap.size := ⟨_, rfl⟩
 obtain ⟨W0, hW0⟩ : ∃ W, W = w.alloc (.cells #[.string U, .int .i64 P, .int .i64 a, .int .i64 b, .int .i64 c, .int .i64 x0, .string x1, .string x2, .int .i64 x3, .slice xd xl xc, .slice aa n ac] 29) := ⟨_, rfl⟩
 have hb0 : Below w.heap.size w W0 := be0 hW0
 have b0 : W0.cell? ⟨B, 0, none⟩ = some (.string U) := by rw [hW0]; exact (cell_top _ _ _ _ _ hB).trans rfl
 have b1 : W0.cell? ⟨B, 1, none⟩ = some (.int .i64 P) := by rw [hW0]; exact (cell_top _ _ _ _ _ hB).trans rfl
 have b2 : W0.cell? ⟨B, 2, none⟩ = some (.int .i64 a) := by rw [hW0]; exact (cell_top _ _ _ _ _ hB).trans rfl
 have b3 : W0.cell? ⟨B, 3, none⟩ = some (.int .i64 b) := by rw [hW0]; exact (cell_top _ _ _ _ _ hB).trans rfl
 have b4 : W0.cell? ⟨B, 4, none⟩ = some (.int .i64 c) := by rw [hW0]; exact (cell_top _ _ _ _ _ hB).trans rfl
 have b5 : W0.cell? ⟨B, 5, none⟩ = some (.int .i64 x0) := by rw [hW0]; exact (cell_top _ _ _ _ _ hB).trans rfl
 have b6 : W0.cell? ⟨B, 6, none⟩ = some (.string x1) := by rw [hW0]; exact (cell_top _ _ _ _ _ hB).trans rfl
 have b7 : W0.cell? ⟨B, 7, none⟩ = some (.string x2) := by rw [hW0]; exact (cell_top _ _ _ _ _ hB).trans rfl
 have b8 : W0.cell? ⟨B, 8, none⟩ = some (.int .i64 x3) := by rw [hW0]; exact (cell_top _ _ _ _ _ hB).trans rfl
 have b9 : W0.cell? ⟨B, 9, none⟩ = some (.slice xd xl xc) := by rw [hW0]; exact (cell_top _ _ _ _ _ hB).trans rfl
 have b10 : W0.cell? ⟨B, 10, none⟩ = some (.slice aa n ac) := by rw [hW0]; exact (cell_top _ _ _ _ _ hB).trans rfl
 have hBl : B < W0.heap.size := by rw [hW0, hB]; simp
 have HB0 := hid hb0
 have HEV : Hid (∀ W, Below w.heap.size w W → Env W) := hid (fun W h => he.below h lr)
 have HCK : Hid (Calls Tryz.prog 9 #[.agg #[.string U, .int .i64 P, .int .i64 a, .int .i64 b, .int .i64 c, .int .i64 x0, .string x1, .string x2, .int .i64 x3, .slice xd xl xc, .slice aa n ac]] W0 fun e w' => e = .returned (.int .i64 (Jb.mk u P a b c x l).fault) ∧ Below W0.heap.size W0 w') := hid (by
  have := jobCheck_any (Jb.mk u P a b c x l) _ W0 hs ⟨x0, x1, x2, x3, xd, xl, xc, aa, ac, rfl, hp.below hb0⟩
  unfold jobVal at this
  rw [hU, hn] at this
  exact this)
 obtain ⟨F, hF⟩ : ∃ F, (Jb.mk u P a b c x l).fault = F := ⟨_, rfl⟩
 have HF := hid hF
 obtain ⟨T, hT⟩ : ∃ T, jobTxt (Jb.mk u P a b c x l) = T := ⟨_, rfl⟩
 have HT := hid hT
 rw [hF] at HCK
 rw [hF, hT]
 have HTX : Hid (∀ W, Below w.heap.size w W → Calls Tryz.prog 26 #[.agg #[.int .i64 a, .int .i64 b, .int .i64 c]] W fun e w' => e = .returned (.tuple #[.string (txtOf a b c), .int .i64 (needE a b c)]) ∧ Below W.heap.size W w') := hid (fun W h => Text_any a b c W (HEV.out W h))
 have HAX : Hid (∀ W, Below w.heap.size w W → Calls Tryz.prog 27 #[.agg #[.int .i64 x0, .string x1, .string x2, .int .i64 x3, .slice xd xl xc]] W fun e w' => e = .returned (.tuple #[.string (askTxtOf x), .int .i64 x.fault]) ∧ Below W.heap.size W w') := hid (fun W h => askText_any x _ W hs (HEV.out W h) (AskV.below h _ _ hp.ask))
 have HVV : Hid (∀ W, Below w.heap.size w W → Vals W aa (ints l)) := hid (fun W h => hp.aft.below h lr)
 by_cases hf0 : F = 0
 ·have hft : (Jb.mk u P a b c x l).fault = 0 := hF.trans hf0
  obtain ⟨g1, g2, g3, g4, g5, g6⟩ := fault_parts hft
  simp only at g1 g2 g3 g4 g5 g6
  obtain ⟨s1, s2, s3, s4, s5⟩ := text_sizes hft
  simp only at s1 s2 s3 s4 s5
  have hgb := aftE_at l 0 g6
  obtain ⟨N, hN⟩ : ∃ N, bts (Nt.needText (a.toNat, b.toNat, c.toNat)) = N := ⟨_, rfl⟩
  obtain ⟨X, hX⟩ : ∃ N, bts (Ar.txt x) = N := ⟨_, rfl⟩
  obtain ⟨Dp, hDp⟩ : ∃ N, bts (Nt.decI P) = N := ⟨_, rfl⟩
  obtain ⟨Af, hAf⟩ : ∃ N, bts (aftT l) = N := ⟨_, rfl⟩
  rw [show txtOf a b c = N by rw [← hN]; unfold txtOf; rw [g3]; rfl] at HTX
  rw [show needE a b c = 0 by unfold needE; rw [g3]; rfl] at HTX
  rw [show askTxtOf x = X by rw [← hX]; unfold askTxtOf; rw [if_pos g4], g4] at HAX
  have HIT : Hid (∀ W, Below w.heap.size w W → Calls Tryz.prog 29 #[.int .i64 P] W fun e w' => e = .returned (.string Dp) ∧ Below W.heap.size W w') := hid (fun W h => by rw [← hDp]; exact Itoa_any P W (by omega) (by omega) (HEV.out W h))
  have HAF : Hid (∀ W, Below w.heap.size w W → Calls Tryz.prog 30 #[.slice aa n ac] W fun e w' => e = .returned (.string Af) ∧ Below W.heap.size W w') := hid (fun W h => by rw [← hAf]; exact after_any l aa n ac W hn (by omega) hgb (HEV.out W h) (HVV.out W h))
  have HJN : Hid (∀ W : World, Calls Tryz.prog 28 #[.slice (some ⟨W.heap.size, 0, none⟩) 5 5, .string ⟨#[32]⟩] (W.alloc (.cells #[.string U, .string Dp, .string N, .string Af, .string X] 9)) fun e w' => e = .returned (.string T) ∧ Below (W.alloc (.cells #[.string U, .string Dp, .string N, .string Af, .string X] 9)).heap.size (W.alloc (.cells #[.string U, .string Dp, .string N, .string Af, .string X] 9)) w') := hid (fun W => by
   have ej : Lib.join (([U, Dp, N, Af, X] : List ByteArray).map (·.data.toList)) (bts [32]).data.toList = (Jb.mk u P a b c x l).text := by
    rw [← hU, ← hN, ← hX, ← hDp, ← hAf]
    exact join5 _ _ _ _ _
   have h := Tryz.strings_Join W.heap.size 0 5 [U, Dp, N, Af, X] (bts [32]) (W.alloc (.cells #[.string U, .string Dp, .string N, .string Af, .string X] 9)) (fun k y hk => by
    rw [cell_top _ _ _ _ _ rfl, Nat.zero_add]
    match k, hk with
    | 0, hk => cases hk; rfl
    | 1, hk => cases hk; rfl
    | 2, hk => cases hk; rfl
    | 3, hk => cases hk; rfl
    | 4, hk => cases hk; rfl) (by simp) (by simp) (by simp) (by
    rw [ej]
    unfold Jb.text
    simp only [List.length_append, List.length_cons]
    omega)
   rw [ej] at h
   rw [← HT.out, show jobTxt (Jb.mk u P a b c x l) = bts (Jb.mk u P a b c x l).text by unfold jobTxt; rw [if_pos hft]]
   exact h)
  subst hf0
  clear hp hs he hU hn hF hT hft g1 g2 g3 g4 g5 g6 s1 s2 s3 s4 s5 hgb hN hX hDp hAf hb0
  go_enter Tryz.func6, Tryz.ntmps6
  go_upto_region 1 with fail
  rw [← hW0, ← hB]
  clear hW0 hB
  go_wp2_with fail
  refine Calls.mono (HCK.out) ?_
  rintro e W1 ⟨rfl, hbn⟩
  have HB1 := hid (HB0.out.trans (hbn.mono HB0.out.size))
  have qq := below11 hbn hBl b0 b1 b2 b3 b4 b5 b6 b7 b8 b9 b10
  clear b0 b1 b2 b3 b4 b5 b6 b7 b8 b9 b10
  obtain ⟨b0, b1, b2, b3, b4, b5, b6, b7, b8, b9, b10⟩ := qq
  replace hBl := Nat.lt_of_lt_of_le hBl hbn.size
  clear hbn
  go_wp2_with fail
  refine Calls.mono (HTX.out W1 HB1.out) ?_
  rintro e W2 ⟨rfl, hbn⟩
  have HB2 := hid (HB1.out.trans (hbn.mono HB1.out.size))
  have qq := below11 hbn hBl b0 b1 b2 b3 b4 b5 b6 b7 b8 b9 b10
  clear b0 b1 b2 b3 b4 b5 b6 b7 b8 b9 b10
  obtain ⟨b0, b1, b2, b3, b4, b5, b6, b7, b8, b9, b10⟩ := qq
  replace hBl := Nat.lt_of_lt_of_le hBl hbn.size
  clear hbn
  go_wp2_with fail
  refine Calls.mono (HAX.out W2 HB2.out) ?_
  rintro e W3 ⟨rfl, hbn⟩
  have HB3 := hid (HB2.out.trans (hbn.mono HB2.out.size))
  have qq := below11 hbn hBl b0 b1 b2 b3 b4 b5 b6 b7 b8 b9 b10
  clear b0 b1 b2 b3 b4 b5 b6 b7 b8 b9 b10
  obtain ⟨b0, b1, b2, b3, b4, b5, b6, b7, b8, b9, b10⟩ := qq
  replace hBl := Nat.lt_of_lt_of_le hBl hbn.size
  clear hbn
  go_upto_region 6 with fail
  refine wp_region_held_drew (S := fun W => Below W3.heap.size W3 W) (by kernel_rfl) ((Below.refl _ _).drew) (fun hHeld => ?_)
  refine wpAnyH_take (i := 0) (v := ?vb1b0x1) rfl (by kernel_rfl) (by kernel_rfl) (by kernel_rfl) (fun _ _ _ h => h) (Or.inl ⟨by rfl, ?hyb1b0x1⟩) (by assumption) ?restb1b0x1
  case hyb1b0x1 =>
   intro w hSw
   (try dsimp only at hSw)
   go_simp
   (try with_reducible rfl)
  change wpAnyH _ _ _ _ _ _ _ (Act.put _ (some 26) _) _
  try simp only [Act.put, qa1, qa2, qa3]
  refine wpAnyH_take (i := 1) (v := ?vb1b1x2) rfl (by kernel_rfl) (by kernel_rfl) (by kernel_rfl) (fun _ _ _ h => h) (Or.inl ⟨by rfl, ?hyb1b1x2⟩) (by assumption) ?restb1b1x2
  case hyb1b1x2 =>
   intro w hSw
   (try dsimp only at hSw)
   have b0 := (hSw.cell (p := ⟨B, 0, none⟩) hBl).trans b0
   have b1 := (hSw.cell (p := ⟨B, 1, none⟩) hBl).trans b1
   have b2 := (hSw.cell (p := ⟨B, 2, none⟩) hBl).trans b2
   have b3 := (hSw.cell (p := ⟨B, 3, none⟩) hBl).trans b3
   have b4 := (hSw.cell (p := ⟨B, 4, none⟩) hBl).trans b4
   have b5 := (hSw.cell (p := ⟨B, 5, none⟩) hBl).trans b5
   have b6 := (hSw.cell (p := ⟨B, 6, none⟩) hBl).trans b6
   have b7 := (hSw.cell (p := ⟨B, 7, none⟩) hBl).trans b7
   have b8 := (hSw.cell (p := ⟨B, 8, none⟩) hBl).trans b8
   have b9 := (hSw.cell (p := ⟨B, 9, none⟩) hBl).trans b9
   have b10 := (hSw.cell (p := ⟨B, 10, none⟩) hBl).trans b10
   go_simp
   (try with_reducible rfl)
  change wpAnyH _ _ _ _ _ _ _ (Act.put _ (some 27) _) _
  try simp only [Act.put, qa1, qa2, qa3]
  refine wpAnyH_take (i := 2) (v := ?vb1b2x3) rfl (by kernel_rfl) (by kernel_rfl) (by kernel_rfl) (fun _ _ _ h => h) (Or.inl ⟨by rfl, ?hyb1b2x3⟩) (by assumption) ?restb1b2x3
  case hyb1b2x3 =>
   intro w hSw
   (try dsimp only at hSw)
   go_simp
   (try with_reducible rfl)
  change wpAnyH _ _ _ _ _ _ _ (Act.put _ (some 28) _) _
  try simp only [Act.put, qa1, qa2, qa3]
  refine wpAnyH_take (i := 3) (v := ?vb1b3x4) rfl (by kernel_rfl) (by kernel_rfl) (by kernel_rfl) (fun _ _ _ h => h) (Or.inl ⟨by rfl, ?hyb1b3x4⟩) (by assumption) ?restb1b3x4
  case hyb1b3x4 =>
   intro w hSw
   (try dsimp only at hSw)
   have b0 := (hSw.cell (p := ⟨B, 0, none⟩) hBl).trans b0
   have b1 := (hSw.cell (p := ⟨B, 1, none⟩) hBl).trans b1
   have b2 := (hSw.cell (p := ⟨B, 2, none⟩) hBl).trans b2
   have b3 := (hSw.cell (p := ⟨B, 3, none⟩) hBl).trans b3
   have b4 := (hSw.cell (p := ⟨B, 4, none⟩) hBl).trans b4
   have b5 := (hSw.cell (p := ⟨B, 5, none⟩) hBl).trans b5
   have b6 := (hSw.cell (p := ⟨B, 6, none⟩) hBl).trans b6
   have b7 := (hSw.cell (p := ⟨B, 7, none⟩) hBl).trans b7
   have b8 := (hSw.cell (p := ⟨B, 8, none⟩) hBl).trans b8
   have b9 := (hSw.cell (p := ⟨B, 9, none⟩) hBl).trans b9
   have b10 := (hSw.cell (p := ⟨B, 10, none⟩) hBl).trans b10
   go_simp
   (try with_reducible rfl)
  change wpAnyH _ _ _ _ _ _ _ (Act.put _ (some 29) _) _
  try simp only [Act.put, qa1, qa2, qa3]
  refine wpAnyH_take (i := 5) (v := ?vb1b5x5) rfl (by kernel_rfl) (by kernel_rfl) (by kernel_rfl) (fun _ _ _ h => h) (Or.inl ⟨by rfl, ?hyb1b5x5⟩) (by assumption) ?restb1b5x5
  case hyb1b5x5 =>
   intro w hSw
   (try dsimp only at hSw)
   go_simp
   (try with_reducible rfl)
  change wpAnyH _ _ _ _ _ _ _ (Act.put _ (some 31) _) _
  try simp only [Act.put, qa1, qa2, qa3]
  refine wpAnyH_take (i := 6) (v := ?vb1b6x6) rfl (by kernel_rfl) (by kernel_rfl) (by kernel_rfl) (fun _ _ _ h => h) (Or.inl ⟨by rfl, ?hyb1b6x6⟩) (by assumption) ?restb1b6x6
  case hyb1b6x6 =>
   intro w hSw
   (try dsimp only at hSw)
   go_simp
   (try with_reducible rfl)
  change wpAnyH _ _ _ _ _ _ _ (Act.put _ (some 32) _) _
  try simp only [Act.put, qa1, qa2, qa3]
  refine wpAnyH_take (i := 7) (v := ?vb1b7x7) rfl (by kernel_rfl) (by kernel_rfl) (by kernel_rfl) (fun _ _ _ h => h) (Or.inl ⟨by rfl, ?hyb1b7x7⟩) (by assumption) ?restb1b7x7
  case hyb1b7x7 =>
   intro w hSw
   (try dsimp only at hSw)
   have b0 := (hSw.cell (p := ⟨B, 0, none⟩) hBl).trans b0
   have b1 := (hSw.cell (p := ⟨B, 1, none⟩) hBl).trans b1
   have b2 := (hSw.cell (p := ⟨B, 2, none⟩) hBl).trans b2
   have b3 := (hSw.cell (p := ⟨B, 3, none⟩) hBl).trans b3
   have b4 := (hSw.cell (p := ⟨B, 4, none⟩) hBl).trans b4
   have b5 := (hSw.cell (p := ⟨B, 5, none⟩) hBl).trans b5
   have b6 := (hSw.cell (p := ⟨B, 6, none⟩) hBl).trans b6
   have b7 := (hSw.cell (p := ⟨B, 7, none⟩) hBl).trans b7
   have b8 := (hSw.cell (p := ⟨B, 8, none⟩) hBl).trans b8
   have b9 := (hSw.cell (p := ⟨B, 9, none⟩) hBl).trans b9
   have b10 := (hSw.cell (p := ⟨B, 10, none⟩) hBl).trans b10
   go_simp
   (try with_reducible rfl)
  change wpAnyH _ _ _ _ _ _ _ (Act.put _ (some 33) _) _
  try simp only [Act.put, qa1, qa2, qa3]
  refine wpAnyH_take (i := 9) (v := ?vb1b9x8) rfl (by kernel_rfl) (by kernel_rfl) (by kernel_rfl) (fun _ _ _ h => h) (Or.inl ⟨by rfl, ?hyb1b9x8⟩) (by assumption) ?restb1b9x8
  case hyb1b9x8 =>
   intro w hSw
   (try dsimp only at hSw)
   go_simp
   (try with_reducible rfl)
  change wpAnyH _ _ _ _ _ _ _ (Act.put _ (some 35) _) _
  try simp only [Act.put, qa1, qa2, qa3]
  refine wpAnyH_ready (rs := [4]) (by kernel_rfl) (by simp) ?_
  refine AllReadyH.cons rfl (fun K hK => ?_) AllReadyH.nil
  go_simp
  go_at_call 29
  refine Calls.mono (HIT.out _ (HB3.out.trans (hHeld.mono HB3.out.size))) ?_
  rintro e w1 ⟨rfl, hb1⟩
  (try go_wp2_with fail)
  refine hK.out _ _ (hHeld.trans (hb1.mono hHeld.size)) (fun hHeld => ?_)
  clear hK K
  try simp only [Act.put, qa1, qa2, qa3]
  refine wpAnyH_ready (rs := [8]) (by kernel_rfl) (by simp) ?_
  refine AllReadyH.cons rfl (fun K hK => ?_) AllReadyH.nil
  go_simp
  go_at_call 30
  refine Calls.mono (HAF.out _ (HB3.out.trans (hHeld.mono HB3.out.size))) ?_
  rintro e w2 ⟨rfl, hb2⟩
  (try go_wp2_with fail)
  refine hK.out _ _ (hHeld.trans (hb2.mono hHeld.size)) (fun hHeld => ?_)
  clear hK K
  try simp only [Act.put, qa1, qa2, qa3]
  refine wpAnyH_ready (rs := [10]) (by kernel_rfl) (by simp) ?_
  refine AllReadyH.cons rfl (fun K hK => ?_) AllReadyH.nil
  go_simp
  (try go_wp2_with fail)
  refine hK.out _ _ (hHeld.alloc hHeld.size _) (fun hHeld => ?_)
  clear hK K
  try simp only [Act.put, qa1, qa2, qa3]
  refine wpAnyH_ready (rs := [11]) (by kernel_rfl) (by simp) ?_
  refine AllReadyH.cons rfl (fun K hK => ?_) AllReadyH.nil
  go_simp
  go_at_call 28
  refine Calls.mono (HJN.out _) ?_
  rintro e w3 ⟨rfl, hb3⟩
  (try go_wp2_with fail)
  refine hK.out _ _ (hHeld.trans (hb3.mono hHeld.size)) (fun hHeld => ?_)
  clear hK K
  try simp only [Act.put, qa1, qa2, qa3]
  refine wpAnyH_take (i := 12) (v := ?vb1b12x9) rfl (by kernel_rfl) (by kernel_rfl) (by kernel_rfl) (fun _ _ _ h => h) (Or.inl ⟨by rfl, ?hyb1b12x9⟩) (by assumption) ?restb1b12x9
  case hyb1b12x9 =>
   intro w hSw
   (try dsimp only at hSw)
   go_simp
   (try with_reducible rfl)
  change wpAnyH _ _ _ _ _ _ _ (Act.put _ (some 2) _) _
  try simp only [Act.put, qa1, qa2, qa3]
  refine wpAnyH_take (i := 13) (v := ?vb1b13x10) rfl (by kernel_rfl) (by kernel_rfl) (by kernel_rfl) (fun _ _ _ h => h) (Or.inl ⟨by rfl, ?hyb1b13x10⟩) (by assumption) ?restb1b13x10
  case hyb1b13x10 =>
   intro w hSw
   (try dsimp only at hSw)
   go_simp
   (try with_reducible rfl)
  change wpAnyH _ _ _ _ _ _ _ (Act.put _ (some 3) _) _
  try simp only [Act.put, qa1, qa2, qa3]
  refine wpAnyH_done (by kernel_rfl) ?_ _
  go_wp2_with fail
  go_ret2
  exact ⟨rfl, HB3.out.trans (hHeld.mono HB3.out.size)⟩
 ·obtain rfl : T = ⟨#[]⟩ := by rw [← hT]; unfold jobTxt; rw [if_neg (by rw [hF]; exact hf0)]
  have hz : (F == 0) = false := by simpa using hf0
  have hz2 : (F != 0) = true := by simpa using hf0
  clear hp hs he hU hn hF hT hf0 hb0
  go_enter Tryz.func6, Tryz.ntmps6
  go_upto_region 1 with fail
  rw [← hW0, ← hB]
  clear hW0 hB
  go_wp2_with fail
  refine Calls.mono (HCK.out) ?_
  rintro e W1 ⟨rfl, hbn⟩
  have HB1 := hid (HB0.out.trans (hbn.mono HB0.out.size))
  have qq := below11 hbn hBl b0 b1 b2 b3 b4 b5 b6 b7 b8 b9 b10
  clear b0 b1 b2 b3 b4 b5 b6 b7 b8 b9 b10
  obtain ⟨b0, b1, b2, b3, b4, b5, b6, b7, b8, b9, b10⟩ := qq
  replace hBl := Nat.lt_of_lt_of_le hBl hbn.size
  clear hbn
  go_wp2_with fail
  go_ret2
  exact ⟨rfl, HB1.out⟩
end Go.Proofs.YtkemlckmfgacdaaGreatDoor
