/- Contract: the program's text of an amount. -/
import Derived.Test.YtkemlckmfgacdaaGreatDoorJnP14
import Derived.Test.YtkemlckmfgacdaaGreatDoorJnP13
import Derived.Deep.RegionHeld3
import Derived.Deep.AppendLies
import Derived.Lib.SliceRun
namespace Go.Proofs.YtkemlckmfgacdaaGreatDoor
set_option maxRecDepth 20000
set_option maxHeartbeats 64000000
open Go.ChangeShapes Go.WideShapes Go.ChangeAt Go.RowKit
set_option linter.unusedVariables false
open Tp Nt
theorem heapAtT {w : World} {o : Obj} {H : Nat} (h : w.heap.size = H) : (w.alloc o).heap[H]? = some o := h ▸ heap_alloc_new w o
theorem stepPushT {P : Program} (w : World) {ops : Array Oper} {o : Oper} {a : Act} {K : Act → World → Prop} {Q : Exit → Act → World → Prop} {E : Prop} (hgd : o.guard = none) (s x : Operand) (t : TypeId)
  (ho : o.op = .call { callee := .builtin .append, args := #[s, x], argTypes := #[t, t] })
  (base : Nat) (e : TypeId) (z : Value) (bytes : Nat) (ht : P.underlying t = some (.slice e)) (hinfo : (P.info? e).map (fun i => (i.zero, i.size, i.bytes)) = some (some z, 1, bytes)) (hz1 : z.cells.size = 1)
  (v : Value) (n : Nat) (xs : List Value) (hs : a.eval s = v) (hown : w.ownsRow base e 1 v n xs)
  (H : Nat) (u : Value) (hx : a.eval x = .slice (some ⟨H, 0, none⟩) 1 1) (hH : w.heap[H]? = some (.cells #[u] e (0, 0))) (hu : u.oneCell' = true)
  (h63 : n + 1 ≤ maxLen) (hbytes : (n + 1) * bytes ≤ 140737488355328) (hbase : base ≤ w.heap.size)
  (h : ∀ g cap w', w'.ownsRow base e 1 (.slice (some ⟨g, 0, none⟩) (n + 1) cap) (n + 1) (xs ++ [u]) → w.grownBy w' v.ownBlock → K (a.put o.dst (.slice (some ⟨g, 0, none⟩) (n + 1) cap)) w') :
  if Region.wanted o (yielded ops a.tmps) = true then Oper.wp P o a w K Q else E := by
 obtain ⟨i, hi, hz0, hzs, hzb⟩ := info_parts hinfo
 exact step_append_lies w hgd s x t ho base e i z 1 bytes ht hi hz0 hzs hzb hz1 (by decide) v n xs hs hown ⟨H, 0, none⟩ 1 1 [u] hx rfl (World.news_of_block hH) (by simpa using hu) (by decide) h63 hbytes hbase _ rfl (fun g cap w' h1 h2 _ _ => h g cap w' h1 h2)
theorem entsN_len (v : V3) (k : Nat) : (entsN v k).length ≤ 3 := by
 have he : ∀ n u, (ent n u).length ≤ 1 := by intro n u; unfold ent; split <;> simp
 match k with
 | 0 => simp [entsN]
 | 1 => have := he cpu v.1; simp [entsN]; omega
 | 2 => have := he cpu v.1; have := he mem v.2.1; simp [entsN]; omega
 | k + 3 => have := he cpu v.1; have := he mem v.2.1; have := he gpu v.2.2; show (ents v).length ≤ 3; simp [ents]; omega
theorem entsN_put {v : V3} {k : Nat} (h : k < 3) (h0 : nuN v k ≠ 0) : entsN v (k + 1) = entsN v k ++ [nmN k ++ 61 :: Nt.dec (nuN v k)] := by
 rw [entsN_succ v h]; unfold ent; rw [if_neg h0]
inductive UpT (w : World) : World → Prop where
 | refl : UpT w w
 | alloc {w' : World} (o : Obj) : UpT w w' → UpT w (w'.alloc o)
 | drew {w' : World} : UpT w w' → UpT w w'.drew
 | call {w' w'' : World} : UpT w w' → Below w'.heap.size w' w'' → UpT w w''
 | base {w' w'' : World} : UpT w w' → Below w.heap.size w' w'' → UpT w w''
theorem UpT.bel {w w' : World} (h : UpT w w') : Below w.heap.size w w' := by
 induction h with
 | refl => exact Below.refl _ _
 | alloc o _ ih => exact ih.alloc ih.size o
 | drew _ ih => exact ih.drew
 | call _ hb ih => exact ih.trans (hb.mono ih.size)
 | base _ hb ih => exact ih.trans hb
theorem cellTop (W : World) (c : Array Value) (T : TypeId) (b i : Nat) (hb : b = W.heap.size) : (W.alloc (.cells c T)).cell? ⟨b, i, none⟩ = c[i]? := by
 subst hb
 simp
structure PartsW (v : V3) (B : Nat) (w : World) : Prop where
 nm : ∀ k, k < 3 → w.cell? ⟨B + 1, k * 2, none⟩ = some (.string (bts (nmN k)))
 pt : ∀ k, k < 3 → w.cell? ⟨B + 1, k * 2 + 1, none⟩ = some (.pointer (some ⟨B, k, none⟩))
 nu : ∀ k, k < 3 → w.cell? ⟨B, k, none⟩ = some (.int .i64 (nuN v k : Int))
 sz : B + 2 ≤ w.heap.size
theorem PartsW.below {v : V3} {B : Nat} {w w' : World} (h : PartsW v B w) {C : Nat} (hb : Below C w w') (hC : B + 2 ≤ C) : PartsW v B w' :=
 ⟨fun k hk => (hb.cell (p := ⟨B + 1, k * 2, none⟩) (by show B + 1 < C; omega)).trans (h.nm k hk), fun k hk => (hb.cell (p := ⟨B + 1, k * 2 + 1, none⟩) (by show B + 1 < C; omega)).trans (h.pt k hk), fun k hk => (hb.cell (p := ⟨B, k, none⟩) (by show B < C; omega)).trans (h.nu k hk), Nat.le_trans h.sz hb.size⟩
theorem text_any (a b c : Nat) (hv : Nt.Can (a, b, c)) (w : World) (he : Env w) : Calls Tryz.prog 57 #[.agg #[.int .i64 (a : Int), .int .i64 (b : Int), .int .i64 (c : Int)]] w fun e w' => e = .returned (.string (bts (needText (a, b, c)))) ∧ Below w.heap.size w w' := by
 have HN0 : Hid (nuN (a, b, c) 0 = a) := hid rfl
 have HN1 : Hid (nuN (a, b, c) 1 = b) := hid rfl
 have HN2 : Hid (nuN (a, b, c) 2 = c) := hid rfl
 obtain ⟨v, hvv⟩ : ∃ v : V3, (a, b, c) = v := ⟨_, rfl⟩
 rw [hvv] at HN0 HN1 HN2 hv ⊢
 clear hvv
 have HV := hid hv
 have HEV := hid he
 obtain ⟨R, hR⟩ : ∃ R, bts (needText v) = R := ⟨_, rfl⟩
 have HR := hid hR
 rw [hR]
 obtain ⟨B, hB⟩ : ∃ B, w.heap.size = B := ⟨_, rfl⟩
 have HB0 := hid hB
 obtain ⟨W0, hW0⟩ : ∃ W, W = (((w.alloc (.cells #[.int .i64 (a : Int), .int .i64 (b : Int), .int .i64 (c : Int)] 23)).alloc (.cells #[.string ⟨#[99, 112, 117]⟩, .pointer (some ⟨B, 0, none⟩), .string ⟨#[109, 101, 109]⟩, .pointer (some ⟨B, 1, none⟩), .string ⟨#[103, 112, 117]⟩, .pointer (some ⟨B, 2, none⟩)] 107)).drew) := ⟨_, rfl⟩
 clear hR hv he
 go_enter Tryz.func57, Tryz.ntmps57
 go_wp2_with (go_at_call 68; refine (parts_any _ _).mono ?_; rintro e w' ⟨rfl, rfl⟩)
 rw [← hW0]
 have hPW : PartsW v B W0 := by
  have h1 : ∀ i, W0.cell? ⟨B + 1, i, none⟩ = (#[.string ⟨#[99, 112, 117]⟩, .pointer (some ⟨B, 0, none⟩), .string ⟨#[109, 101, 109]⟩, .pointer (some ⟨B, 1, none⟩), .string ⟨#[103, 112, 117]⟩, .pointer (some ⟨B, 2, none⟩)] : Array Value)[i]? := fun i => by
   rw [hW0]
   exact cellTop _ _ _ (B + 1) i (by simp [hB])
  have h2 : ∀ i, W0.cell? ⟨B, i, none⟩ = (#[.int .i64 (a : Int), .int .i64 (b : Int), .int .i64 (c : Int)] : Array Value)[i]? := fun i => by
   rw [hW0]
   exact (((Below.refl (w.alloc (.cells #[.int .i64 (a : Int), .int .i64 (b : Int), .int .i64 (c : Int)] 23)).heap.size _).alloc lr _).cell (p := ⟨B, i, none⟩) (by simp [hB])).trans (cellTop _ _ _ B i hB.symm)
  refine ⟨fun k hk => ?_, fun k hk => ?_, fun k hk => ?_, ?_⟩
  ·rw [h1]
   rcases (by omega : k = 0 ∨ k = 1 ∨ k = 2) with rfl | rfl | rfl <;> rfl
  ·rw [h1]
   rcases (by omega : k = 0 ∨ k = 1 ∨ k = 2) with rfl | rfl | rfl <;> rfl
  ·rw [h2]
   rcases (by omega : k = 0 ∨ k = 1 ∨ k = 2) with rfl | rfl | rfl
   ·rw [HN0.out]; rfl
   ·rw [HN1.out]; rfl
   ·rw [HN2.out]; rfl
  ·rw [hW0]; simp [hB]
 have hB0 : Below B w W0 := by rw [hW0, ← hB]; go_grown
 have hsz : W0.heap.size = B + 2 := by rw [hW0]; simp [hB]
 have HPW := hid hPW
 have HBL := hid hB0
 have HSZ := hid hsz
 clear hPW hB0 hW0 hsz hB
 go_loopg [3, 8] 3 (fun g x y wr => ∃ (k : Nat), k + g = 3 ∧ y = .int .i64 (k : Int) ∧ Hid (RowS (B + 2) 9 1 (entsN v k).length (txv (entsN v k)) x W0 wr) ∧ Hid (entsN v k = [] → x = .slice none 0 0))
 case atStart => exact ⟨0, rfl, rfl, hid (RowS.nil _ _ _ _), hid (fun _ => rfl)⟩
 case round =>
  obtain ⟨k, hg, rfl, HR0, HNIL⟩ := hrel
  have HG : Hid (k + gk = 3) := hid hg
  by_cases hk3 : k < 3
  ·have hkI : (k : Int) < 3 := by omega
   have hk0 : (0 : Int) ≤ (k : Int) := by omega
   have hPr := HPW.out.below HR0.out.below (by omega)
   have d1 := hPr.nm k hk3
   have d2 := hPr.pt k hk3
   have d3 := hPr.nu k hk3
   have hsz2 := hPr.sz
   have hlt0 : B < wr.heap.size := by omega
   have hlt1 : B + 1 < wr.heap.size := by omega
   obtain ⟨n, hn⟩ : ∃ n, nuN v k = n := ⟨_, rfl⟩
   obtain ⟨N, hN⟩ : ∃ N, bts (nmN k) = N := ⟨_, rfl⟩
   rw [hn] at d3
   rw [hN] at d1
   have HNn := hid hn
   have HNN := hid hN
   have HK3 := hid hk3
   clear hg hPr hn hN
   by_cases h0 : n = 0
   ·have e0 : ((n : Int) == 0) = true := by rw [h0]; rfl
    have HX : Hid (entsN v (k + 1) = entsN v k) := hid (entsN_zero hk3 (HNn.out.trans h0))
    clear h0 hk3
    go_wp2_with fail
    go_roundg (2 - k)
    case measure => (have := HG.out; have := HK3.out; omega)
    case rel => exact ⟨k + 1, by have := HG.out; have := HK3.out; omega, by simp, hid (by rw [HX.out]; exact HR0.out.step ((Below.refl _ _).alloc lr _) hsz2), hid (by rw [HX.out]; exact HNIL.out)⟩
   ·have e0 : ((n : Int) == 0) = false := by simpa using h0
    obtain ⟨D, hD⟩ : ∃ D, bts (Nt.dec n) = D := ⟨_, rfl⟩
    have hnn : n < 9223372036854775808 := by rw [← HNn.out]; exact nu_can HV.out k
    have hsD : D.size ≤ 19 := by rw [← hD, bts_size]; exact Nt.dec_len 18 _ (Nat.lt_of_lt_of_le hnn (by decide))
    have hsN : N.size ≤ 3 := by rw [← HNN.out, bts_size, nm_len]; exact Nat.le_refl _
    have HPUT : Hid (txv (entsN v k) ++ [.string (N ++ ⟨#[61]⟩ ++ D)] = txv (entsN v (k + 1))) := hid (by
     rw [entsN_put hk3 (by rw [HNn.out]; exact h0), txv_push, HNn.out, ← HNN.out, ← hD, show (⟨#[61]⟩ : ByteArray) = bts [61] from rfl, bts_append, bts_append]
     simp)
    have HLEN : Hid ((entsN v k).length + 1 = (entsN v (k + 1)).length) := hid (by rw [entsN_put hk3 (by rw [HNn.out]; exact h0)]; simp)
    have hl3 := entsN_len v k
    obtain ⟨m, hm⟩ : ∃ m, (entsN v k).length = m := ⟨_, rfl⟩
    rw [hm] at hl3 HLEN
    have hown := HR0.out.own
    rw [hm] at hown
    obtain ⟨L, hL⟩ : ∃ L, txv (entsN v k) = L := ⟨_, rfl⟩
    rw [hL] at hown HPUT
    obtain ⟨p1, hp1⟩ : ∃ p, N ++ (⟨#[61]⟩ : ByteArray) = p := ⟨_, rfl⟩
    have hsp : p1.size ≤ 4 := by rw [← hp1, ByteArray.size_append]; have : (⟨#[61]⟩ : ByteArray).size = 1 := rfl; omega
    obtain ⟨q, hq⟩ : ∃ q, wr.heap.size = q := ⟨_, rfl⟩
    obtain ⟨W1, hW1⟩ : ∃ W, W = wr.alloc (.cells #[.string N, .pointer (some ⟨B, k, none⟩)] 107) := ⟨_, rfl⟩
    have m0 : W1.cell? ⟨q, 0, none⟩ = some (.string N) := by rw [hW1]; exact (cellTop _ _ _ _ _ hq.symm).trans rfl
    have m1 : W1.cell? ⟨q, 1, none⟩ = some (.pointer (some ⟨B, k, none⟩)) := by rw [hW1]; exact (cellTop _ _ _ _ _ hq.symm).trans rfl
    have hb1 : Below wr.heap.size wr W1 := be0 hW1
    have m2 : W1.cell? ⟨B, k, none⟩ = some (.int .i64 (n : Int)) := (hb1.cell (p := ⟨B, k, none⟩) hlt0).trans d3
    have hq1 : q < W1.heap.size := by rw [hW1, ← hq]; simp
    have hB1 : B < W1.heap.size := Nat.lt_of_lt_of_le hlt0 hb1.size
    have HDX : Hid (∀ W, UpT W1 W → W.cell? ⟨q, 0, none⟩ = some (.string N) ∧ W.cell? ⟨q, 1, none⟩ = some (.pointer (some ⟨B, k, none⟩)) ∧ W.cell? ⟨B, k, none⟩ = some (.int .i64 (n : Int))) := hid (fun W h => ⟨(h.bel.cell (p := ⟨q, 0, none⟩) hq1).trans m0, (h.bel.cell (p := ⟨q, 1, none⟩) hq1).trans m1, (h.bel.cell (p := ⟨B, k, none⟩) hB1).trans m2⟩)
    have HOW : Hid (∀ W, UpT W1 W → W.ownsRow (B + 2) 9 1 u3 m L) := hid (fun W h => ownsRow_below hown (hb1.trans (h.bel.mono hb1.size)))
    have HEW : Hid (∀ W, UpT W1 W → Env W) := hid (fun W h => HEV.out.below (HBL.out.trans (HR0.out.below.mono (by have := HSZ.out; have := HBL.out.size; have := HB0.out; omega) |>.trans ((hb1.trans (h.bel.mono hb1.size)).mono (by have := HB0.out; omega)))) (by have := HB0.out; omega))
    have HC : Hid (∀ W, UpT W1 W → Calls Tryz.prog 78 #[.int .i64 (n : Int), .int .i64 10] W fun e w' => e = .returned (.string D) ∧ Below W.heap.size W w') := hid (fun W h => by rw [← hD]; exact FormatIntN_any n W hnn (HEW.out W h))
    have HBX : Hid (∀ W, UpT W1 W → B + 2 ≤ W.heap.size) := hid (fun W h => by have := h.bel.size; have := hb1.size; omega)
    have HB1 := hid hb1
    have HBW : Hid (B + 2 ≤ wr.heap.size) := hid hsz2
    have HNE : Hid (some q ≠ u3.ownBlock ∧ some B ≠ u3.ownBlock) := hid ⟨fun e => by have := (hown.lt _ e.symm).2; omega, fun e => by have := (hown.lt _ e.symm).1; omega⟩
    have HLT : Hid (∀ W, UpT W1 W → q < W.heap.size ∧ B < W.heap.size) := hid (fun W h => ⟨Nat.lt_of_lt_of_le hq1 h.bel.size, Nat.lt_of_lt_of_le hB1 h.bel.size⟩)
    have HQ := hid hq
    have H63 : Hid (m + 1 ≤ maxLen) := hid (by unfold maxLen; omega)
    have HBY : Hid ((m + 1) * 16 ≤ 140737488355328) := hid (by omega)
    have hnn1 : ¬ 9223372036854775807 < N.size + 1 := by omega
    have hnn2 : ¬ 9223372036854775807 < p1.size + D.size := by omega
    have HP1 := hid hp1
    have HM := hid hm
    have HLL := hid hL
    clear h0 hk3 hnn hsD hsN hl3 hown hm hL hD hb1 hsp
    clear hq
    go_upto_region 6 with fail
    rw [← hW1, HQ.out]
    clear hW1 d1 d2 d3
    go_region_held3 (fun W => W.cell? ⟨q, 0, none⟩ = some (.string N) ∧ W.cell? ⟨q, 1, none⟩ = some (.pointer (some ⟨B, k, none⟩)) ∧ W.cell? ⟨B, k, none⟩ = some (.int .i64 (n : Int)))
     (first | exact HS3.out | exact HDX.out _ (by repeat (first | exact UpT.refl | exact HU2.out | exact HU3.out | refine UpT.alloc _ ?_ | refine UpT.drew ?_)))
     (first
      | (go_at_call 78; refine Calls.mono (HC.out _ (by repeat (first | exact UpT.refl | exact HU2.out | exact HU3.out | refine UpT.alloc _ ?_ | refine UpT.drew ?_))) ?_; rintro e w2 ⟨rfl, hb2⟩; have HU2 := hid (UpT.call (w := W1) (by repeat (first | exact UpT.refl | exact HU2.out | exact HU3.out | refine UpT.alloc _ ?_ | refine UpT.drew ?_)) hb2); clear hb2)
      | (refine stepPushT _ (by rfl) (.tmp 17) (.tmp 27) 60 (by rfl) (B + 2) 9 (.string ⟨#[]⟩) 16 Tryz.underlying60 infoStr (by rfl) u3 m L (by rfl) (HOW.out _ (by repeat (first | exact UpT.refl | exact HU2.out | exact HU3.out | refine UpT.alloc _ ?_ | refine UpT.drew ?_))) _ (.string (p1 ++ D)) rfl (by first | exact heapAtT (by simp) | exact heap_alloc_new _ _) (by rfl) H63.out HBY.out (HBX.out _ (by repeat (first | exact UpT.refl | exact HU2.out | exact HU3.out | refine UpT.alloc _ ?_ | refine UpT.drew ?_))) ?_; intro g3 cp3 w3 hown3 hgrow3; have HU3 := hid (show Below (B + 2) W1 w3 from (((show UpT W1 _ from (by repeat (first | exact UpT.refl | exact HU2.out | exact HU3.out | refine UpT.alloc _ ?_ | refine UpT.drew ?_))).bel.mono (HBX.out _ UpT.refl)).grown hgrow3 (HBX.out _ (by repeat (first | exact UpT.refl | exact HU2.out | exact HU3.out | refine UpT.alloc _ ?_ | refine UpT.drew ?_))) (ownBlock_ge (HOW.out _ (by repeat (first | exact UpT.refl | exact HU2.out | exact HU3.out | refine UpT.alloc _ ?_ | refine UpT.drew ?_))) lr))); have HS3 := hid (show w3.cell? ⟨q, 0, none⟩ = some (.string N) ∧ w3.cell? ⟨q, 1, none⟩ = some (.pointer (some ⟨B, k, none⟩)) ∧ w3.cell? ⟨B, k, none⟩ = some (.int .i64 (n : Int)) from ⟨(hgrow3.cell_far ⟨q, 0, none⟩ (HLT.out _ (by repeat (first | exact UpT.refl | exact HU2.out | exact HU3.out | refine UpT.alloc _ ?_ | refine UpT.drew ?_))).1 HNE.out.1).trans (HDX.out _ (by repeat (first | exact UpT.refl | exact HU2.out | exact HU3.out | refine UpT.alloc _ ?_ | refine UpT.drew ?_))).1, (hgrow3.cell_far ⟨q, 1, none⟩ (HLT.out _ (by repeat (first | exact UpT.refl | exact HU2.out | exact HU3.out | refine UpT.alloc _ ?_ | refine UpT.drew ?_))).1 HNE.out.1).trans (HDX.out _ (by repeat (first | exact UpT.refl | exact HU2.out | exact HU3.out | refine UpT.alloc _ ?_ | refine UpT.drew ?_))).2.1, (hgrow3.cell_far ⟨B, k, none⟩ (HLT.out _ (by repeat (first | exact UpT.refl | exact HU2.out | exact HU3.out | refine UpT.alloc _ ?_ | refine UpT.drew ?_))).2 HNE.out.2).trans (HDX.out _ (by repeat (first | exact UpT.refl | exact HU2.out | exact HU3.out | refine UpT.alloc _ ?_ | refine UpT.drew ?_))).2.2⟩); have HO3 := hid hown3; clear hown3 hgrow3))
    all_goals
     go_wp2_with fail
     go_roundg (2 - k)
     case measure => (have := HG.out; have := HK3.out; omega)
     case rel => exact ⟨k + 1, by have := HG.out; have := HK3.out; omega, by simp, hid ⟨by rw [← HPUT.out, ← HLEN.out, HP1.out]; exact HO3.out, HR0.out.below.trans ((HB1.out.mono (HBW.out)).trans HU3.out)⟩, hid (fun h => by have := HLEN.out; rw [h] at this; cases this)⟩
  ·have hk3 : k = 3 := by omega
   subst hk3
   have hnt := needText_txt v
   by_cases hSe : entsN v 3 = []
   ·obtain rfl := HNIL.out hSe
    have HE : Hid ((⟨#[45]⟩ : ByteArray) = R) := hid (by rw [← HR.out, hnt, if_pos (by unfold txtN; rw [hSe]; rfl)]; rfl)
    have HBE : Hid (Below w.heap.size w wr) := hid (HBL.out.trans (HR0.out.below.mono (by have := HB0.out; omega)) |>.mono (by have := HB0.out; omega))
    have hE := Lib.run_eql_slice_nil (P := Tryz.prog) wr 60 9 none 0 0 0 0 Tryz.underlying60
    clear hnt hSe hg
    go_wp2_with fail
    go_ret
    exact ⟨by rw [← HE.out]; rfl, HBE.out⟩
   ·have hd0 := HR0.out
    obtain ⟨ad, cp, rfl, hnc, hcp, hpos⟩ := ownForm hd0.own
    obtain ⟨g, rfl⟩ := hpos (List.length_pos_iff.2 hSe)
    have hlen := entsN_len v 3
    have htl := txtN_len HV.out 3 lr
    have hwb : B + 2 ≤ wr.heap.size := (HPW.out.below hd0.below (by omega)).sz
    have HBE : Hid (Below w.heap.size w wr) := hid (HBL.out.trans (hd0.below.mono (by have := HB0.out; omega)) |>.mono (by have := HB0.out; omega))
    have hjo := Join_any (entsN v 3) (some ⟨g, 0, none⟩) cp wr (fun h => ⟨g, 0, rfl, (hd0.own.lt g rfl).2, fun i t hi => by
     rw [Nat.zero_add, hd0.own.cellAt i (by rw [Nat.mul_one]; exact (List.getElem?_eq_some_iff.1 hi).1)]
     exact txv_at hi⟩) (by omega) (by simpa using hnc) (Nat.le_trans htl (by decide))
    have hjR : bts (joinC (entsN v 3)) = R := by
     have hne : ¬ txtN v 3 = [] := by
      intro h
      unfold txtN at h
      cases he : entsN v 3 with
      | nil => exact hSe he
      | cons a l =>
       rw [he] at h
       have hm : a ∈ ents v := by
        have : entsN v 3 = ents v := rfl
        rw [← this, he]; simp
       have hane : a ≠ [] := by
        rw [ents, List.mem_append, List.mem_append] at hm
        have key : ∀ n u, a ∈ ent n u → a ≠ [] := by
         intro n u hx
         unfold ent at hx
         split at hx
         ·cases hx
         ·simp at hx; subst hx; simp
        rcases hm with (hx | hx) | hx <;> exact key _ _ hx
       cases l with
       | nil => exact hane h
       | cons b l => simp [joinC] at h
     rw [← HR.out, hnt, if_neg hne]; rfl
    rw [hjR, show bts [44] = (⟨#[44]⟩ : ByteArray) from rfl] at hjo
    have HJ := hid hjo
    obtain ⟨m, hm⟩ : ∃ m, (entsN v 3).length = m := ⟨_, rfl⟩
    rw [hm] at HJ ⊢
    have hE := Lib.run_eql_slice_nil (P := Tryz.prog) wr 60 9 (some ⟨g, 0, none⟩) m cp 0 0 Tryz.underlying60
    clear hnt hSe hg hd0 hnc hcp hpos hlen htl hjo hjR hm hwb
    go_wp2_with fail
    refine Calls.mono HJ.out ?_
    rintro e w5 ⟨rfl, hb5⟩
    have HB5 := hid hb5
    clear hb5
    go_wp2_with fail
    go_ret
    exact ⟨rfl, HBE.out.trans (HB5.out.mono HBE.out.size)⟩
end Go.Proofs.YtkemlckmfgacdaaGreatDoor
namespace Go.Proofs.YtkemlckmfgacdaaGreatDoor
set_option maxRecDepth 20000
set_option maxHeartbeats 64000000
open Go.ChangeShapes Go.WideShapes Go.ChangeAt Go.RowKit
set_option linter.unusedVariables false
open Tp Nt
def readOf (r : Option V3) : V3 × Int := match r with
 | none => ((0, 0, 0), 3)
 | some v => if needB v.1 v.2.1 v.2.2 then (v, 0) else ((0, 0, 0), 4)
def rdVal (r : Option V3) : Value := .tuple #[.agg #[.int .i64 ((readOf r).1.1 : Int), .int .i64 ((readOf r).1.2.1 : Int), .int .i64 ((readOf r).1.2.2 : Int)], .int .i64 (readOf r).2]
theorem rdVal_none {r : Option V3} (h : r = none) : rdVal r = .tuple #[.agg #[.int .i64 0, .int .i64 0, .int .i64 0], .int .i64 3] := by rw [h]; rfl
theorem rdVal_bad {r : Option V3} {v : V3} (h : r = some v) (hb : needB v.1 v.2.1 v.2.2 = false) : rdVal r = .tuple #[.agg #[.int .i64 0, .int .i64 0, .int .i64 0], .int .i64 4] := by
 rw [h]; unfold rdVal readOf; simp only [hb]; rfl
theorem rdVal_ok {r : Option V3} {v : V3} (h : r = some v) (hb : needB v.1 v.2.1 v.2.2 = true) : rdVal r = .tuple #[.agg #[.int .i64 (v.1 : Int), .int .i64 (v.2.1 : Int), .int .i64 (v.2.2 : Int)], .int .i64 0] := by
 rw [h]; unfold rdVal readOf; simp only [hb]; rfl
theorem topCell (W : World) (c : Array Value) (T : TypeId) (b i : Nat) (hb : b = W.heap.size) : (W.alloc (.cells c T)).cell? ⟨b, i, none⟩ = c[i]? := by
 subst hb
 simp
structure RdW (B : Nat) (v : V3) (w wr : World) : Prop where
 res : ∀ i, i < 3 → wr.cell? ⟨B, i, none⟩ = some (.int .i64 0)
 nums : ∀ i, i < 3 → wr.cell? ⟨B + 1, i, none⟩ = some (.int .i64 (nuN v i : Int))
 below : Below B w wr
 sz : B + 2 ≤ wr.heap.size
 rf : ∀ i, wr.frozen? ⟨B, i, none⟩ = false
 nf : ∀ i, wr.frozen? ⟨B + 1, i, none⟩ = false
theorem frozenNone {w : World} {b i : Nat} (h : w.heap.size ≤ b) : w.frozen? ⟨b, i, none⟩ = false := by
 unfold World.frozen?
 rw [Array.getElem?_eq_none h]
theorem zero3 {i : Nat} (h : i < 3) : (#[.int .i64 0, .int .i64 0, .int .i64 0] : Array Value)[i]? = some (.int .i64 0) := by
 rcases (by omega : i = 0 ∨ i = 1 ∨ i = 2) with rfl | rfl | rfl <;> rfl
theorem RdW.start {w : World} {B : Nat} {t t' : TypeId} (hB : w.heap.size = B) : RdW B (0, 0, 0) w ((w.alloc (.cells #[.int .i64 0, .int .i64 0, .int .i64 0] t)).alloc (.cells #[.int .i64 0, .int .i64 0, .int .i64 0] t')) := by
 refine ⟨fun i hi => ?_, fun i hi => ?_, ?_, by simp [hB], fun i => by rw [frozen?_alloc_cells, frozen?_alloc_cells]; exact frozenNone (by omega), fun i => by rw [frozen?_alloc_cells, frozen?_alloc_cells]; exact frozenNone (by omega)⟩
 ·exact ((((Below.refl (w.alloc (.cells #[.int .i64 0, .int .i64 0, .int .i64 0] t)).heap.size _).alloc lr _).cell (p := ⟨B, i, none⟩) (by simp [hB])).trans (topCell _ _ _ B i hB.symm)).trans (zero3 hi)
 ·refine ((topCell _ _ _ (B + 1) i (by simp [hB]))).trans ((zero3 hi).trans ?_)
  rcases (by omega : i = 0 ∨ i = 1 ∨ i = 2) with rfl | rfl | rfl <;> rfl
 ·rw [← hB]
  exact (((Below.refl _ _).alloc lr _).alloc (by simp) _)
theorem RdW.step {B C : Nat} {v : V3} {w wr wx : World} (h : RdW B v w wr) (hb : Below C wr wx) (hC : B + 2 ≤ C) : RdW B v w wx :=
 ⟨fun i hi => (hb.cell (p := ⟨B, i, none⟩) (by show B < C; omega)).trans (h.res i hi), fun i hi => (hb.cell (p := ⟨B + 1, i, none⟩) (by show B + 1 < C; omega)).trans (h.nums i hi), h.below.trans (hb.mono (by omega)), Nat.le_trans h.sz hb.size, fun i => (hb.frozen (p := ⟨B, i, none⟩) (by show B < C; omega)).trans (h.rf i), fun i => (hb.frozen (p := ⟨B + 1, i, none⟩) (by show B + 1 < C; omega)).trans (h.nf i)⟩
theorem nuN_set (v : V3) (k n i : Nat) (hk : k < 3) (hi : i < 3) : nuN (setV v (nmN k) n) i = if i = k then n else nuN v i := by
 rcases (by omega : k = 0 ∨ k = 1 ∨ k = 2) with rfl | rfl | rfl <;> rcases (by omega : i = 0 ∨ i = 1 ∨ i = 2) with rfl | rfl | rfl <;> rfl
theorem RdW.put {B k n : Nat} {v : V3} {w wr : World} (h : RdW B v w wr) (hk : k < 3) : RdW B (setV v (nmN k) n) w (wr.setCell ⟨B + 1, k, none⟩ (.int .i64 (n : Int))) := by
 refine ⟨fun i hi => ?_, fun i hi => ?_, h.below.setCell (p := ⟨B + 1, k, none⟩) (by show B ≤ B + 1; omega) _, by simpa using h.sz, fun i => by rw [World.frozen?_setCell]; exact h.rf i, fun i => by rw [World.frozen?_setCell]; exact h.nf i⟩
 ·rw [World.cell?_setCell_other _ _ _ _ (by intro e; have := congrArg Addr.block e; simp at this)]
  exact h.res i hi
 ·rw [nuN_set v k n i hk hi, cell_set]
  by_cases e : i = k
  ·subst e
   rw [if_pos rfl, if_pos rfl, h.nums i hi]; rfl
  ·rw [if_neg (by intro h2; have := congrArg Addr.off h2; simp at this; omega), if_neg e]
   exact h.nums i hi
theorem foldO_snoc {f : V3 → Bs → Option V3} : ∀ (l : List Bs) (v : V3) (x : Bs), foldO f v (l ++ [x]) = (match foldO f v l with | none => none | some v' => f v' x)
 | [], v, x => by
  show (match f v x with | none => none | some v' => some v') = f v x
  cases f v x <;> rfl
 | y :: l, v, x => by
  rw [List.cons_append, foldO, foldO]
  cases f v y with
  | none => rfl
  | some v' => exact foldO_snoc l v' x
theorem foldO_next {f : V3 → Bs → Option V3} {P : List Bs} {j : Nat} {v0 v v' : V3} {x : Bs} (h : foldO f v0 (P.take j) = some v) (hx : P[j]? = some x) (hf : f v x = some v') : foldO f v0 (P.take (j + 1)) = some v' := by
 rw [take_snoc hx, foldO_snoc, h]; exact hf
theorem foldO_stop {f : V3 → Bs → Option V3} : ∀ {P : List Bs} {j : Nat} {v0 v : V3} {x : Bs}, foldO f v0 (P.take j) = some v → P[j]? = some x → f v x = none → foldO f v0 P = none
 | [], j, v0, v, x, _, hx, _ => by simp at hx
 | y :: P, 0, v0, v, x, h, hx, hf => by
  simp at hx h; subst hx
  simp [foldO] at h; subst h
  rw [foldO, hf]
 | y :: P, j + 1, v0, v, x, h, hx, hf => by
  rw [List.take_succ_cons, foldO] at h
  rw [foldO]
  cases hy : f v0 y with
  | none => rfl
  | some v1 => rw [hy] at h; exact foldO_stop (P := P) (j := j) h (by simpa using hx) hf
theorem pcs_len (c : UInt8) : ∀ (s : Bs) (t : Bs), t ∈ pcs c s → t.length ≤ s.length
 | [], t, h => by simp [pcs] at h; subst h; exact Nat.le_refl _
 | x :: r, t, h => by
  rw [pcs] at h
  split at h
  ·rcases List.mem_cons.1 h with h | h
   ·subst h; simp
   ·have := pcs_len c r t h; simp; omega
  ·have hne := pcs_ne c r
   cases hp : pcs c r with
   | nil => exact absurd hp hne
   | cons y l =>
    rw [hp] at h
    rcases List.mem_cons.1 h with h | h
    ·subst h
     have := pcs_len c r y (by rw [hp]; simp)
     simp; omega
    ·have := pcs_len c r t (by rw [hp]; simp [h])
     simp; omega
theorem pcs_cnt (c : UInt8) : ∀ s : Bs, (pcs c s).length ≤ s.length + 1
 | [] => by simp [pcs]
 | x :: r => by
  have := pcs_cnt c r
  rw [pcs]
  split
  ·simp; omega
  ·have hne := pcs_ne c r
   cases hp : pcs c r with
   | nil => exact absurd hp hne
   | cons y l => rw [hp] at this; simp at this ⊢; omega
def mi (x : Bs) : Nat := if 4 < x.length then (if x.take 4 = cpu ++ [61] then 0 else if x.take 4 = mem ++ [61] then 1 else if x.take 4 = gpu ++ [61] then 2 else 3) else 3
theorem mi_le (x : Bs) : mi x ≤ 3 := by
 unfold mi
 repeat' split
 all_goals omega
theorem mi_yes {x : Bs} {k : Nat} (hk : k < 3) (h : mi x = k) : 4 < x.length ∧ x.take 4 = nmN k ++ [61] := by
 unfold mi at h
 split at h
 ·rename_i hl
  refine ⟨hl, ?_⟩
  split at h
  ·subst h; assumption
  ·split at h
   ·subst h; assumption
   ·split at h
    ·subst h; assumption
    ·omega
 ·omega
theorem mi_no {x : Bs} {k : Nat} (hk : k < 3) (h : mi x ≠ k) (hl : 4 < x.length) : x.take 4 ≠ nmN k ++ [61] := by
 intro e
 apply h
 unfold mi
 rw [if_pos hl, e]
 rcases (by omega : k = 0 ∨ k = 1 ∨ k = 2) with rfl | rfl | rfl <;> decide
theorem stepR_none {x : Bs} (v : V3) (h : mi x = 3) : stepR v x = none := by
 unfold stepR
 rw [if_neg]
 rintro ⟨hl, h1⟩
 unfold mi at h
 rw [if_pos hl] at h
 rcases h1 with h1 | h1 | h1
 ·rw [if_pos h1] at h; omega
 ·rw [h1] at h; revert h; decide
 ·rw [h1] at h; revert h; decide
theorem stepR_mi {x : Bs} {k : Nat} (v : V3) (hk : k < 3) (h : mi x = k) : stepR v x = match intOf (x.drop 4) with | some n => if n ≤ 0 then none else some (setV v (nmN k) n.toNat) | none => none := by
 obtain ⟨hl, h4⟩ := mi_yes hk h
 have h3 : x.take 3 = nmN k := by
  have : x.take 3 = (x.take 4).take 3 := by rw [List.take_take]; rfl
  rw [this, h4, List.take_left' (nm_len k)]
 unfold stepR
 rw [if_pos ⟨hl, by rw [h4]; rcases (by omega : k = 0 ∨ k = 1 ∨ k = 2) with rfl | rfl | rfl <;> simp [nmN]⟩, h3]
 rfl
theorem ext_take (x : Bs) (n : Nat) : (bts x).extract 0 n = bts (x.take n) := by
 apply ByteArray.ext
 apply Array.toList_inj.1
 show ((bts x).extract 0 n).data.toList = x.take n
 rw [ByteArray.data_extract]
 simp [bts]
theorem ext_drop (x : Bs) (n : Nat) : (bts x).extract n x.length = bts (x.drop n) := by
 apply ByteArray.ext
 apply Array.toList_inj.1
 show ((bts x).extract n x.length).data.toList = x.drop n
 rw [ByteArray.data_extract]
 simp [bts]
 exact List.take_of_length_le (by simp)
theorem own_none {r : Option V3} {s : Bs} (h : r = none) : own r s = none := by rw [h]; rfl
structure RowAt (g : Nat) (P : List Bs) (w : World) : Prop where
 lt : g < w.heap.size
 at' : ∀ i t, P[i]? = some t → w.cell? ⟨g, i, none⟩ = some (.string (bts t))
theorem RowAt.step {g C : Nat} {P : List Bs} {wr wx : World} (h : RowAt g P wr) (hb : Below C wr wx) (hC : g < C) : RowAt g P wx :=
 ⟨Nat.lt_of_lt_of_le h.lt hb.size, fun i t hi => (hb.cell (p := ⟨g, i, none⟩) hC).trans (h.at' i t hi)⟩
theorem RowAt.put {g : Nat} {P : List Bs} {wr : World} {a : Addr} {u : Value} (h : RowAt g P wr) (ha : a.block ≠ g) : RowAt g P (wr.setCell a u) :=
 ⟨by simpa using h.lt, fun i t hi => by rw [World.cell?_setCell_other _ _ _ _ (by intro e; exact ha (congrArg Addr.block e))]; exact h.at' i t hi⟩
theorem RowAt.own {B g cp : Nat} {P : List Bs} {w : World} (h : w.ownsRow B 9 1 (.slice (some ⟨g, 0, none⟩) P.length cp) P.length (txv P)) : RowAt g P w :=
 ⟨(h.lt g rfl).2, fun i t hi => by rw [h.cellAt i (by rw [Nat.mul_one]; exact (List.getElem?_eq_some_iff.1 hi).1)]; exact txv_at hi⟩
def names : List Bs := [cpu ++ [61], mem ++ [61], gpu ++ [61]]
theorem names_at {k : Nat} (h : k < 3) : names[k]? = some (nmN k ++ [61]) := by
 rcases (by omega : k = 0 ∨ k = 1 ∨ k = 2) with rfl | rfl | rfl <;> rfl
theorem RowAt.names {w : World} {t : TypeId} {g : Nat} (hg : w.heap.size = g) : RowAt g names (w.alloc (.cells #[.string ⟨#[99, 112, 117, 61]⟩, .string ⟨#[109, 101, 109, 61]⟩, .string ⟨#[103, 112, 117, 61]⟩] t)) :=
 ⟨by simp [hg], fun i u hi => by
  rw [topCell _ _ _ g i hg.symm]
  have : i < 3 := (List.getElem?_eq_some_iff.1 hi).1
  rcases (by omega : i = 0 ∨ i = 1 ∨ i = 2) with rfl | rfl | rfl <;> (cases hi; rfl)⟩
end Go.Proofs.YtkemlckmfgacdaaGreatDoor
