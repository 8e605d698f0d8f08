/- Contract: the document's EventFault. -/
import Derived.Test.YtkemlckmfgacdaaGreatDoorJnP34
import Derived.Test.YtkemlckmfgacdaaGreatDoorJnP35
namespace Go.Proofs.YtkemlckmfgacdaaGreatDoor
set_option maxRecDepth 20000
set_option maxHeartbeats 64000000
open Go.ChangeShapes Go.WideShapes Go.ChangeAt Go.RowKit
set_option linter.unusedVariables false
set_option linter.unusedSimpArgs false
open Tp Jm Ev
theorem want_job (x : Evt) (w : World) (x0 : Int) (x1 x2 : ByteArray) (x3 : Int) (xd : Option Addr) (xl xc : Nat) (aa : Option Addr) (ac : Nat) (hp : JobP w x.job x0 x1 x2 x3 xd xl xc aa ac) (k : Int) (N2 I2 : Int) (O2 : Bool) : ∀ W, Below w.heap.size w W → Calls Tryz.prog 20 #[evVal x.kind (bts x.job.user) x.job.prio x.job.a x.job.b x.job.c x0 x1 x2 x3 xd xl xc aa x.job.after.length ac x.n x.id x.ok, evVal k (bts x.job.user) x.job.prio x.job.a x.job.b x.job.c x0 x1 x2 x3 xd xl xc aa x.job.after.length ac N2 I2 O2] W fun e w' => e = .returned (.bool ((x.kind == k) && (x.n == N2) && (x.id == I2) && (x.ok == O2) && true)) ∧ Below W.heap.size W w' :=
 fun W h => sameEv_by _ _ _ _ _ _ _ _ _ _ _ _ _ _ _ _ _ _ _ _ _ _ _ _ _ _ _ _ _ _ _ _ _ _ _ _ _ _ W true (fun W' h' => sameJob_same x.job _ _ W' (hp.toV.below (h.trans (h'.mono h.size))) (hp.toV.below (h.trans (h'.mono h.size))))
theorem want_none (x : Evt) (w : World) (x0 : Int) (x1 x2 : ByteArray) (x3 : Int) (xd : Option Addr) (xl xc : Nat) (aa : Option Addr) (ac : Nat) (hp : JobP w x.job x0 x1 x2 x3 xd xl xc aa ac) (k : Int) (N2 I2 : Int) (O2 : Bool) : ∀ W, Below w.heap.size w W → Calls Tryz.prog 20 #[evVal x.kind (bts x.job.user) x.job.prio x.job.a x.job.b x.job.c x0 x1 x2 x3 xd xl xc aa x.job.after.length ac x.n x.id x.ok, evVal k ⟨#[]⟩ 0 0 0 0 0 ⟨#[]⟩ ⟨#[]⟩ 0 none 0 0 none 0 0 N2 I2 O2] W fun e w' => e = .returned (.bool ((x.kind == k) && (x.n == N2) && (x.id == I2) && (x.ok == O2) && bare x.job)) ∧ Below W.heap.size W w' :=
 fun W h => sameEv_by _ _ _ _ _ _ _ _ _ _ _ _ _ _ _ _ _ _ _ _ _ _ _ _ _ _ _ _ _ _ _ _ _ _ _ _ _ _ W (bare x.job) (fun W' h' => sameJob_bare x.job _ W' (hp.toV.below (h.trans (h'.mono h.size))))
theorem evFault_1 (x : Evt) (v : Value) (w : World) (hs : x.job.ask.size ≤ 1000000000) (hv : EvV w x v) (hk : x.kind = 1) : Calls Tryz.prog 15 #[v] w fun e w' => e = .returned (.int .i64 x.fault) ∧ Below w.heap.size w w' := by
 obtain ⟨x0, x1, x2, x3, xd, xl, xc, aa, ac, rfl, hp⟩ := hv
 have hjv := hp.toV
 have hwj := want_job x w x0 x1 x2 x3 xd xl xc aa ac hp
 have hwn := want_none x w x0 x1 x2 x3 xd xl xc aa ac hp
 obtain ⟨k, j, N, I, O⟩ := x
 simp only at hp hs hjv hwj hwn hk ⊢
 subst hk
 have HCK := hid (fun W (h : Below w.heap.size w W) => jobFault_any j _ W hs (hjv.below h))
 obtain ⟨F, hF⟩ : ∃ F, (Evt.mk 1 j N I O).fault = F := ⟨_, rfl⟩
 obtain ⟨od, hod⟩ : ∃ F, (Evt.mk 1 j N I O).odd = F := ⟨_, rfl⟩
 have HF : Hid (F = if od then 1 else if (1 : Int) = 1 then j.fault else if N < 0 ∨ 1000000000 < N ∨ I < 0 ∨ 65535 < I then 4 else 0) := hid (by rw [← hF, ← hod]; rfl)
 obtain ⟨pl, hpl⟩ : ∃ F, bare j = F := ⟨_, rfl⟩
 have HOD : Hid (od = (decide ((1 : Int) < 1) || decide (5 < (1 : Int)) || (!((1 : Int) == 1) && !pl) || (!((1 : Int) == 2) && (N != 0)) || (!(((1 : Int) == 4) || ((1 : Int) == 5)) && (I != 0)) || (!((1 : Int) == 4) && O))) := hid (by rw [← hod, ← hpl]; exact odd_bools 1 j N I O)
 rw [hF]
 rw [hpl] at hwn
 obtain ⟨G, hG⟩ : ∃ F, j.fault = F := ⟨_, rfl⟩
 rw [hG] at HF HCK
 unfold jobVal at HCK
 unfold evVal at hwj hwn ⊢
 obtain ⟨u, P, a, b, c, x, l⟩ := j
 simp only at HCK hwj hwn ⊢
 obtain ⟨U, hU⟩ : ∃ U, bts u = U := ⟨_, rfl⟩
 obtain ⟨n, hn⟩ : ∃ n, l.length = n := ⟨_, rfl⟩
 rw [hU, hn] at HCK hwj hwn ⊢
 obtain ⟨B, hB⟩ : ∃ B, B = w.heap.size := ⟨_, rfl⟩
 obtain ⟨W0, hW0⟩ : ∃ W, W = w.alloc (.cells #[.int .i64 1, .string U, .int .i64 P, .int .i64 a, .int .i64 b, .int .i64 c, .int .i64 x0, .string x1, .string x2, .int .i64 x3, .slice xd xl xc, .slice aa n ac, .int .i64 N, .int .i64 I, .bool O] 40) := ⟨_, rfl⟩
 have hbW0 : Below w.heap.size w W0 := be0 hW0
 have HX : Hid (BoxV B [.int .i64 1, .string U, .int .i64 P, .int .i64 a, .int .i64 b, .int .i64 c, .int .i64 x0, .string x1, .string x2, .int .i64 x3, .slice xd xl xc, .slice aa n ac, .int .i64 N, .int .i64 I, .bool O] W0) := hid (by rw [hW0]; exact BoxV.top _ hB)
 obtain ⟨C, hC⟩ : ∃ B, B = W0.heap.size := ⟨_, rfl⟩
 obtain ⟨W1, hW1⟩ : ∃ W, W = W0.alloc (.cells #[.int .i64 1, .string ⟨#[]⟩, .int .i64 0, .int .i64 0, .int .i64 0, .int .i64 0, .int .i64 0, .string ⟨#[]⟩, .string ⟨#[]⟩, .int .i64 0, .slice none 0 0, .slice none 0 0, .int .i64 0, .int .i64 0, .bool false] 40) := ⟨_, rfl⟩
 have hbW1 : Below W0.heap.size W0 W1 := be0 hW1
 have HY : Hid (BoxV C [.int .i64 1, .string ⟨#[]⟩, .int .i64 0, .int .i64 0, .int .i64 0, .int .i64 0, .int .i64 0, .string ⟨#[]⟩, .string ⟨#[]⟩, .int .i64 0, .slice none 0 0, .slice none 0 0, .int .i64 0, .int .i64 0, .bool false] W1) := hid (by rw [hW1]; exact BoxV.top _ hC)
 have HX1 := hid (HX.out.step hbW1)
 have HB0 := hid hbW0
 have HB1 : Hid (Below w.heap.size w W1) := hid (hbW0.trans (hbW1.mono hbW0.size))
 have HCB : Hid (w.heap.size ≤ C ∧ C ≠ B) := hid ⟨by rw [hC]; exact hbW0.size, by rw [hC]; exact Nat.ne_of_gt HX.out.lt⟩
 obtain ⟨r, hr⟩ : ∃ r, ((N == 0) && (I == 0) && (O == false)) = r := ⟨_, rfl⟩
 have HSE : Hid (∀ W, Below w.heap.size w W → Calls Tryz.prog 20 #[.agg #[.int .i64 1, .string U, .int .i64 P, .int .i64 a, .int .i64 b, .int .i64 c, .int .i64 x0, .string x1, .string x2, .int .i64 x3, .slice xd xl xc, .slice aa n ac, .int .i64 N, .int .i64 I, .bool O], .agg #[.int .i64 1, .string U, .int .i64 P, .int .i64 a, .int .i64 b, .int .i64 c, .int .i64 x0, .string x1, .string x2, .int .i64 x3, .slice xd xl xc, .slice aa n ac, .int .i64 0, .int .i64 0, .bool false]] W fun e w' => e = .returned (.bool r) ∧ Below W.heap.size W w') := hid (fun W h => by
  have h2 := hwj 1 0 0 false W h
  rw [← hr]
  simpa using h2)
 have HRO : Hid (od = !r) := hid (by
  rw [HOD.out, ← hr]
  cases h1 : (N == 0) <;> cases h2 : (I == 0) <;> cases O <;> cases pl <;> simp [bne, h1, h2])
 clear hod hpl hF hG hwj hwn hp hs hjv hU hn hr HOD
 go_enter Tryz.func15, Tryz.ntmps15
 go_upto_region 1 with fail
 rw [← hW0, ← hB]
 clear hW0 hB hbW0
 obtain ⟨b0, b1, b2, b3, b4, b5, b6, b7, b8, b9, b10, b11, b12, b13, b14⟩ := HX.out.c15
 have hBl := HX.out.lt
 go_upto_region 2 with fail
 rw [← hW1, ← hC]
 clear hW1 hC hbW1
 clear hBl b0 b1 b2 b3 b4 b5 b6 b7 b8 b9 b10 b11 b12 b13 b14
 obtain ⟨b0, b1, b2, b3, b4, b5, b6, b7, b8, b9, b10, b11, b12, b13, b14⟩ := HX1.out.c15
 obtain ⟨d0, d1, d2, d3, d4, d5, d6, d7, d8, d9, d10, d11, d12, d13, d14⟩ := HY.out.c15
 have hBl := HX1.out.lt
 have hCl := HY.out.lt
 obtain ⟨f0, f1, f2, f3, f4, f5, f6, f7, f8, f9, f10, f11, f12, f13, f14⟩ := HY.out.f15
 obtain ⟨W2, hW2⟩ : ∃ W, (((((((((((W1.setCell ⟨C, 1, none⟩ (.string U)).setCell ⟨C, 2, none⟩ (.int .i64 P)).setCell ⟨C, 3, none⟩ (.int .i64 a)).setCell ⟨C, 4, none⟩ (.int .i64 b)).setCell ⟨C, 5, none⟩ (.int .i64 c)).setCell ⟨C, 6, none⟩ (.int .i64 x0)).setCell ⟨C, 7, none⟩ (.string x1)).setCell ⟨C, 8, none⟩ (.string x2)).setCell ⟨C, 9, none⟩ (.int .i64 x3)).setCell ⟨C, 10, none⟩ (.slice xd xl xc)).setCell ⟨C, 11, none⟩ (.slice aa n ac)) = W := ⟨_, rfl⟩
 have HB2 : Hid (Below w.heap.size w W2) := hid (by rw [← hW2]; exact (((((((((((HB1.out).setCell (p := ⟨C, 1, none⟩) HCB.out.1 _).setCell (p := ⟨C, 2, none⟩) HCB.out.1 _).setCell (p := ⟨C, 3, none⟩) HCB.out.1 _).setCell (p := ⟨C, 4, none⟩) HCB.out.1 _).setCell (p := ⟨C, 5, none⟩) HCB.out.1 _).setCell (p := ⟨C, 6, none⟩) HCB.out.1 _).setCell (p := ⟨C, 7, none⟩) HCB.out.1 _).setCell (p := ⟨C, 8, none⟩) HCB.out.1 _).setCell (p := ⟨C, 9, none⟩) HCB.out.1 _).setCell (p := ⟨C, 10, none⟩) HCB.out.1 _).setCell (p := ⟨C, 11, none⟩) HCB.out.1 _)
 have HX2 : Hid (BoxV B [.int .i64 1, .string U, .int .i64 P, .int .i64 a, .int .i64 b, .int .i64 c, .int .i64 x0, .string x1, .string x2, .int .i64 x3, .slice xd xl xc, .slice aa n ac, .int .i64 N, .int .i64 I, .bool O] W2) := hid (by rw [← hW2]; exact (((((((((((HX1.out).other (a := ⟨C, 1, none⟩) HCB.out.2 _).other (a := ⟨C, 2, none⟩) HCB.out.2 _).other (a := ⟨C, 3, none⟩) HCB.out.2 _).other (a := ⟨C, 4, none⟩) HCB.out.2 _).other (a := ⟨C, 5, none⟩) HCB.out.2 _).other (a := ⟨C, 6, none⟩) HCB.out.2 _).other (a := ⟨C, 7, none⟩) HCB.out.2 _).other (a := ⟨C, 8, none⟩) HCB.out.2 _).other (a := ⟨C, 9, none⟩) HCB.out.2 _).other (a := ⟨C, 10, none⟩) HCB.out.2 _).other (a := ⟨C, 11, none⟩) HCB.out.2 _)
 replace HY : Hid (BoxV C [.int .i64 1, .string U, .int .i64 P, .int .i64 a, .int .i64 b, .int .i64 c, .int .i64 x0, .string x1, .string x2, .int .i64 x3, .slice xd xl xc, .slice aa n ac, .int .i64 0, .int .i64 0, .bool false] W2) := hid (by rw [← hW2]; exact (((((((((((HY.out).set 1 _).set 2 _).set 3 _).set 4 _).set 5 _).set 6 _).set 7 _).set 8 _).set 9 _).set 10 _).set 11 _)
 go_upto_region 13 with fail
 clear hBl hCl b0 d0 f0 b1 d1 f1 b2 d2 f2 b3 d3 f3 b4 d4 f4 b5 d5 f5 b6 d6 f6 b7 d7 f7 b8 d8 f8 b9 d9 f9 b10 d10 f10 b11 d11 f11 b12 d12 f12 b13 d13 f13 b14 d14 f14
 clear hW2
 obtain ⟨b0, b1, b2, b3, b4, b5, b6, b7, b8, b9, b10, b11, b12, b13, b14⟩ := HX2.out.c15
 obtain ⟨d0, d1, d2, d3, d4, d5, d6, d7, d8, d9, d10, d11, d12, d13, d14⟩ := HY.out.c15
 have hBl := HX2.out.lt
 have hCl := HY.out.lt
 go_wp2_with fail
 refine Calls.mono (HSE.out W2 HB2.out) ?_
 rintro e W3 ⟨rfl, hbn⟩
 have HB3 : Hid (Below w.heap.size w W3) := hid (HB2.out.trans (hbn.mono HB2.out.size))
 have HX3 := hid (HX2.out.step hbn)
 clear hbn hBl hCl b0 d0 b1 d1 b2 d2 b3 d3 b4 d4 b5 d5 b6 d6 b7 d7 b8 d8 b9 d9 b10 d10 b11 d11 b12 d12 b13 d13 b14 d14
 obtain ⟨b0, b1, b2, b3, b4, b5, b6, b7, b8, b9, b10, b11, b12, b13, b14⟩ := HX3.out.c15
 have hBl := HX3.out.lt
 cases r with
 | false =>
  obtain rfl : F = 1 := by rw [HF.out, HRO.out]; simp
  go_wp2_with fail
  go_ret
  exact ⟨rfl, HB3.out⟩
 | true =>
  obtain rfl : F = G := by rw [HF.out, HRO.out]; simp
  go_wp2_with fail
  refine Calls.mono (HCK.out W3 HB3.out) ?_
  rintro e W4 ⟨rfl, hbn⟩
  have HB4 := hid (HB3.out.trans (hbn.mono HB3.out.size))
  clear hbn
  go_wp2_with fail
  go_ret
  exact ⟨rfl, HB4.out⟩
theorem evFault_2 (x : Evt) (v : Value) (w : World) (hs : x.job.ask.size ≤ 1000000000) (hv : EvV w x v) (hk : x.kind = 2) : Calls Tryz.prog 15 #[v] w fun e w' => e = .returned (.int .i64 x.fault) ∧ Below w.heap.size w w' := by
 obtain ⟨x0, x1, x2, x3, xd, xl, xc, aa, ac, rfl, hp⟩ := hv
 have hjv := hp.toV
 have hwj := want_job x w x0 x1 x2 x3 xd xl xc aa ac hp
 have hwn := want_none x w x0 x1 x2 x3 xd xl xc aa ac hp
 obtain ⟨k, j, N, I, O⟩ := x
 simp only at hp hs hjv hwj hwn hk ⊢
 subst hk
 have HCK := hid (fun W (h : Below w.heap.size w W) => jobFault_any j _ W hs (hjv.below h))
 obtain ⟨F, hF⟩ : ∃ F, (Evt.mk 2 j N I O).fault = F := ⟨_, rfl⟩
 obtain ⟨od, hod⟩ : ∃ F, (Evt.mk 2 j N I O).odd = F := ⟨_, rfl⟩
 have HF : Hid (F = if od then 1 else if (2 : Int) = 1 then j.fault else if N < 0 ∨ 1000000000 < N ∨ I < 0 ∨ 65535 < I then 4 else 0) := hid (by rw [← hF, ← hod]; rfl)
 obtain ⟨pl, hpl⟩ : ∃ F, bare j = F := ⟨_, rfl⟩
 have HOD : Hid (od = (decide ((2 : Int) < 1) || decide (5 < (2 : Int)) || (!((2 : Int) == 1) && !pl) || (!((2 : Int) == 2) && (N != 0)) || (!(((2 : Int) == 4) || ((2 : Int) == 5)) && (I != 0)) || (!((2 : Int) == 4) && O))) := hid (by rw [← hod, ← hpl]; exact odd_bools 2 j N I O)
 rw [hF]
 rw [hpl] at hwn
 obtain ⟨G, hG⟩ : ∃ F, j.fault = F := ⟨_, rfl⟩
 rw [hG] at HF HCK
 unfold jobVal at HCK
 unfold evVal at hwj hwn ⊢
 obtain ⟨u, P, a, b, c, x, l⟩ := j
 simp only at HCK hwj hwn ⊢
 obtain ⟨U, hU⟩ : ∃ U, bts u = U := ⟨_, rfl⟩
 obtain ⟨n, hn⟩ : ∃ n, l.length = n := ⟨_, rfl⟩
 rw [hU, hn] at HCK hwj hwn ⊢
 obtain ⟨B, hB⟩ : ∃ B, B = w.heap.size := ⟨_, rfl⟩
 obtain ⟨W0, hW0⟩ : ∃ W, W = w.alloc (.cells #[.int .i64 2, .string U, .int .i64 P, .int .i64 a, .int .i64 b, .int .i64 c, .int .i64 x0, .string x1, .string x2, .int .i64 x3, .slice xd xl xc, .slice aa n ac, .int .i64 N, .int .i64 I, .bool O] 40) := ⟨_, rfl⟩
 have hbW0 : Below w.heap.size w W0 := be0 hW0
 have HX : Hid (BoxV B [.int .i64 2, .string U, .int .i64 P, .int .i64 a, .int .i64 b, .int .i64 c, .int .i64 x0, .string x1, .string x2, .int .i64 x3, .slice xd xl xc, .slice aa n ac, .int .i64 N, .int .i64 I, .bool O] W0) := hid (by rw [hW0]; exact BoxV.top _ hB)
 obtain ⟨C, hC⟩ : ∃ B, B = W0.heap.size := ⟨_, rfl⟩
 obtain ⟨W1, hW1⟩ : ∃ W, W = W0.alloc (.cells #[.int .i64 2, .string ⟨#[]⟩, .int .i64 0, .int .i64 0, .int .i64 0, .int .i64 0, .int .i64 0, .string ⟨#[]⟩, .string ⟨#[]⟩, .int .i64 0, .slice none 0 0, .slice none 0 0, .int .i64 0, .int .i64 0, .bool false] 40) := ⟨_, rfl⟩
 have hbW1 : Below W0.heap.size W0 W1 := be0 hW1
 have HY : Hid (BoxV C [.int .i64 2, .string ⟨#[]⟩, .int .i64 0, .int .i64 0, .int .i64 0, .int .i64 0, .int .i64 0, .string ⟨#[]⟩, .string ⟨#[]⟩, .int .i64 0, .slice none 0 0, .slice none 0 0, .int .i64 0, .int .i64 0, .bool false] W1) := hid (by rw [hW1]; exact BoxV.top _ hC)
 have HX1 := hid (HX.out.step hbW1)
 have HB0 := hid hbW0
 have HB1 : Hid (Below w.heap.size w W1) := hid (hbW0.trans (hbW1.mono hbW0.size))
 have HCB : Hid (w.heap.size ≤ C ∧ C ≠ B) := hid ⟨by rw [hC]; exact hbW0.size, by rw [hC]; exact Nat.ne_of_gt HX.out.lt⟩
 obtain ⟨r, hr⟩ : ∃ r, ((I == 0) && (O == false) && pl) = r := ⟨_, rfl⟩
 have HSE : Hid (∀ W, Below w.heap.size w W → Calls Tryz.prog 20 #[.agg #[.int .i64 2, .string U, .int .i64 P, .int .i64 a, .int .i64 b, .int .i64 c, .int .i64 x0, .string x1, .string x2, .int .i64 x3, .slice xd xl xc, .slice aa n ac, .int .i64 N, .int .i64 I, .bool O], .agg #[.int .i64 2, .string ⟨#[]⟩, .int .i64 0, .int .i64 0, .int .i64 0, .int .i64 0, .int .i64 0, .string ⟨#[]⟩, .string ⟨#[]⟩, .int .i64 0, .slice none 0 0, .slice none 0 0, .int .i64 N, .int .i64 0, .bool false]] W fun e w' => e = .returned (.bool r) ∧ Below W.heap.size W w') := hid (fun W h => by
  have h2 := hwn 2 N 0 false W h
  rw [← hr]
  simpa using h2)
 have HRO : Hid (od = !r) := hid (by
  rw [HOD.out, ← hr]
  cases h1 : (N == 0) <;> cases h2 : (I == 0) <;> cases O <;> cases pl <;> simp [bne, h1, h2])
 clear hod hpl hF hG hwj hwn hp hs hjv hU hn hr HOD
 go_enter Tryz.func15, Tryz.ntmps15
 go_upto_region 1 with fail
 rw [← hW0, ← hB]
 clear hW0 hB hbW0
 obtain ⟨b0, b1, b2, b3, b4, b5, b6, b7, b8, b9, b10, b11, b12, b13, b14⟩ := HX.out.c15
 have hBl := HX.out.lt
 go_upto_region 2 with fail
 rw [← hW1, ← hC]
 clear hW1 hC hbW1
 clear hBl b0 b1 b2 b3 b4 b5 b6 b7 b8 b9 b10 b11 b12 b13 b14
 obtain ⟨b0, b1, b2, b3, b4, b5, b6, b7, b8, b9, b10, b11, b12, b13, b14⟩ := HX1.out.c15
 obtain ⟨d0, d1, d2, d3, d4, d5, d6, d7, d8, d9, d10, d11, d12, d13, d14⟩ := HY.out.c15
 have hBl := HX1.out.lt
 have hCl := HY.out.lt
 obtain ⟨f0, f1, f2, f3, f4, f5, f6, f7, f8, f9, f10, f11, f12, f13, f14⟩ := HY.out.f15
 obtain ⟨W2, hW2⟩ : ∃ W, (W1.setCell ⟨C, 12, none⟩ (.int .i64 N)) = W := ⟨_, rfl⟩
 have HB2 : Hid (Below w.heap.size w W2) := hid (by rw [← hW2]; exact (HB1.out).setCell (p := ⟨C, 12, none⟩) HCB.out.1 _)
 have HX2 : Hid (BoxV B [.int .i64 2, .string U, .int .i64 P, .int .i64 a, .int .i64 b, .int .i64 c, .int .i64 x0, .string x1, .string x2, .int .i64 x3, .slice xd xl xc, .slice aa n ac, .int .i64 N, .int .i64 I, .bool O] W2) := hid (by rw [← hW2]; exact (HX1.out).other (a := ⟨C, 12, none⟩) HCB.out.2 _)
 replace HY : Hid (BoxV C [.int .i64 2, .string ⟨#[]⟩, .int .i64 0, .int .i64 0, .int .i64 0, .int .i64 0, .int .i64 0, .string ⟨#[]⟩, .string ⟨#[]⟩, .int .i64 0, .slice none 0 0, .slice none 0 0, .int .i64 N, .int .i64 0, .bool false] W2) := hid (by rw [← hW2]; exact (HY.out).set 12 _)
 go_upto_region 13 with fail
 clear hBl hCl b0 d0 f0 b1 d1 f1 b2 d2 f2 b3 d3 f3 b4 d4 f4 b5 d5 f5 b6 d6 f6 b7 d7 f7 b8 d8 f8 b9 d9 f9 b10 d10 f10 b11 d11 f11 b12 d12 f12 b13 d13 f13 b14 d14 f14
 clear hW2
 obtain ⟨b0, b1, b2, b3, b4, b5, b6, b7, b8, b9, b10, b11, b12, b13, b14⟩ := HX2.out.c15
 obtain ⟨d0, d1, d2, d3, d4, d5, d6, d7, d8, d9, d10, d11, d12, d13, d14⟩ := HY.out.c15
 have hBl := HX2.out.lt
 have hCl := HY.out.lt
 go_wp2_with fail
 refine Calls.mono (HSE.out W2 HB2.out) ?_
 rintro e W3 ⟨rfl, hbn⟩
 have HB3 : Hid (Below w.heap.size w W3) := hid (HB2.out.trans (hbn.mono HB2.out.size))
 have HX3 := hid (HX2.out.step hbn)
 clear hbn hBl hCl b0 d0 b1 d1 b2 d2 b3 d3 b4 d4 b5 d5 b6 d6 b7 d7 b8 d8 b9 d9 b10 d10 b11 d11 b12 d12 b13 d13 b14 d14
 obtain ⟨b0, b1, b2, b3, b4, b5, b6, b7, b8, b9, b10, b11, b12, b13, b14⟩ := HX3.out.c15
 have hBl := HX3.out.lt
 cases r with
 | false =>
  obtain rfl : F = 1 := by rw [HF.out, HRO.out]; simp
  go_wp2_with fail
  go_ret
  exact ⟨rfl, HB3.out⟩
 | true =>
  have HFF : Hid (F = if N < 0 ∨ 1000000000 < N ∨ I < 0 ∨ 65535 < I then 4 else 0) := hid (by rw [HF.out, HRO.out]; simp)
  by_cases h1 : N < 0
  ·obtain rfl : F = 4 := by rw [HFF.out, if_pos (.inl h1)]
   go_wp2_with fail
   go_ret
   exact ⟨rfl, HB3.out⟩
  by_cases h2 : 1000000000 < N
  ·obtain rfl : F = 4 := by rw [HFF.out, if_pos (.inr (.inl h2))]
   go_wp2_with fail
   go_ret
   exact ⟨rfl, HB3.out⟩
  by_cases h3 : I < 0
  ·obtain rfl : F = 4 := by rw [HFF.out, if_pos (.inr (.inr (.inl h3)))]
   go_wp2_with fail
   go_ret
   exact ⟨rfl, HB3.out⟩
  by_cases h4 : 65535 < I
  ·obtain rfl : F = 4 := by rw [HFF.out, if_pos (.inr (.inr (.inr h4)))]
   go_wp2_with fail
   go_ret
   exact ⟨rfl, HB3.out⟩
  obtain rfl : F = 0 := by rw [HFF.out, if_neg (by omega)]
  go_wp2_with fail
  go_ret
  exact ⟨rfl, HB3.out⟩
theorem evFault_3 (x : Evt) (v : Value) (w : World) (hs : x.job.ask.size ≤ 1000000000) (hv : EvV w x v) (hk : x.kind = 3) : Calls Tryz.prog 15 #[v] w fun e w' => e = .returned (.int .i64 x.fault) ∧ Below w.heap.size w w' := by
 obtain ⟨x0, x1, x2, x3, xd, xl, xc, aa, ac, rfl, hp⟩ := hv
 have hjv := hp.toV
 have hwj := want_job x w x0 x1 x2 x3 xd xl xc aa ac hp
 have hwn := want_none x w x0 x1 x2 x3 xd xl xc aa ac hp
 obtain ⟨k, j, N, I, O⟩ := x
 simp only at hp hs hjv hwj hwn hk ⊢
 subst hk
 have HCK := hid (fun W (h : Below w.heap.size w W) => jobFault_any j _ W hs (hjv.below h))
 obtain ⟨F, hF⟩ : ∃ F, (Evt.mk 3 j N I O).fault = F := ⟨_, rfl⟩
 obtain ⟨od, hod⟩ : ∃ F, (Evt.mk 3 j N I O).odd = F := ⟨_, rfl⟩
 have HF : Hid (F = if od then 1 else if (3 : Int) = 1 then j.fault else if N < 0 ∨ 1000000000 < N ∨ I < 0 ∨ 65535 < I then 4 else 0) := hid (by rw [← hF, ← hod]; rfl)
 obtain ⟨pl, hpl⟩ : ∃ F, bare j = F := ⟨_, rfl⟩
 have HOD : Hid (od = (decide ((3 : Int) < 1) || decide (5 < (3 : Int)) || (!((3 : Int) == 1) && !pl) || (!((3 : Int) == 2) && (N != 0)) || (!(((3 : Int) == 4) || ((3 : Int) == 5)) && (I != 0)) || (!((3 : Int) == 4) && O))) := hid (by rw [← hod, ← hpl]; exact odd_bools 3 j N I O)
 rw [hF]
 rw [hpl] at hwn
 obtain ⟨G, hG⟩ : ∃ F, j.fault = F := ⟨_, rfl⟩
 rw [hG] at HF HCK
 unfold jobVal at HCK
 unfold evVal at hwj hwn ⊢
 obtain ⟨u, P, a, b, c, x, l⟩ := j
 simp only at HCK hwj hwn ⊢
 obtain ⟨U, hU⟩ : ∃ U, bts u = U := ⟨_, rfl⟩
 obtain ⟨n, hn⟩ : ∃ n, l.length = n := ⟨_, rfl⟩
 rw [hU, hn] at HCK hwj hwn ⊢
 obtain ⟨B, hB⟩ : ∃ B, B = w.heap.size := ⟨_, rfl⟩
 obtain ⟨W0, hW0⟩ : ∃ W, W = w.alloc (.cells #[.int .i64 3, .string U, .int .i64 P, .int .i64 a, .int .i64 b, .int .i64 c, .int .i64 x0, .string x1, .string x2, .int .i64 x3, .slice xd xl xc, .slice aa n ac, .int .i64 N, .int .i64 I, .bool O] 40) := ⟨_, rfl⟩
 have hbW0 : Below w.heap.size w W0 := be0 hW0
 have HX : Hid (BoxV B [.int .i64 3, .string U, .int .i64 P, .int .i64 a, .int .i64 b, .int .i64 c, .int .i64 x0, .string x1, .string x2, .int .i64 x3, .slice xd xl xc, .slice aa n ac, .int .i64 N, .int .i64 I, .bool O] W0) := hid (by rw [hW0]; exact BoxV.top _ hB)
 obtain ⟨C, hC⟩ : ∃ B, B = W0.heap.size := ⟨_, rfl⟩
 obtain ⟨W1, hW1⟩ : ∃ W, W = W0.alloc (.cells #[.int .i64 3, .string ⟨#[]⟩, .int .i64 0, .int .i64 0, .int .i64 0, .int .i64 0, .int .i64 0, .string ⟨#[]⟩, .string ⟨#[]⟩, .int .i64 0, .slice none 0 0, .slice none 0 0, .int .i64 0, .int .i64 0, .bool false] 40) := ⟨_, rfl⟩
 have hbW1 : Below W0.heap.size W0 W1 := be0 hW1
 have HY : Hid (BoxV C [.int .i64 3, .string ⟨#[]⟩, .int .i64 0, .int .i64 0, .int .i64 0, .int .i64 0, .int .i64 0, .string ⟨#[]⟩, .string ⟨#[]⟩, .int .i64 0, .slice none 0 0, .slice none 0 0, .int .i64 0, .int .i64 0, .bool false] W1) := hid (by rw [hW1]; exact BoxV.top _ hC)
 have HX1 := hid (HX.out.step hbW1)
 have HB0 := hid hbW0
 have HB1 : Hid (Below w.heap.size w W1) := hid (hbW0.trans (hbW1.mono hbW0.size))
 have HCB : Hid (w.heap.size ≤ C ∧ C ≠ B) := hid ⟨by rw [hC]; exact hbW0.size, by rw [hC]; exact Nat.ne_of_gt HX.out.lt⟩
 obtain ⟨r, hr⟩ : ∃ r, ((N == 0) && (I == 0) && (O == false) && pl) = r := ⟨_, rfl⟩
 have HSE : Hid (∀ W, Below w.heap.size w W → Calls Tryz.prog 20 #[.agg #[.int .i64 3, .string U, .int .i64 P, .int .i64 a, .int .i64 b, .int .i64 c, .int .i64 x0, .string x1, .string x2, .int .i64 x3, .slice xd xl xc, .slice aa n ac, .int .i64 N, .int .i64 I, .bool O], .agg #[.int .i64 3, .string ⟨#[]⟩, .int .i64 0, .int .i64 0, .int .i64 0, .int .i64 0, .int .i64 0, .string ⟨#[]⟩, .string ⟨#[]⟩, .int .i64 0, .slice none 0 0, .slice none 0 0, .int .i64 0, .int .i64 0, .bool false]] W fun e w' => e = .returned (.bool r) ∧ Below W.heap.size W w') := hid (fun W h => by
  have h2 := hwn 3 0 0 false W h
  rw [← hr]
  simpa using h2)
 have HRO : Hid (od = !r) := hid (by
  rw [HOD.out, ← hr]
  cases h1 : (N == 0) <;> cases h2 : (I == 0) <;> cases O <;> cases pl <;> simp [bne, h1, h2])
 clear hod hpl hF hG hwj hwn hp hs hjv hU hn hr HOD
 go_enter Tryz.func15, Tryz.ntmps15
 go_upto_region 1 with fail
 rw [← hW0, ← hB]
 clear hW0 hB hbW0
 obtain ⟨b0, b1, b2, b3, b4, b5, b6, b7, b8, b9, b10, b11, b12, b13, b14⟩ := HX.out.c15
 have hBl := HX.out.lt
 go_upto_region 2 with fail
 rw [← hW1, ← hC]
 clear hW1 hC hbW1
 clear hBl b0 b1 b2 b3 b4 b5 b6 b7 b8 b9 b10 b11 b12 b13 b14
 obtain ⟨b0, b1, b2, b3, b4, b5, b6, b7, b8, b9, b10, b11, b12, b13, b14⟩ := HX1.out.c15
 obtain ⟨d0, d1, d2, d3, d4, d5, d6, d7, d8, d9, d10, d11, d12, d13, d14⟩ := HY.out.c15
 have hBl := HX1.out.lt
 have hCl := HY.out.lt
 obtain ⟨f0, f1, f2, f3, f4, f5, f6, f7, f8, f9, f10, f11, f12, f13, f14⟩ := HY.out.f15
 go_upto_region 13 with fail
 clear hBl hCl b0 d0 f0 b1 d1 f1 b2 d2 f2 b3 d3 f3 b4 d4 f4 b5 d5 f5 b6 d6 f6 b7 d7 f7 b8 d8 f8 b9 d9 f9 b10 d10 f10 b11 d11 f11 b12 d12 f12 b13 d13 f13 b14 d14 f14
 obtain ⟨b0, b1, b2, b3, b4, b5, b6, b7, b8, b9, b10, b11, b12, b13, b14⟩ := HX1.out.c15
 obtain ⟨d0, d1, d2, d3, d4, d5, d6, d7, d8, d9, d10, d11, d12, d13, d14⟩ := HY.out.c15
 have hBl := HX1.out.lt
 have hCl := HY.out.lt
 go_wp2_with fail
 refine Calls.mono (HSE.out W1 HB1.out) ?_
 rintro e W3 ⟨rfl, hbn⟩
 have HB3 : Hid (Below w.heap.size w W3) := hid (HB1.out.trans (hbn.mono HB1.out.size))
 have HX3 := hid (HX1.out.step hbn)
 clear hbn hBl hCl b0 d0 b1 d1 b2 d2 b3 d3 b4 d4 b5 d5 b6 d6 b7 d7 b8 d8 b9 d9 b10 d10 b11 d11 b12 d12 b13 d13 b14 d14
 obtain ⟨b0, b1, b2, b3, b4, b5, b6, b7, b8, b9, b10, b11, b12, b13, b14⟩ := HX3.out.c15
 have hBl := HX3.out.lt
 cases r with
 | false =>
  obtain rfl : F = 1 := by rw [HF.out, HRO.out]; simp
  go_wp2_with fail
  go_ret
  exact ⟨rfl, HB3.out⟩
 | true =>
  have HFF : Hid (F = if N < 0 ∨ 1000000000 < N ∨ I < 0 ∨ 65535 < I then 4 else 0) := hid (by rw [HF.out, HRO.out]; simp)
  by_cases h1 : N < 0
  ·obtain rfl : F = 4 := by rw [HFF.out, if_pos (.inl h1)]
   go_wp2_with fail
   go_ret
   exact ⟨rfl, HB3.out⟩
  by_cases h2 : 1000000000 < N
  ·obtain rfl : F = 4 := by rw [HFF.out, if_pos (.inr (.inl h2))]
   go_wp2_with fail
   go_ret
   exact ⟨rfl, HB3.out⟩
  by_cases h3 : I < 0
  ·obtain rfl : F = 4 := by rw [HFF.out, if_pos (.inr (.inr (.inl h3)))]
   go_wp2_with fail
   go_ret
   exact ⟨rfl, HB3.out⟩
  by_cases h4 : 65535 < I
  ·obtain rfl : F = 4 := by rw [HFF.out, if_pos (.inr (.inr (.inr h4)))]
   go_wp2_with fail
   go_ret
   exact ⟨rfl, HB3.out⟩
  obtain rfl : F = 0 := by rw [HFF.out, if_neg (by omega)]
  go_wp2_with fail
  go_ret
  exact ⟨rfl, HB3.out⟩
theorem evFault_4 (x : Evt) (v : Value) (w : World) (hs : x.job.ask.size ≤ 1000000000) (hv : EvV w x v) (hk : x.kind = 4) : Calls Tryz.prog 15 #[v] w fun e w' => e = .returned (.int .i64 x.fault) ∧ Below w.heap.size w w' := by
 obtain ⟨x0, x1, x2, x3, xd, xl, xc, aa, ac, rfl, hp⟩ := hv
 have hjv := hp.toV
 have hwj := want_job x w x0 x1 x2 x3 xd xl xc aa ac hp
 have hwn := want_none x w x0 x1 x2 x3 xd xl xc aa ac hp
 obtain ⟨k, j, N, I, O⟩ := x
 simp only at hp hs hjv hwj hwn hk ⊢
 subst hk
 have HCK := hid (fun W (h : Below w.heap.size w W) => jobFault_any j _ W hs (hjv.below h))
 obtain ⟨F, hF⟩ : ∃ F, (Evt.mk 4 j N I O).fault = F := ⟨_, rfl⟩
 obtain ⟨od, hod⟩ : ∃ F, (Evt.mk 4 j N I O).odd = F := ⟨_, rfl⟩
 have HF : Hid (F = if od then 1 else if (4 : Int) = 1 then j.fault else if N < 0 ∨ 1000000000 < N ∨ I < 0 ∨ 65535 < I then 4 else 0) := hid (by rw [← hF, ← hod]; rfl)
 obtain ⟨pl, hpl⟩ : ∃ F, bare j = F := ⟨_, rfl⟩
 have HOD : Hid (od = (decide ((4 : Int) < 1) || decide (5 < (4 : Int)) || (!((4 : Int) == 1) && !pl) || (!((4 : Int) == 2) && (N != 0)) || (!(((4 : Int) == 4) || ((4 : Int) == 5)) && (I != 0)) || (!((4 : Int) == 4) && O))) := hid (by rw [← hod, ← hpl]; exact odd_bools 4 j N I O)
 rw [hF]
 rw [hpl] at hwn
 obtain ⟨G, hG⟩ : ∃ F, j.fault = F := ⟨_, rfl⟩
 rw [hG] at HF HCK
 unfold jobVal at HCK
 unfold evVal at hwj hwn ⊢
 obtain ⟨u, P, a, b, c, x, l⟩ := j
 simp only at HCK hwj hwn ⊢
 obtain ⟨U, hU⟩ : ∃ U, bts u = U := ⟨_, rfl⟩
 obtain ⟨n, hn⟩ : ∃ n, l.length = n := ⟨_, rfl⟩
 rw [hU, hn] at HCK hwj hwn ⊢
 obtain ⟨B, hB⟩ : ∃ B, B = w.heap.size := ⟨_, rfl⟩
 obtain ⟨W0, hW0⟩ : ∃ W, W = w.alloc (.cells #[.int .i64 4, .string U, .int .i64 P, .int .i64 a, .int .i64 b, .int .i64 c, .int .i64 x0, .string x1, .string x2, .int .i64 x3, .slice xd xl xc, .slice aa n ac, .int .i64 N, .int .i64 I, .bool O] 40) := ⟨_, rfl⟩
 have hbW0 : Below w.heap.size w W0 := be0 hW0
 have HX : Hid (BoxV B [.int .i64 4, .string U, .int .i64 P, .int .i64 a, .int .i64 b, .int .i64 c, .int .i64 x0, .string x1, .string x2, .int .i64 x3, .slice xd xl xc, .slice aa n ac, .int .i64 N, .int .i64 I, .bool O] W0) := hid (by rw [hW0]; exact BoxV.top _ hB)
 obtain ⟨C, hC⟩ : ∃ B, B = W0.heap.size := ⟨_, rfl⟩
 obtain ⟨W1, hW1⟩ : ∃ W, W = W0.alloc (.cells #[.int .i64 4, .string ⟨#[]⟩, .int .i64 0, .int .i64 0, .int .i64 0, .int .i64 0, .int .i64 0, .string ⟨#[]⟩, .string ⟨#[]⟩, .int .i64 0, .slice none 0 0, .slice none 0 0, .int .i64 0, .int .i64 0, .bool false] 40) := ⟨_, rfl⟩
 have hbW1 : Below W0.heap.size W0 W1 := be0 hW1
 have HY : Hid (BoxV C [.int .i64 4, .string ⟨#[]⟩, .int .i64 0, .int .i64 0, .int .i64 0, .int .i64 0, .int .i64 0, .string ⟨#[]⟩, .string ⟨#[]⟩, .int .i64 0, .slice none 0 0, .slice none 0 0, .int .i64 0, .int .i64 0, .bool false] W1) := hid (by rw [hW1]; exact BoxV.top _ hC)
 have HX1 := hid (HX.out.step hbW1)
 have HB0 := hid hbW0
 have HB1 : Hid (Below w.heap.size w W1) := hid (hbW0.trans (hbW1.mono hbW0.size))
 have HCB : Hid (w.heap.size ≤ C ∧ C ≠ B) := hid ⟨by rw [hC]; exact hbW0.size, by rw [hC]; exact Nat.ne_of_gt HX.out.lt⟩
 obtain ⟨r, hr⟩ : ∃ r, ((N == 0) && pl) = r := ⟨_, rfl⟩
 have HSE : Hid (∀ W, Below w.heap.size w W → Calls Tryz.prog 20 #[.agg #[.int .i64 4, .string U, .int .i64 P, .int .i64 a, .int .i64 b, .int .i64 c, .int .i64 x0, .string x1, .string x2, .int .i64 x3, .slice xd xl xc, .slice aa n ac, .int .i64 N, .int .i64 I, .bool O], .agg #[.int .i64 4, .string ⟨#[]⟩, .int .i64 0, .int .i64 0, .int .i64 0, .int .i64 0, .int .i64 0, .string ⟨#[]⟩, .string ⟨#[]⟩, .int .i64 0, .slice none 0 0, .slice none 0 0, .int .i64 0, .int .i64 I, .bool O]] W fun e w' => e = .returned (.bool r) ∧ Below W.heap.size W w') := hid (fun W h => by
  have h2 := hwn 4 0 I O W h
  rw [← hr]
  simpa using h2)
 have HRO : Hid (od = !r) := hid (by
  rw [HOD.out, ← hr]
  cases h1 : (N == 0) <;> cases h2 : (I == 0) <;> cases O <;> cases pl <;> simp [bne, h1, h2])
 clear hod hpl hF hG hwj hwn hp hs hjv hU hn hr HOD
 go_enter Tryz.func15, Tryz.ntmps15
 go_upto_region 1 with fail
 rw [← hW0, ← hB]
 clear hW0 hB hbW0
 obtain ⟨b0, b1, b2, b3, b4, b5, b6, b7, b8, b9, b10, b11, b12, b13, b14⟩ := HX.out.c15
 have hBl := HX.out.lt
 go_upto_region 2 with fail
 rw [← hW1, ← hC]
 clear hW1 hC hbW1
 clear hBl b0 b1 b2 b3 b4 b5 b6 b7 b8 b9 b10 b11 b12 b13 b14
 obtain ⟨b0, b1, b2, b3, b4, b5, b6, b7, b8, b9, b10, b11, b12, b13, b14⟩ := HX1.out.c15
 obtain ⟨d0, d1, d2, d3, d4, d5, d6, d7, d8, d9, d10, d11, d12, d13, d14⟩ := HY.out.c15
 have hBl := HX1.out.lt
 have hCl := HY.out.lt
 obtain ⟨f0, f1, f2, f3, f4, f5, f6, f7, f8, f9, f10, f11, f12, f13, f14⟩ := HY.out.f15
 obtain ⟨W2, hW2⟩ : ∃ W, ((W1.setCell ⟨C, 13, none⟩ (.int .i64 I)).setCell ⟨C, 14, none⟩ (.bool O)) = W := ⟨_, rfl⟩
 have HB2 : Hid (Below w.heap.size w W2) := hid (by rw [← hW2]; exact ((HB1.out).setCell (p := ⟨C, 13, none⟩) HCB.out.1 _).setCell (p := ⟨C, 14, none⟩) HCB.out.1 _)
 have HX2 : Hid (BoxV B [.int .i64 4, .string U, .int .i64 P, .int .i64 a, .int .i64 b, .int .i64 c, .int .i64 x0, .string x1, .string x2, .int .i64 x3, .slice xd xl xc, .slice aa n ac, .int .i64 N, .int .i64 I, .bool O] W2) := hid (by rw [← hW2]; exact ((HX1.out).other (a := ⟨C, 13, none⟩) HCB.out.2 _).other (a := ⟨C, 14, none⟩) HCB.out.2 _)
 replace HY : Hid (BoxV C [.int .i64 4, .string ⟨#[]⟩, .int .i64 0, .int .i64 0, .int .i64 0, .int .i64 0, .int .i64 0, .string ⟨#[]⟩, .string ⟨#[]⟩, .int .i64 0, .slice none 0 0, .slice none 0 0, .int .i64 0, .int .i64 I, .bool O] W2) := hid (by rw [← hW2]; exact ((HY.out).set 13 _).set 14 _)
 go_upto_region 10 with fail
 go_region
 go_upto_region 13 with fail
 obtain ⟨W5, hW5⟩ : ∃ W, W2.drew = W := ⟨_, rfl⟩
 have hd : Below W2.heap.size W2 W5 := by rw [← hW5]; exact (Below.refl _ _).drew
 have HB5 : Hid (Below w.heap.size w W5) := hid (HB2.out.trans (hd.mono HB2.out.size))
 have HX5 := hid (HX2.out.step hd)
 replace HY := hid (HY.out.step hd)
 rw [hW5]
 clear hd hW5
 clear hBl hCl b0 d0 f0 b1 d1 f1 b2 d2 f2 b3 d3 f3 b4 d4 f4 b5 d5 f5 b6 d6 f6 b7 d7 f7 b8 d8 f8 b9 d9 f9 b10 d10 f10 b11 d11 f11 b12 d12 f12 b13 d13 f13 b14 d14 f14
 clear hW2
 obtain ⟨b0, b1, b2, b3, b4, b5, b6, b7, b8, b9, b10, b11, b12, b13, b14⟩ := HX5.out.c15
 obtain ⟨d0, d1, d2, d3, d4, d5, d6, d7, d8, d9, d10, d11, d12, d13, d14⟩ := HY.out.c15
 have hBl := HX5.out.lt
 have hCl := HY.out.lt
 go_wp2_with fail
 refine Calls.mono (HSE.out W5 HB5.out) ?_
 rintro e W3 ⟨rfl, hbn⟩
 have HB3 : Hid (Below w.heap.size w W3) := hid (HB5.out.trans (hbn.mono HB5.out.size))
 have HX3 := hid (HX5.out.step hbn)
 clear hbn hBl hCl b0 d0 b1 d1 b2 d2 b3 d3 b4 d4 b5 d5 b6 d6 b7 d7 b8 d8 b9 d9 b10 d10 b11 d11 b12 d12 b13 d13 b14 d14
 obtain ⟨b0, b1, b2, b3, b4, b5, b6, b7, b8, b9, b10, b11, b12, b13, b14⟩ := HX3.out.c15
 have hBl := HX3.out.lt
 cases r with
 | false =>
  obtain rfl : F = 1 := by rw [HF.out, HRO.out]; simp
  go_wp2_with fail
  go_ret
  exact ⟨rfl, HB3.out⟩
 | true =>
  have HFF : Hid (F = if N < 0 ∨ 1000000000 < N ∨ I < 0 ∨ 65535 < I then 4 else 0) := hid (by rw [HF.out, HRO.out]; simp)
  by_cases h1 : N < 0
  ·obtain rfl : F = 4 := by rw [HFF.out, if_pos (.inl h1)]
   go_wp2_with fail
   go_ret
   exact ⟨rfl, HB3.out⟩
  by_cases h2 : 1000000000 < N
  ·obtain rfl : F = 4 := by rw [HFF.out, if_pos (.inr (.inl h2))]
   go_wp2_with fail
   go_ret
   exact ⟨rfl, HB3.out⟩
  by_cases h3 : I < 0
  ·obtain rfl : F = 4 := by rw [HFF.out, if_pos (.inr (.inr (.inl h3)))]
   go_wp2_with fail
   go_ret
   exact ⟨rfl, HB3.out⟩
  by_cases h4 : 65535 < I
  ·obtain rfl : F = 4 := by rw [HFF.out, if_pos (.inr (.inr (.inr h4)))]
   go_wp2_with fail
   go_ret
   exact ⟨rfl, HB3.out⟩
  obtain rfl : F = 0 := by rw [HFF.out, if_neg (by omega)]
  go_wp2_with fail
  go_ret
  exact ⟨rfl, HB3.out⟩
theorem evFault_5 (x : Evt) (v : Value) (w : World) (hs : x.job.ask.size ≤ 1000000000) (hv : EvV w x v) (hk : x.kind = 5) : Calls Tryz.prog 15 #[v] w fun e w' => e = .returned (.int .i64 x.fault) ∧ Below w.heap.size w w' := by
 obtain ⟨x0, x1, x2, x3, xd, xl, xc, aa, ac, rfl, hp⟩ := hv
 have hjv := hp.toV
 have hwj := want_job x w x0 x1 x2 x3 xd xl xc aa ac hp
 have hwn := want_none x w x0 x1 x2 x3 xd xl xc aa ac hp
 obtain ⟨k, j, N, I, O⟩ := x
 simp only at hp hs hjv hwj hwn hk ⊢
 subst hk
 have HCK := hid (fun W (h : Below w.heap.size w W) => jobFault_any j _ W hs (hjv.below h))
 obtain ⟨F, hF⟩ : ∃ F, (Evt.mk 5 j N I O).fault = F := ⟨_, rfl⟩
 obtain ⟨od, hod⟩ : ∃ F, (Evt.mk 5 j N I O).odd = F := ⟨_, rfl⟩
 have HF : Hid (F = if od then 1 else if (5 : Int) = 1 then j.fault else if N < 0 ∨ 1000000000 < N ∨ I < 0 ∨ 65535 < I then 4 else 0) := hid (by rw [← hF, ← hod]; rfl)
 obtain ⟨pl, hpl⟩ : ∃ F, bare j = F := ⟨_, rfl⟩
 have HOD : Hid (od = (decide ((5 : Int) < 1) || decide (5 < (5 : Int)) || (!((5 : Int) == 1) && !pl) || (!((5 : Int) == 2) && (N != 0)) || (!(((5 : Int) == 4) || ((5 : Int) == 5)) && (I != 0)) || (!((5 : Int) == 4) && O))) := hid (by rw [← hod, ← hpl]; exact odd_bools 5 j N I O)
 rw [hF]
 rw [hpl] at hwn
 obtain ⟨G, hG⟩ : ∃ F, j.fault = F := ⟨_, rfl⟩
 rw [hG] at HF HCK
 unfold jobVal at HCK
 unfold evVal at hwj hwn ⊢
 obtain ⟨u, P, a, b, c, x, l⟩ := j
 simp only at HCK hwj hwn ⊢
 obtain ⟨U, hU⟩ : ∃ U, bts u = U := ⟨_, rfl⟩
 obtain ⟨n, hn⟩ : ∃ n, l.length = n := ⟨_, rfl⟩
 rw [hU, hn] at HCK hwj hwn ⊢
 obtain ⟨B, hB⟩ : ∃ B, B = w.heap.size := ⟨_, rfl⟩
 obtain ⟨W0, hW0⟩ : ∃ W, W = w.alloc (.cells #[.int .i64 5, .string U, .int .i64 P, .int .i64 a, .int .i64 b, .int .i64 c, .int .i64 x0, .string x1, .string x2, .int .i64 x3, .slice xd xl xc, .slice aa n ac, .int .i64 N, .int .i64 I, .bool O] 40) := ⟨_, rfl⟩
 have hbW0 : Below w.heap.size w W0 := be0 hW0
 have HX : Hid (BoxV B [.int .i64 5, .string U, .int .i64 P, .int .i64 a, .int .i64 b, .int .i64 c, .int .i64 x0, .string x1, .string x2, .int .i64 x3, .slice xd xl xc, .slice aa n ac, .int .i64 N, .int .i64 I, .bool O] W0) := hid (by rw [hW0]; exact BoxV.top _ hB)
 obtain ⟨C, hC⟩ : ∃ B, B = W0.heap.size := ⟨_, rfl⟩
 obtain ⟨W1, hW1⟩ : ∃ W, W = W0.alloc (.cells #[.int .i64 5, .string ⟨#[]⟩, .int .i64 0, .int .i64 0, .int .i64 0, .int .i64 0, .int .i64 0, .string ⟨#[]⟩, .string ⟨#[]⟩, .int .i64 0, .slice none 0 0, .slice none 0 0, .int .i64 0, .int .i64 0, .bool false] 40) := ⟨_, rfl⟩
 have hbW1 : Below W0.heap.size W0 W1 := be0 hW1
 have HY : Hid (BoxV C [.int .i64 5, .string ⟨#[]⟩, .int .i64 0, .int .i64 0, .int .i64 0, .int .i64 0, .int .i64 0, .string ⟨#[]⟩, .string ⟨#[]⟩, .int .i64 0, .slice none 0 0, .slice none 0 0, .int .i64 0, .int .i64 0, .bool false] W1) := hid (by rw [hW1]; exact BoxV.top _ hC)
 have HX1 := hid (HX.out.step hbW1)
 have HB0 := hid hbW0
 have HB1 : Hid (Below w.heap.size w W1) := hid (hbW0.trans (hbW1.mono hbW0.size))
 have HCB : Hid (w.heap.size ≤ C ∧ C ≠ B) := hid ⟨by rw [hC]; exact hbW0.size, by rw [hC]; exact Nat.ne_of_gt HX.out.lt⟩
 obtain ⟨r, hr⟩ : ∃ r, ((N == 0) && (O == false) && pl) = r := ⟨_, rfl⟩
 have HSE : Hid (∀ W, Below w.heap.size w W → Calls Tryz.prog 20 #[.agg #[.int .i64 5, .string U, .int .i64 P, .int .i64 a, .int .i64 b, .int .i64 c, .int .i64 x0, .string x1, .string x2, .int .i64 x3, .slice xd xl xc, .slice aa n ac, .int .i64 N, .int .i64 I, .bool O], .agg #[.int .i64 5, .string ⟨#[]⟩, .int .i64 0, .int .i64 0, .int .i64 0, .int .i64 0, .int .i64 0, .string ⟨#[]⟩, .string ⟨#[]⟩, .int .i64 0, .slice none 0 0, .slice none 0 0, .int .i64 0, .int .i64 I, .bool false]] W fun e w' => e = .returned (.bool r) ∧ Below W.heap.size W w') := hid (fun W h => by
  have h2 := hwn 5 0 I false W h
  rw [← hr]
  simpa using h2)
 have HRO : Hid (od = !r) := hid (by
  rw [HOD.out, ← hr]
  cases h1 : (N == 0) <;> cases h2 : (I == 0) <;> cases O <;> cases pl <;> simp [bne, h1, h2])
 clear hod hpl hF hG hwj hwn hp hs hjv hU hn hr HOD
 go_enter Tryz.func15, Tryz.ntmps15
 go_upto_region 1 with fail
 rw [← hW0, ← hB]
 clear hW0 hB hbW0
 obtain ⟨b0, b1, b2, b3, b4, b5, b6, b7, b8, b9, b10, b11, b12, b13, b14⟩ := HX.out.c15
 have hBl := HX.out.lt
 go_upto_region 2 with fail
 rw [← hW1, ← hC]
 clear hW1 hC hbW1
 clear hBl b0 b1 b2 b3 b4 b5 b6 b7 b8 b9 b10 b11 b12 b13 b14
 obtain ⟨b0, b1, b2, b3, b4, b5, b6, b7, b8, b9, b10, b11, b12, b13, b14⟩ := HX1.out.c15
 obtain ⟨d0, d1, d2, d3, d4, d5, d6, d7, d8, d9, d10, d11, d12, d13, d14⟩ := HY.out.c15
 have hBl := HX1.out.lt
 have hCl := HY.out.lt
 obtain ⟨f0, f1, f2, f3, f4, f5, f6, f7, f8, f9, f10, f11, f12, f13, f14⟩ := HY.out.f15
 obtain ⟨W2, hW2⟩ : ∃ W, (W1.setCell ⟨C, 13, none⟩ (.int .i64 I)) = W := ⟨_, rfl⟩
 have HB2 : Hid (Below w.heap.size w W2) := hid (by rw [← hW2]; exact (HB1.out).setCell (p := ⟨C, 13, none⟩) HCB.out.1 _)
 have HX2 : Hid (BoxV B [.int .i64 5, .string U, .int .i64 P, .int .i64 a, .int .i64 b, .int .i64 c, .int .i64 x0, .string x1, .string x2, .int .i64 x3, .slice xd xl xc, .slice aa n ac, .int .i64 N, .int .i64 I, .bool O] W2) := hid (by rw [← hW2]; exact (HX1.out).other (a := ⟨C, 13, none⟩) HCB.out.2 _)
 replace HY : Hid (BoxV C [.int .i64 5, .string ⟨#[]⟩, .int .i64 0, .int .i64 0, .int .i64 0, .int .i64 0, .int .i64 0, .string ⟨#[]⟩, .string ⟨#[]⟩, .int .i64 0, .slice none 0 0, .slice none 0 0, .int .i64 0, .int .i64 I, .bool false] W2) := hid (by rw [← hW2]; exact (HY.out).set 13 _)
 go_upto_region 13 with fail
 clear hBl hCl b0 d0 f0 b1 d1 f1 b2 d2 f2 b3 d3 f3 b4 d4 f4 b5 d5 f5 b6 d6 f6 b7 d7 f7 b8 d8 f8 b9 d9 f9 b10 d10 f10 b11 d11 f11 b12 d12 f12 b13 d13 f13 b14 d14 f14
 clear hW2
 obtain ⟨b0, b1, b2, b3, b4, b5, b6, b7, b8, b9, b10, b11, b12, b13, b14⟩ := HX2.out.c15
 obtain ⟨d0, d1, d2, d3, d4, d5, d6, d7, d8, d9, d10, d11, d12, d13, d14⟩ := HY.out.c15
 have hBl := HX2.out.lt
 have hCl := HY.out.lt
 go_wp2_with fail
 refine Calls.mono (HSE.out W2 HB2.out) ?_
 rintro e W3 ⟨rfl, hbn⟩
 have HB3 : Hid (Below w.heap.size w W3) := hid (HB2.out.trans (hbn.mono HB2.out.size))
 have HX3 := hid (HX2.out.step hbn)
 clear hbn hBl hCl b0 d0 b1 d1 b2 d2 b3 d3 b4 d4 b5 d5 b6 d6 b7 d7 b8 d8 b9 d9 b10 d10 b11 d11 b12 d12 b13 d13 b14 d14
 obtain ⟨b0, b1, b2, b3, b4, b5, b6, b7, b8, b9, b10, b11, b12, b13, b14⟩ := HX3.out.c15
 have hBl := HX3.out.lt
 cases r with
 | false =>
  obtain rfl : F = 1 := by rw [HF.out, HRO.out]; simp
  go_wp2_with fail
  go_ret
  exact ⟨rfl, HB3.out⟩
 | true =>
  have HFF : Hid (F = if N < 0 ∨ 1000000000 < N ∨ I < 0 ∨ 65535 < I then 4 else 0) := hid (by rw [HF.out, HRO.out]; simp)
  by_cases h1 : N < 0
  ·obtain rfl : F = 4 := by rw [HFF.out, if_pos (.inl h1)]
   go_wp2_with fail
   go_ret
   exact ⟨rfl, HB3.out⟩
  by_cases h2 : 1000000000 < N
  ·obtain rfl : F = 4 := by rw [HFF.out, if_pos (.inr (.inl h2))]
   go_wp2_with fail
   go_ret
   exact ⟨rfl, HB3.out⟩
  by_cases h3 : I < 0
  ·obtain rfl : F = 4 := by rw [HFF.out, if_pos (.inr (.inr (.inl h3)))]
   go_wp2_with fail
   go_ret
   exact ⟨rfl, HB3.out⟩
  by_cases h4 : 65535 < I
  ·obtain rfl : F = 4 := by rw [HFF.out, if_pos (.inr (.inr (.inr h4)))]
   go_wp2_with fail
   go_ret
   exact ⟨rfl, HB3.out⟩
  obtain rfl : F = 0 := by rw [HFF.out, if_neg (by omega)]
  go_wp2_with fail
  go_ret
  exact ⟨rfl, HB3.out⟩
theorem evFault_none (x : Evt) (v : Value) (w : World) (hs : x.job.ask.size ≤ 1000000000) (hv : EvV w x v) (hk : ¬ x.kind = 1 ∧ ¬ x.kind = 2 ∧ ¬ x.kind = 3 ∧ ¬ x.kind = 4 ∧ ¬ x.kind = 5) : Calls Tryz.prog 15 #[v] w fun e w' => e = .returned (.int .i64 x.fault) ∧ Below w.heap.size w w' := by
 obtain ⟨x0, x1, x2, x3, xd, xl, xc, aa, ac, rfl, hp⟩ := hv
 have hjv := hp.toV
 have hwj := want_job x w x0 x1 x2 x3 xd xl xc aa ac hp
 have hwn := want_none x w x0 x1 x2 x3 xd xl xc aa ac hp
 obtain ⟨k, j, N, I, O⟩ := x
 simp only at hp hs hjv hwj hwn hk ⊢
 have HCK := hid (fun W (h : Below w.heap.size w W) => jobFault_any j _ W hs (hjv.below h))
 obtain ⟨F, hF⟩ : ∃ F, (Evt.mk k j N I O).fault = F := ⟨_, rfl⟩
 obtain ⟨od, hod⟩ : ∃ F, (Evt.mk k j N I O).odd = F := ⟨_, rfl⟩
 have HF : Hid (F = if od then 1 else if (k : Int) = 1 then j.fault else if N < 0 ∨ 1000000000 < N ∨ I < 0 ∨ 65535 < I then 4 else 0) := hid (by rw [← hF, ← hod]; rfl)
 obtain ⟨pl, hpl⟩ : ∃ F, bare j = F := ⟨_, rfl⟩
 have HOD : Hid (od = (decide ((k : Int) < 1) || decide (5 < (k : Int)) || (!((k : Int) == 1) && !pl) || (!((k : Int) == 2) && (N != 0)) || (!(((k : Int) == 4) || ((k : Int) == 5)) && (I != 0)) || (!((k : Int) == 4) && O))) := hid (by rw [← hod, ← hpl]; exact odd_bools k j N I O)
 rw [hF]
 rw [hpl] at hwn
 obtain ⟨G, hG⟩ : ∃ F, j.fault = F := ⟨_, rfl⟩
 rw [hG] at HF HCK
 unfold jobVal at HCK
 unfold evVal at hwj hwn ⊢
 obtain ⟨u, P, a, b, c, x, l⟩ := j
 simp only at HCK hwj hwn ⊢
 obtain ⟨U, hU⟩ : ∃ U, bts u = U := ⟨_, rfl⟩
 obtain ⟨n, hn⟩ : ∃ n, l.length = n := ⟨_, rfl⟩
 rw [hU, hn] at HCK hwj hwn ⊢
 obtain ⟨B, hB⟩ : ∃ B, B = w.heap.size := ⟨_, rfl⟩
 obtain ⟨W0, hW0⟩ : ∃ W, W = w.alloc (.cells #[.int .i64 k, .string U, .int .i64 P, .int .i64 a, .int .i64 b, .int .i64 c, .int .i64 x0, .string x1, .string x2, .int .i64 x3, .slice xd xl xc, .slice aa n ac, .int .i64 N, .int .i64 I, .bool O] 40) := ⟨_, rfl⟩
 have hbW0 : Below w.heap.size w W0 := be0 hW0
 have HX : Hid (BoxV B [.int .i64 k, .string U, .int .i64 P, .int .i64 a, .int .i64 b, .int .i64 c, .int .i64 x0, .string x1, .string x2, .int .i64 x3, .slice xd xl xc, .slice aa n ac, .int .i64 N, .int .i64 I, .bool O] W0) := hid (by rw [hW0]; exact BoxV.top _ hB)
 obtain ⟨C, hC⟩ : ∃ B, B = W0.heap.size := ⟨_, rfl⟩
 obtain ⟨W1, hW1⟩ : ∃ W, W = W0.alloc (.cells #[.int .i64 k, .string ⟨#[]⟩, .int .i64 0, .int .i64 0, .int .i64 0, .int .i64 0, .int .i64 0, .string ⟨#[]⟩, .string ⟨#[]⟩, .int .i64 0, .slice none 0 0, .slice none 0 0, .int .i64 0, .int .i64 0, .bool false] 40) := ⟨_, rfl⟩
 have hbW1 : Below W0.heap.size W0 W1 := be0 hW1
 have HY : Hid (BoxV C [.int .i64 k, .string ⟨#[]⟩, .int .i64 0, .int .i64 0, .int .i64 0, .int .i64 0, .int .i64 0, .string ⟨#[]⟩, .string ⟨#[]⟩, .int .i64 0, .slice none 0 0, .slice none 0 0, .int .i64 0, .int .i64 0, .bool false] W1) := hid (by rw [hW1]; exact BoxV.top _ hC)
 have HX1 := hid (HX.out.step hbW1)
 have HB0 := hid hbW0
 have HB1 : Hid (Below w.heap.size w W1) := hid (hbW0.trans (hbW1.mono hbW0.size))
 have HCB : Hid (w.heap.size ≤ C ∧ C ≠ B) := hid ⟨by rw [hC]; exact hbW0.size, by rw [hC]; exact Nat.ne_of_gt HX.out.lt⟩
 obtain rfl : F = 1 := by
  rw [HF.out, HOD.out]
  by_cases h1 : k < 1
  ·simp [h1]
  ·have h5 : 5 < k := by omega
   simp [h5]
 have k1 : (k == 1) = false := by simpa using hk.1
 have k2 : (k == 2) = false := by simpa using hk.2.1
 have k3 : (k == 3) = false := by simpa using hk.2.2.1
 have k4 : (k == 4) = false := by simpa using hk.2.2.2.1
 have k5 : (k == 5) = false := by simpa using hk.2.2.2.2
 clear hod hpl hF hG hwj hwn hp hs hjv hU hn HOD hk
 go_enter Tryz.func15, Tryz.ntmps15
 go_upto_region 1 with fail
 rw [← hW0, ← hB]
 clear hW0 hB hbW0
 obtain ⟨b0, b1, b2, b3, b4, b5, b6, b7, b8, b9, b10, b11, b12, b13, b14⟩ := HX.out.c15
 have hBl := HX.out.lt
 go_upto_region 2 with fail
 rw [← hW1, ← hC]
 clear hW1 hC hbW1
 clear hBl b0 b1 b2 b3 b4 b5 b6 b7 b8 b9 b10 b11 b12 b13 b14
 obtain ⟨b0, b1, b2, b3, b4, b5, b6, b7, b8, b9, b10, b11, b12, b13, b14⟩ := HX1.out.c15
 have hBl := HX1.out.lt
 go_wp2_with fail
 go_ret
 exact ⟨rfl, HB1.out⟩
theorem evFault_any (x : Evt) (v : Value) (w : World) (hs : x.job.ask.size ≤ 1000000000) (hv : EvV w x v) : Calls Tryz.prog 15 #[v] w fun e w' => e = .returned (.int .i64 x.fault) ∧ Below w.heap.size w w' := by
 by_cases h1 : x.kind = 1
 ·exact evFault_1 x v w hs hv h1
 by_cases h2 : x.kind = 2
 ·exact evFault_2 x v w hs hv h2
 by_cases h3 : x.kind = 3
 ·exact evFault_3 x v w hs hv h3
 by_cases h4 : x.kind = 4
 ·exact evFault_4 x v w hs hv h4
 by_cases h5 : x.kind = 5
 ·exact evFault_5 x v w hs hv h5
 exact evFault_none x v w hs hv ⟨h1, h2, h3, h4, h5⟩
end Go.Proofs.YtkemlckmfgacdaaGreatDoor
