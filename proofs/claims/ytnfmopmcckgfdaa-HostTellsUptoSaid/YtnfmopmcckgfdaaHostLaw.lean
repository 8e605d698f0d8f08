/- Contract: the law HostTells is true. -/
import Derived.Test.YtnfmopmcckgfdaaHostPlain
import Derived.Test.YtnfmopmcckgfdaaHostFault
import Derived.Test.YtnfmopmcckgfdaaAskFault
import Derived.Test.YtnfmopmcckgfdaaHostFitting
import Derived.Test.YtnfmopmcckgfdaaEqNat
import Derived.BigQuiet
namespace Go.Proofs.Ytnfmopmcckgfdaa
open Go.ChangeShapes Go.WideShapes Go.ChangeAt Go.RowKit
set_option linter.unusedVariables false
set_option linter.unusedSimpArgs false
open Tp
/-- the three boxes of the law: the ask, the amount, the host -/
structure Box3 (W : World) (cx : Nat) (k : Int) (a1 a2 : ByteArray) (nu : Int) (ad : Option Addr) (m cp : Nat) (A : Amt) (nm : ByteArray) (la : Option Addr) (ln lc : Nat) (h : Hst) : Prop where
  x0 : W.cell? ⟨cx, 0, none⟩ = some (.int .i64 k)
  x1 : W.cell? ⟨cx, 1, none⟩ = some (.string a1)
  x2 : W.cell? ⟨cx, 2, none⟩ = some (.string a2)
  x3 : W.cell? ⟨cx, 3, none⟩ = some (.int .i64 nu)
  x4 : W.cell? ⟨cx, 4, none⟩ = some (.slice ad m cp)
  y0 : W.cell? ⟨cx + 1, 0, none⟩ = some (.int .i64 A.cpu)
  y1 : W.cell? ⟨cx + 1, 1, none⟩ = some (.int .i64 A.mem)
  y2 : W.cell? ⟨cx + 1, 2, none⟩ = some (.int .i64 A.gpu)
  h0 : W.cell? ⟨cx + 2, 0, none⟩ = some (.string nm)
  h1 : W.cell? ⟨cx + 2, 1, none⟩ = some (.slice la ln lc)
  h2 : W.cell? ⟨cx + 2, 2, none⟩ = some (.int .i64 h.has.cpu)
  h3 : W.cell? ⟨cx + 2, 3, none⟩ = some (.int .i64 h.has.mem)
  h4 : W.cell? ⟨cx + 2, 4, none⟩ = some (.int .i64 h.has.gpu)
  h5 : W.cell? ⟨cx + 2, 5, none⟩ = some (.int .i64 h.used.cpu)
  h6 : W.cell? ⟨cx + 2, 6, none⟩ = some (.int .i64 h.used.mem)
  h7 : W.cell? ⟨cx + 2, 7, none⟩ = some (.int .i64 h.used.gpu)
  lt : cx + 2 < W.heap.size
theorem Box3.below {W W' : World} {cx : Nat} {k : Int} {a1 a2 : ByteArray} {nu : Int} {ad : Option Addr} {m cp : Nat} {A : Amt} {nm : ByteArray} {la : Option Addr} {ln lc : Nat} {h : Hst} (H : Box3 W cx k a1 a2 nu ad m cp A nm la ln lc h) (hb : Below W.heap.size W W') : Box3 W' cx k a1 a2 nu ad m cp A nm la ln lc h := by
  have hl0 : cx < W.heap.size := by have := H.lt; omega
  have hl1 : cx + 1 < W.heap.size := by have := H.lt; omega
  have hl2 : cx + 2 < W.heap.size := H.lt
  exact ⟨(hb.cell (p := ⟨cx, 0, none⟩) hl0).trans H.x0, (hb.cell (p := ⟨cx, 1, none⟩) hl0).trans H.x1, (hb.cell (p := ⟨cx, 2, none⟩) hl0).trans H.x2, (hb.cell (p := ⟨cx, 3, none⟩) hl0).trans H.x3, (hb.cell (p := ⟨cx, 4, none⟩) hl0).trans H.x4, (hb.cell (p := ⟨cx + 1, 0, none⟩) hl1).trans H.y0, (hb.cell (p := ⟨cx + 1, 1, none⟩) hl1).trans H.y1, (hb.cell (p := ⟨cx + 1, 2, none⟩) hl1).trans H.y2, (hb.cell (p := ⟨cx + 2, 0, none⟩) hl2).trans H.h0, (hb.cell (p := ⟨cx + 2, 1, none⟩) hl2).trans H.h1, (hb.cell (p := ⟨cx + 2, 2, none⟩) hl2).trans H.h2, (hb.cell (p := ⟨cx + 2, 3, none⟩) hl2).trans H.h3, (hb.cell (p := ⟨cx + 2, 4, none⟩) hl2).trans H.h4, (hb.cell (p := ⟨cx + 2, 5, none⟩) hl2).trans H.h5, (hb.cell (p := ⟨cx + 2, 6, none⟩) hl2).trans H.h6, (hb.cell (p := ⟨cx + 2, 7, none⟩) hl2).trans H.h7, Nat.lt_of_lt_of_le H.lt hb.size⟩
theorem Box3.made {w W0 : World} {cx : Nat} {k : Int} {a1 a2 : ByteArray} {nu : Int} {ad : Option Addr} {m cp : Nat} {A : Amt} {nm : ByteArray} {la : Option Addr} {ln lc : Nat} {h : Hst} (hcx : cx = w.heap.size) (hW : W0 = ((w.alloc (.cells #[.int .i64 k, .string a1, .string a2, .int .i64 nu, .slice ad m cp] 25)).alloc (.cells #[.int .i64 A.cpu, .int .i64 A.mem, .int .i64 A.gpu] 27)).alloc (.cells #[.string nm, .slice la ln lc, .int .i64 h.has.cpu, .int .i64 h.has.mem, .int .i64 h.has.gpu, .int .i64 h.used.cpu, .int .i64 h.used.mem, .int .i64 h.used.gpu] 30)) : Box3 W0 cx k a1 a2 nu ad m cp A nm la ln lc h := by
  obtain ⟨Wa, hWa⟩ : ∃ W, W = w.alloc (.cells #[.int .i64 k, .string a1, .string a2, .int .i64 nu, .slice ad m cp] 25) := ⟨_, rfl⟩
  rw [← hWa] at hW
  obtain ⟨Wb, hWb⟩ : ∃ W, W = Wa.alloc (.cells #[.int .i64 A.cpu, .int .i64 A.mem, .int .i64 A.gpu] 27) := ⟨_, rfl⟩
  rw [← hWb] at hW
  have hsa : cx + 1 = Wa.heap.size := by rw [hWa, hcx]; simp
  have hsb : cx + 2 = Wb.heap.size := by rw [hWb]; simp; omega
  have hbb : Below Wa.heap.size Wa Wb := by rw [hWb]; exact (Below.refl _ _).alloc (Nat.le_refl _) _
  have hbc : Below Wb.heap.size Wb W0 := by rw [hW]; exact (Below.refl _ _).alloc (Nat.le_refl _) _
  have l0 : cx < Wa.heap.size := by omega
  have l1 : cx < Wb.heap.size := by omega
  have l2 : cx + 1 < Wb.heap.size := by omega
  constructor
  · exact (hbc.cell (p := ⟨cx, 0, none⟩) l1).trans ((hbb.cell (p := ⟨cx, 0, none⟩) l0).trans (by rw [hWa]; exact (top_cell _ _ _ _ _ hcx).trans rfl))
  · exact (hbc.cell (p := ⟨cx, 1, none⟩) l1).trans ((hbb.cell (p := ⟨cx, 1, none⟩) l0).trans (by rw [hWa]; exact (top_cell _ _ _ _ _ hcx).trans rfl))
  · exact (hbc.cell (p := ⟨cx, 2, none⟩) l1).trans ((hbb.cell (p := ⟨cx, 2, none⟩) l0).trans (by rw [hWa]; exact (top_cell _ _ _ _ _ hcx).trans rfl))
  · exact (hbc.cell (p := ⟨cx, 3, none⟩) l1).trans ((hbb.cell (p := ⟨cx, 3, none⟩) l0).trans (by rw [hWa]; exact (top_cell _ _ _ _ _ hcx).trans rfl))
  · exact (hbc.cell (p := ⟨cx, 4, none⟩) l1).trans ((hbb.cell (p := ⟨cx, 4, none⟩) l0).trans (by rw [hWa]; exact (top_cell _ _ _ _ _ hcx).trans rfl))
  · exact (hbc.cell (p := ⟨cx + 1, 0, none⟩) l2).trans (by rw [hWb]; exact (top_cell _ _ _ _ _ hsa).trans rfl)
  · exact (hbc.cell (p := ⟨cx + 1, 1, none⟩) l2).trans (by rw [hWb]; exact (top_cell _ _ _ _ _ hsa).trans rfl)
  · exact (hbc.cell (p := ⟨cx + 1, 2, none⟩) l2).trans (by rw [hWb]; exact (top_cell _ _ _ _ _ hsa).trans rfl)
  · rw [hW]; exact (top_cell _ _ _ _ _ hsb).trans rfl
  · rw [hW]; exact (top_cell _ _ _ _ _ hsb).trans rfl
  · rw [hW]; exact (top_cell _ _ _ _ _ hsb).trans rfl
  · rw [hW]; exact (top_cell _ _ _ _ _ hsb).trans rfl
  · rw [hW]; exact (top_cell _ _ _ _ _ hsb).trans rfl
  · rw [hW]; exact (top_cell _ _ _ _ _ hsb).trans rfl
  · rw [hW]; exact (top_cell _ _ _ _ _ hsb).trans rfl
  · rw [hW]; exact (top_cell _ _ _ _ _ hsb).trans rfl
  · rw [hW]; simp; omega
theorem fit_facts {x : Ask} {A : Amt} {L : List Hst} {fl : List Nat} {n nf : Nat} (hn : n = L.length) (hf : fitE x A L = 0) (hfl : fitR x A L = fl) (hnf : fl.length = nf) : fl = fitL x A L n ∧ x.err = 0 ∧ n ≤ 40 ∧ nf ≤ 1000 ∧ ∀ (i : Nat) (h : Hst), L[i]? = some h → h.has.ok = true ∧ h.used.ok = true := by
  obtain ⟨hz1, hz2, hz3⟩ := fitE_zero hf
  have e : fl = fitL x A L n := by rw [← hfl]; unfold fitR; rw [if_pos hf, hn]
  have h30 : n ≤ 40 := by have := (labels_few hz1).1; omega
  refine ⟨e, (fault_err hz2).1, h30, ?_, fun i h hh => ⟨(hosts_each hz1 hh).1, (hosts_each hz1 hh).2.1⟩⟩
  have := fitL_len x A L n
  rw [← e, hnf] at this
  omega
theorem law_fitting {x : Ask} {A : Amt} {L : List Hst} {fl : List Nat} {n nf cap : Nat} {a : Option Addr} {vx : Value} {W0 : World} (hn : n = L.length) (hf : fitE x A L = 0) (hfl : fitR x A L = fl) (hnf : fl.length = nf) (hL : Hosts W0 a L) (hx : AskV W0 x vx) :
    ∀ W, Below W0.heap.size W0 W → Calls Try.prog 15 #[.slice a n cap, vx, .agg #[.int .i64 A.cpu, .int .i64 A.mem, .int .i64 A.gpu]] W fun e w' => ∃ ar cr, e = .returned (.slice ar nf cr) ∧ Vals w' ar (nats fl) ∧ Below W.heap.size W w' := fun W hW => by
  obtain ⟨e0, e1, e2, e3, e4⟩ := fit_facts hn hf hfl hnf
  refine Calls.mono (Fitting_any x A L a n cap _ W hn e2 e1 e4 (hL.below hW) (AskV.below hW _ _ hx)) ?_
  rintro e w' ⟨v, rfl, hO, hb⟩
  rw [← e0] at hO
  obtain ⟨ap, c2, e1, hv⟩ := IsVals.own hO
  rw [nats_length, hnf] at e1
  exact ⟨ap, c2, by rw [e1], hv, hb⟩
theorem law_best {x : Ask} {A : Amt} {L : List Hst} {fl : List Nat} {n nf cap : Nat} {a : Option Addr} {vx : Value} {W0 : World} (hn : n = L.length) (hf : fitE x A L = 0) (hfl : fitR x A L = fl) (hnf : fl.length = nf) (hL : Hosts W0 a L) (hx : AskV W0 x vx) :
    ∀ W, Below W0.heap.size W0 W → Calls Try.prog 16 #[.slice a n cap, vx, .agg #[.int .i64 A.cpu, .int .i64 A.mem, .int .i64 A.gpu]] W fun e w' => e = .returned (.int .i64 (obV (bestL L fl))) ∧ Below W.heap.size W w' := fun W hW => by
  obtain ⟨e0, e1, e2, e3, e4⟩ := fit_facts hn hf hfl hnf
  rw [e0]
  exact BestHost_any x A L a n cap _ W hn e2 e1 e4 (hL.below hW) (AskV.below hW _ _ hx)
/-- Best's answers out of the document's -/
def bestIs (o : Option Nat) (bv be : Int) : Prop := (o = none ∧ bv = 0 ∧ be = 5) ∨ ∃ b : Nat, o = some b ∧ bv = (b : Int) ∧ be = 0
theorem best_is {x : Ask} {A : Amt} {L : List Hst} {fl : List Nat} {bv be : Int} (hf : fitE x A L = 0) (hfl : fitR x A L = fl) (h1 : bestV x A L = bv) (h2 : bestE x A L = be) : bestIs (bestL L fl) bv be := by
  unfold bestV at h1
  unfold bestE at h2
  rw [if_neg (by rw [hf]; simp)] at h2
  rw [hfl] at h1 h2
  cases hb : bestL L fl with
  | none => rw [hb] at h1 h2; exact .inl ⟨rfl, h1.symm, h2.symm⟩
  | some b => rw [hb] at h1 h2; exact .inr ⟨b, rfl, h1.symm, h2.symm⟩
theorem law_plus {h : Hst} {A U : Amt} {t : Int} (ht : t = 1 ∨ t = -1) (h1 : h.used.ok = true) (h2 : A.ok = true) (hU : h.used.plus A t = U) (W : World) : Calls Try.prog 20 #[.agg #[.int .i64 h.used.cpu, .int .i64 h.used.mem, .int .i64 h.used.gpu], .agg #[.int .i64 A.cpu, .int .i64 A.mem, .int .i64 A.gpu], .int .i64 t] W fun e w' => e = .returned (.agg #[.int .i64 U.cpu, .int .i64 U.mem, .int .i64 U.gpu]) ∧ Below W.heap.size W w' := by
  subst hU
  exact needPlus_any h.used.cpu h.used.mem h.used.gpu A.cpu A.mem A.gpu t W (by unfold bothB; rw [show needB h.used.cpu h.used.mem h.used.gpu = true from h1, show needB A.cpu A.mem A.gpu = true from h2]; rfl) ht
theorem law_used {L P : List Hst} {a : Option Addr} {n cap j : Nat} {h : Hst} {U : Amt} (hn : n = L.length) (h30 : n ≤ 30) (hx : L[j]? = some h) (hP : P = L.set j (h.useSet U)) (W : World) (hL : Hosts W a L) : Calls Try.prog 19 #[.slice a n cap, .int .i64 (j : Int), .agg #[.int .i64 U.cpu, .int .i64 U.mem, .int .i64 U.gpu]] W fun e w' => ∃ ar cr, e = .returned (.slice ar n cr) ∧ Hosts w' ar P ∧ Below W.heap.size W w' := by
  refine Calls.mono (WithUsed_any L a n cap j h U W hn h30 hx hL) ?_
  rintro e w' ⟨ar, cr, rfl, hh, _, hb⟩
  rw [hP]
  exact ⟨ar, cr, by rw [List.length_set, ← hn], hh, hb⟩
theorem law_same {L P : List Hst} {a1 a2 : Option Addr} {n c1 c2 j : Nat} {h : Hst} {U : Amt} (hE : hostsE L = 0) (hn : n = L.length) (h30 : n ≤ 30) (hx : L[j]? = some h) (hP : P = L.set j (h.useSet U)) (W : World) (h1 : Hosts W a1 P) (h2 : Hosts W a2 P) : Calls Try.prog 18 #[.slice a1 n c1, .slice a2 n c2] W fun e w' => e = .returned (.bool true) ∧ Below W.heap.size W w' :=
  SameHosts_same P a1 a2 n c1 c2 W (by rw [hP, List.length_set, hn]) h30 (by rw [hP]; exact set_labels hx (labels_few hE).2) h1 h2
set_option maxRecDepth 20000 in
set_option maxHeartbeats 64000000 in
theorem HostTells_any (L : List Hst) (a : Option Addr) (n cap : Nat) (i : Int) (x : Ask) (vx : Value) (A : Amt) (h : Hst) (vh : Value) (w : World) (hn : n = L.length) (hcap : n ≤ cap) (hmax : n ≤ 9223372036854775807) (hi : -9223372036854775808 ≤ i ∧ i ≤ 9223372036854775807) (hs : x.size ≤ 1000000000) (hsz : HSz h) (hL : Hosts w a L) (hx : AskV w x vx) (hh : HostV w h vh) :
    Calls Try.prog 3 #[.slice a n cap, .int .i64 i, vx, A.v, vh] w fun e w' => e = .returned (.bool true) ∧ Below w.heap.size w w' := by
  obtain ⟨k, a1, a2, nu, ad, m, cp, rfl⟩ := askForm hx
  have hh2 := hh
  obtain ⟨la, ln, lc, rfl, hq1, hq2, hq3, hq4⟩ := hh
  have hq4 := hq4
  obtain ⟨nm, hnm⟩ : ∃ s, bts h.name = s := ⟨_, rfl⟩
  rw [hnm] at hh2 ⊢
  obtain ⟨W0, hW0⟩ : ∃ W, W = ((w.alloc (.cells #[.int .i64 k, .string a1, .string a2, .int .i64 nu, .slice ad m cp] 25)).alloc (.cells #[.int .i64 A.cpu, .int .i64 A.mem, .int .i64 A.gpu] 27)).alloc (.cells #[.string nm, .slice la ln lc, .int .i64 h.has.cpu, .int .i64 h.has.mem, .int .i64 h.has.gpu, .int .i64 h.used.cpu, .int .i64 h.used.mem, .int .i64 h.used.gpu] 30) := ⟨_, rfl⟩
  obtain ⟨cx, hcx⟩ : ∃ c, c = w.heap.size := ⟨_, rfl⟩
  have hb9 : Below w.heap.size w W0 := by rw [hW0]; exact (((Below.refl _ _).alloc (Nat.le_refl _) _).alloc (by simp) _).alloc (by simp; omega) _
  have HBW := Lib.hid hb9
  have hbox := Box3.made hcx hW0
  have HX : Hid (∀ W, Below W0.heap.size W0 W → Box3 W cx k a1 a2 nu ad m cp A nm la ln lc h) := Lib.hid (fun W hb => hbox.below hb)
  have HXV := Lib.hid (AskV.below hb9 _ _ hx)
  have HHV := Lib.hid (hh2.below hb9)
  have HL := Lib.hid (hL.below hb9)
  have HN := Lib.hid hn
  have HCAP := Lib.hid hcap
  have HMAX := Lib.hid hmax
  have HI := Lib.hid hi
  have HS := Lib.hid hs
  have HSZ := Lib.hid hsz
  have HLAB : Hid (∀ W, Below W0.heap.size W0 W → Labs W la h.labels) := Lib.hid (fun W hb => (hq4.below hb9 (Nat.le_refl _)).below hb (Nat.le_refl _))
  have HLQ : Hid (ln = h.labels.length ∧ ln ≤ lc ∧ ln ≤ 9223372036854775807) := Lib.hid ⟨hq1, hq2, hq3⟩
  have HNM := Lib.hid hnm
  obtain ⟨E1, hE1⟩ : ∃ E, hostsE [h] = E := ⟨_, rfl⟩
  have HE1 := Lib.hid hE1
  obtain ⟨fv, hfv⟩ : ∃ E, freeV h = E := ⟨_, rfl⟩
  have HFV := Lib.hid hfv
  have HCF := Lib.hid (Free_any h _ W0 HHV.out hsz)
  rw [hE1, hfv] at HCF
  unfold Amt.v at HCF ⊢
  have HB0 : Hid (Below W0.heap.size W0 W0) := Lib.hid (Below.refl _ _)
  obtain ⟨x0, x1, x2, x3, x4, y0, y1, y2, h0, h1, h2, h3, h4, h5, h6, h7, lt9⟩ := hbox
  have lt8 : cx + 1 < W0.heap.size := by omega
  have lt7 : cx < W0.heap.size := by omega
  clear hn hcap hmax hi hs hsz hL hx hh2 hb9 hq1 hq2 hq3 hq4 hnm hE1 hfv
  go_enter Try.func3, Try.ntmps3
  go_upto_region 1 with fail
  rw [← hW0, ← hcx]
  clear hW0 hcx
  go_wp2_with fail
  refine Calls.mono HCF.out ?_
  rintro e' W1 ⟨rfl, hl⟩
  have HB1 := Lib.hid (HB0.out.trans (hl.mono HB0.out.size))
  have hl0 := hl
  clear hl x0 x1 x2 x3 x4 y0 y1 y2 h0 h1 h2 h3 h4 h5 h6 h7 lt9 lt8 lt7
  obtain ⟨x0, x1, x2, x3, x4, y0, y1, y2, h0, h1, h2, h3, h4, h5, h6, h7, lt9⟩ := HX.out W1 HB1.out
  have lt8 : cx + 1 < W1.heap.size := by omega
  have lt7 : cx < W1.heap.size := by omega
  go_upto_region 2 with fail
  obtain ⟨W2, hW2⟩ : ∃ W, W = W1.alloc (.cells #[.int .i64 fv.cpu, .int .i64 fv.mem, .int .i64 fv.gpu] 27) := ⟨_, rfl⟩
  obtain ⟨cu, hcu⟩ : ∃ c, c = W1.heap.size := ⟨_, rfl⟩
  have HU2 := Lib.hid (amtBox hcu hW2)
  have hl : Below W1.heap.size W1 W2 := by rw [hW2]; exact (Below.refl _ _).alloc (Nat.le_refl _) _
  rw [← hW2, ← hcu]
  clear hW2 hcu
  have HB2 := Lib.hid (HB1.out.trans (hl.mono HB1.out.size))
  have hl0 := hl
  clear hl x0 x1 x2 x3 x4 y0 y1 y2 h0 h1 h2 h3 h4 h5 h6 h7 lt9 lt8 lt7
  obtain ⟨x0, x1, x2, x3, x4, y0, y1, y2, h0, h1, h2, h3, h4, h5, h6, h7, lt9⟩ := HX.out W2 HB2.out
  have lt8 : cx + 1 < W2.heap.size := by omega
  have lt7 : cx < W2.heap.size := by omega
  obtain ⟨W3, hW3⟩ : ∃ W, W = W2.alloc (.cells #[.string nm, .slice la ln lc, .int .i64 h.has.cpu, .int .i64 h.has.mem, .int .i64 h.has.gpu, .int .i64 h.used.cpu, .int .i64 h.used.mem, .int .i64 h.used.gpu] 30) := ⟨_, rfl⟩
  obtain ⟨ch, hch⟩ : ∃ c, c = W2.heap.size := ⟨_, rfl⟩
  have hl : Below W2.heap.size W2 W3 := by rw [hW3]; exact (Below.refl _ _).alloc (Nat.le_refl _) _
  have HU3 := Lib.hid (HU2.out.below hl)
  have hH : Hosts W3 (some ⟨ch, 0, none⟩) [h] := fun _ => by
    refine ⟨ch, 0, rfl, by rw [hW3, hch]; simp, fun i x hx => ?_⟩
    obtain rfl : i = 0 := by have := (List.getElem?_eq_some_iff.1 hx).1; simp at this; omega
    obtain rfl : h = x := by simpa using hx
    obtain ⟨q1, q2, q3⟩ := HLQ.out
    refine ⟨la, lc, fun i u hi => ?_, by omega, by omega, HLAB.out _ (HB2.out.trans (hl.mono HB2.out.size)), HSZ.out⟩
    unfold hcs at hi
    rw [HNM.out, ← q1] at hi
    rw [hW3, Nat.zero_mul, Nat.add_zero, Nat.zero_add, top_cell _ _ _ _ _ hch, ← hi]
    simp
  have HCH := Lib.hid (hFault_any [h] _ 1 1 W3 rfl (Nat.le_refl _) (by omega) hH)
  rw [HE1.out] at HCH
  go_wp2_with fail
  rw [← hW3, ← hch]
  clear hW3 hch hH
  have HB3 := Lib.hid (HB2.out.trans (hl.mono HB2.out.size))
  have hl0 := hl
  clear hl x0 x1 x2 x3 x4 y0 y1 y2 h0 h1 h2 h3 h4 h5 h6 h7 lt9 lt8 lt7
  obtain ⟨x0, x1, x2, x3, x4, y0, y1, y2, h0, h1, h2, h3, h4, h5, h6, h7, lt9⟩ := HX.out W3 HB3.out
  have lt8 : cx + 1 < W3.heap.size := by omega
  have lt7 : cx < W3.heap.size := by omega
  refine Calls.mono HCH.out ?_
  rintro e' W4 ⟨rfl, hl⟩
  have HU4 := Lib.hid (HU3.out.below hl)
  have HB4 := Lib.hid (HB3.out.trans (hl.mono HB3.out.size))
  have hl0 := hl
  clear hl x0 x1 x2 x3 x4 y0 y1 y2 h0 h1 h2 h3 h4 h5 h6 h7 lt9 lt8 lt7
  obtain ⟨x0, x1, x2, x3, x4, y0, y1, y2, h0, h1, h2, h3, h4, h5, h6, h7, lt9⟩ := HX.out W4 HB4.out
  have lt8 : cx + 1 < W4.heap.size := by omega
  have lt7 : cx < W4.heap.size := by omega
  obtain ⟨u0, u1, u2, ltu⟩ := HU4.out
  go_upto_if 37 with fail
  go_cut [10] (fun v W => v = .bool false ∧ Below W4.heap.size W4 W)
  case first => as_aux_lemma =>
    by_cases he1 : E1 = 0
    · subst he1
      have HL1 : Hid (fv = h.left) := Lib.hid (by rw [← HFV.out]; unfold freeV; rw [if_pos HE1.out])
      have hz : fv = h.left := HL1.out
      obtain ⟨ok1, ok2, _⟩ := hostsE_one HE1.out
      have HFO : Hid (∀ W, Below W4.heap.size W4 W → Calls Try.prog 6 #[.agg #[.string nm, .slice la ln lc, .int .i64 h.has.cpu, .int .i64 h.has.mem, .int .i64 h.has.gpu, .int .i64 h.used.cpu, .int .i64 h.used.mem, .int .i64 h.used.gpu]] W fun e w' => e = .returned (.agg #[.int .i64 fv.cpu, .int .i64 fv.mem, .int .i64 fv.gpu]) ∧ Below W.heap.size W w') := Lib.hid (fun W hW => by rw [hz]; exact FreeOf_any h _ W (HHV.out.below (HB4.out.trans (hW.mono HB4.out.size))) ok1 ok2)
      clear hz ok1 ok2
      go_upto_region 6 with fail
      refine wp_region_held_drew (S := fun W => Below W4.heap.size W4 W) (by decide +kernel) (Below.drew (Below.refl _ _)) (fun hHeld => ?_)
      refine wpAnyH_take (i := 0) (v := ?vb1b0x1) rfl (by decide +kernel) (by decide +kernel) (by decide +kernel) (fun _ _ _ h => h) (Or.inl ⟨by rfl, ?hyb1b0x1⟩) (by assumption) ?restb1b0x1
      case hyb1b0x1 =>
        intro w hSw
        (try dsimp only at hSw)
        have h0 := (hSw.cell (p := ⟨cx + 2, 0, none⟩) lt9).trans h0
        have h1 := (hSw.cell (p := ⟨cx + 2, 1, none⟩) lt9).trans h1
        have h2 := (hSw.cell (p := ⟨cx + 2, 2, none⟩) lt9).trans h2
        have h3 := (hSw.cell (p := ⟨cx + 2, 3, none⟩) lt9).trans h3
        have h4 := (hSw.cell (p := ⟨cx + 2, 4, none⟩) lt9).trans h4
        have h5 := (hSw.cell (p := ⟨cx + 2, 5, none⟩) lt9).trans h5
        have h6 := (hSw.cell (p := ⟨cx + 2, 6, none⟩) lt9).trans h6
        have h7 := (hSw.cell (p := ⟨cx + 2, 7, none⟩) lt9).trans h7
        have u0 := (hSw.cell (p := ⟨cu, 0, none⟩) ltu).trans u0
        have u1 := (hSw.cell (p := ⟨cu, 1, none⟩) ltu).trans u1
        have u2 := (hSw.cell (p := ⟨cu, 2, none⟩) ltu).trans u2
        go_simp
        (try with_reducible rfl)
      change wpAnyH _ _ _ _ _ _ _ (Act.put _ (some 46) _) _
      try simp only [Act.put, List.setIfInBounds_toArray, List.set_cons_zero, List.set_cons_succ]
      refine wpAnyH_take (i := 1) (v := ?vb1b1x2) rfl (by decide +kernel) (by decide +kernel) (by decide +kernel) (fun _ _ _ h => h) (Or.inl ⟨by rfl, ?hyb1b1x2⟩) (by assumption) ?restb1b1x2
      case hyb1b1x2 =>
        intro w hSw
        (try dsimp only at hSw)
        have h0 := (hSw.cell (p := ⟨cx + 2, 0, none⟩) lt9).trans h0
        have h1 := (hSw.cell (p := ⟨cx + 2, 1, none⟩) lt9).trans h1
        have h2 := (hSw.cell (p := ⟨cx + 2, 2, none⟩) lt9).trans h2
        have h3 := (hSw.cell (p := ⟨cx + 2, 3, none⟩) lt9).trans h3
        have h4 := (hSw.cell (p := ⟨cx + 2, 4, none⟩) lt9).trans h4
        have h5 := (hSw.cell (p := ⟨cx + 2, 5, none⟩) lt9).trans h5
        have h6 := (hSw.cell (p := ⟨cx + 2, 6, none⟩) lt9).trans h6
        have h7 := (hSw.cell (p := ⟨cx + 2, 7, none⟩) lt9).trans h7
        have u0 := (hSw.cell (p := ⟨cu, 0, none⟩) ltu).trans u0
        have u1 := (hSw.cell (p := ⟨cu, 1, none⟩) ltu).trans u1
        have u2 := (hSw.cell (p := ⟨cu, 2, none⟩) ltu).trans u2
        go_simp
        (try with_reducible rfl)
      change wpAnyH _ _ _ _ _ _ _ (Act.put _ (some 47) _) _
      try simp only [Act.put, List.setIfInBounds_toArray, List.set_cons_zero, List.set_cons_succ]
      refine wpAnyH_ready (rs := [2]) (by decide +kernel) (by simp) ?_
      refine AllReadyH.cons rfl (fun K hK => ?_) AllReadyH.nil
      go_simp
      go_at_call 6
      refine Calls.mono (HFO.out _ hHeld) ?_
      rintro e w1 ⟨rfl, hb1⟩
      (try go_wp2_with fail)
      refine hK.out _ _ (hHeld.trans (hb1.mono hHeld.size)) (fun hHeld => ?_)
      clear hK K
      try simp only [Act.put, List.setIfInBounds_toArray, List.set_cons_zero, List.set_cons_succ]
      refine wpAnyH_take (i := 3) (v := ?vb1b3x3) rfl (by decide +kernel) (by decide +kernel) (by decide +kernel) (fun _ _ _ h => h) (Or.inl ⟨by rfl, ?hyb1b3x3⟩) (by assumption) ?restb1b3x3
      case hyb1b3x3 =>
        intro w hSw
        (try dsimp only at hSw)
        go_simp
        (try with_reducible rfl)
      change wpAnyH _ _ _ _ _ _ _ (Act.put _ (some 49) _) _
      try simp only [Act.put, List.setIfInBounds_toArray, List.set_cons_zero, List.set_cons_succ]
      refine wpAnyH_take (i := 4) (v := ?vb1b4x4) rfl (by decide +kernel) (by decide +kernel) (by decide +kernel) (fun _ _ _ h => h) (Or.inl ⟨by rfl, ?hyb1b4x4⟩) (by assumption) ?restb1b4x4
      case hyb1b4x4 =>
        intro w hSw
        (try dsimp only at hSw)
        go_simp
        (try with_reducible rfl)
      change wpAnyH _ _ _ _ _ _ _ (Act.put _ (some 50) _) _
      try simp only [Act.put, List.setIfInBounds_toArray, List.set_cons_zero, List.set_cons_succ]
      refine wpAnyH_take (i := 5) (v := ?vb1b5x5) rfl (by decide +kernel) (by decide +kernel) (by decide +kernel) (fun _ _ _ h => h) (Or.inl ⟨by rfl, ?hyb1b5x5⟩) (by assumption) ?restb1b5x5
      case hyb1b5x5 =>
        intro w hSw
        (try dsimp only at hSw)
        go_simp
        (try with_reducible rfl)
      change wpAnyH _ _ _ _ _ _ _ (Act.put _ (some 51) _) _
      try simp only [Act.put, List.setIfInBounds_toArray, List.set_cons_zero, List.set_cons_succ]
      refine wpAnyH_take (i := 6) (v := ?vb1b6x6) rfl (by decide +kernel) (by decide +kernel) (by decide +kernel) (fun _ _ _ h => h) (Or.inl ⟨by rfl, ?hyb1b6x6⟩) (by assumption) ?restb1b6x6
      case hyb1b6x6 =>
        intro w hSw
        (try dsimp only at hSw)
        go_simp
        (try with_reducible rfl)
      change wpAnyH _ _ _ _ _ _ _ (Act.put _ (some 52) _) _
      try simp only [Act.put, List.setIfInBounds_toArray, List.set_cons_zero, List.set_cons_succ]
      refine wpAnyH_take (i := 7) (v := ?vb1b7x7) rfl (by decide +kernel) (by decide +kernel) (by decide +kernel) (fun _ _ _ h => h) (Or.inl ⟨by rfl, ?hyb1b7x7⟩) (by assumption) ?restb1b7x7
      case hyb1b7x7 =>
        intro w hSw
        (try dsimp only at hSw)
        go_simp
        (try with_reducible rfl)
      change wpAnyH _ _ _ _ _ _ _ (Act.put _ (some 53) _) _
      try simp only [Act.put, List.setIfInBounds_toArray, List.set_cons_zero, List.set_cons_succ]
      refine wpAnyH_done (by decide +kernel) ?_ _
      go_wp2_with fail
      go_meet
      exact ⟨rfl, hHeld⟩
    · have HL1 : Hid (fv = .zero) := Lib.hid (by rw [← HFV.out]; unfold freeV; rw [if_neg (by rw [HE1.out]; exact he1)])
      have he2 : (E1 != 0) = true := by simpa using he1
      have hz : fv = ⟨0, 0, 0⟩ := HL1.out
      subst hz
      clear he1
      go_wp2_with fail
      go_meet
      exact ⟨rfl, Below.refl _ _⟩
  case rest =>
    obtain ⟨rfl, hl⟩ := hcut
    have HB5 := Lib.hid (HB4.out.trans (hl.mono HB4.out.size))
    have hl0 := hl
    clear hl x0 x1 x2 x3 x4 y0 y1 y2 h0 h1 h2 h3 h4 h5 h6 h7 lt9 lt8 lt7
    obtain ⟨x0, x1, x2, x3, x4, y0, y1, y2, h0, h1, h2, h3, h4, h5, h6, h7, lt9⟩ := HX.out wc HB5.out
    have lt8 : cx + 1 < wc.heap.size := by omega
    have lt7 : cx < wc.heap.size := by omega
    obtain ⟨P, hP⟩ : ∃ P, chL (takeF A) L i = P := ⟨_, rfl⟩
    obtain ⟨te, hte⟩ : ∃ P, chE (takeF A) L i = P := ⟨_, rfl⟩
    obtain ⟨Q, hQ⟩ : ∃ P, chL (giveF A) L i = P := ⟨_, rfl⟩
    obtain ⟨ge, hge⟩ : ∃ P, chE (giveF A) L i = P := ⟨_, rfl⟩
    obtain ⟨fe, hfe⟩ : ∃ P, fitE x A L = P := ⟨_, rfl⟩
    obtain ⟨fl, hfl⟩ : ∃ P, fitR x A L = P := ⟨_, rfl⟩
    obtain ⟨bv, hbv⟩ : ∃ P, bestV x A L = P := ⟨_, rfl⟩
    obtain ⟨be, hbe⟩ : ∃ P, bestE x A L = P := ⟨_, rfl⟩
    obtain ⟨E, hE⟩ : ∃ P, hostsE L = P := ⟨_, rfl⟩
    obtain ⟨np, hnp⟩ : ∃ q, P.length = q := ⟨_, rfl⟩
    obtain ⟨nq, hnq⟩ : ∃ q, Q.length = q := ⟨_, rfl⟩
    obtain ⟨nf, hnf⟩ : ∃ q, fl.length = q := ⟨_, rfl⟩
    have HPE := Lib.hid hP
    have HTE := Lib.hid hte
    have HQE := Lib.hid hQ
    have HGE := Lib.hid hge
    have HFE := Lib.hid hfe
    have HFL := Lib.hid hfl
    have HBV := Lib.hid hbv
    have HBE := Lib.hid hbe
    have HEE := Lib.hid hE
    have HNP := Lib.hid hnp
    have HNQ := Lib.hid hnq
    have HNF := Lib.hid hnf
    have C1 : Hid (∀ W, Below W0.heap.size W0 W → Calls Try.prog 7 #[.slice a n cap, .int .i64 i, .agg #[.int .i64 A.cpu, .int .i64 A.mem, .int .i64 A.gpu]] W fun e w' => ∃ ap cp, e = .returned (.tuple #[.slice ap np cp, .int .i64 te]) ∧ Hosts w' ap P ∧ Below W.heap.size W w') := Lib.hid (fun W hW => by
      refine Calls.mono (Take_any L a n cap i A W HN.out HMAX.out HI.out (HL.out.below hW)) ?_
      rintro e w' ⟨v, rfl, hO, hb⟩
      rw [hP] at hO
      rw [hte]
      have hO2 := hO
      obtain ⟨ap, c2, rfl, _, _, _⟩ := hO
      rw [hnp] at hO2 ⊢
      exact ⟨ap, c2, rfl, hO2.hosts.2.2, hb⟩)
    have C2 : Hid (∀ W, Below W0.heap.size W0 W → Calls Try.prog 8 #[.slice a n cap, .int .i64 i, .agg #[.int .i64 A.cpu, .int .i64 A.mem, .int .i64 A.gpu]] W fun e w' => ∃ ap cp, e = .returned (.tuple #[.slice ap nq cp, .int .i64 ge]) ∧ Hosts w' ap Q ∧ Below W.heap.size W w') := Lib.hid (fun W hW => by
      refine Calls.mono (Give_any L a n cap i A W HN.out HMAX.out HI.out (HL.out.below hW)) ?_
      rintro e w' ⟨v, rfl, hO, hb⟩
      rw [hQ] at hO
      rw [hge]
      have hO2 := hO
      obtain ⟨ap, c2, rfl, _, _, _⟩ := hO
      rw [hnq] at hO2 ⊢
      exact ⟨ap, c2, rfl, hO2.hosts.2.2, hb⟩)
    have C3 : Hid (∀ W, Below W0.heap.size W0 W → Calls Try.prog 9 #[.slice a n cap, .agg #[.int .i64 k, .string a1, .string a2, .int .i64 nu, .slice ad m cp], .agg #[.int .i64 A.cpu, .int .i64 A.mem, .int .i64 A.gpu]] W fun e w' => ∃ ap cp, e = .returned (.tuple #[.slice ap nf cp, .int .i64 fe]) ∧ Vals w' ap (nats fl) ∧ Below W.heap.size W w') := Lib.hid (fun W hW => by
      refine Calls.mono (Fit_any x A L a n cap _ W HN.out HMAX.out HS.out (HL.out.below hW) (AskV.below hW _ _ HXV.out)) ?_
      rintro e w' ⟨v, rfl, hO, hb⟩
      rw [hfl] at hO
      rw [hfe]
      obtain ⟨ap, c2, e1, hv⟩ := IsVals.own hO
      rw [nats_length, hnf] at e1
      exact ⟨ap, c2, by rw [e1], hv, hb⟩)
    have C4 : Hid (∀ W, Below W0.heap.size W0 W → Calls Try.prog 10 #[.slice a n cap, .agg #[.int .i64 k, .string a1, .string a2, .int .i64 nu, .slice ad m cp], .agg #[.int .i64 A.cpu, .int .i64 A.mem, .int .i64 A.gpu]] W fun e w' => e = .returned (.tuple #[.int .i64 bv, .int .i64 be]) ∧ Below W.heap.size W w') := Lib.hid (fun W hW => by
      refine Calls.mono (Best_any x A L a n cap _ W HN.out HMAX.out HS.out (HL.out.below hW) (AskV.below hW _ _ HXV.out)) ?_
      rintro e w' ⟨rfl, hb⟩
      exact ⟨by rw [hbv, hbe], hb⟩)
    have C5 : Hid (∀ W, Below W0.heap.size W0 W → Calls Try.prog 5 #[.slice a n cap] W fun e w' => e = .returned (.int .i64 E) ∧ Below W.heap.size W w') := Lib.hid (fun W hW => by rw [← hE]; exact hFault_any L a n cap W HN.out HCAP.out HMAX.out (HL.out.below hW))
    have C6 : Hid (∀ W, Below W0.heap.size W0 W → Calls Try.prog 11 #[.slice a n cap] W fun e w' => e = .returned (.int .i64 E) ∧ Below W.heap.size W w') := Lib.hid (fun W hW => by rw [← hE]; exact hCheck_any L a n cap W HN.out HMAX.out (HL.out.below hW))
    clear hP hte hQ hge hfe hfl hbv hbe hE hnp hnq hnf
    go_wp2_with fail
    refine Calls.mono (C1.out _ HB5.out) ?_
    rintro e' W6 ⟨ap, cp1, rfl, hh, hl⟩
    have HP6 := Lib.hid hh
    clear hh
    have HB6 := Lib.hid (HB5.out.trans (hl.mono HB5.out.size))
    have hl0 := hl
    clear hl x0 x1 x2 x3 x4 y0 y1 y2 h0 h1 h2 h3 h4 h5 h6 h7 lt9 lt8 lt7
    obtain ⟨x0, x1, x2, x3, x4, y0, y1, y2, h0, h1, h2, h3, h4, h5, h6, h7, lt9⟩ := HX.out W6 HB6.out
    have lt8 : cx + 1 < W6.heap.size := by omega
    have lt7 : cx < W6.heap.size := by omega
    go_wp2_with fail
    refine Calls.mono (C2.out _ HB6.out) ?_
    rintro e' W7 ⟨aq, cq1, rfl, hh, hl⟩
    have HQ7 := Lib.hid hh
    have HP7 := Lib.hid (HP6.out.below hl)
    clear hh HP6
    have HB7 := Lib.hid (HB6.out.trans (hl.mono HB6.out.size))
    have hl0 := hl
    clear hl x0 x1 x2 x3 x4 y0 y1 y2 h0 h1 h2 h3 h4 h5 h6 h7 lt9 lt8 lt7
    obtain ⟨x0, x1, x2, x3, x4, y0, y1, y2, h0, h1, h2, h3, h4, h5, h6, h7, lt9⟩ := HX.out W7 HB7.out
    have lt8 : cx + 1 < W7.heap.size := by omega
    have lt7 : cx < W7.heap.size := by omega
    go_wp2_with fail
    refine Calls.mono (C3.out _ HB7.out) ?_
    rintro e' W8 ⟨af, cf1, rfl, hh, hl⟩
    have HF8 := Lib.hid hh
    have HP8 := Lib.hid (HP7.out.below hl)
    have HQ8 := Lib.hid (HQ7.out.below hl)
    clear hh HP7 HQ7
    have HB8 := Lib.hid (HB7.out.trans (hl.mono HB7.out.size))
    have hl0 := hl
    clear hl x0 x1 x2 x3 x4 y0 y1 y2 h0 h1 h2 h3 h4 h5 h6 h7 lt9 lt8 lt7
    obtain ⟨x0, x1, x2, x3, x4, y0, y1, y2, h0, h1, h2, h3, h4, h5, h6, h7, lt9⟩ := HX.out W8 HB8.out
    have lt8 : cx + 1 < W8.heap.size := by omega
    have lt7 : cx < W8.heap.size := by omega
    go_wp2_with fail
    refine Calls.mono (C4.out _ HB8.out) ?_
    rintro e' W9 ⟨rfl, hl⟩
    have HF9 := Lib.hid (HF8.out.below hl (Nat.le_refl _))
    have HP9 := Lib.hid (HP8.out.below hl)
    have HQ9 := Lib.hid (HQ8.out.below hl)
    clear HP8 HQ8 HF8
    have HB9 := Lib.hid (HB8.out.trans (hl.mono HB8.out.size))
    have hl0 := hl
    clear hl x0 x1 x2 x3 x4 y0 y1 y2 h0 h1 h2 h3 h4 h5 h6 h7 lt9 lt8 lt7
    obtain ⟨x0, x1, x2, x3, x4, y0, y1, y2, h0, h1, h2, h3, h4, h5, h6, h7, lt9⟩ := HX.out W9 HB9.out
    have lt8 : cx + 1 < W9.heap.size := by omega
    have lt7 : cx < W9.heap.size := by omega
    go_wp2_with fail
    refine Calls.mono (C5.out _ HB9.out) ?_
    rintro e' W10 ⟨rfl, hl⟩
    have HF10 := Lib.hid (HF9.out.below hl (Nat.le_refl _))
    have HP10 := Lib.hid (HP9.out.below hl)
    have HQ10 := Lib.hid (HQ9.out.below hl)
    clear HP9 HQ9 HF9
    have HB10 := Lib.hid (HB9.out.trans (hl.mono HB9.out.size))
    have hl0 := hl
    clear hl x0 x1 x2 x3 x4 y0 y1 y2 h0 h1 h2 h3 h4 h5 h6 h7 lt9 lt8 lt7
    obtain ⟨x0, x1, x2, x3, x4, y0, y1, y2, h0, h1, h2, h3, h4, h5, h6, h7, lt9⟩ := HX.out W10 HB10.out
    have lt8 : cx + 1 < W10.heap.size := by omega
    have lt7 : cx < W10.heap.size := by omega
    go_wp2_with fail
    refine Calls.mono (C6.out _ HB10.out) ?_
    rintro e' W11 ⟨rfl, hl⟩
    have HF11 := Lib.hid (HF10.out.below hl (Nat.le_refl _))
    have HP11 := Lib.hid (HP10.out.below hl)
    have HQ11 := Lib.hid (HQ10.out.below hl)
    clear HP10 HQ10 HF10
    have HB11 := Lib.hid (HB10.out.trans (hl.mono HB10.out.size))
    have hl0 := hl
    clear hl x0 x1 x2 x3 x4 y0 y1 y2 h0 h1 h2 h3 h4 h5 h6 h7 lt9 lt8 lt7
    obtain ⟨x0, x1, x2, x3, x4, y0, y1, y2, h0, h1, h2, h3, h4, h5, h6, h7, lt9⟩ := HX.out W11 HB11.out
    have lt8 : cx + 1 < W11.heap.size := by omega
    have lt7 : cx < W11.heap.size := by omega
    clear HB1 HB2 HB3 HB4 HB5 HB6 HB7 HB8 HB9 HB10 C1 C2 C3 C4 C5 C6
    by_cases hE : E = 0
    · go_upto_region 17 with fail
      have HFT : Hid (fe = if x.fault ≠ 0 then x.fault else amtE A) := Lib.hid (by rw [← HFE.out]; unfold fitE; rw [if_neg (by rw [HEE.out]; simp [hE])])
      obtain ⟨c, hc⟩ : ∃ c, x.fault = c := ⟨_, rfl⟩
      obtain ⟨me, hme⟩ : ∃ c, amtE A = c := ⟨_, rfl⟩
      rw [hc, hme] at HFT
      have HC := Lib.hid hc
      have HME := Lib.hid hme
      have HE0 := Lib.hid (HEE.out.trans hE)
      have C7 : Hid (∀ W, Below W11.heap.size W11 W → Calls Try.prog 12 #[.agg #[.int .i64 k, .string a1, .string a2, .int .i64 nu, .slice ad m cp]] W fun e w' => e = .returned (.int .i64 c) ∧ Below W.heap.size W w') := Lib.hid (fun W hW => by rw [← hc]; exact AskFault_any x _ W HS.out (AskV.below (HB11.out.trans (hW.mono HB11.out.size)) _ _ HXV.out))
      have C8 : Hid (∀ W, Below W11.heap.size W11 W → Calls Try.prog 13 #[.agg #[.int .i64 A.cpu, .int .i64 A.mem, .int .i64 A.gpu]] W fun e w' => e = .returned (.int .i64 me) ∧ Below W.heap.size W w') := Lib.hid (fun W hW => by rw [← hme]; exact needFault_any A.cpu A.mem A.gpu W)
      subst hE
      clear hc hme
      go_cut [23, 24] (fun u v W => u = .int .i64 c ∧ v = .int .i64 me ∧ Below W11.heap.size W11 W)
      case first => as_aux_lemma =>
        refine wp_region_held_drew (S := fun W => Below W11.heap.size W11 W) (by decide +kernel) (Below.drew (Below.refl _ _)) (fun hHeld => ?_)
        refine wpAnyH_take (i := 0) (v := ?vb2b0x1) rfl (by decide +kernel) (by decide +kernel) (by decide +kernel) (fun _ _ _ h => h) (Or.inl ⟨by rfl, ?hyb2b0x1⟩) (by assumption) ?restb2b0x1
        case hyb2b0x1 =>
          intro w hSw
          (try dsimp only at hSw)
          have x0 := (hSw.cell (p := ⟨cx, 0, none⟩) lt7).trans x0
          have x1 := (hSw.cell (p := ⟨cx, 1, none⟩) lt7).trans x1
          have x2 := (hSw.cell (p := ⟨cx, 2, none⟩) lt7).trans x2
          have x3 := (hSw.cell (p := ⟨cx, 3, none⟩) lt7).trans x3
          have x4 := (hSw.cell (p := ⟨cx, 4, none⟩) lt7).trans x4
          have y0 := (hSw.cell (p := ⟨cx + 1, 0, none⟩) lt8).trans y0
          have y1 := (hSw.cell (p := ⟨cx + 1, 1, none⟩) lt8).trans y1
          have y2 := (hSw.cell (p := ⟨cx + 1, 2, none⟩) lt8).trans y2
          go_simp
          (try with_reducible rfl)
        change wpAnyH _ _ _ _ _ _ _ (Act.put _ (some 127) _) _
        try simp only [Act.put, List.setIfInBounds_toArray, List.set_cons_zero, List.set_cons_succ]
        refine wpAnyH_take (i := 2) (v := ?vb2b2x2) rfl (by decide +kernel) (by decide +kernel) (by decide +kernel) (fun _ _ _ h => h) (Or.inl ⟨by rfl, ?hyb2b2x2⟩) (by assumption) ?restb2b2x2
        case hyb2b2x2 =>
          intro w hSw
          (try dsimp only at hSw)
          have x0 := (hSw.cell (p := ⟨cx, 0, none⟩) lt7).trans x0
          have x1 := (hSw.cell (p := ⟨cx, 1, none⟩) lt7).trans x1
          have x2 := (hSw.cell (p := ⟨cx, 2, none⟩) lt7).trans x2
          have x3 := (hSw.cell (p := ⟨cx, 3, none⟩) lt7).trans x3
          have x4 := (hSw.cell (p := ⟨cx, 4, none⟩) lt7).trans x4
          have y0 := (hSw.cell (p := ⟨cx + 1, 0, none⟩) lt8).trans y0
          have y1 := (hSw.cell (p := ⟨cx + 1, 1, none⟩) lt8).trans y1
          have y2 := (hSw.cell (p := ⟨cx + 1, 2, none⟩) lt8).trans y2
          go_simp
          (try with_reducible rfl)
        change wpAnyH _ _ _ _ _ _ _ (Act.put _ (some 129) _) _
        try simp only [Act.put, List.setIfInBounds_toArray, List.set_cons_zero, List.set_cons_succ]
        refine wpAnyH_ready (rs := [1]) (by decide +kernel) (by simp) ?_
        refine AllReadyH.cons rfl (fun K hK => ?_) AllReadyH.nil
        go_simp
        go_at_call 12
        refine Calls.mono (C7.out _ hHeld) ?_
        rintro e w1 ⟨rfl, hb1⟩
        (try go_wp2_with fail)
        refine hK.out _ _ (hHeld.trans (hb1.mono hHeld.size)) (fun hHeld => ?_)
        clear hK K
        try simp only [Act.put, List.setIfInBounds_toArray, List.set_cons_zero, List.set_cons_succ]
        refine wpAnyH_ready (rs := [3]) (by decide +kernel) (by simp) ?_
        refine AllReadyH.cons rfl (fun K hK => ?_) AllReadyH.nil
        go_simp
        go_at_call 13
        refine Calls.mono (C8.out _ hHeld) ?_
        rintro e w1 ⟨rfl, hb1⟩
        (try go_wp2_with fail)
        refine hK.out _ _ (hHeld.trans (hb1.mono hHeld.size)) (fun hHeld => ?_)
        clear hK K
        try simp only [Act.put, List.setIfInBounds_toArray, List.set_cons_zero, List.set_cons_succ]
        refine wpAnyH_take (i := 4) (v := ?vb2b4x3) rfl (by decide +kernel) (by decide +kernel) (by decide +kernel) (fun _ _ _ h => h) (Or.inl ⟨by rfl, ?hyb2b4x3⟩) (by assumption) ?restb2b4x3
        case hyb2b4x3 =>
          intro w hSw
          (try dsimp only at hSw)
          go_simp
          (try with_reducible rfl)
        change wpAnyH _ _ _ _ _ _ _ (Act.put _ (some 23) _) _
        try simp only [Act.put, List.setIfInBounds_toArray, List.set_cons_zero, List.set_cons_succ]
        refine wpAnyH_take (i := 5) (v := ?vb2b5x4) rfl (by decide +kernel) (by decide +kernel) (by decide +kernel) (fun _ _ _ h => h) (Or.inl ⟨by rfl, ?hyb2b5x4⟩) (by assumption) ?restb2b5x4
        case hyb2b5x4 =>
          intro w hSw
          (try dsimp only at hSw)
          go_simp
          (try with_reducible rfl)
        change wpAnyH _ _ _ _ _ _ _ (Act.put _ (some 24) _) _
        try simp only [Act.put, List.setIfInBounds_toArray, List.set_cons_zero, List.set_cons_succ]
        refine wpAnyH_done (by decide +kernel) ?_ _
        go_wp2_with fail
        go_meet
        exact ⟨rfl, rfl, hHeld⟩
      case rest => as_aux_lemma =>
        obtain ⟨rfl, rfl, hl⟩ := hcut
        have HB12 := Lib.hid (HB11.out.trans (hl.mono HB11.out.size))
        have hl0 := hl
        clear hl x0 x1 x2 x3 x4 y0 y1 y2 h0 h1 h2 h3 h4 h5 h6 h7 lt9 lt8 lt7
        obtain ⟨x0, x1, x2, x3, x4, y0, y1, y2, h0, h1, h2, h3, h4, h5, h6, h7, lt9⟩ := HX.out wc HB12.out
        have lt8 : cx + 1 < wc.heap.size := by omega
        have lt7 : cx < wc.heap.size := by omega
        have HF12 := Lib.hid (HF11.out.below hl0 (Nat.le_refl _))
        have HP12 := Lib.hid (HP11.out.below hl0)
        have HQ12 := Lib.hid (HQ11.out.below hl0)
        clear hl0 HB11 HF11 HP11 HQ11
        go_upto_if 132 with fail
        go_cut [23] (fun u W => u = .int .i64 fe ∧ W = wc)
        case first => as_aux_lemma =>
          by_cases hc : c = 0
          · subst hc
            have e1 : fe = me := by rw [HFT.out]; simp
            subst e1
            go_wp2_with fail
            go_meet
            exact ⟨rfl, rfl⟩
          · have e1 : fe = c := by rw [HFT.out, if_pos hc]
            subst e1
            have hc2 : (fe == 0) = false := by simpa using hc
            clear hc
            go_wp2_with fail
            go_meet
            exact ⟨rfl, rfl⟩
        case rest =>
          obtain ⟨rfl, rfl⟩ := hcut
          go_upto_if 135 with fail
          go_cut [10] (fun u W => u = .bool false ∧ Below wc.heap.size wc W)
          case first => as_aux_lemma =>
            by_cases hf : fe = 0
            · subst hf
              have C9 := Lib.hid (law_fitting (cap := cap) HN.out HFE.out HFL.out HNF.out HL.out HXV.out)
              have C10 := Lib.hid (law_best (cap := cap) HN.out HFE.out HFL.out HNF.out HL.out HXV.out)
              have HNF40 := Lib.hid (fit_facts HN.out HFE.out HFL.out HNF.out).2.2.2.1
              have HBB := Lib.hid (best_is HFE.out HFL.out HBV.out HBE.out)
              go_wp2_with fail
              refine Calls.mono (C9.out _ HB12.out) ?_
              rintro e' W13 ⟨ar, cr, rfl, hh, hl⟩
              have HR13 := Lib.hid hh
              have HF13 := Lib.hid (HF12.out.below hl (Nat.le_refl _))
              have HBR13 := Lib.hid hl
              clear hh
              have HB13 := Lib.hid (HB12.out.trans (hl.mono HB12.out.size))
              have hl0 := hl
              clear hl x0 x1 x2 x3 x4 y0 y1 y2 h0 h1 h2 h3 h4 h5 h6 h7 lt9 lt8 lt7
              obtain ⟨x0, x1, x2, x3, x4, y0, y1, y2, h0, h1, h2, h3, h4, h5, h6, h7, lt9⟩ := HX.out W13 HB13.out
              have lt8 : cx + 1 < W13.heap.size := by omega
              have lt7 : cx < W13.heap.size := by omega
              go_wp2_with fail
              refine Calls.mono (eqNat_same fl af ar nf _ _ _ HNF.out.symm HNF40.out HF13.out HR13.out) ?_
              rintro e' W14 ⟨rfl, hl⟩
              have HBR14 := Lib.hid (HBR13.out.trans (hl.mono HBR13.out.size))
              have HB14 := Lib.hid (HB13.out.trans (hl.mono HB13.out.size))
              have hl0 := hl
              clear hl x0 x1 x2 x3 x4 y0 y1 y2 h0 h1 h2 h3 h4 h5 h6 h7 lt9 lt8 lt7
              obtain ⟨x0, x1, x2, x3, x4, y0, y1, y2, h0, h1, h2, h3, h4, h5, h6, h7, lt9⟩ := HX.out W14 HB14.out
              have lt8 : cx + 1 < W14.heap.size := by omega
              have lt7 : cx < W14.heap.size := by omega
              go_wp2_with fail
              refine Calls.mono (C10.out _ HB14.out) ?_
              rintro e' W15 ⟨rfl, hl⟩
              have HBR15 := Lib.hid (HBR14.out.trans (hl.mono HBR14.out.size))
              clear hl
              rcases HBB.out with ⟨e0, e1, e2⟩ | ⟨b, e0, e1, e2⟩
              · subst e1 e2
                rw [e0]
                clear e0
                unfold obV
                go_wp2_with fail
                go_meet
                exact ⟨rfl, HBR15.out⟩
              · subst e1 e2
                have hb1 : ¬ (b : Int) < 0 := Int.not_lt.2 (Int.natCast_nonneg b)
                have hb2 : (0 : Int) ≤ (b : Int) := Int.natCast_nonneg b
                rw [e0]
                clear e0
                unfold obV
                go_wp2_with fail
                go_meet
                exact ⟨rfl, HBR15.out⟩
            · have hnf : nf = 0 := by rw [← HNF.out, ← HFL.out]; unfold fitR; rw [if_neg (by rw [HFE.out]; exact hf)]; rfl
              have hbe : be = fe := by rw [← HBE.out]; unfold bestE; rw [if_pos (by rw [HFE.out]; exact hf), HFE.out]
              have hbv : bv = 0 := by rw [← HBV.out]; unfold bestV; rw [HFL.out, List.eq_nil_of_length_eq_zero (HNF.out.trans hnf)]; rfl
              subst hnf hbe hbv
              have hE2 : (be != 0) = true := by simpa using hf
              clear hf
              go_wp2_with fail
              go_meet
              exact ⟨rfl, Below.refl _ _⟩
          case rest => as_aux_lemma =>
            obtain ⟨rfl, hl⟩ := hcut
            have HP13 := Lib.hid (HP12.out.below hl)
            have HQ13 := Lib.hid (HQ12.out.below hl)
            clear HP12 HQ12 HF12
            have HB13 := Lib.hid (HB12.out.trans (hl.mono HB12.out.size))
            have hl0 := hl
            clear hl x0 x1 x2 x3 x4 y0 y1 y2 h0 h1 h2 h3 h4 h5 h6 h7 lt9 lt8 lt7
            obtain ⟨x0, x1, x2, x3, x4, y0, y1, y2, h0, h1, h2, h3, h4, h5, h6, h7, lt9⟩ := HX.out wc HB13.out
            have lt8 : cx + 1 < wc.heap.size := by omega
            have lt7 : cx < wc.heap.size := by omega
            go_upto_block 0 with fail
            by_cases hin : i < 0 ∨ (n : Int) ≤ i
            · have e1 : te = 5 := by rw [← HTE.out]; exact ch_out HE0.out (by rw [← HN.out]; exact hin)
              have e2 : ge = 5 := by rw [← HGE.out]; exact ch_out HE0.out (by rw [← HN.out]; exact hin)
              subst e1 e2
              have e3 : np = 0 := by rw [← HNP.out, ← HPE.out, chL_bad (by rw [HTE.out]; decide)]; rfl
              have e4 : nq = 0 := by rw [← HNQ.out, ← HQE.out, chL_bad (by rw [HGE.out]; decide)]; rfl
              subst e3 e4
              have HIN := Lib.hid hin
              by_cases hi0 : i < 0
              · clear hin
                go_wp2_with fail
                go_quiet (fail)
                (try go_wp2_with fail)
                go_ret
                exact ⟨rfl, HBW.out.trans ((HB13.out.trans (((Drawn.drewN _ _).below _))).mono HBW.out.size)⟩
              · have hi1 : (n : Int) ≤ i := by rcases hin with h | h; exact absurd h hi0; exact h
                clear hin
                go_wp2_with fail
                go_quiet (fail)
                (try go_wp2_with fail)
                go_ret
                exact ⟨rfl, HBW.out.trans ((HB13.out.trans (((Drawn.drewN _ _).below _))).mono HBW.out.size)⟩
            · obtain ⟨j, rfl⟩ : ∃ j : Nat, i = (j : Int) := ⟨i.toNat, by omega⟩
              have hjn : j < n := by omega
              obtain ⟨hj, hxj⟩ : ∃ h, L[j]? = some h := ⟨_, List.getElem?_eq_getElem (by rw [← HN.out]; exact hjn)⟩
              obtain ⟨ok1, ok2, ok3⟩ := hosts_each HE0.out hxj
              have hT := take_tells A HE0.out hxj
              have hG := give_tells A HE0.out hxj
              rw [HTE.out, HPE.out] at hT
              rw [HGE.out, HQE.out] at hG
              have HTT := Lib.hid hT
              have HGG := Lib.hid hG
              have HXJ := Lib.hid hxj
              have HOK := Lib.hid (And.intro ok1 ok2)
              have hj1 : (0 : Int) ≤ (j : Int) := by omega
              have hj2 : (j : Int) < (n : Int) := by omega
              have hj3 : ¬ (j : Int) < 0 := by omega
              have hj4 : ¬ (n : Int) ≤ (j : Int) := by omega
              obtain ⟨b, off, rfl, hbj, hat⟩ := (HL.out.below HB13.out) (by rw [← HN.out]; omega)
              obtain ⟨laj, lcj, hvj, c0, c1, c2, c3, c4, c5, c6, c7⟩ := (hat j hj hxj).val
              have HATJ := Lib.hid (hat j hj hxj)
              obtain ⟨nmj, hnmj⟩ : ∃ s, bts hj.name = s := ⟨_, rfl⟩
              obtain ⟨mj, hmj⟩ : ∃ s, hj.labels.length = s := ⟨_, rfl⟩
              rw [hnmj] at c0 hvj
              rw [hmj] at c1 hvj
              obtain ⟨lf, hlf⟩ : ∃ s, hj.left = s := ⟨_, rfl⟩
              obtain ⟨tf, htf⟩ : ∃ s, A.le hj.left = s := ⟨_, rfl⟩
              obtain ⟨gf, hgf⟩ : ∃ s, A.le hj.used = s := ⟨_, rfl⟩
              have HTE2 : Hid (te = if me ≠ 0 then me else if tf then 0 else 10) := Lib.hid (by rw [hT.1]; unfold takeE; rw [HME.out, htf])
              have HGE2 : Hid (ge = if me ≠ 0 then me else if gf then 0 else 10) := Lib.hid (by rw [hG.1]; unfold giveE; rw [HME.out, hgf])
              have C11 : Hid (∀ W, Below wc.heap.size wc W → Calls Try.prog 6 #[.agg #[.string nmj, .slice laj mj lcj, .int .i64 hj.has.cpu, .int .i64 hj.has.mem, .int .i64 hj.has.gpu, .int .i64 hj.used.cpu, .int .i64 hj.used.mem, .int .i64 hj.used.gpu]] W fun e w' => e = .returned (.agg #[.int .i64 lf.cpu, .int .i64 lf.mem, .int .i64 lf.gpu]) ∧ Below W.heap.size W w') := Lib.hid (fun W hW => by rw [← hlf]; exact FreeOf_any hj _ W (hvj.below hW) ok1 ok2)
              have C12 : Hid (∀ W, Below wc.heap.size wc W → Calls Try.prog 17 #[.agg #[.int .i64 A.cpu, .int .i64 A.mem, .int .i64 A.gpu], .agg #[.int .i64 lf.cpu, .int .i64 lf.mem, .int .i64 lf.gpu]] W fun e w' => e = .returned (.bool tf) ∧ Below W.heap.size W w') := Lib.hid (fun W hW => by rw [← htf, ← hlf]; exact needFits_any A.cpu A.mem A.gpu hj.left.cpu hj.left.mem hj.left.gpu W)
              have C13 : Hid (∀ W, Below wc.heap.size wc W → Calls Try.prog 17 #[.agg #[.int .i64 A.cpu, .int .i64 A.mem, .int .i64 A.gpu], .agg #[.int .i64 hj.used.cpu, .int .i64 hj.used.mem, .int .i64 hj.used.gpu]] W fun e w' => e = .returned (.bool gf) ∧ Below W.heap.size W w') := Lib.hid (fun W hW => by rw [← hgf]; exact needFits_any A.cpu A.mem A.gpu hj.used.cpu hj.used.mem hj.used.gpu W)
              clear hin hjn hxj ok1 ok2 ok3 hT hG hat hvj hnmj hmj hlf htf hgf

              go_cut [26, 27] (fun u v W => u = .int .i64 te ∧ v = .int .i64 ge ∧ Below wc.heap.size wc W)
              case first => as_aux_lemma =>
                by_cases hm : me = 0
                · subst hm
                  have e1 : te = if tf then 0 else 10 := by rw [HTE2.out]; simp
                  have e2 : ge = if gf then 0 else 10 := by rw [HGE2.out]; simp
                  have HE12 := Lib.hid (And.intro e1 e2)
                  clear e1 e2
                  go_upto_region 32 with fail
                  refine wp_region_held_drew (S := fun W => Below wc.heap.size wc W) (by decide +kernel) (Below.drew (Below.refl _ _)) (fun hHeld => ?_)
                  refine wpAnyH_take (i := 0) (v := ?vb3b0x1) rfl (by decide +kernel) (by decide +kernel) (by decide +kernel) (fun _ _ _ h => h) (Or.inl ⟨by rfl, ?hyb3b0x1⟩) (by assumption) ?restb3b0x1
                  case hyb3b0x1 =>
                    intro w hSw
                    (try dsimp only at hSw)
                    have y0 := (hSw.cell (p := ⟨cx + 1, 0, none⟩) lt8).trans y0
                    have y1 := (hSw.cell (p := ⟨cx + 1, 1, none⟩) lt8).trans y1
                    have y2 := (hSw.cell (p := ⟨cx + 1, 2, none⟩) lt8).trans y2
                    have c0 := (hSw.cell (p := ⟨b, off + j * 8, none⟩) hbj).trans c0
                    have c1 := (hSw.cell (p := ⟨b, off + j * 8 + 1, none⟩) hbj).trans c1
                    have c2 := (hSw.cell (p := ⟨b, off + j * 8 + 2, none⟩) hbj).trans c2
                    have c3 := (hSw.cell (p := ⟨b, off + j * 8 + 3, none⟩) hbj).trans c3
                    have c4 := (hSw.cell (p := ⟨b, off + j * 8 + 4, none⟩) hbj).trans c4
                    have c5 := (hSw.cell (p := ⟨b, off + j * 8 + 5, none⟩) hbj).trans c5
                    have c6 := (hSw.cell (p := ⟨b, off + j * 8 + 6, none⟩) hbj).trans c6
                    have c7 := (hSw.cell (p := ⟨b, off + j * 8 + 7, none⟩) hbj).trans c7
                    go_simp
                    (try with_reducible rfl)
                  change wpAnyH _ _ _ _ _ _ _ (Act.put _ (some 205) _) _
                  try simp only [Act.put, List.setIfInBounds_toArray, List.set_cons_zero, List.set_cons_succ]
                  refine wpAnyH_take (i := 1) (v := ?vb3b1x2) rfl (by decide +kernel) (by decide +kernel) (by decide +kernel) (fun _ _ _ h => h) (Or.inl ⟨by rfl, ?hyb3b1x2⟩) (by assumption) ?restb3b1x2
                  case hyb3b1x2 =>
                    intro w hSw
                    (try dsimp only at hSw)
                    go_simp
                    (try with_reducible rfl)
                  change wpAnyH _ _ _ _ _ _ _ (Act.put _ (some 206) _) _
                  try simp only [Act.put, List.setIfInBounds_toArray, List.set_cons_zero, List.set_cons_succ]
                  refine wpAnyH_take (i := 2) (v := ?vb3b2x3) rfl (by decide +kernel) (by decide +kernel) (by decide +kernel) (fun _ _ _ h => h) (Or.inl ⟨by rfl, ?hyb3b2x3⟩) (by assumption) ?restb3b2x3
                  case hyb3b2x3 =>
                    intro w hSw
                    (try dsimp only at hSw)
                    go_simp
                    (try with_reducible rfl)
                  change wpAnyH _ _ _ _ _ _ _ (Act.put _ (some 207) _) _
                  try simp only [Act.put, List.setIfInBounds_toArray, List.set_cons_zero, List.set_cons_succ]
                  refine wpAnyH_take (i := 3) (v := ?vb3b3x4) rfl (by decide +kernel) (by decide +kernel) (by decide +kernel) (fun _ _ _ h => h) (Or.inl ⟨by rfl, ?hyb3b3x4⟩) (by assumption) ?restb3b3x4
                  case hyb3b3x4 =>
                    intro w hSw
                    (try dsimp only at hSw)
                    go_simp
                    (try with_reducible rfl)
                  change wpAnyH _ _ _ _ _ _ _ (Act.put _ (some 208) _) _
                  try simp only [Act.put, List.setIfInBounds_toArray, List.set_cons_zero, List.set_cons_succ]
                  refine wpAnyH_take (i := 4) (v := ?vb3b4x5) rfl (by decide +kernel) (by decide +kernel) (by decide +kernel) (fun _ _ _ h => h) (Or.inl ⟨by rfl, ?hyb3b4x5⟩) (by assumption) ?restb3b4x5
                  case hyb3b4x5 =>
                    intro w hSw
                    (try dsimp only at hSw)
                    have y0 := (hSw.cell (p := ⟨cx + 1, 0, none⟩) lt8).trans y0
                    have y1 := (hSw.cell (p := ⟨cx + 1, 1, none⟩) lt8).trans y1
                    have y2 := (hSw.cell (p := ⟨cx + 1, 2, none⟩) lt8).trans y2
                    have c0 := (hSw.cell (p := ⟨b, off + j * 8, none⟩) hbj).trans c0
                    have c1 := (hSw.cell (p := ⟨b, off + j * 8 + 1, none⟩) hbj).trans c1
                    have c2 := (hSw.cell (p := ⟨b, off + j * 8 + 2, none⟩) hbj).trans c2
                    have c3 := (hSw.cell (p := ⟨b, off + j * 8 + 3, none⟩) hbj).trans c3
                    have c4 := (hSw.cell (p := ⟨b, off + j * 8 + 4, none⟩) hbj).trans c4
                    have c5 := (hSw.cell (p := ⟨b, off + j * 8 + 5, none⟩) hbj).trans c5
                    have c6 := (hSw.cell (p := ⟨b, off + j * 8 + 6, none⟩) hbj).trans c6
                    have c7 := (hSw.cell (p := ⟨b, off + j * 8 + 7, none⟩) hbj).trans c7
                    go_simp
                    (try with_reducible rfl)
                  change wpAnyH _ _ _ _ _ _ _ (Act.put _ (some 209) _) _
                  try simp only [Act.put, List.setIfInBounds_toArray, List.set_cons_zero, List.set_cons_succ]
                  refine wpAnyH_ready (rs := [5]) (by decide +kernel) (by simp) ?_
                  refine AllReadyH.cons rfl (fun K hK => ?_) AllReadyH.nil
                  go_simp
                  go_at_call 6
                  refine Calls.mono (C11.out _ hHeld) ?_
                  rintro e w1 ⟨rfl, hb1⟩
                  (try go_wp2_with fail)
                  refine hK.out _ _ (hHeld.trans (hb1.mono hHeld.size)) (fun hHeld => ?_)
                  clear hK K
                  try simp only [Act.put, List.setIfInBounds_toArray, List.set_cons_zero, List.set_cons_succ]
                  refine wpAnyH_ready (rs := [6]) (by decide +kernel) (by simp) ?_
                  refine AllReadyH.cons rfl (fun K hK => ?_) AllReadyH.nil
                  go_simp
                  go_at_call 17
                  refine Calls.mono (C12.out _ hHeld) ?_
                  rintro e w1 ⟨rfl, hb1⟩
                  (try go_wp2_with fail)
                  refine hK.out _ _ (hHeld.trans (hb1.mono hHeld.size)) (fun hHeld => ?_)
                  clear hK K
                  try simp only [Act.put, List.setIfInBounds_toArray, List.set_cons_zero, List.set_cons_succ]
                  refine wpAnyH_take (i := 7) (v := ?vb3b7x6) rfl (by decide +kernel) (by decide +kernel) (by decide +kernel) (fun _ _ _ h => h) (Or.inl ⟨by rfl, ?hyb3b7x6⟩) (by assumption) ?restb3b7x6
                  case hyb3b7x6 =>
                    intro w hSw
                    (try dsimp only at hSw)
                    go_simp
                    (try with_reducible rfl)
                  change wpAnyH _ _ _ _ _ _ _ (Act.put _ (some 212) _) _
                  try simp only [Act.put, List.setIfInBounds_toArray, List.set_cons_zero, List.set_cons_succ]
                  refine wpAnyH_done (by decide +kernel) ?_ _
                  have h32 := hHeld
                  cases tf with
                  | true =>
                    go_upto_region 34 with fail
                    refine wp_region_held_drew (S := fun W => Below wc.heap.size wc W) (by decide +kernel) (h32.drew) (fun hHeld => ?_)
                    refine wpAnyH_take (i := 0) (v := ?vb4b0x1) rfl (by decide +kernel) (by decide +kernel) (by decide +kernel) (fun _ _ _ h => h) (Or.inl ⟨by rfl, ?hyb4b0x1⟩) (by assumption) ?restb4b0x1
                    case hyb4b0x1 =>
                      intro w hSw
                      (try dsimp only at hSw)
                      have y0 := (hSw.cell (p := ⟨cx + 1, 0, none⟩) lt8).trans y0
                      have y1 := (hSw.cell (p := ⟨cx + 1, 1, none⟩) lt8).trans y1
                      have y2 := (hSw.cell (p := ⟨cx + 1, 2, none⟩) lt8).trans y2
                      have c0 := (hSw.cell (p := ⟨b, off + j * 8, none⟩) hbj).trans c0
                      have c1 := (hSw.cell (p := ⟨b, off + j * 8 + 1, none⟩) hbj).trans c1
                      have c2 := (hSw.cell (p := ⟨b, off + j * 8 + 2, none⟩) hbj).trans c2
                      have c3 := (hSw.cell (p := ⟨b, off + j * 8 + 3, none⟩) hbj).trans c3
                      have c4 := (hSw.cell (p := ⟨b, off + j * 8 + 4, none⟩) hbj).trans c4
                      have c5 := (hSw.cell (p := ⟨b, off + j * 8 + 5, none⟩) hbj).trans c5
                      have c6 := (hSw.cell (p := ⟨b, off + j * 8 + 6, none⟩) hbj).trans c6
                      have c7 := (hSw.cell (p := ⟨b, off + j * 8 + 7, none⟩) hbj).trans c7
                      go_simp
                      (try with_reducible rfl)
                    change wpAnyH _ _ _ _ _ _ _ (Act.put _ (some 213) _) _
                    try simp only [Act.put, List.setIfInBounds_toArray, List.set_cons_zero, List.set_cons_succ]
                    refine wpAnyH_take (i := 1) (v := ?vb4b1x2) rfl (by decide +kernel) (by decide +kernel) (by decide +kernel) (fun _ _ _ h => h) (Or.inl ⟨by rfl, ?hyb4b1x2⟩) (by assumption) ?restb4b1x2
                    case hyb4b1x2 =>
                      intro w hSw
                      (try dsimp only at hSw)
                      go_simp
                      (try with_reducible rfl)
                    change wpAnyH _ _ _ _ _ _ _ (Act.put _ (some 214) _) _
                    try simp only [Act.put, List.setIfInBounds_toArray, List.set_cons_zero, List.set_cons_succ]
                    refine wpAnyH_take (i := 2) (v := ?vb4b2x3) rfl (by decide +kernel) (by decide +kernel) (by decide +kernel) (fun _ _ _ h => h) (Or.inl ⟨by rfl, ?hyb4b2x3⟩) (by assumption) ?restb4b2x3
                    case hyb4b2x3 =>
                      intro w hSw
                      (try dsimp only at hSw)
                      go_simp
                      (try with_reducible rfl)
                    change wpAnyH _ _ _ _ _ _ _ (Act.put _ (some 215) _) _
                    try simp only [Act.put, List.setIfInBounds_toArray, List.set_cons_zero, List.set_cons_succ]
                    refine wpAnyH_take (i := 3) (v := ?vb4b3x4) rfl (by decide +kernel) (by decide +kernel) (by decide +kernel) (fun _ _ _ h => h) (Or.inl ⟨by rfl, ?hyb4b3x4⟩) (by assumption) ?restb4b3x4
                    case hyb4b3x4 =>
                      intro w hSw
                      (try dsimp only at hSw)
                      go_simp
                      (try with_reducible rfl)
                    change wpAnyH _ _ _ _ _ _ _ (Act.put _ (some 216) _) _
                    try simp only [Act.put, List.setIfInBounds_toArray, List.set_cons_zero, List.set_cons_succ]
                    refine wpAnyH_take (i := 4) (v := ?vb4b4x5) rfl (by decide +kernel) (by decide +kernel) (by decide +kernel) (fun _ _ _ h => h) (Or.inl ⟨by rfl, ?hyb4b4x5⟩) (by assumption) ?restb4b4x5
                    case hyb4b4x5 =>
                      intro w hSw
                      (try dsimp only at hSw)
                      go_simp
                      (try with_reducible rfl)
                    change wpAnyH _ _ _ _ _ _ _ (Act.put _ (some 217) _) _
                    try simp only [Act.put, List.setIfInBounds_toArray, List.set_cons_zero, List.set_cons_succ]
                    refine wpAnyH_take (i := 5) (v := ?vb4b5x6) rfl (by decide +kernel) (by decide +kernel) (by decide +kernel) (fun _ _ _ h => h) (Or.inl ⟨by rfl, ?hyb4b5x6⟩) (by assumption) ?restb4b5x6
                    case hyb4b5x6 =>
                      intro w hSw
                      (try dsimp only at hSw)
                      have y0 := (hSw.cell (p := ⟨cx + 1, 0, none⟩) lt8).trans y0
                      have y1 := (hSw.cell (p := ⟨cx + 1, 1, none⟩) lt8).trans y1
                      have y2 := (hSw.cell (p := ⟨cx + 1, 2, none⟩) lt8).trans y2
                      have c0 := (hSw.cell (p := ⟨b, off + j * 8, none⟩) hbj).trans c0
                      have c1 := (hSw.cell (p := ⟨b, off + j * 8 + 1, none⟩) hbj).trans c1
                      have c2 := (hSw.cell (p := ⟨b, off + j * 8 + 2, none⟩) hbj).trans c2
                      have c3 := (hSw.cell (p := ⟨b, off + j * 8 + 3, none⟩) hbj).trans c3
                      have c4 := (hSw.cell (p := ⟨b, off + j * 8 + 4, none⟩) hbj).trans c4
                      have c5 := (hSw.cell (p := ⟨b, off + j * 8 + 5, none⟩) hbj).trans c5
                      have c6 := (hSw.cell (p := ⟨b, off + j * 8 + 6, none⟩) hbj).trans c6
                      have c7 := (hSw.cell (p := ⟨b, off + j * 8 + 7, none⟩) hbj).trans c7
                      go_simp
                      (try with_reducible rfl)
                    change wpAnyH _ _ _ _ _ _ _ (Act.put _ (some 218) _) _
                    try simp only [Act.put, List.setIfInBounds_toArray, List.set_cons_zero, List.set_cons_succ]
                    refine wpAnyH_ready (rs := [6]) (by decide +kernel) (by simp) ?_
                    refine AllReadyH.cons rfl (fun K hK => ?_) AllReadyH.nil
                    go_simp
                    go_at_call 17
                    refine Calls.mono (C13.out _ hHeld) ?_
                    rintro e w1 ⟨rfl, hb1⟩
                    (try go_wp2_with fail)
                    refine hK.out _ _ (hHeld.trans (hb1.mono hHeld.size)) (fun hHeld => ?_)
                    clear hK K
                    try simp only [Act.put, List.setIfInBounds_toArray, List.set_cons_zero, List.set_cons_succ]
                    refine wpAnyH_take (i := 7) (v := ?vb4b7x7) rfl (by decide +kernel) (by decide +kernel) (by decide +kernel) (fun _ _ _ h => h) (Or.inl ⟨by rfl, ?hyb4b7x7⟩) (by assumption) ?restb4b7x7
                    case hyb4b7x7 =>
                      intro w hSw
                      (try dsimp only at hSw)
                      go_simp
                      (try with_reducible rfl)
                    change wpAnyH _ _ _ _ _ _ _ (Act.put _ (some 220) _) _
                    try simp only [Act.put, List.setIfInBounds_toArray, List.set_cons_zero, List.set_cons_succ]
                    refine wpAnyH_done (by decide +kernel) ?_ _
                    cases gf with
                    | true =>
                      go_wp2_with fail
                      go_meet
                      exact ⟨by rw [HE12.out.1]; rfl, by rw [HE12.out.2]; rfl, hHeld⟩
                    | false =>
                      go_wp2_with fail
                      go_meet
                      exact ⟨by rw [HE12.out.1]; rfl, by rw [HE12.out.2]; rfl, hHeld⟩
                  | false =>
                    go_upto_region 34 with fail
                    refine wp_region_held_drew (S := fun W => Below wc.heap.size wc W) (by decide +kernel) (h32.drew) (fun hHeld => ?_)
                    refine wpAnyH_take (i := 0) (v := ?vb4b0x8) rfl (by decide +kernel) (by decide +kernel) (by decide +kernel) (fun _ _ _ h => h) (Or.inl ⟨by rfl, ?hyb4b0x8⟩) (by assumption) ?restb4b0x8
                    case hyb4b0x8 =>
                      intro w hSw
                      (try dsimp only at hSw)
                      have y0 := (hSw.cell (p := ⟨cx + 1, 0, none⟩) lt8).trans y0
                      have y1 := (hSw.cell (p := ⟨cx + 1, 1, none⟩) lt8).trans y1
                      have y2 := (hSw.cell (p := ⟨cx + 1, 2, none⟩) lt8).trans y2
                      have c0 := (hSw.cell (p := ⟨b, off + j * 8, none⟩) hbj).trans c0
                      have c1 := (hSw.cell (p := ⟨b, off + j * 8 + 1, none⟩) hbj).trans c1
                      have c2 := (hSw.cell (p := ⟨b, off + j * 8 + 2, none⟩) hbj).trans c2
                      have c3 := (hSw.cell (p := ⟨b, off + j * 8 + 3, none⟩) hbj).trans c3
                      have c4 := (hSw.cell (p := ⟨b, off + j * 8 + 4, none⟩) hbj).trans c4
                      have c5 := (hSw.cell (p := ⟨b, off + j * 8 + 5, none⟩) hbj).trans c5
                      have c6 := (hSw.cell (p := ⟨b, off + j * 8 + 6, none⟩) hbj).trans c6
                      have c7 := (hSw.cell (p := ⟨b, off + j * 8 + 7, none⟩) hbj).trans c7
                      go_simp
                      (try with_reducible rfl)
                    change wpAnyH _ _ _ _ _ _ _ (Act.put _ (some 213) _) _
                    try simp only [Act.put, List.setIfInBounds_toArray, List.set_cons_zero, List.set_cons_succ]
                    refine wpAnyH_take (i := 1) (v := ?vb4b1x9) rfl (by decide +kernel) (by decide +kernel) (by decide +kernel) (fun _ _ _ h => h) (Or.inl ⟨by rfl, ?hyb4b1x9⟩) (by assumption) ?restb4b1x9
                    case hyb4b1x9 =>
                      intro w hSw
                      (try dsimp only at hSw)
                      go_simp
                      (try with_reducible rfl)
                    change wpAnyH _ _ _ _ _ _ _ (Act.put _ (some 214) _) _
                    try simp only [Act.put, List.setIfInBounds_toArray, List.set_cons_zero, List.set_cons_succ]
                    refine wpAnyH_take (i := 2) (v := ?vb4b2x10) rfl (by decide +kernel) (by decide +kernel) (by decide +kernel) (fun _ _ _ h => h) (Or.inl ⟨by rfl, ?hyb4b2x10⟩) (by assumption) ?restb4b2x10
                    case hyb4b2x10 =>
                      intro w hSw
                      (try dsimp only at hSw)
                      go_simp
                      (try with_reducible rfl)
                    change wpAnyH _ _ _ _ _ _ _ (Act.put _ (some 215) _) _
                    try simp only [Act.put, List.setIfInBounds_toArray, List.set_cons_zero, List.set_cons_succ]
                    refine wpAnyH_take (i := 3) (v := ?vb4b3x11) rfl (by decide +kernel) (by decide +kernel) (by decide +kernel) (fun _ _ _ h => h) (Or.inl ⟨by rfl, ?hyb4b3x11⟩) (by assumption) ?restb4b3x11
                    case hyb4b3x11 =>
                      intro w hSw
                      (try dsimp only at hSw)
                      go_simp
                      (try with_reducible rfl)
                    change wpAnyH _ _ _ _ _ _ _ (Act.put _ (some 216) _) _
                    try simp only [Act.put, List.setIfInBounds_toArray, List.set_cons_zero, List.set_cons_succ]
                    refine wpAnyH_take (i := 4) (v := ?vb4b4x12) rfl (by decide +kernel) (by decide +kernel) (by decide +kernel) (fun _ _ _ h => h) (Or.inl ⟨by rfl, ?hyb4b4x12⟩) (by assumption) ?restb4b4x12
                    case hyb4b4x12 =>
                      intro w hSw
                      (try dsimp only at hSw)
                      go_simp
                      (try with_reducible rfl)
                    change wpAnyH _ _ _ _ _ _ _ (Act.put _ (some 217) _) _
                    try simp only [Act.put, List.setIfInBounds_toArray, List.set_cons_zero, List.set_cons_succ]
                    refine wpAnyH_take (i := 5) (v := ?vb4b5x13) rfl (by decide +kernel) (by decide +kernel) (by decide +kernel) (fun _ _ _ h => h) (Or.inl ⟨by rfl, ?hyb4b5x13⟩) (by assumption) ?restb4b5x13
                    case hyb4b5x13 =>
                      intro w hSw
                      (try dsimp only at hSw)
                      have y0 := (hSw.cell (p := ⟨cx + 1, 0, none⟩) lt8).trans y0
                      have y1 := (hSw.cell (p := ⟨cx + 1, 1, none⟩) lt8).trans y1
                      have y2 := (hSw.cell (p := ⟨cx + 1, 2, none⟩) lt8).trans y2
                      have c0 := (hSw.cell (p := ⟨b, off + j * 8, none⟩) hbj).trans c0
                      have c1 := (hSw.cell (p := ⟨b, off + j * 8 + 1, none⟩) hbj).trans c1
                      have c2 := (hSw.cell (p := ⟨b, off + j * 8 + 2, none⟩) hbj).trans c2
                      have c3 := (hSw.cell (p := ⟨b, off + j * 8 + 3, none⟩) hbj).trans c3
                      have c4 := (hSw.cell (p := ⟨b, off + j * 8 + 4, none⟩) hbj).trans c4
                      have c5 := (hSw.cell (p := ⟨b, off + j * 8 + 5, none⟩) hbj).trans c5
                      have c6 := (hSw.cell (p := ⟨b, off + j * 8 + 6, none⟩) hbj).trans c6
                      have c7 := (hSw.cell (p := ⟨b, off + j * 8 + 7, none⟩) hbj).trans c7
                      go_simp
                      (try with_reducible rfl)
                    change wpAnyH _ _ _ _ _ _ _ (Act.put _ (some 218) _) _
                    try simp only [Act.put, List.setIfInBounds_toArray, List.set_cons_zero, List.set_cons_succ]
                    refine wpAnyH_ready (rs := [6]) (by decide +kernel) (by simp) ?_
                    refine AllReadyH.cons rfl (fun K hK => ?_) AllReadyH.nil
                    go_simp
                    go_at_call 17
                    refine Calls.mono (C13.out _ hHeld) ?_
                    rintro e w1 ⟨rfl, hb1⟩
                    (try go_wp2_with fail)
                    refine hK.out _ _ (hHeld.trans (hb1.mono hHeld.size)) (fun hHeld => ?_)
                    clear hK K
                    try simp only [Act.put, List.setIfInBounds_toArray, List.set_cons_zero, List.set_cons_succ]
                    refine wpAnyH_take (i := 7) (v := ?vb4b7x14) rfl (by decide +kernel) (by decide +kernel) (by decide +kernel) (fun _ _ _ h => h) (Or.inl ⟨by rfl, ?hyb4b7x14⟩) (by assumption) ?restb4b7x14
                    case hyb4b7x14 =>
                      intro w hSw
                      (try dsimp only at hSw)
                      go_simp
                      (try with_reducible rfl)
                    change wpAnyH _ _ _ _ _ _ _ (Act.put _ (some 220) _) _
                    try simp only [Act.put, List.setIfInBounds_toArray, List.set_cons_zero, List.set_cons_succ]
                    refine wpAnyH_done (by decide +kernel) ?_ _
                    cases gf with
                    | true =>
                      go_wp2_with fail
                      go_meet
                      exact ⟨by rw [HE12.out.1]; rfl, by rw [HE12.out.2]; rfl, hHeld⟩
                    | false =>
                      go_wp2_with fail
                      go_meet
                      exact ⟨by rw [HE12.out.1]; rfl, by rw [HE12.out.2]; rfl, hHeld⟩
                · have e1 : te = me := by rw [HTE2.out, if_pos hm]
                  have e2 : ge = me := by rw [HGE2.out, if_pos hm]
                  have hm2 : (me == 0) = false := by simpa using hm
                  subst e1
                  have HE2 := Lib.hid e2
                  clear e2 hm
                  go_wp2_with fail
                  go_meet
                  exact ⟨rfl, by rw [HE2.out], Below.refl _ _⟩
              case rest => as_aux_lemma =>
                obtain ⟨rfl, rfl, hl⟩ := hcut
                have c5 := (hl.cell (p := ⟨b, off + j * 8 + 5, none⟩) hbj).trans c5
                have c6 := (hl.cell (p := ⟨b, off + j * 8 + 6, none⟩) hbj).trans c6
                have c7 := (hl.cell (p := ⟨b, off + j * 8 + 7, none⟩) hbj).trans c7
                have HP14 := Lib.hid (HP13.out.below hl)
                have HQ14 := Lib.hid (HQ13.out.below hl)
                have hbj := Nat.lt_of_lt_of_le hbj hl.size
                clear HP13 HQ13 C11 C12 C13
                have HB14 := Lib.hid (HB13.out.trans (hl.mono HB13.out.size))
                have hl0 := hl
                clear hl x0 x1 x2 x3 x4 y0 y1 y2 h0 h1 h2 h3 h4 h5 h6 h7 lt9 lt8 lt7
                obtain ⟨x0, x1, x2, x3, x4, y0, y1, y2, h0, h1, h2, h3, h4, h5, h6, h7, lt9⟩ := HX.out wc HB14.out
                have lt8 : cx + 1 < wc.heap.size := by omega
                have lt7 : cx < wc.heap.size := by omega
                clear hl0
                have H30 : Hid (n ≤ 30) := Lib.hid (Nat.le_trans (Nat.le_of_eq HN.out) (labels_few HE0.out).1)
                by_cases hte : te = 0
                · by_cases hge : ge = 0
                  · as_aux_lemma =>
                    obtain ⟨hA2, hPe2⟩ := HTT.out.2 (HTT.out.1.symm.trans hte)
                    have hn2 : np = n := HNP.out.symm.trans ((congrArg List.length hPe2).trans ((List.length_set ..).trans HN.out.symm))
                    obtain ⟨U2, hU2⟩ : ∃ U, hj.used.plus A 1 = U := ⟨_, rfl⟩
                    rw [hU2] at hPe2
                    have HPE2 := Lib.hid hPe2
                    have C21 : Hid (∀ W, Below wc.heap.size wc W → Calls Try.prog 20 #[.agg #[.int .i64 hj.used.cpu, .int .i64 hj.used.mem, .int .i64 hj.used.gpu], .agg #[.int .i64 A.cpu, .int .i64 A.mem, .int .i64 A.gpu], .int .i64 1] W fun e w' => e = .returned (.agg #[.int .i64 U2.cpu, .int .i64 U2.mem, .int .i64 U2.gpu]) ∧ Below W.heap.size W w') := Lib.hid (fun W _ => law_plus (.inl rfl) HOK.out.2 hA2 hU2 W)
                    have C22 : Hid (∀ W, Below wc.heap.size wc W → Calls Try.prog 19 #[.slice (some ⟨b, off, none⟩) n cap, .int .i64 (j : Int), .agg #[.int .i64 U2.cpu, .int .i64 U2.mem, .int .i64 U2.gpu]] W fun e w' => ∃ ar cr, e = .returned (.slice ar n cr) ∧ Hosts w' ar P ∧ Below W.heap.size W w') := Lib.hid (fun W hW => law_used HN.out H30.out HXJ.out HPE2.out W (HL.out.below (HB14.out.trans (hW.mono HB14.out.size))))
                    have C23 : Hid (∀ W ar cr, Below wc.heap.size wc W → Hosts W ar P → Calls Try.prog 18 #[.slice ap n cp1, .slice ar n cr] W fun e w' => e = .returned (.bool true) ∧ Below W.heap.size W w') := Lib.hid (fun W ar cr hW hh => law_same HE0.out HN.out H30.out HXJ.out HPE2.out W (HP14.out.below hW) hh)
                    clear hPe2 hU2 hA2
                    have hgt2 : (0 : Int) < (n : Int) := Int.lt_of_le_of_lt hj1 hj2
                    rw [hn2]
                    clear hn2
                    obtain ⟨hA3, hPe3⟩ := HGG.out.2 (HGG.out.1.symm.trans hge)
                    have hn3 : nq = n := HNQ.out.symm.trans ((congrArg List.length hPe3).trans ((List.length_set ..).trans HN.out.symm))
                    obtain ⟨U3, hU3⟩ : ∃ U, hj.used.plus A (-1) = U := ⟨_, rfl⟩
                    rw [hU3] at hPe3
                    have HPE3 := Lib.hid hPe3
                    have C31 : Hid (∀ W, Below wc.heap.size wc W → Calls Try.prog 20 #[.agg #[.int .i64 hj.used.cpu, .int .i64 hj.used.mem, .int .i64 hj.used.gpu], .agg #[.int .i64 A.cpu, .int .i64 A.mem, .int .i64 A.gpu], .int .i64 (-1)] W fun e w' => e = .returned (.agg #[.int .i64 U3.cpu, .int .i64 U3.mem, .int .i64 U3.gpu]) ∧ Below W.heap.size W w') := Lib.hid (fun W _ => law_plus (.inr rfl) HOK.out.2 hA3 hU3 W)
                    have C32 : Hid (∀ W, Below wc.heap.size wc W → Calls Try.prog 19 #[.slice (some ⟨b, off, none⟩) n cap, .int .i64 (j : Int), .agg #[.int .i64 U3.cpu, .int .i64 U3.mem, .int .i64 U3.gpu]] W fun e w' => ∃ ar cr, e = .returned (.slice ar n cr) ∧ Hosts w' ar Q ∧ Below W.heap.size W w') := Lib.hid (fun W hW => law_used HN.out H30.out HXJ.out HPE3.out W (HL.out.below (HB14.out.trans (hW.mono HB14.out.size))))
                    have C33 : Hid (∀ W ar cr, Below wc.heap.size wc W → Hosts W ar Q → Calls Try.prog 18 #[.slice aq n cq1, .slice ar n cr] W fun e w' => e = .returned (.bool true) ∧ Below W.heap.size W w') := Lib.hid (fun W ar cr hW hh => law_same HE0.out HN.out H30.out HXJ.out HPE3.out W (HQ14.out.below hW) hh)
                    clear hPe3 hU3 hA3
                    have hgt3 : (0 : Int) < (n : Int) := Int.lt_of_le_of_lt hj1 hj2
                    rw [hn3]
                    clear hn3
                    rw [hte]
                    rw [hge]
                    clear HTE HGE HTT HGG HPE HQE HTE2 HGE2
                    clear hte hge
                    go_upto_region 38 with fail
                    refine wp_region_held_drew (S := fun W => Below wc.heap.size wc W) (by decide +kernel) (Below.drew (Below.refl _ _)) (fun hHeld => ?_)
                    refine wpAnyH_take (i := 0) (v := ?vb5b0x1) rfl (by decide +kernel) (by decide +kernel) (by decide +kernel) (fun _ _ _ h => h) (Or.inl ⟨by rfl, ?hyb5b0x1⟩) (by assumption) ?restb5b0x1
                    case hyb5b0x1 =>
                      intro w hSw
                      (try dsimp only at hSw)
                      go_simp
                      (try with_reducible rfl)
                    change wpAnyH _ _ _ _ _ _ _ (Act.put _ (some 247) _) _
                    try simp only [Act.put, List.setIfInBounds_toArray, List.set_cons_zero, List.set_cons_succ]
                    refine wpAnyH_take (i := 1) (v := ?vb5b1x2) rfl (by decide +kernel) (by decide +kernel) (by decide +kernel) (fun _ _ _ h => h) (Or.inl ⟨by rfl, ?hyb5b1x2⟩) (by assumption) ?restb5b1x2
                    case hyb5b1x2 =>
                      intro w hSw
                      (try dsimp only at hSw)
                      go_simp
                      (try with_reducible rfl)
                    change wpAnyH _ _ _ _ _ _ _ (Act.put _ (some 248) _) _
                    try simp only [Act.put, List.setIfInBounds_toArray, List.set_cons_zero, List.set_cons_succ]
                    refine wpAnyH_take (i := 2) (v := ?vb5b2x3) rfl (by decide +kernel) (by decide +kernel) (by decide +kernel) (fun _ _ _ h => h) (Or.inl ⟨by rfl, ?hyb5b2x3⟩) (by assumption) ?restb5b2x3
                    case hyb5b2x3 =>
                      intro w hSw
                      (try dsimp only at hSw)
                      go_simp
                      (try with_reducible rfl)
                    change wpAnyH _ _ _ _ _ _ _ (Act.put _ (some 249) _) _
                    try simp only [Act.put, List.setIfInBounds_toArray, List.set_cons_zero, List.set_cons_succ]
                    refine wpAnyH_take (i := 3) (v := ?vb5b3x4) rfl (by decide +kernel) (by decide +kernel) (by decide +kernel) (fun _ _ _ h => h) (Or.inl ⟨by rfl, ?hyb5b3x4⟩) (by assumption) ?restb5b3x4
                    case hyb5b3x4 =>
                      intro w hSw
                      (try dsimp only at hSw)
                      go_simp
                      (try with_reducible rfl)
                    change wpAnyH _ _ _ _ _ _ _ (Act.put _ (some 250) _) _
                    try simp only [Act.put, List.setIfInBounds_toArray, List.set_cons_zero, List.set_cons_succ]
                    refine wpAnyH_take (i := 4) (v := ?vb5b4x5) rfl (by decide +kernel) (by decide +kernel) (by decide +kernel) (fun _ _ _ h => h) (Or.inl ⟨by rfl, ?hyb5b4x5⟩) (by assumption) ?restb5b4x5
                    case hyb5b4x5 =>
                      intro w hSw
                      (try dsimp only at hSw)
                      go_simp
                      (try with_reducible rfl)
                    change wpAnyH _ _ _ _ _ _ _ (Act.put _ (some 251) _) _
                    try simp only [Act.put, List.setIfInBounds_toArray, List.set_cons_zero, List.set_cons_succ]
                    refine wpAnyH_take (i := 5) (v := ?vb5b5x6) rfl (by decide +kernel) (by decide +kernel) (by decide +kernel) (fun _ _ _ h => h) (Or.inl ⟨by rfl, ?hyb5b5x6⟩) (by assumption) ?restb5b5x6
                    case hyb5b5x6 =>
                      intro w hSw
                      (try dsimp only at hSw)
                      go_simp
                      (try with_reducible rfl)
                    change wpAnyH _ _ _ _ _ _ _ (Act.put _ (some 252) _) _
                    try simp only [Act.put, List.setIfInBounds_toArray, List.set_cons_zero, List.set_cons_succ]
                    refine wpAnyH_take (i := 6) (v := ?vb5b6x7) rfl (by decide +kernel) (by decide +kernel) (by decide +kernel) (fun _ _ _ h => h) (Or.inl ⟨by rfl, ?hyb5b6x7⟩) (by assumption) ?restb5b6x7
                    case hyb5b6x7 =>
                      intro w hSw
                      (try dsimp only at hSw)
                      go_simp
                      (try with_reducible rfl)
                    change wpAnyH _ _ _ _ _ _ _ (Act.put _ (some 253) _) _
                    try simp only [Act.put, List.setIfInBounds_toArray, List.set_cons_zero, List.set_cons_succ]
                    refine wpAnyH_take (i := 7) (v := ?vb5b7x8) rfl (by decide +kernel) (by decide +kernel) (by decide +kernel) (fun _ _ _ h => h) (Or.inl ⟨by rfl, ?hyb5b7x8⟩) (by assumption) ?restb5b7x8
                    case hyb5b7x8 =>
                      intro w hSw
                      (try dsimp only at hSw)
                      go_simp
                      (try with_reducible rfl)
                    change wpAnyH _ _ _ _ _ _ _ (Act.put _ (some 254) _) _
                    try simp only [Act.put, List.setIfInBounds_toArray, List.set_cons_zero, List.set_cons_succ]
                    refine wpAnyH_take (i := 8) (v := ?vb5b8x9) rfl (by decide +kernel) (by decide +kernel) (by decide +kernel) (fun _ _ _ h => h) (Or.inl ⟨by rfl, ?hyb5b8x9⟩) (by assumption) ?restb5b8x9
                    case hyb5b8x9 =>
                      intro w hSw
                      (try dsimp only at hSw)
                      go_simp
                      (try with_reducible rfl)
                    change wpAnyH _ _ _ _ _ _ _ (Act.put _ (some 255) _) _
                    try simp only [Act.put, List.setIfInBounds_toArray, List.set_cons_zero, List.set_cons_succ]
                    refine wpAnyH_take (i := 9) (v := ?vb5b9x10) rfl (by decide +kernel) (by decide +kernel) (by decide +kernel) (fun _ _ _ h => h) (Or.inl ⟨by rfl, ?hyb5b9x10⟩) (by assumption) ?restb5b9x10
                    case hyb5b9x10 =>
                      intro w hSw
                      (try dsimp only at hSw)
                      go_simp
                      (try with_reducible rfl)
                    change wpAnyH _ _ _ _ _ _ _ (Act.put _ (some 256) _) _
                    try simp only [Act.put, List.setIfInBounds_toArray, List.set_cons_zero, List.set_cons_succ]
                    refine wpAnyH_take (i := 10) (v := ?vb5b10x11) rfl (by decide +kernel) (by decide +kernel) (by decide +kernel) (fun _ _ _ h => h) (Or.inl ⟨by rfl, ?hyb5b10x11⟩) (by assumption) ?restb5b10x11
                    case hyb5b10x11 =>
                      intro w hSw
                      (try dsimp only at hSw)
                      go_simp
                      (try with_reducible rfl)
                    change wpAnyH _ _ _ _ _ _ _ (Act.put _ (some 257) _) _
                    try simp only [Act.put, List.setIfInBounds_toArray, List.set_cons_zero, List.set_cons_succ]
                    refine wpAnyH_take (i := 11) (v := ?vb5b11x12) rfl (by decide +kernel) (by decide +kernel) (by decide +kernel) (fun _ _ _ h => h) (Or.inl ⟨by rfl, ?hyb5b11x12⟩) (by assumption) ?restb5b11x12
                    case hyb5b11x12 =>
                      intro w hSw
                      (try dsimp only at hSw)
                      go_simp
                      (try with_reducible rfl)
                    change wpAnyH _ _ _ _ _ _ _ (Act.put _ (some 258) _) _
                    try simp only [Act.put, List.setIfInBounds_toArray, List.set_cons_zero, List.set_cons_succ]
                    refine wpAnyH_take (i := 12) (v := ?vb5b12x13) rfl (by decide +kernel) (by decide +kernel) (by decide +kernel) (fun _ _ _ h => h) (Or.inl ⟨by rfl, ?hyb5b12x13⟩) (by assumption) ?restb5b12x13
                    case hyb5b12x13 =>
                      intro w hSw
                      (try dsimp only at hSw)
                      go_simp
                      (try with_reducible rfl)
                    change wpAnyH _ _ _ _ _ _ _ (Act.put _ (some 259) _) _
                    try simp only [Act.put, List.setIfInBounds_toArray, List.set_cons_zero, List.set_cons_succ]
                    refine wpAnyH_take (i := 13) (v := ?vb5b13x14) rfl (by decide +kernel) (by decide +kernel) (by decide +kernel) (fun _ _ _ h => h) (Or.inl ⟨by rfl, ?hyb5b13x14⟩) (by assumption) ?restb5b13x14
                    case hyb5b13x14 =>
                      intro w hSw
                      (try dsimp only at hSw)
                      have y0 := (hSw.cell (p := ⟨cx + 1, 0, none⟩) lt8).trans y0
                      have y1 := (hSw.cell (p := ⟨cx + 1, 1, none⟩) lt8).trans y1
                      have y2 := (hSw.cell (p := ⟨cx + 1, 2, none⟩) lt8).trans y2
                      have c5 := (hSw.cell (p := ⟨b, off + j * 8 + 5, none⟩) hbj).trans c5
                      have c6 := (hSw.cell (p := ⟨b, off + j * 8 + 6, none⟩) hbj).trans c6
                      have c7 := (hSw.cell (p := ⟨b, off + j * 8 + 7, none⟩) hbj).trans c7
                      go_simp
                      (try with_reducible rfl)
                    change wpAnyH _ _ _ _ _ _ _ (Act.put _ (some 260) _) _
                    try simp only [Act.put, List.setIfInBounds_toArray, List.set_cons_zero, List.set_cons_succ]
                    refine wpAnyH_take (i := 14) (v := ?vb5b14x15) rfl (by decide +kernel) (by decide +kernel) (by decide +kernel) (fun _ _ _ h => h) (Or.inl ⟨by rfl, ?hyb5b14x15⟩) (by assumption) ?restb5b14x15
                    case hyb5b14x15 =>
                      intro w hSw
                      (try dsimp only at hSw)
                      have y0 := (hSw.cell (p := ⟨cx + 1, 0, none⟩) lt8).trans y0
                      have y1 := (hSw.cell (p := ⟨cx + 1, 1, none⟩) lt8).trans y1
                      have y2 := (hSw.cell (p := ⟨cx + 1, 2, none⟩) lt8).trans y2
                      have c5 := (hSw.cell (p := ⟨b, off + j * 8 + 5, none⟩) hbj).trans c5
                      have c6 := (hSw.cell (p := ⟨b, off + j * 8 + 6, none⟩) hbj).trans c6
                      have c7 := (hSw.cell (p := ⟨b, off + j * 8 + 7, none⟩) hbj).trans c7
                      go_simp
                      (try with_reducible rfl)
                    change wpAnyH _ _ _ _ _ _ _ (Act.put _ (some 261) _) _
                    try simp only [Act.put, List.setIfInBounds_toArray, List.set_cons_zero, List.set_cons_succ]
                    refine wpAnyH_ready (rs := [15]) (by decide +kernel) (by simp) ?_
                    refine AllReadyH.cons rfl (fun K hK => ?_) AllReadyH.nil
                    go_simp
                    go_at_call 20
                    refine Calls.mono (C21.out _ hHeld) ?_
                    rintro e w1 ⟨rfl, hb1⟩
                    (try go_wp2_with fail)
                    refine hK.out _ _ (hHeld.trans (hb1.mono hHeld.size)) (fun hHeld => ?_)
                    clear hK K
                    try simp only [Act.put, List.setIfInBounds_toArray, List.set_cons_zero, List.set_cons_succ]
                    refine wpAnyH_ready (rs := [16]) (by decide +kernel) (by simp) ?_
                    refine AllReadyH.cons rfl (fun K hK => ?_) AllReadyH.nil
                    go_simp
                    go_at_call 19
                    refine Calls.mono (C22.out _ hHeld) ?_
                    rintro e w1 ⟨ar, cr, rfl, hhr, hb1⟩
                    have HR := Lib.hid hhr
                    clear hhr
                    (try go_wp2_with fail)
                    refine hK.out _ _ (hHeld.trans (hb1.mono hHeld.size)) (fun hHeld => ?_)
                    clear hK K
                    try simp only [Act.put, List.setIfInBounds_toArray, List.set_cons_zero, List.set_cons_succ]
                    refine wpAnyH_ready (rs := [17]) (by decide +kernel) (by simp) ?_
                    refine AllReadyH.cons rfl (fun K hK => ?_) AllReadyH.nil
                    go_simp
                    go_at_call 18
                    refine Calls.mono (C23.out _ ar cr hHeld HR.out) ?_
                    rintro e w1 ⟨rfl, hb1⟩
                    (try go_wp2_with fail)
                    refine hK.out _ _ (hHeld.trans (hb1.mono hHeld.size)) (fun hHeld => ?_)
                    clear hK K
                    try simp only [Act.put, List.setIfInBounds_toArray, List.set_cons_zero, List.set_cons_succ]
                    refine wpAnyH_take (i := 18) (v := ?vb5b18x16) rfl (by decide +kernel) (by decide +kernel) (by decide +kernel) (fun _ _ _ h => h) (Or.inl ⟨by rfl, ?hyb5b18x16⟩) (by assumption) ?restb5b18x16
                    case hyb5b18x16 =>
                      intro w hSw
                      (try dsimp only at hSw)
                      go_simp
                      (try with_reducible rfl)
                    change wpAnyH _ _ _ _ _ _ _ (Act.put _ (some 265) _) _
                    try simp only [Act.put, List.setIfInBounds_toArray, List.set_cons_zero, List.set_cons_succ]
                    refine wpAnyH_take (i := 19) (v := ?vb5b19x17) rfl (by decide +kernel) (by decide +kernel) (by decide +kernel) (fun _ _ _ h => h) (Or.inl ⟨by rfl, ?hyb5b19x17⟩) (by assumption) ?restb5b19x17
                    case hyb5b19x17 =>
                      intro w hSw
                      (try dsimp only at hSw)
                      go_simp
                      (try with_reducible rfl)
                    change wpAnyH _ _ _ _ _ _ _ (Act.put _ (some 266) _) _
                    try simp only [Act.put, List.setIfInBounds_toArray, List.set_cons_zero, List.set_cons_succ]
                    refine wpAnyH_take (i := 20) (v := ?vb5b20x18) rfl (by decide +kernel) (by decide +kernel) (by decide +kernel) (fun _ _ _ h => h) (Or.inl ⟨by rfl, ?hyb5b20x18⟩) (by assumption) ?restb5b20x18
                    case hyb5b20x18 =>
                      intro w hSw
                      (try dsimp only at hSw)
                      go_simp
                      (try with_reducible rfl)
                    change wpAnyH _ _ _ _ _ _ _ (Act.put _ (some 267) _) _
                    try simp only [Act.put, List.setIfInBounds_toArray, List.set_cons_zero, List.set_cons_succ]
                    refine wpAnyH_take (i := 21) (v := ?vb5b21x19) rfl (by decide +kernel) (by decide +kernel) (by decide +kernel) (fun _ _ _ h => h) (Or.inl ⟨by rfl, ?hyb5b21x19⟩) (by assumption) ?restb5b21x19
                    case hyb5b21x19 =>
                      intro w hSw
                      (try dsimp only at hSw)
                      go_simp
                      (try with_reducible rfl)
                    change wpAnyH _ _ _ _ _ _ _ (Act.put _ (some 268) _) _
                    try simp only [Act.put, List.setIfInBounds_toArray, List.set_cons_zero, List.set_cons_succ]
                    refine wpAnyH_take (i := 22) (v := ?vb5b22x20) rfl (by decide +kernel) (by decide +kernel) (by decide +kernel) (fun _ _ _ h => h) (Or.inl ⟨by rfl, ?hyb5b22x20⟩) (by assumption) ?restb5b22x20
                    case hyb5b22x20 =>
                      intro w hSw
                      (try dsimp only at hSw)
                      go_simp
                      (try with_reducible rfl)
                    change wpAnyH _ _ _ _ _ _ _ (Act.put _ (some 269) _) _
                    try simp only [Act.put, List.setIfInBounds_toArray, List.set_cons_zero, List.set_cons_succ]
                    refine wpAnyH_take (i := 23) (v := ?vb5b23x21) rfl (by decide +kernel) (by decide +kernel) (by decide +kernel) (fun _ _ _ h => h) (Or.inl ⟨by rfl, ?hyb5b23x21⟩) (by assumption) ?restb5b23x21
                    case hyb5b23x21 =>
                      intro w hSw
                      (try dsimp only at hSw)
                      go_simp
                      (try with_reducible rfl)
                    change wpAnyH _ _ _ _ _ _ _ (Act.put _ (some 270) _) _
                    try simp only [Act.put, List.setIfInBounds_toArray, List.set_cons_zero, List.set_cons_succ]
                    refine wpAnyH_take (i := 24) (v := ?vb5b24x22) rfl (by decide +kernel) (by decide +kernel) (by decide +kernel) (fun _ _ _ h => h) (Or.inl ⟨by rfl, ?hyb5b24x22⟩) (by assumption) ?restb5b24x22
                    case hyb5b24x22 =>
                      intro w hSw
                      (try dsimp only at hSw)
                      go_simp
                      (try with_reducible rfl)
                    change wpAnyH _ _ _ _ _ _ _ (Act.put _ (some 271) _) _
                    try simp only [Act.put, List.setIfInBounds_toArray, List.set_cons_zero, List.set_cons_succ]
                    refine wpAnyH_take (i := 25) (v := ?vb5b25x23) rfl (by decide +kernel) (by decide +kernel) (by decide +kernel) (fun _ _ _ h => h) (Or.inl ⟨by rfl, ?hyb5b25x23⟩) (by assumption) ?restb5b25x23
                    case hyb5b25x23 =>
                      intro w hSw
                      (try dsimp only at hSw)
                      go_simp
                      (try with_reducible rfl)
                    change wpAnyH _ _ _ _ _ _ _ (Act.put _ (some 272) _) _
                    try simp only [Act.put, List.setIfInBounds_toArray, List.set_cons_zero, List.set_cons_succ]
                    refine wpAnyH_take (i := 26) (v := ?vb5b26x24) rfl (by decide +kernel) (by decide +kernel) (by decide +kernel) (fun _ _ _ h => h) (Or.inl ⟨by rfl, ?hyb5b26x24⟩) (by assumption) ?restb5b26x24
                    case hyb5b26x24 =>
                      intro w hSw
                      (try dsimp only at hSw)
                      go_simp
                      (try with_reducible rfl)
                    change wpAnyH _ _ _ _ _ _ _ (Act.put _ (some 273) _) _
                    try simp only [Act.put, List.setIfInBounds_toArray, List.set_cons_zero, List.set_cons_succ]
                    refine wpAnyH_take (i := 27) (v := ?vb5b27x25) rfl (by decide +kernel) (by decide +kernel) (by decide +kernel) (fun _ _ _ h => h) (Or.inl ⟨by rfl, ?hyb5b27x25⟩) (by assumption) ?restb5b27x25
                    case hyb5b27x25 =>
                      intro w hSw
                      (try dsimp only at hSw)
                      go_simp
                      (try with_reducible rfl)
                    change wpAnyH _ _ _ _ _ _ _ (Act.put _ (some 274) _) _
                    try simp only [Act.put, List.setIfInBounds_toArray, List.set_cons_zero, List.set_cons_succ]
                    refine wpAnyH_take (i := 28) (v := ?vb5b28x26) rfl (by decide +kernel) (by decide +kernel) (by decide +kernel) (fun _ _ _ h => h) (Or.inl ⟨by rfl, ?hyb5b28x26⟩) (by assumption) ?restb5b28x26
                    case hyb5b28x26 =>
                      intro w hSw
                      (try dsimp only at hSw)
                      go_simp
                      (try with_reducible rfl)
                    change wpAnyH _ _ _ _ _ _ _ (Act.put _ (some 275) _) _
                    try simp only [Act.put, List.setIfInBounds_toArray, List.set_cons_zero, List.set_cons_succ]
                    refine wpAnyH_take (i := 29) (v := ?vb5b29x27) rfl (by decide +kernel) (by decide +kernel) (by decide +kernel) (fun _ _ _ h => h) (Or.inl ⟨by rfl, ?hyb5b29x27⟩) (by assumption) ?restb5b29x27
                    case hyb5b29x27 =>
                      intro w hSw
                      (try dsimp only at hSw)
                      go_simp
                      (try with_reducible rfl)
                    change wpAnyH _ _ _ _ _ _ _ (Act.put _ (some 276) _) _
                    try simp only [Act.put, List.setIfInBounds_toArray, List.set_cons_zero, List.set_cons_succ]
                    refine wpAnyH_take (i := 30) (v := ?vb5b30x28) rfl (by decide +kernel) (by decide +kernel) (by decide +kernel) (fun _ _ _ h => h) (Or.inl ⟨by rfl, ?hyb5b30x28⟩) (by assumption) ?restb5b30x28
                    case hyb5b30x28 =>
                      intro w hSw
                      (try dsimp only at hSw)
                      go_simp
                      (try with_reducible rfl)
                    change wpAnyH _ _ _ _ _ _ _ (Act.put _ (some 277) _) _
                    try simp only [Act.put, List.setIfInBounds_toArray, List.set_cons_zero, List.set_cons_succ]
                    refine wpAnyH_take (i := 31) (v := ?vb5b31x29) rfl (by decide +kernel) (by decide +kernel) (by decide +kernel) (fun _ _ _ h => h) (Or.inl ⟨by rfl, ?hyb5b31x29⟩) (by assumption) ?restb5b31x29
                    case hyb5b31x29 =>
                      intro w hSw
                      (try dsimp only at hSw)
                      go_simp
                      (try with_reducible rfl)
                    change wpAnyH _ _ _ _ _ _ _ (Act.put _ (some 278) _) _
                    try simp only [Act.put, List.setIfInBounds_toArray, List.set_cons_zero, List.set_cons_succ]
                    refine wpAnyH_take (i := 32) (v := ?vb5b32x30) rfl (by decide +kernel) (by decide +kernel) (by decide +kernel) (fun _ _ _ h => h) (Or.inl ⟨by rfl, ?hyb5b32x30⟩) (by assumption) ?restb5b32x30
                    case hyb5b32x30 =>
                      intro w hSw
                      (try dsimp only at hSw)
                      go_simp
                      (try with_reducible rfl)
                    change wpAnyH _ _ _ _ _ _ _ (Act.put _ (some 279) _) _
                    try simp only [Act.put, List.setIfInBounds_toArray, List.set_cons_zero, List.set_cons_succ]
                    refine wpAnyH_take (i := 33) (v := ?vb5b33x31) rfl (by decide +kernel) (by decide +kernel) (by decide +kernel) (fun _ _ _ h => h) (Or.inl ⟨by rfl, ?hyb5b33x31⟩) (by assumption) ?restb5b33x31
                    case hyb5b33x31 =>
                      intro w hSw
                      (try dsimp only at hSw)
                      go_simp
                      (try with_reducible rfl)
                    change wpAnyH _ _ _ _ _ _ _ (Act.put _ (some 280) _) _
                    try simp only [Act.put, List.setIfInBounds_toArray, List.set_cons_zero, List.set_cons_succ]
                    refine wpAnyH_take (i := 34) (v := ?vb5b34x32) rfl (by decide +kernel) (by decide +kernel) (by decide +kernel) (fun _ _ _ h => h) (Or.inl ⟨by rfl, ?hyb5b34x32⟩) (by assumption) ?restb5b34x32
                    case hyb5b34x32 =>
                      intro w hSw
                      (try dsimp only at hSw)
                      have y0 := (hSw.cell (p := ⟨cx + 1, 0, none⟩) lt8).trans y0
                      have y1 := (hSw.cell (p := ⟨cx + 1, 1, none⟩) lt8).trans y1
                      have y2 := (hSw.cell (p := ⟨cx + 1, 2, none⟩) lt8).trans y2
                      have c5 := (hSw.cell (p := ⟨b, off + j * 8 + 5, none⟩) hbj).trans c5
                      have c6 := (hSw.cell (p := ⟨b, off + j * 8 + 6, none⟩) hbj).trans c6
                      have c7 := (hSw.cell (p := ⟨b, off + j * 8 + 7, none⟩) hbj).trans c7
                      go_simp
                      (try with_reducible rfl)
                    change wpAnyH _ _ _ _ _ _ _ (Act.put _ (some 281) _) _
                    try simp only [Act.put, List.setIfInBounds_toArray, List.set_cons_zero, List.set_cons_succ]
                    refine wpAnyH_take (i := 35) (v := ?vb5b35x33) rfl (by decide +kernel) (by decide +kernel) (by decide +kernel) (fun _ _ _ h => h) (Or.inl ⟨by rfl, ?hyb5b35x33⟩) (by assumption) ?restb5b35x33
                    case hyb5b35x33 =>
                      intro w hSw
                      (try dsimp only at hSw)
                      have y0 := (hSw.cell (p := ⟨cx + 1, 0, none⟩) lt8).trans y0
                      have y1 := (hSw.cell (p := ⟨cx + 1, 1, none⟩) lt8).trans y1
                      have y2 := (hSw.cell (p := ⟨cx + 1, 2, none⟩) lt8).trans y2
                      have c5 := (hSw.cell (p := ⟨b, off + j * 8 + 5, none⟩) hbj).trans c5
                      have c6 := (hSw.cell (p := ⟨b, off + j * 8 + 6, none⟩) hbj).trans c6
                      have c7 := (hSw.cell (p := ⟨b, off + j * 8 + 7, none⟩) hbj).trans c7
                      go_simp
                      (try with_reducible rfl)
                    change wpAnyH _ _ _ _ _ _ _ (Act.put _ (some 282) _) _
                    try simp only [Act.put, List.setIfInBounds_toArray, List.set_cons_zero, List.set_cons_succ]
                    refine wpAnyH_ready (rs := [36]) (by decide +kernel) (by simp) ?_
                    refine AllReadyH.cons rfl (fun K hK => ?_) AllReadyH.nil
                    go_simp
                    go_at_call 20
                    refine Calls.mono (C31.out _ hHeld) ?_
                    rintro e w1 ⟨rfl, hb1⟩
                    (try go_wp2_with fail)
                    refine hK.out _ _ (hHeld.trans (hb1.mono hHeld.size)) (fun hHeld => ?_)
                    clear hK K
                    try simp only [Act.put, List.setIfInBounds_toArray, List.set_cons_zero, List.set_cons_succ]
                    refine wpAnyH_ready (rs := [37]) (by decide +kernel) (by simp) ?_
                    refine AllReadyH.cons rfl (fun K hK => ?_) AllReadyH.nil
                    go_simp
                    go_at_call 19
                    refine Calls.mono (C32.out _ hHeld) ?_
                    rintro e w1 ⟨ar, cr, rfl, hhr, hb1⟩
                    have HR := Lib.hid hhr
                    clear hhr
                    (try go_wp2_with fail)
                    refine hK.out _ _ (hHeld.trans (hb1.mono hHeld.size)) (fun hHeld => ?_)
                    clear hK K
                    try simp only [Act.put, List.setIfInBounds_toArray, List.set_cons_zero, List.set_cons_succ]
                    refine wpAnyH_ready (rs := [38]) (by decide +kernel) (by simp) ?_
                    refine AllReadyH.cons rfl (fun K hK => ?_) AllReadyH.nil
                    go_simp
                    go_at_call 18
                    refine Calls.mono (C33.out _ ar cr hHeld HR.out) ?_
                    rintro e w1 ⟨rfl, hb1⟩
                    (try go_wp2_with fail)
                    refine hK.out _ _ (hHeld.trans (hb1.mono hHeld.size)) (fun hHeld => ?_)
                    clear hK K
                    try simp only [Act.put, List.setIfInBounds_toArray, List.set_cons_zero, List.set_cons_succ]
                    refine wpAnyH_take (i := 39) (v := ?vb5b39x34) rfl (by decide +kernel) (by decide +kernel) (by decide +kernel) (fun _ _ _ h => h) (Or.inl ⟨by rfl, ?hyb5b39x34⟩) (by assumption) ?restb5b39x34
                    case hyb5b39x34 =>
                      intro w hSw
                      (try dsimp only at hSw)
                      go_simp
                      (try with_reducible rfl)
                    change wpAnyH _ _ _ _ _ _ _ (Act.put _ (some 286) _) _
                    try simp only [Act.put, List.setIfInBounds_toArray, List.set_cons_zero, List.set_cons_succ]
                    refine wpAnyH_take (i := 40) (v := ?vb5b40x35) rfl (by decide +kernel) (by decide +kernel) (by decide +kernel) (fun _ _ _ h => h) (Or.inl ⟨by rfl, ?hyb5b40x35⟩) (by assumption) ?restb5b40x35
                    case hyb5b40x35 =>
                      intro w hSw
                      (try dsimp only at hSw)
                      go_simp
                      (try with_reducible rfl)
                    change wpAnyH _ _ _ _ _ _ _ (Act.put _ (some 287) _) _
                    try simp only [Act.put, List.setIfInBounds_toArray, List.set_cons_zero, List.set_cons_succ]
                    refine wpAnyH_take (i := 41) (v := ?vb5b41x36) rfl (by decide +kernel) (by decide +kernel) (by decide +kernel) (fun _ _ _ h => h) (Or.inl ⟨by rfl, ?hyb5b41x36⟩) (by assumption) ?restb5b41x36
                    case hyb5b41x36 =>
                      intro w hSw
                      (try dsimp only at hSw)
                      go_simp
                      (try with_reducible rfl)
                    change wpAnyH _ _ _ _ _ _ _ (Act.put _ (some 288) _) _
                    try simp only [Act.put, List.setIfInBounds_toArray, List.set_cons_zero, List.set_cons_succ]
                    refine wpAnyH_take (i := 42) (v := ?vb5b42x37) rfl (by decide +kernel) (by decide +kernel) (by decide +kernel) (fun _ _ _ h => h) (Or.inl ⟨by rfl, ?hyb5b42x37⟩) (by assumption) ?restb5b42x37
                    case hyb5b42x37 =>
                      intro w hSw
                      (try dsimp only at hSw)
                      go_simp
                      (try with_reducible rfl)
                    change wpAnyH _ _ _ _ _ _ _ (Act.put _ (some 10) _) _
                    try simp only [Act.put, List.setIfInBounds_toArray, List.set_cons_zero, List.set_cons_succ]
                    refine wpAnyH_done (by decide +kernel) ?_ _
                    go_wp2_with fail
                    go_ret
                    exact ⟨rfl, HBW.out.trans ((HB14.out.trans (hHeld.mono HB14.out.size)).mono HBW.out.size)⟩
                  · as_aux_lemma =>
                    obtain ⟨hA2, hPe2⟩ := HTT.out.2 (HTT.out.1.symm.trans hte)
                    have hn2 : np = n := HNP.out.symm.trans ((congrArg List.length hPe2).trans ((List.length_set ..).trans HN.out.symm))
                    obtain ⟨U2, hU2⟩ : ∃ U, hj.used.plus A 1 = U := ⟨_, rfl⟩
                    rw [hU2] at hPe2
                    have HPE2 := Lib.hid hPe2
                    have C21 : Hid (∀ W, Below wc.heap.size wc W → Calls Try.prog 20 #[.agg #[.int .i64 hj.used.cpu, .int .i64 hj.used.mem, .int .i64 hj.used.gpu], .agg #[.int .i64 A.cpu, .int .i64 A.mem, .int .i64 A.gpu], .int .i64 1] W fun e w' => e = .returned (.agg #[.int .i64 U2.cpu, .int .i64 U2.mem, .int .i64 U2.gpu]) ∧ Below W.heap.size W w') := Lib.hid (fun W _ => law_plus (.inl rfl) HOK.out.2 hA2 hU2 W)
                    have C22 : Hid (∀ W, Below wc.heap.size wc W → Calls Try.prog 19 #[.slice (some ⟨b, off, none⟩) n cap, .int .i64 (j : Int), .agg #[.int .i64 U2.cpu, .int .i64 U2.mem, .int .i64 U2.gpu]] W fun e w' => ∃ ar cr, e = .returned (.slice ar n cr) ∧ Hosts w' ar P ∧ Below W.heap.size W w') := Lib.hid (fun W hW => law_used HN.out H30.out HXJ.out HPE2.out W (HL.out.below (HB14.out.trans (hW.mono HB14.out.size))))
                    have C23 : Hid (∀ W ar cr, Below wc.heap.size wc W → Hosts W ar P → Calls Try.prog 18 #[.slice ap n cp1, .slice ar n cr] W fun e w' => e = .returned (.bool true) ∧ Below W.heap.size W w') := Lib.hid (fun W ar cr hW hh => law_same HE0.out HN.out H30.out HXJ.out HPE2.out W (HP14.out.below hW) hh)
                    clear hPe2 hU2 hA2
                    have hgt2 : (0 : Int) < (n : Int) := Int.lt_of_le_of_lt hj1 hj2
                    rw [hn2]
                    clear hn2
                    have hn3 : nq = 0 := by rw [← HNQ.out, ← HQE.out, chL_bad (by rw [HGE.out]; exact hge)]; rfl
                    rw [hn3]
                    clear hn3
                    have hhge : (ge != 0) = true := by simpa using hge
                    rw [hte]
                    clear HTE HGE HTT HGG HPE HQE HTE2 HGE2
                    clear hte
                    clear hge
                    go_upto_region 38 with fail
                    refine wp_region_held_drew (S := fun W => Below wc.heap.size wc W) (by decide +kernel) (Below.drew (Below.refl _ _)) (fun hHeld => ?_)
                    refine wpAnyH_take (i := 0) (v := ?vb6b0x1) rfl (by decide +kernel) (by decide +kernel) (by decide +kernel) (fun _ _ _ h => h) (Or.inl ⟨by rfl, ?hyb6b0x1⟩) (by assumption) ?restb6b0x1
                    case hyb6b0x1 =>
                      intro w hSw
                      (try dsimp only at hSw)
                      go_simp
                      (try with_reducible rfl)
                    change wpAnyH _ _ _ _ _ _ _ (Act.put _ (some 247) _) _
                    try simp only [Act.put, List.setIfInBounds_toArray, List.set_cons_zero, List.set_cons_succ]
                    refine wpAnyH_take (i := 1) (v := ?vb6b1x2) rfl (by decide +kernel) (by decide +kernel) (by decide +kernel) (fun _ _ _ h => h) (Or.inl ⟨by rfl, ?hyb6b1x2⟩) (by assumption) ?restb6b1x2
                    case hyb6b1x2 =>
                      intro w hSw
                      (try dsimp only at hSw)
                      go_simp
                      (try with_reducible rfl)
                    change wpAnyH _ _ _ _ _ _ _ (Act.put _ (some 248) _) _
                    try simp only [Act.put, List.setIfInBounds_toArray, List.set_cons_zero, List.set_cons_succ]
                    refine wpAnyH_take (i := 2) (v := ?vb6b2x3) rfl (by decide +kernel) (by decide +kernel) (by decide +kernel) (fun _ _ _ h => h) (Or.inl ⟨by rfl, ?hyb6b2x3⟩) (by assumption) ?restb6b2x3
                    case hyb6b2x3 =>
                      intro w hSw
                      (try dsimp only at hSw)
                      go_simp
                      (try with_reducible rfl)
                    change wpAnyH _ _ _ _ _ _ _ (Act.put _ (some 249) _) _
                    try simp only [Act.put, List.setIfInBounds_toArray, List.set_cons_zero, List.set_cons_succ]
                    refine wpAnyH_take (i := 3) (v := ?vb6b3x4) rfl (by decide +kernel) (by decide +kernel) (by decide +kernel) (fun _ _ _ h => h) (Or.inl ⟨by rfl, ?hyb6b3x4⟩) (by assumption) ?restb6b3x4
                    case hyb6b3x4 =>
                      intro w hSw
                      (try dsimp only at hSw)
                      go_simp
                      (try with_reducible rfl)
                    change wpAnyH _ _ _ _ _ _ _ (Act.put _ (some 250) _) _
                    try simp only [Act.put, List.setIfInBounds_toArray, List.set_cons_zero, List.set_cons_succ]
                    refine wpAnyH_take (i := 4) (v := ?vb6b4x5) rfl (by decide +kernel) (by decide +kernel) (by decide +kernel) (fun _ _ _ h => h) (Or.inl ⟨by rfl, ?hyb6b4x5⟩) (by assumption) ?restb6b4x5
                    case hyb6b4x5 =>
                      intro w hSw
                      (try dsimp only at hSw)
                      go_simp
                      (try with_reducible rfl)
                    change wpAnyH _ _ _ _ _ _ _ (Act.put _ (some 251) _) _
                    try simp only [Act.put, List.setIfInBounds_toArray, List.set_cons_zero, List.set_cons_succ]
                    refine wpAnyH_take (i := 5) (v := ?vb6b5x6) rfl (by decide +kernel) (by decide +kernel) (by decide +kernel) (fun _ _ _ h => h) (Or.inl ⟨by rfl, ?hyb6b5x6⟩) (by assumption) ?restb6b5x6
                    case hyb6b5x6 =>
                      intro w hSw
                      (try dsimp only at hSw)
                      go_simp
                      (try with_reducible rfl)
                    change wpAnyH _ _ _ _ _ _ _ (Act.put _ (some 252) _) _
                    try simp only [Act.put, List.setIfInBounds_toArray, List.set_cons_zero, List.set_cons_succ]
                    refine wpAnyH_take (i := 6) (v := ?vb6b6x7) rfl (by decide +kernel) (by decide +kernel) (by decide +kernel) (fun _ _ _ h => h) (Or.inl ⟨by rfl, ?hyb6b6x7⟩) (by assumption) ?restb6b6x7
                    case hyb6b6x7 =>
                      intro w hSw
                      (try dsimp only at hSw)
                      go_simp
                      (try with_reducible rfl)
                    change wpAnyH _ _ _ _ _ _ _ (Act.put _ (some 253) _) _
                    try simp only [Act.put, List.setIfInBounds_toArray, List.set_cons_zero, List.set_cons_succ]
                    refine wpAnyH_take (i := 7) (v := ?vb6b7x8) rfl (by decide +kernel) (by decide +kernel) (by decide +kernel) (fun _ _ _ h => h) (Or.inl ⟨by rfl, ?hyb6b7x8⟩) (by assumption) ?restb6b7x8
                    case hyb6b7x8 =>
                      intro w hSw
                      (try dsimp only at hSw)
                      go_simp
                      (try with_reducible rfl)
                    change wpAnyH _ _ _ _ _ _ _ (Act.put _ (some 254) _) _
                    try simp only [Act.put, List.setIfInBounds_toArray, List.set_cons_zero, List.set_cons_succ]
                    refine wpAnyH_take (i := 8) (v := ?vb6b8x9) rfl (by decide +kernel) (by decide +kernel) (by decide +kernel) (fun _ _ _ h => h) (Or.inl ⟨by rfl, ?hyb6b8x9⟩) (by assumption) ?restb6b8x9
                    case hyb6b8x9 =>
                      intro w hSw
                      (try dsimp only at hSw)
                      go_simp
                      (try with_reducible rfl)
                    change wpAnyH _ _ _ _ _ _ _ (Act.put _ (some 255) _) _
                    try simp only [Act.put, List.setIfInBounds_toArray, List.set_cons_zero, List.set_cons_succ]
                    refine wpAnyH_take (i := 9) (v := ?vb6b9x10) rfl (by decide +kernel) (by decide +kernel) (by decide +kernel) (fun _ _ _ h => h) (Or.inl ⟨by rfl, ?hyb6b9x10⟩) (by assumption) ?restb6b9x10
                    case hyb6b9x10 =>
                      intro w hSw
                      (try dsimp only at hSw)
                      go_simp
                      (try with_reducible rfl)
                    change wpAnyH _ _ _ _ _ _ _ (Act.put _ (some 256) _) _
                    try simp only [Act.put, List.setIfInBounds_toArray, List.set_cons_zero, List.set_cons_succ]
                    refine wpAnyH_take (i := 10) (v := ?vb6b10x11) rfl (by decide +kernel) (by decide +kernel) (by decide +kernel) (fun _ _ _ h => h) (Or.inl ⟨by rfl, ?hyb6b10x11⟩) (by assumption) ?restb6b10x11
                    case hyb6b10x11 =>
                      intro w hSw
                      (try dsimp only at hSw)
                      go_simp
                      (try with_reducible rfl)
                    change wpAnyH _ _ _ _ _ _ _ (Act.put _ (some 257) _) _
                    try simp only [Act.put, List.setIfInBounds_toArray, List.set_cons_zero, List.set_cons_succ]
                    refine wpAnyH_take (i := 11) (v := ?vb6b11x12) rfl (by decide +kernel) (by decide +kernel) (by decide +kernel) (fun _ _ _ h => h) (Or.inl ⟨by rfl, ?hyb6b11x12⟩) (by assumption) ?restb6b11x12
                    case hyb6b11x12 =>
                      intro w hSw
                      (try dsimp only at hSw)
                      go_simp
                      (try with_reducible rfl)
                    change wpAnyH _ _ _ _ _ _ _ (Act.put _ (some 258) _) _
                    try simp only [Act.put, List.setIfInBounds_toArray, List.set_cons_zero, List.set_cons_succ]
                    refine wpAnyH_take (i := 12) (v := ?vb6b12x13) rfl (by decide +kernel) (by decide +kernel) (by decide +kernel) (fun _ _ _ h => h) (Or.inl ⟨by rfl, ?hyb6b12x13⟩) (by assumption) ?restb6b12x13
                    case hyb6b12x13 =>
                      intro w hSw
                      (try dsimp only at hSw)
                      go_simp
                      (try with_reducible rfl)
                    change wpAnyH _ _ _ _ _ _ _ (Act.put _ (some 259) _) _
                    try simp only [Act.put, List.setIfInBounds_toArray, List.set_cons_zero, List.set_cons_succ]
                    refine wpAnyH_take (i := 13) (v := ?vb6b13x14) rfl (by decide +kernel) (by decide +kernel) (by decide +kernel) (fun _ _ _ h => h) (Or.inl ⟨by rfl, ?hyb6b13x14⟩) (by assumption) ?restb6b13x14
                    case hyb6b13x14 =>
                      intro w hSw
                      (try dsimp only at hSw)
                      have y0 := (hSw.cell (p := ⟨cx + 1, 0, none⟩) lt8).trans y0
                      have y1 := (hSw.cell (p := ⟨cx + 1, 1, none⟩) lt8).trans y1
                      have y2 := (hSw.cell (p := ⟨cx + 1, 2, none⟩) lt8).trans y2
                      have c5 := (hSw.cell (p := ⟨b, off + j * 8 + 5, none⟩) hbj).trans c5
                      have c6 := (hSw.cell (p := ⟨b, off + j * 8 + 6, none⟩) hbj).trans c6
                      have c7 := (hSw.cell (p := ⟨b, off + j * 8 + 7, none⟩) hbj).trans c7
                      go_simp
                      (try with_reducible rfl)
                    change wpAnyH _ _ _ _ _ _ _ (Act.put _ (some 260) _) _
                    try simp only [Act.put, List.setIfInBounds_toArray, List.set_cons_zero, List.set_cons_succ]
                    refine wpAnyH_take (i := 14) (v := ?vb6b14x15) rfl (by decide +kernel) (by decide +kernel) (by decide +kernel) (fun _ _ _ h => h) (Or.inl ⟨by rfl, ?hyb6b14x15⟩) (by assumption) ?restb6b14x15
                    case hyb6b14x15 =>
                      intro w hSw
                      (try dsimp only at hSw)
                      have y0 := (hSw.cell (p := ⟨cx + 1, 0, none⟩) lt8).trans y0
                      have y1 := (hSw.cell (p := ⟨cx + 1, 1, none⟩) lt8).trans y1
                      have y2 := (hSw.cell (p := ⟨cx + 1, 2, none⟩) lt8).trans y2
                      have c5 := (hSw.cell (p := ⟨b, off + j * 8 + 5, none⟩) hbj).trans c5
                      have c6 := (hSw.cell (p := ⟨b, off + j * 8 + 6, none⟩) hbj).trans c6
                      have c7 := (hSw.cell (p := ⟨b, off + j * 8 + 7, none⟩) hbj).trans c7
                      go_simp
                      (try with_reducible rfl)
                    change wpAnyH _ _ _ _ _ _ _ (Act.put _ (some 261) _) _
                    try simp only [Act.put, List.setIfInBounds_toArray, List.set_cons_zero, List.set_cons_succ]
                    refine wpAnyH_ready (rs := [15]) (by decide +kernel) (by simp) ?_
                    refine AllReadyH.cons rfl (fun K hK => ?_) AllReadyH.nil
                    go_simp
                    go_at_call 20
                    refine Calls.mono (C21.out _ hHeld) ?_
                    rintro e w1 ⟨rfl, hb1⟩
                    (try go_wp2_with fail)
                    refine hK.out _ _ (hHeld.trans (hb1.mono hHeld.size)) (fun hHeld => ?_)
                    clear hK K
                    try simp only [Act.put, List.setIfInBounds_toArray, List.set_cons_zero, List.set_cons_succ]
                    refine wpAnyH_ready (rs := [16]) (by decide +kernel) (by simp) ?_
                    refine AllReadyH.cons rfl (fun K hK => ?_) AllReadyH.nil
                    go_simp
                    go_at_call 19
                    refine Calls.mono (C22.out _ hHeld) ?_
                    rintro e w1 ⟨ar, cr, rfl, hhr, hb1⟩
                    have HR := Lib.hid hhr
                    clear hhr
                    (try go_wp2_with fail)
                    refine hK.out _ _ (hHeld.trans (hb1.mono hHeld.size)) (fun hHeld => ?_)
                    clear hK K
                    try simp only [Act.put, List.setIfInBounds_toArray, List.set_cons_zero, List.set_cons_succ]
                    refine wpAnyH_ready (rs := [17]) (by decide +kernel) (by simp) ?_
                    refine AllReadyH.cons rfl (fun K hK => ?_) AllReadyH.nil
                    go_simp
                    go_at_call 18
                    refine Calls.mono (C23.out _ ar cr hHeld HR.out) ?_
                    rintro e w1 ⟨rfl, hb1⟩
                    (try go_wp2_with fail)
                    refine hK.out _ _ (hHeld.trans (hb1.mono hHeld.size)) (fun hHeld => ?_)
                    clear hK K
                    try simp only [Act.put, List.setIfInBounds_toArray, List.set_cons_zero, List.set_cons_succ]
                    refine wpAnyH_take (i := 18) (v := ?vb6b18x16) rfl (by decide +kernel) (by decide +kernel) (by decide +kernel) (fun _ _ _ h => h) (Or.inl ⟨by rfl, ?hyb6b18x16⟩) (by assumption) ?restb6b18x16
                    case hyb6b18x16 =>
                      intro w hSw
                      (try dsimp only at hSw)
                      go_simp
                      (try with_reducible rfl)
                    change wpAnyH _ _ _ _ _ _ _ (Act.put _ (some 265) _) _
                    try simp only [Act.put, List.setIfInBounds_toArray, List.set_cons_zero, List.set_cons_succ]
                    refine wpAnyH_take (i := 19) (v := ?vb6b19x17) rfl (by decide +kernel) (by decide +kernel) (by decide +kernel) (fun _ _ _ h => h) (Or.inl ⟨by rfl, ?hyb6b19x17⟩) (by assumption) ?restb6b19x17
                    case hyb6b19x17 =>
                      intro w hSw
                      (try dsimp only at hSw)
                      go_simp
                      (try with_reducible rfl)
                    change wpAnyH _ _ _ _ _ _ _ (Act.put _ (some 266) _) _
                    try simp only [Act.put, List.setIfInBounds_toArray, List.set_cons_zero, List.set_cons_succ]
                    refine wpAnyH_take (i := 20) (v := ?vb6b20x18) rfl (by decide +kernel) (by decide +kernel) (by decide +kernel) (fun _ _ _ h => h) (Or.inl ⟨by rfl, ?hyb6b20x18⟩) (by assumption) ?restb6b20x18
                    case hyb6b20x18 =>
                      intro w hSw
                      (try dsimp only at hSw)
                      go_simp
                      (try with_reducible rfl)
                    change wpAnyH _ _ _ _ _ _ _ (Act.put _ (some 267) _) _
                    try simp only [Act.put, List.setIfInBounds_toArray, List.set_cons_zero, List.set_cons_succ]
                    refine wpAnyH_take (i := 21) (v := ?vb6b21x19) rfl (by decide +kernel) (by decide +kernel) (by decide +kernel) (fun _ _ _ h => h) (Or.inl ⟨by rfl, ?hyb6b21x19⟩) (by assumption) ?restb6b21x19
                    case hyb6b21x19 =>
                      intro w hSw
                      (try dsimp only at hSw)
                      go_simp
                      (try with_reducible rfl)
                    change wpAnyH _ _ _ _ _ _ _ (Act.put _ (some 268) _) _
                    try simp only [Act.put, List.setIfInBounds_toArray, List.set_cons_zero, List.set_cons_succ]
                    refine wpAnyH_take (i := 22) (v := ?vb6b22x20) rfl (by decide +kernel) (by decide +kernel) (by decide +kernel) (fun _ _ _ h => h) (Or.inl ⟨by rfl, ?hyb6b22x20⟩) (by assumption) ?restb6b22x20
                    case hyb6b22x20 =>
                      intro w hSw
                      (try dsimp only at hSw)
                      go_simp
                      (try with_reducible rfl)
                    change wpAnyH _ _ _ _ _ _ _ (Act.put _ (some 269) _) _
                    try simp only [Act.put, List.setIfInBounds_toArray, List.set_cons_zero, List.set_cons_succ]
                    refine wpAnyH_take (i := 23) (v := ?vb6b23x21) rfl (by decide +kernel) (by decide +kernel) (by decide +kernel) (fun _ _ _ h => h) (Or.inl ⟨by rfl, ?hyb6b23x21⟩) (by assumption) ?restb6b23x21
                    case hyb6b23x21 =>
                      intro w hSw
                      (try dsimp only at hSw)
                      go_simp
                      (try with_reducible rfl)
                    change wpAnyH _ _ _ _ _ _ _ (Act.put _ (some 270) _) _
                    try simp only [Act.put, List.setIfInBounds_toArray, List.set_cons_zero, List.set_cons_succ]
                    refine wpAnyH_take (i := 24) (v := undef) rfl (by decide +kernel) (by decide +kernel) (by decide +kernel) (fun _ _ _ h => h) (Or.inr ⟨by rfl, rfl⟩) (by assumption) ?_
                    change wpAnyH _ _ _ _ _ _ _ (Act.put _ (some 271) _) _
                    try simp only [Act.put, List.setIfInBounds_toArray, List.set_cons_zero, List.set_cons_succ]
                    refine wpAnyH_take (i := 25) (v := undef) rfl (by decide +kernel) (by decide +kernel) (by decide +kernel) (fun _ _ _ h => h) (Or.inr ⟨by rfl, rfl⟩) (by assumption) ?_
                    change wpAnyH _ _ _ _ _ _ _ (Act.put _ (some 272) _) _
                    try simp only [Act.put, List.setIfInBounds_toArray, List.set_cons_zero, List.set_cons_succ]
                    refine wpAnyH_take (i := 26) (v := undef) rfl (by decide +kernel) (by decide +kernel) (by decide +kernel) (fun _ _ _ h => h) (Or.inr ⟨by rfl, rfl⟩) (by assumption) ?_
                    change wpAnyH _ _ _ _ _ _ _ (Act.put _ (some 273) _) _
                    try simp only [Act.put, List.setIfInBounds_toArray, List.set_cons_zero, List.set_cons_succ]
                    refine wpAnyH_take (i := 27) (v := undef) rfl (by decide +kernel) (by decide +kernel) (by decide +kernel) (fun _ _ _ h => h) (Or.inr ⟨by rfl, rfl⟩) (by assumption) ?_
                    change wpAnyH _ _ _ _ _ _ _ (Act.put _ (some 274) _) _
                    try simp only [Act.put, List.setIfInBounds_toArray, List.set_cons_zero, List.set_cons_succ]
                    refine wpAnyH_take (i := 28) (v := undef) rfl (by decide +kernel) (by decide +kernel) (by decide +kernel) (fun _ _ _ h => h) (Or.inr ⟨by rfl, rfl⟩) (by assumption) ?_
                    change wpAnyH _ _ _ _ _ _ _ (Act.put _ (some 275) _) _
                    try simp only [Act.put, List.setIfInBounds_toArray, List.set_cons_zero, List.set_cons_succ]
                    refine wpAnyH_take (i := 29) (v := undef) rfl (by decide +kernel) (by decide +kernel) (by decide +kernel) (fun _ _ _ h => h) (Or.inr ⟨by rfl, rfl⟩) (by assumption) ?_
                    change wpAnyH _ _ _ _ _ _ _ (Act.put _ (some 276) _) _
                    try simp only [Act.put, List.setIfInBounds_toArray, List.set_cons_zero, List.set_cons_succ]
                    refine wpAnyH_take (i := 30) (v := undef) rfl (by decide +kernel) (by decide +kernel) (by decide +kernel) (fun _ _ _ h => h) (Or.inr ⟨by rfl, rfl⟩) (by assumption) ?_
                    change wpAnyH _ _ _ _ _ _ _ (Act.put _ (some 277) _) _
                    try simp only [Act.put, List.setIfInBounds_toArray, List.set_cons_zero, List.set_cons_succ]
                    refine wpAnyH_take (i := 31) (v := undef) rfl (by decide +kernel) (by decide +kernel) (by decide +kernel) (fun _ _ _ h => h) (Or.inr ⟨by rfl, rfl⟩) (by assumption) ?_
                    change wpAnyH _ _ _ _ _ _ _ (Act.put _ (some 278) _) _
                    try simp only [Act.put, List.setIfInBounds_toArray, List.set_cons_zero, List.set_cons_succ]
                    refine wpAnyH_take (i := 32) (v := undef) rfl (by decide +kernel) (by decide +kernel) (by decide +kernel) (fun _ _ _ h => h) (Or.inr ⟨by rfl, rfl⟩) (by assumption) ?_
                    change wpAnyH _ _ _ _ _ _ _ (Act.put _ (some 279) _) _
                    try simp only [Act.put, List.setIfInBounds_toArray, List.set_cons_zero, List.set_cons_succ]
                    refine wpAnyH_take (i := 33) (v := undef) rfl (by decide +kernel) (by decide +kernel) (by decide +kernel) (fun _ _ _ h => h) (Or.inr ⟨by rfl, rfl⟩) (by assumption) ?_
                    change wpAnyH _ _ _ _ _ _ _ (Act.put _ (some 280) _) _
                    try simp only [Act.put, List.setIfInBounds_toArray, List.set_cons_zero, List.set_cons_succ]
                    refine wpAnyH_take (i := 34) (v := undef) rfl (by decide +kernel) (by decide +kernel) (by decide +kernel) (fun _ _ _ h => h) (Or.inr ⟨by rfl, rfl⟩) (by assumption) ?_
                    change wpAnyH _ _ _ _ _ _ _ (Act.put _ (some 281) _) _
                    try simp only [Act.put, List.setIfInBounds_toArray, List.set_cons_zero, List.set_cons_succ]
                    refine wpAnyH_take (i := 35) (v := undef) rfl (by decide +kernel) (by decide +kernel) (by decide +kernel) (fun _ _ _ h => h) (Or.inr ⟨by rfl, rfl⟩) (by assumption) ?_
                    change wpAnyH _ _ _ _ _ _ _ (Act.put _ (some 282) _) _
                    try simp only [Act.put, List.setIfInBounds_toArray, List.set_cons_zero, List.set_cons_succ]
                    refine wpAnyH_take (i := 36) (v := undef) rfl (by decide +kernel) (by decide +kernel) (by decide +kernel) (fun _ _ _ h => h) (Or.inr ⟨by rfl, rfl⟩) (by assumption) ?_
                    change wpAnyH _ _ _ _ _ _ _ (Act.put _ (some 283) _) _
                    try simp only [Act.put, List.setIfInBounds_toArray, List.set_cons_zero, List.set_cons_succ]
                    refine wpAnyH_take (i := 37) (v := undef) rfl (by decide +kernel) (by decide +kernel) (by decide +kernel) (fun _ _ _ h => h) (Or.inr ⟨by rfl, rfl⟩) (by assumption) ?_
                    change wpAnyH _ _ _ _ _ _ _ (Act.put _ (some 284) _) _
                    try simp only [Act.put, List.setIfInBounds_toArray, List.set_cons_zero, List.set_cons_succ]
                    refine wpAnyH_take (i := 38) (v := undef) rfl (by decide +kernel) (by decide +kernel) (by decide +kernel) (fun _ _ _ h => h) (Or.inr ⟨by rfl, rfl⟩) (by assumption) ?_
                    change wpAnyH _ _ _ _ _ _ _ (Act.put _ (some 285) _) _
                    try simp only [Act.put, List.setIfInBounds_toArray, List.set_cons_zero, List.set_cons_succ]
                    refine wpAnyH_take (i := 39) (v := undef) rfl (by decide +kernel) (by decide +kernel) (by decide +kernel) (fun _ _ _ h => h) (Or.inr ⟨by rfl, rfl⟩) (by assumption) ?_
                    change wpAnyH _ _ _ _ _ _ _ (Act.put _ (some 286) _) _
                    try simp only [Act.put, List.setIfInBounds_toArray, List.set_cons_zero, List.set_cons_succ]
                    refine wpAnyH_take (i := 40) (v := ?vb6b40x22) rfl (by decide +kernel) (by decide +kernel) (by decide +kernel) (fun _ _ _ h => h) (Or.inl ⟨by rfl, ?hyb6b40x22⟩) (by assumption) ?restb6b40x22
                    case hyb6b40x22 =>
                      intro w hSw
                      (try dsimp only at hSw)
                      go_simp
                      (try with_reducible rfl)
                    change wpAnyH _ _ _ _ _ _ _ (Act.put _ (some 287) _) _
                    try simp only [Act.put, List.setIfInBounds_toArray, List.set_cons_zero, List.set_cons_succ]
                    refine wpAnyH_take (i := 41) (v := ?vb6b41x23) rfl (by decide +kernel) (by decide +kernel) (by decide +kernel) (fun _ _ _ h => h) (Or.inl ⟨by rfl, ?hyb6b41x23⟩) (by assumption) ?restb6b41x23
                    case hyb6b41x23 =>
                      intro w hSw
                      (try dsimp only at hSw)
                      go_simp
                      (try with_reducible rfl)
                    change wpAnyH _ _ _ _ _ _ _ (Act.put _ (some 288) _) _
                    try simp only [Act.put, List.setIfInBounds_toArray, List.set_cons_zero, List.set_cons_succ]
                    refine wpAnyH_take (i := 42) (v := ?vb6b42x24) rfl (by decide +kernel) (by decide +kernel) (by decide +kernel) (fun _ _ _ h => h) (Or.inl ⟨by rfl, ?hyb6b42x24⟩) (by assumption) ?restb6b42x24
                    case hyb6b42x24 =>
                      intro w hSw
                      (try dsimp only at hSw)
                      go_simp
                      (try with_reducible rfl)
                    change wpAnyH _ _ _ _ _ _ _ (Act.put _ (some 10) _) _
                    try simp only [Act.put, List.setIfInBounds_toArray, List.set_cons_zero, List.set_cons_succ]
                    refine wpAnyH_done (by decide +kernel) ?_ _
                    go_wp2_with fail
                    go_ret
                    exact ⟨rfl, HBW.out.trans ((HB14.out.trans (hHeld.mono HB14.out.size)).mono HBW.out.size)⟩
                · by_cases hge : ge = 0
                  · as_aux_lemma =>
                    have hn2 : np = 0 := by rw [← HNP.out, ← HPE.out, chL_bad (by rw [HTE.out]; exact hte)]; rfl
                    rw [hn2]
                    clear hn2
                    have hhte : (te != 0) = true := by simpa using hte
                    obtain ⟨hA3, hPe3⟩ := HGG.out.2 (HGG.out.1.symm.trans hge)
                    have hn3 : nq = n := HNQ.out.symm.trans ((congrArg List.length hPe3).trans ((List.length_set ..).trans HN.out.symm))
                    obtain ⟨U3, hU3⟩ : ∃ U, hj.used.plus A (-1) = U := ⟨_, rfl⟩
                    rw [hU3] at hPe3
                    have HPE3 := Lib.hid hPe3
                    have C31 : Hid (∀ W, Below wc.heap.size wc W → Calls Try.prog 20 #[.agg #[.int .i64 hj.used.cpu, .int .i64 hj.used.mem, .int .i64 hj.used.gpu], .agg #[.int .i64 A.cpu, .int .i64 A.mem, .int .i64 A.gpu], .int .i64 (-1)] W fun e w' => e = .returned (.agg #[.int .i64 U3.cpu, .int .i64 U3.mem, .int .i64 U3.gpu]) ∧ Below W.heap.size W w') := Lib.hid (fun W _ => law_plus (.inr rfl) HOK.out.2 hA3 hU3 W)
                    have C32 : Hid (∀ W, Below wc.heap.size wc W → Calls Try.prog 19 #[.slice (some ⟨b, off, none⟩) n cap, .int .i64 (j : Int), .agg #[.int .i64 U3.cpu, .int .i64 U3.mem, .int .i64 U3.gpu]] W fun e w' => ∃ ar cr, e = .returned (.slice ar n cr) ∧ Hosts w' ar Q ∧ Below W.heap.size W w') := Lib.hid (fun W hW => law_used HN.out H30.out HXJ.out HPE3.out W (HL.out.below (HB14.out.trans (hW.mono HB14.out.size))))
                    have C33 : Hid (∀ W ar cr, Below wc.heap.size wc W → Hosts W ar Q → Calls Try.prog 18 #[.slice aq n cq1, .slice ar n cr] W fun e w' => e = .returned (.bool true) ∧ Below W.heap.size W w') := Lib.hid (fun W ar cr hW hh => law_same HE0.out HN.out H30.out HXJ.out HPE3.out W (HQ14.out.below hW) hh)
                    clear hPe3 hU3 hA3
                    have hgt3 : (0 : Int) < (n : Int) := Int.lt_of_le_of_lt hj1 hj2
                    rw [hn3]
                    clear hn3
                    rw [hge]
                    clear HTE HGE HTT HGG HPE HQE HTE2 HGE2
                    clear hte
                    clear hge
                    go_upto_region 38 with fail
                    refine wp_region_held_drew (S := fun W => Below wc.heap.size wc W) (by decide +kernel) (Below.drew (Below.refl _ _)) (fun hHeld => ?_)
                    refine wpAnyH_take (i := 0) (v := ?vb7b0x1) rfl (by decide +kernel) (by decide +kernel) (by decide +kernel) (fun _ _ _ h => h) (Or.inl ⟨by rfl, ?hyb7b0x1⟩) (by assumption) ?restb7b0x1
                    case hyb7b0x1 =>
                      intro w hSw
                      (try dsimp only at hSw)
                      go_simp
                      (try with_reducible rfl)
                    change wpAnyH _ _ _ _ _ _ _ (Act.put _ (some 247) _) _
                    try simp only [Act.put, List.setIfInBounds_toArray, List.set_cons_zero, List.set_cons_succ]
                    refine wpAnyH_take (i := 1) (v := ?vb7b1x2) rfl (by decide +kernel) (by decide +kernel) (by decide +kernel) (fun _ _ _ h => h) (Or.inl ⟨by rfl, ?hyb7b1x2⟩) (by assumption) ?restb7b1x2
                    case hyb7b1x2 =>
                      intro w hSw
                      (try dsimp only at hSw)
                      go_simp
                      (try with_reducible rfl)
                    change wpAnyH _ _ _ _ _ _ _ (Act.put _ (some 248) _) _
                    try simp only [Act.put, List.setIfInBounds_toArray, List.set_cons_zero, List.set_cons_succ]
                    refine wpAnyH_take (i := 2) (v := ?vb7b2x3) rfl (by decide +kernel) (by decide +kernel) (by decide +kernel) (fun _ _ _ h => h) (Or.inl ⟨by rfl, ?hyb7b2x3⟩) (by assumption) ?restb7b2x3
                    case hyb7b2x3 =>
                      intro w hSw
                      (try dsimp only at hSw)
                      go_simp
                      (try with_reducible rfl)
                    change wpAnyH _ _ _ _ _ _ _ (Act.put _ (some 249) _) _
                    try simp only [Act.put, List.setIfInBounds_toArray, List.set_cons_zero, List.set_cons_succ]
                    refine wpAnyH_take (i := 3) (v := undef) rfl (by decide +kernel) (by decide +kernel) (by decide +kernel) (fun _ _ _ h => h) (Or.inr ⟨by rfl, rfl⟩) (by assumption) ?_
                    change wpAnyH _ _ _ _ _ _ _ (Act.put _ (some 250) _) _
                    try simp only [Act.put, List.setIfInBounds_toArray, List.set_cons_zero, List.set_cons_succ]
                    refine wpAnyH_take (i := 4) (v := undef) rfl (by decide +kernel) (by decide +kernel) (by decide +kernel) (fun _ _ _ h => h) (Or.inr ⟨by rfl, rfl⟩) (by assumption) ?_
                    change wpAnyH _ _ _ _ _ _ _ (Act.put _ (some 251) _) _
                    try simp only [Act.put, List.setIfInBounds_toArray, List.set_cons_zero, List.set_cons_succ]
                    refine wpAnyH_take (i := 5) (v := undef) rfl (by decide +kernel) (by decide +kernel) (by decide +kernel) (fun _ _ _ h => h) (Or.inr ⟨by rfl, rfl⟩) (by assumption) ?_
                    change wpAnyH _ _ _ _ _ _ _ (Act.put _ (some 252) _) _
                    try simp only [Act.put, List.setIfInBounds_toArray, List.set_cons_zero, List.set_cons_succ]
                    refine wpAnyH_take (i := 6) (v := undef) rfl (by decide +kernel) (by decide +kernel) (by decide +kernel) (fun _ _ _ h => h) (Or.inr ⟨by rfl, rfl⟩) (by assumption) ?_
                    change wpAnyH _ _ _ _ _ _ _ (Act.put _ (some 253) _) _
                    try simp only [Act.put, List.setIfInBounds_toArray, List.set_cons_zero, List.set_cons_succ]
                    refine wpAnyH_take (i := 7) (v := undef) rfl (by decide +kernel) (by decide +kernel) (by decide +kernel) (fun _ _ _ h => h) (Or.inr ⟨by rfl, rfl⟩) (by assumption) ?_
                    change wpAnyH _ _ _ _ _ _ _ (Act.put _ (some 254) _) _
                    try simp only [Act.put, List.setIfInBounds_toArray, List.set_cons_zero, List.set_cons_succ]
                    refine wpAnyH_take (i := 8) (v := undef) rfl (by decide +kernel) (by decide +kernel) (by decide +kernel) (fun _ _ _ h => h) (Or.inr ⟨by rfl, rfl⟩) (by assumption) ?_
                    change wpAnyH _ _ _ _ _ _ _ (Act.put _ (some 255) _) _
                    try simp only [Act.put, List.setIfInBounds_toArray, List.set_cons_zero, List.set_cons_succ]
                    refine wpAnyH_take (i := 9) (v := undef) rfl (by decide +kernel) (by decide +kernel) (by decide +kernel) (fun _ _ _ h => h) (Or.inr ⟨by rfl, rfl⟩) (by assumption) ?_
                    change wpAnyH _ _ _ _ _ _ _ (Act.put _ (some 256) _) _
                    try simp only [Act.put, List.setIfInBounds_toArray, List.set_cons_zero, List.set_cons_succ]
                    refine wpAnyH_take (i := 10) (v := undef) rfl (by decide +kernel) (by decide +kernel) (by decide +kernel) (fun _ _ _ h => h) (Or.inr ⟨by rfl, rfl⟩) (by assumption) ?_
                    change wpAnyH _ _ _ _ _ _ _ (Act.put _ (some 257) _) _
                    try simp only [Act.put, List.setIfInBounds_toArray, List.set_cons_zero, List.set_cons_succ]
                    refine wpAnyH_take (i := 11) (v := undef) rfl (by decide +kernel) (by decide +kernel) (by decide +kernel) (fun _ _ _ h => h) (Or.inr ⟨by rfl, rfl⟩) (by assumption) ?_
                    change wpAnyH _ _ _ _ _ _ _ (Act.put _ (some 258) _) _
                    try simp only [Act.put, List.setIfInBounds_toArray, List.set_cons_zero, List.set_cons_succ]
                    refine wpAnyH_take (i := 12) (v := undef) rfl (by decide +kernel) (by decide +kernel) (by decide +kernel) (fun _ _ _ h => h) (Or.inr ⟨by rfl, rfl⟩) (by assumption) ?_
                    change wpAnyH _ _ _ _ _ _ _ (Act.put _ (some 259) _) _
                    try simp only [Act.put, List.setIfInBounds_toArray, List.set_cons_zero, List.set_cons_succ]
                    refine wpAnyH_take (i := 13) (v := undef) rfl (by decide +kernel) (by decide +kernel) (by decide +kernel) (fun _ _ _ h => h) (Or.inr ⟨by rfl, rfl⟩) (by assumption) ?_
                    change wpAnyH _ _ _ _ _ _ _ (Act.put _ (some 260) _) _
                    try simp only [Act.put, List.setIfInBounds_toArray, List.set_cons_zero, List.set_cons_succ]
                    refine wpAnyH_take (i := 14) (v := undef) rfl (by decide +kernel) (by decide +kernel) (by decide +kernel) (fun _ _ _ h => h) (Or.inr ⟨by rfl, rfl⟩) (by assumption) ?_
                    change wpAnyH _ _ _ _ _ _ _ (Act.put _ (some 261) _) _
                    try simp only [Act.put, List.setIfInBounds_toArray, List.set_cons_zero, List.set_cons_succ]
                    refine wpAnyH_take (i := 15) (v := undef) rfl (by decide +kernel) (by decide +kernel) (by decide +kernel) (fun _ _ _ h => h) (Or.inr ⟨by rfl, rfl⟩) (by assumption) ?_
                    change wpAnyH _ _ _ _ _ _ _ (Act.put _ (some 262) _) _
                    try simp only [Act.put, List.setIfInBounds_toArray, List.set_cons_zero, List.set_cons_succ]
                    refine wpAnyH_take (i := 16) (v := undef) rfl (by decide +kernel) (by decide +kernel) (by decide +kernel) (fun _ _ _ h => h) (Or.inr ⟨by rfl, rfl⟩) (by assumption) ?_
                    change wpAnyH _ _ _ _ _ _ _ (Act.put _ (some 263) _) _
                    try simp only [Act.put, List.setIfInBounds_toArray, List.set_cons_zero, List.set_cons_succ]
                    refine wpAnyH_take (i := 17) (v := undef) rfl (by decide +kernel) (by decide +kernel) (by decide +kernel) (fun _ _ _ h => h) (Or.inr ⟨by rfl, rfl⟩) (by assumption) ?_
                    change wpAnyH _ _ _ _ _ _ _ (Act.put _ (some 264) _) _
                    try simp only [Act.put, List.setIfInBounds_toArray, List.set_cons_zero, List.set_cons_succ]
                    refine wpAnyH_take (i := 18) (v := undef) rfl (by decide +kernel) (by decide +kernel) (by decide +kernel) (fun _ _ _ h => h) (Or.inr ⟨by rfl, rfl⟩) (by assumption) ?_
                    change wpAnyH _ _ _ _ _ _ _ (Act.put _ (some 265) _) _
                    try simp only [Act.put, List.setIfInBounds_toArray, List.set_cons_zero, List.set_cons_succ]
                    refine wpAnyH_take (i := 19) (v := ?vb7b19x4) rfl (by decide +kernel) (by decide +kernel) (by decide +kernel) (fun _ _ _ h => h) (Or.inl ⟨by rfl, ?hyb7b19x4⟩) (by assumption) ?restb7b19x4
                    case hyb7b19x4 =>
                      intro w hSw
                      (try dsimp only at hSw)
                      go_simp
                      (try with_reducible rfl)
                    change wpAnyH _ _ _ _ _ _ _ (Act.put _ (some 266) _) _
                    try simp only [Act.put, List.setIfInBounds_toArray, List.set_cons_zero, List.set_cons_succ]
                    refine wpAnyH_take (i := 20) (v := ?vb7b20x5) rfl (by decide +kernel) (by decide +kernel) (by decide +kernel) (fun _ _ _ h => h) (Or.inl ⟨by rfl, ?hyb7b20x5⟩) (by assumption) ?restb7b20x5
                    case hyb7b20x5 =>
                      intro w hSw
                      (try dsimp only at hSw)
                      go_simp
                      (try with_reducible rfl)
                    change wpAnyH _ _ _ _ _ _ _ (Act.put _ (some 267) _) _
                    try simp only [Act.put, List.setIfInBounds_toArray, List.set_cons_zero, List.set_cons_succ]
                    refine wpAnyH_take (i := 21) (v := ?vb7b21x6) rfl (by decide +kernel) (by decide +kernel) (by decide +kernel) (fun _ _ _ h => h) (Or.inl ⟨by rfl, ?hyb7b21x6⟩) (by assumption) ?restb7b21x6
                    case hyb7b21x6 =>
                      intro w hSw
                      (try dsimp only at hSw)
                      go_simp
                      (try with_reducible rfl)
                    change wpAnyH _ _ _ _ _ _ _ (Act.put _ (some 268) _) _
                    try simp only [Act.put, List.setIfInBounds_toArray, List.set_cons_zero, List.set_cons_succ]
                    refine wpAnyH_take (i := 22) (v := ?vb7b22x7) rfl (by decide +kernel) (by decide +kernel) (by decide +kernel) (fun _ _ _ h => h) (Or.inl ⟨by rfl, ?hyb7b22x7⟩) (by assumption) ?restb7b22x7
                    case hyb7b22x7 =>
                      intro w hSw
                      (try dsimp only at hSw)
                      go_simp
                      (try with_reducible rfl)
                    change wpAnyH _ _ _ _ _ _ _ (Act.put _ (some 269) _) _
                    try simp only [Act.put, List.setIfInBounds_toArray, List.set_cons_zero, List.set_cons_succ]
                    refine wpAnyH_take (i := 23) (v := ?vb7b23x8) rfl (by decide +kernel) (by decide +kernel) (by decide +kernel) (fun _ _ _ h => h) (Or.inl ⟨by rfl, ?hyb7b23x8⟩) (by assumption) ?restb7b23x8
                    case hyb7b23x8 =>
                      intro w hSw
                      (try dsimp only at hSw)
                      go_simp
                      (try with_reducible rfl)
                    change wpAnyH _ _ _ _ _ _ _ (Act.put _ (some 270) _) _
                    try simp only [Act.put, List.setIfInBounds_toArray, List.set_cons_zero, List.set_cons_succ]
                    refine wpAnyH_take (i := 24) (v := ?vb7b24x9) rfl (by decide +kernel) (by decide +kernel) (by decide +kernel) (fun _ _ _ h => h) (Or.inl ⟨by rfl, ?hyb7b24x9⟩) (by assumption) ?restb7b24x9
                    case hyb7b24x9 =>
                      intro w hSw
                      (try dsimp only at hSw)
                      go_simp
                      (try with_reducible rfl)
                    change wpAnyH _ _ _ _ _ _ _ (Act.put _ (some 271) _) _
                    try simp only [Act.put, List.setIfInBounds_toArray, List.set_cons_zero, List.set_cons_succ]
                    refine wpAnyH_take (i := 25) (v := ?vb7b25x10) rfl (by decide +kernel) (by decide +kernel) (by decide +kernel) (fun _ _ _ h => h) (Or.inl ⟨by rfl, ?hyb7b25x10⟩) (by assumption) ?restb7b25x10
                    case hyb7b25x10 =>
                      intro w hSw
                      (try dsimp only at hSw)
                      go_simp
                      (try with_reducible rfl)
                    change wpAnyH _ _ _ _ _ _ _ (Act.put _ (some 272) _) _
                    try simp only [Act.put, List.setIfInBounds_toArray, List.set_cons_zero, List.set_cons_succ]
                    refine wpAnyH_take (i := 26) (v := ?vb7b26x11) rfl (by decide +kernel) (by decide +kernel) (by decide +kernel) (fun _ _ _ h => h) (Or.inl ⟨by rfl, ?hyb7b26x11⟩) (by assumption) ?restb7b26x11
                    case hyb7b26x11 =>
                      intro w hSw
                      (try dsimp only at hSw)
                      go_simp
                      (try with_reducible rfl)
                    change wpAnyH _ _ _ _ _ _ _ (Act.put _ (some 273) _) _
                    try simp only [Act.put, List.setIfInBounds_toArray, List.set_cons_zero, List.set_cons_succ]
                    refine wpAnyH_take (i := 27) (v := ?vb7b27x12) rfl (by decide +kernel) (by decide +kernel) (by decide +kernel) (fun _ _ _ h => h) (Or.inl ⟨by rfl, ?hyb7b27x12⟩) (by assumption) ?restb7b27x12
                    case hyb7b27x12 =>
                      intro w hSw
                      (try dsimp only at hSw)
                      go_simp
                      (try with_reducible rfl)
                    change wpAnyH _ _ _ _ _ _ _ (Act.put _ (some 274) _) _
                    try simp only [Act.put, List.setIfInBounds_toArray, List.set_cons_zero, List.set_cons_succ]
                    refine wpAnyH_take (i := 28) (v := ?vb7b28x13) rfl (by decide +kernel) (by decide +kernel) (by decide +kernel) (fun _ _ _ h => h) (Or.inl ⟨by rfl, ?hyb7b28x13⟩) (by assumption) ?restb7b28x13
                    case hyb7b28x13 =>
                      intro w hSw
                      (try dsimp only at hSw)
                      go_simp
                      (try with_reducible rfl)
                    change wpAnyH _ _ _ _ _ _ _ (Act.put _ (some 275) _) _
                    try simp only [Act.put, List.setIfInBounds_toArray, List.set_cons_zero, List.set_cons_succ]
                    refine wpAnyH_take (i := 29) (v := ?vb7b29x14) rfl (by decide +kernel) (by decide +kernel) (by decide +kernel) (fun _ _ _ h => h) (Or.inl ⟨by rfl, ?hyb7b29x14⟩) (by assumption) ?restb7b29x14
                    case hyb7b29x14 =>
                      intro w hSw
                      (try dsimp only at hSw)
                      go_simp
                      (try with_reducible rfl)
                    change wpAnyH _ _ _ _ _ _ _ (Act.put _ (some 276) _) _
                    try simp only [Act.put, List.setIfInBounds_toArray, List.set_cons_zero, List.set_cons_succ]
                    refine wpAnyH_take (i := 30) (v := ?vb7b30x15) rfl (by decide +kernel) (by decide +kernel) (by decide +kernel) (fun _ _ _ h => h) (Or.inl ⟨by rfl, ?hyb7b30x15⟩) (by assumption) ?restb7b30x15
                    case hyb7b30x15 =>
                      intro w hSw
                      (try dsimp only at hSw)
                      go_simp
                      (try with_reducible rfl)
                    change wpAnyH _ _ _ _ _ _ _ (Act.put _ (some 277) _) _
                    try simp only [Act.put, List.setIfInBounds_toArray, List.set_cons_zero, List.set_cons_succ]
                    refine wpAnyH_take (i := 31) (v := ?vb7b31x16) rfl (by decide +kernel) (by decide +kernel) (by decide +kernel) (fun _ _ _ h => h) (Or.inl ⟨by rfl, ?hyb7b31x16⟩) (by assumption) ?restb7b31x16
                    case hyb7b31x16 =>
                      intro w hSw
                      (try dsimp only at hSw)
                      go_simp
                      (try with_reducible rfl)
                    change wpAnyH _ _ _ _ _ _ _ (Act.put _ (some 278) _) _
                    try simp only [Act.put, List.setIfInBounds_toArray, List.set_cons_zero, List.set_cons_succ]
                    refine wpAnyH_take (i := 32) (v := ?vb7b32x17) rfl (by decide +kernel) (by decide +kernel) (by decide +kernel) (fun _ _ _ h => h) (Or.inl ⟨by rfl, ?hyb7b32x17⟩) (by assumption) ?restb7b32x17
                    case hyb7b32x17 =>
                      intro w hSw
                      (try dsimp only at hSw)
                      go_simp
                      (try with_reducible rfl)
                    change wpAnyH _ _ _ _ _ _ _ (Act.put _ (some 279) _) _
                    try simp only [Act.put, List.setIfInBounds_toArray, List.set_cons_zero, List.set_cons_succ]
                    refine wpAnyH_take (i := 33) (v := ?vb7b33x18) rfl (by decide +kernel) (by decide +kernel) (by decide +kernel) (fun _ _ _ h => h) (Or.inl ⟨by rfl, ?hyb7b33x18⟩) (by assumption) ?restb7b33x18
                    case hyb7b33x18 =>
                      intro w hSw
                      (try dsimp only at hSw)
                      go_simp
                      (try with_reducible rfl)
                    change wpAnyH _ _ _ _ _ _ _ (Act.put _ (some 280) _) _
                    try simp only [Act.put, List.setIfInBounds_toArray, List.set_cons_zero, List.set_cons_succ]
                    refine wpAnyH_take (i := 34) (v := ?vb7b34x19) rfl (by decide +kernel) (by decide +kernel) (by decide +kernel) (fun _ _ _ h => h) (Or.inl ⟨by rfl, ?hyb7b34x19⟩) (by assumption) ?restb7b34x19
                    case hyb7b34x19 =>
                      intro w hSw
                      (try dsimp only at hSw)
                      have y0 := (hSw.cell (p := ⟨cx + 1, 0, none⟩) lt8).trans y0
                      have y1 := (hSw.cell (p := ⟨cx + 1, 1, none⟩) lt8).trans y1
                      have y2 := (hSw.cell (p := ⟨cx + 1, 2, none⟩) lt8).trans y2
                      have c5 := (hSw.cell (p := ⟨b, off + j * 8 + 5, none⟩) hbj).trans c5
                      have c6 := (hSw.cell (p := ⟨b, off + j * 8 + 6, none⟩) hbj).trans c6
                      have c7 := (hSw.cell (p := ⟨b, off + j * 8 + 7, none⟩) hbj).trans c7
                      go_simp
                      (try with_reducible rfl)
                    change wpAnyH _ _ _ _ _ _ _ (Act.put _ (some 281) _) _
                    try simp only [Act.put, List.setIfInBounds_toArray, List.set_cons_zero, List.set_cons_succ]
                    refine wpAnyH_take (i := 35) (v := ?vb7b35x20) rfl (by decide +kernel) (by decide +kernel) (by decide +kernel) (fun _ _ _ h => h) (Or.inl ⟨by rfl, ?hyb7b35x20⟩) (by assumption) ?restb7b35x20
                    case hyb7b35x20 =>
                      intro w hSw
                      (try dsimp only at hSw)
                      have y0 := (hSw.cell (p := ⟨cx + 1, 0, none⟩) lt8).trans y0
                      have y1 := (hSw.cell (p := ⟨cx + 1, 1, none⟩) lt8).trans y1
                      have y2 := (hSw.cell (p := ⟨cx + 1, 2, none⟩) lt8).trans y2
                      have c5 := (hSw.cell (p := ⟨b, off + j * 8 + 5, none⟩) hbj).trans c5
                      have c6 := (hSw.cell (p := ⟨b, off + j * 8 + 6, none⟩) hbj).trans c6
                      have c7 := (hSw.cell (p := ⟨b, off + j * 8 + 7, none⟩) hbj).trans c7
                      go_simp
                      (try with_reducible rfl)
                    change wpAnyH _ _ _ _ _ _ _ (Act.put _ (some 282) _) _
                    try simp only [Act.put, List.setIfInBounds_toArray, List.set_cons_zero, List.set_cons_succ]
                    refine wpAnyH_ready (rs := [36]) (by decide +kernel) (by simp) ?_
                    refine AllReadyH.cons rfl (fun K hK => ?_) AllReadyH.nil
                    go_simp
                    go_at_call 20
                    refine Calls.mono (C31.out _ hHeld) ?_
                    rintro e w1 ⟨rfl, hb1⟩
                    (try go_wp2_with fail)
                    refine hK.out _ _ (hHeld.trans (hb1.mono hHeld.size)) (fun hHeld => ?_)
                    clear hK K
                    try simp only [Act.put, List.setIfInBounds_toArray, List.set_cons_zero, List.set_cons_succ]
                    refine wpAnyH_ready (rs := [37]) (by decide +kernel) (by simp) ?_
                    refine AllReadyH.cons rfl (fun K hK => ?_) AllReadyH.nil
                    go_simp
                    go_at_call 19
                    refine Calls.mono (C32.out _ hHeld) ?_
                    rintro e w1 ⟨ar, cr, rfl, hhr, hb1⟩
                    have HR := Lib.hid hhr
                    clear hhr
                    (try go_wp2_with fail)
                    refine hK.out _ _ (hHeld.trans (hb1.mono hHeld.size)) (fun hHeld => ?_)
                    clear hK K
                    try simp only [Act.put, List.setIfInBounds_toArray, List.set_cons_zero, List.set_cons_succ]
                    refine wpAnyH_ready (rs := [38]) (by decide +kernel) (by simp) ?_
                    refine AllReadyH.cons rfl (fun K hK => ?_) AllReadyH.nil
                    go_simp
                    go_at_call 18
                    refine Calls.mono (C33.out _ ar cr hHeld HR.out) ?_
                    rintro e w1 ⟨rfl, hb1⟩
                    (try go_wp2_with fail)
                    refine hK.out _ _ (hHeld.trans (hb1.mono hHeld.size)) (fun hHeld => ?_)
                    clear hK K
                    try simp only [Act.put, List.setIfInBounds_toArray, List.set_cons_zero, List.set_cons_succ]
                    refine wpAnyH_take (i := 39) (v := ?vb7b39x21) rfl (by decide +kernel) (by decide +kernel) (by decide +kernel) (fun _ _ _ h => h) (Or.inl ⟨by rfl, ?hyb7b39x21⟩) (by assumption) ?restb7b39x21
                    case hyb7b39x21 =>
                      intro w hSw
                      (try dsimp only at hSw)
                      go_simp
                      (try with_reducible rfl)
                    change wpAnyH _ _ _ _ _ _ _ (Act.put _ (some 286) _) _
                    try simp only [Act.put, List.setIfInBounds_toArray, List.set_cons_zero, List.set_cons_succ]
                    refine wpAnyH_take (i := 40) (v := ?vb7b40x22) rfl (by decide +kernel) (by decide +kernel) (by decide +kernel) (fun _ _ _ h => h) (Or.inl ⟨by rfl, ?hyb7b40x22⟩) (by assumption) ?restb7b40x22
                    case hyb7b40x22 =>
                      intro w hSw
                      (try dsimp only at hSw)
                      go_simp
                      (try with_reducible rfl)
                    change wpAnyH _ _ _ _ _ _ _ (Act.put _ (some 287) _) _
                    try simp only [Act.put, List.setIfInBounds_toArray, List.set_cons_zero, List.set_cons_succ]
                    refine wpAnyH_take (i := 41) (v := ?vb7b41x23) rfl (by decide +kernel) (by decide +kernel) (by decide +kernel) (fun _ _ _ h => h) (Or.inl ⟨by rfl, ?hyb7b41x23⟩) (by assumption) ?restb7b41x23
                    case hyb7b41x23 =>
                      intro w hSw
                      (try dsimp only at hSw)
                      go_simp
                      (try with_reducible rfl)
                    change wpAnyH _ _ _ _ _ _ _ (Act.put _ (some 288) _) _
                    try simp only [Act.put, List.setIfInBounds_toArray, List.set_cons_zero, List.set_cons_succ]
                    refine wpAnyH_take (i := 42) (v := ?vb7b42x24) rfl (by decide +kernel) (by decide +kernel) (by decide +kernel) (fun _ _ _ h => h) (Or.inl ⟨by rfl, ?hyb7b42x24⟩) (by assumption) ?restb7b42x24
                    case hyb7b42x24 =>
                      intro w hSw
                      (try dsimp only at hSw)
                      go_simp
                      (try with_reducible rfl)
                    change wpAnyH _ _ _ _ _ _ _ (Act.put _ (some 10) _) _
                    try simp only [Act.put, List.setIfInBounds_toArray, List.set_cons_zero, List.set_cons_succ]
                    refine wpAnyH_done (by decide +kernel) ?_ _
                    go_wp2_with fail
                    go_ret
                    exact ⟨rfl, HBW.out.trans ((HB14.out.trans (hHeld.mono HB14.out.size)).mono HBW.out.size)⟩
                  · as_aux_lemma =>
                    have hn2 : np = 0 := by rw [← HNP.out, ← HPE.out, chL_bad (by rw [HTE.out]; exact hte)]; rfl
                    rw [hn2]
                    clear hn2
                    have hhte : (te != 0) = true := by simpa using hte
                    have hn3 : nq = 0 := by rw [← HNQ.out, ← HQE.out, chL_bad (by rw [HGE.out]; exact hge)]; rfl
                    rw [hn3]
                    clear hn3
                    have hhge : (ge != 0) = true := by simpa using hge
                    clear HTE HGE HTT HGG HPE HQE HTE2 HGE2
                    clear hte
                    clear hge
                    go_upto_region 38 with fail
                    go_quiet (fail)
                    (try go_wp2_with fail)
                    go_ret
                    exact ⟨rfl, HBW.out.trans ((HB14.out.trans ((Drawn.drewN _ _).below _)).mono HBW.out.size)⟩
    · have h1 := ch_bad (F := takeF A) (i := i) HEE.out hE
      rw [HTE.out, HPE.out] at h1
      have h2 := ch_bad (F := giveF A) (i := i) HEE.out hE
      rw [HGE.out, HQE.out] at h2
      have h3 : fe = E := by rw [← HFE.out]; unfold fitE; rw [if_pos (by rw [HEE.out]; exact hE), HEE.out]
      have h4 : nf = 0 := by rw [← HNF.out, ← HFL.out]; unfold fitR; rw [if_neg (by rw [HFE.out, h3]; exact hE)]; rfl
      have h5 : be = E := by rw [← HBE.out]; unfold bestE; rw [if_pos (by rw [HFE.out, h3]; exact hE), HFE.out, h3]
      have h6 : bv = 0 := by rw [← HBV.out]; unfold bestV; rw [HFL.out, List.eq_nil_of_length_eq_zero (HNF.out.trans h4)]; rfl
      have h7 : np = 0 := by rw [← HNP.out, h1.2]; rfl
      have h8 : nq = 0 := by rw [← HNQ.out, h2.2]; rfl
      have h9 := h1.1
      have h10 := h2.1
      clear h1 h2
      subst h9 h10 h3 h4 h5 h6 h7 h8
      have hE2 : (be != 0) = true := by simpa using hE
      clear hE
      go_wp2_with fail
      go_ret
      exact ⟨rfl, HBW.out.trans (HB11.out.mono HBW.out.size)⟩
end Go.Proofs.Ytnfmopmcckgfdaa
