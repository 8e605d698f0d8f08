/- Contract: the document's Pushed at two asks joined: it pushes into each, into a row of its own. -/
import Derived.Test.YtkelkpfjkjcmgaaDoorAskNorm
import Derived.RegionTactic
import Derived.Deep.CutBlock
import Derived.Deep.DeepCutAuto
namespace Go.Proofs.YtkelkpfjkjcmgaaDoor
open Go.ChangeShapes Go.WideShapes Go.ChangeAt Go.RowKit
set_option linter.unusedVariables false
open Tp
/-- cells that read as asks, one behind the other -/
def Elems (p : Nat → Prop) (w : World) : List Ask → List Value → Prop
  | [], cs => cs = []
  | x :: l, cs => ∃ (k0 : Int) (k1 k2 : ByteArray) (k3 : Int) (ad : Option Addr) (len cap : Nat) (rest : List Value), cs = .int .i64 k0 :: .string k1 :: .string k2 :: .int .i64 k3 :: .slice ad len cap :: rest ∧ AskVP p w x (.agg #[.int .i64 k0, .string k1, .string k2, .int .i64 k3, .slice ad len cap]) ∧ Elems p w l rest
theorem Elems.snoc {p : Nat → Prop} {w : World} {x : Ask} {k0 : Int} {k1 k2 : ByteArray} {k3 : Int} {ad : Option Addr} {len cap : Nat} (hx : AskVP p w x (.agg #[.int .i64 k0, .string k1, .string k2, .int .i64 k3, .slice ad len cap])) : ∀ {L : List Ask} {cs : List Value}, Elems p w L cs → Elems p w (L ++ [x]) (cs ++ [.int .i64 k0, .string k1, .string k2, .int .i64 k3, .slice ad len cap])
  | [], cs, h => by
    rw [Elems] at h
    subst h
    exact ⟨_, _, _, _, _, _, _, [], rfl, hx, rfl⟩
  | y :: L, cs, h => by
    rw [Elems] at h
    obtain ⟨b0, b1, b2, b3, bd, bl, bc, rest, rfl, h1, h2⟩ := h
    exact ⟨b0, b1, b2, b3, bd, bl, bc, _, rfl, h1, Elems.snoc hx h2⟩
theorem Elems.stays {p q : Nat → Prop} {w w' : World} (hpq : ∀ b, p b → q b) (hs : w.heap.size ≤ w'.heap.size) (he : ∀ b, p b → b < w.heap.size → w'.heap[b]? = w.heap[b]?) : ∀ {L : List Ask} {cs : List Value}, Elems p w L cs → Elems q w' L cs
  | [], cs, h => by rw [Elems] at h ⊢; exact h
  | y :: L, cs, h => by
    rw [Elems] at h
    obtain ⟨b0, b1, b2, b3, bd, bl, bc, rest, rfl, h1, h2⟩ := h
    exact ⟨b0, b1, b2, b3, bd, bl, bc, _, rfl, AskVP.stays hpq hs he _ _ h1, Elems.stays hpq hs he h2⟩
theorem Elems.asks {p : Nat → Prop} {w : World} {b : Nat} : ∀ {L : List Ask} {cs : List Value} {off : Nat}, Elems p w L cs → (∀ i v, cs[i]? = some v → w.cell? ⟨b, off + i, none⟩ = some v) → AsksVP p w L b off
  | [], cs, off, h, _ => by rw [AsksVP]; trivial
  | y :: L, cs, off, h, hc => by
    rw [Elems] at h
    obtain ⟨b0, b1, b2, b3, bd, bl, bc, rest, rfl, h1, h2⟩ := h
    rw [AsksVP]
    refine ⟨⟨_, ⟨_, _, _, _, _, rfl, hc 0 _ rfl, hc 1 _ rfl, hc 2 _ rfl, hc 3 _ rfl, hc 4 _ rfl⟩, h1⟩, Elems.asks h2 (fun i v hi => ?_)⟩
    have := hc (i + 5) v hi
    rwa [show off + (i + 5) = off + 5 + i from by omega] at this
mutual
theorem AskVP.low {p : Nat → Prop} {w : World} : ∀ (x : Ask) (v : Value), AskVP p w x v → AskVP (fun b => p b ∧ b < w.heap.size) w x v
  | .mk k a b n l, v, h => by
    rw [AskVP] at h ⊢
    obtain ⟨ad, len, cap, e, h1, h2, h3, h5, h6, h4⟩ := h
    refine ⟨ad, len, cap, e, h1, h2, h3, h5, h6, fun hp => ?_⟩
    obtain ⟨bl, off, e2, hlt, hpb, hh⟩ := h4 hp
    exact ⟨bl, off, e2, hlt, ⟨hpb, hlt⟩, AsksVP.low l bl off hh⟩
theorem AsksVP.low {p : Nat → Prop} {w : World} : ∀ (l : List Ask) (b off : Nat), AsksVP p w l b off → AsksVP (fun b => p b ∧ b < w.heap.size) w l b off
  | [], _, _, _ => by rw [AsksVP]; trivial
  | x :: l, b, off, h => by
    rw [AsksVP] at h ⊢
    obtain ⟨⟨v, h1, h2⟩, h3⟩ := h
    exact ⟨⟨v, h1, AskVP.low x v h2⟩, AsksVP.low l b (off + 5) h3⟩
end
theorem infoAsk : (Tryd.prog.info? 24).map (fun i => (i.zero, i.size, i.bytes)) = some (some (.agg #[.int .i64 0, .string ⟨#[]⟩, .string ⟨#[]⟩, .int .i64 0, .slice none 0 0]), 5, 72) := by kernel_rfl
/-- the row of what has been pushed -/
structure PushI (A S : Nat) (W0 wr : World) (L : List Ask) (xv : Value) : Prop where
  cells : ∃ cs, wr.ownsRow S 24 5 xv L.length cs ∧ Elems (fun b => (b < A ∨ S ≤ b) ∧ b < wr.heap.size ∧ xv.ownBlock ≠ some b) wr L cs
  below : Below S W0 wr
theorem PushI.start {A S : Nat} {W0 : World} : PushI A S W0 W0 [] (.slice none 0 0) := ⟨⟨[], World.ownsRow_nil _ _ _ _, rfl⟩, Below.refl _ _⟩
theorem PushI.step {A S : Nat} {W0 wr wx : World} {L : List Ask} {xv : Value} (h : PushI A S W0 wr L xv) (hb : Below wr.heap.size wr wx) (hS : S ≤ wr.heap.size) : PushI A S W0 wx L xv := by
  obtain ⟨cs, h1, h2⟩ := h.cells
  exact ⟨⟨cs, ownsRow_below h1 hb, Elems.stays (fun b h => ⟨h.1, Nat.lt_of_lt_of_le h.2.1 hb.size, h.2.2⟩) hb.size (fun b _ hlt => hb.block b hlt) h2⟩, h.below.trans (hb.mono hS)⟩
theorem PushI.push {A S X g cap : Nat} {W0 w1 w5 : World} {L : List Ask} {xv : Value} {y : Ask} {k0 : Int} {k1 k2 : ByteArray} {k3 : Int} {ad : Option Addr} {len c' : Nat} {cs : List Value}
    (hown : w1.ownsRow S 24 5 xv L.length cs) (hel : Elems (fun b => (b < A ∨ S ≤ b) ∧ b < w1.heap.size ∧ xv.ownBlock ≠ some b) w1 L cs) (hbel : Below S W0 w1) (hy : AskVP (fun b => b < A ∨ X ≤ b) w1 y (.agg #[.int .i64 k0, .string k1, .string k2, .int .i64 k3, .slice ad len c'])) (hX : ∀ k, xv.ownBlock = some k → k < X) (hSX : S ≤ X) (hAS : A ≤ S) (hS : S ≤ w1.heap.size)
    (ho : w5.ownsRow S 24 5 (.slice (some ⟨g, 0, none⟩) (L.length + 1) cap) (L.length + 1) (cs ++ [.int .i64 k0, .string k1, .string k2, .int .i64 k3, .slice ad len c'])) (hg : w1.grownBy w5 xv.ownBlock) (hn : xv.ownBlock = some g ∨ w1.heap.size ≤ g) : PushI A S W0 w5 (L ++ [y]) (.slice (some ⟨g, 0, none⟩) (L.length + 1) cap) := by
  have hge := ownBlock_ge hown (Nat.le_refl _)
  refine ⟨⟨_, by rw [List.length_append]; exact ho, Elems.snoc ?_ (Elems.stays (fun b h => ⟨h.1, Nat.lt_of_lt_of_le h.2.1 hg.size, ?_⟩) hg.size (fun b h hlt => hg.block b hlt (fun e => h.2.2 e.symm)) hel)⟩, hbel.grown hg hS hge⟩
  · refine AskVP.stays (fun b h => ⟨?_, Nat.lt_of_lt_of_le h.2 hg.size, ?_⟩) hg.size (fun b h hlt => hg.block b hlt (fun e => ?_)) _ _ (AskVP.low _ _ hy)
    · have h1 := hX b e.symm
      have h2 := hge b e.symm
      rcases h.1 with h | h <;> omega
    · rcases h.1 with h | h
      · exact .inl h
      · exact .inr (by omega)
    · intro e
      obtain rfl : g = b := by simpa [Value.ownBlock] using e
      rcases hn with hn | hn
      · have h1 := hX g hn
        have h2 := hge g hn
        rcases h.1 with h | h <;> omega
      · have := h.2; omega
  · intro e
    obtain rfl : g = b := by simpa [Value.ownBlock] using e
    rcases hn with hn | hn
    · exact h.2.2 hn
    · have := h.2.1; omega
theorem nrms_take {q : Bool} {l : List Ask} {i : Nat} {x : Ask} (h : l[i]? = some x) : Ask.nrms q (l.take (i + 1)) = Ask.nrms q (l.take i) ++ [x.nrm q] := by
  induction l generalizing i with
  | nil => simp at h
  | cons y l ih =>
    cases i with
    | zero => simp at h; subst h; simp [Ask.nrms]
    | succ i =>
      have := ih (i := i) (by simpa using h)
      rw [List.take_succ_cons, List.take_succ_cons, Ask.nrms, Ask.nrms, this]; rfl
theorem nrms_len (q : Bool) : ∀ l : List Ask, (Ask.nrms q l).length = l.length
  | [] => rfl
  | x :: l => by rw [Ask.nrms, List.length_cons, List.length_cons, nrms_len q l]
set_option maxRecDepth 20000 in
set_option maxHeartbeats 64000000 in
theorem pushed_two (N : Nat) (ih : ∀ (x : Ask) (v : Value) (w : World) (A : Nat), x.size ≤ N → x.err = 0 → A ≤ w.heap.size → AskVP (fun b => b < A) w x v → Calls Tryd.prog 10 #[v] w (NrmQ A w (x.nrm false))) (k : Int) (ka va : Bs) (nu : Int) (l : List Ask) (h56 : k = 5 ∨ k = 6) (v : Value) (w : World) (A : Nat) : (Ask.mk k ka va nu l).size ≤ N + 1 → (Ask.mk k ka va nu l).err = 0 → A ≤ w.heap.size → AskVP (fun b => b < A) w (Ask.mk k ka va nu l) v → Calls Tryd.prog 10 #[v] w (NrmQ A w ((Ask.mk k ka va nu l).nrm false)) := by
  intro hN herr hA hx
  have HIH := Lib.hid ih
  have hx2 := hx
  rw [AskVP] at hx
  obtain ⟨ad, n, cap, rfl, hn, hcap, hmax, u1, u2, hrow⟩ := hx
  obtain ⟨hb0, hes⟩ := Ask.err_zero herr
  obtain ⟨hk1, hk6, hlen, hnu, _, _, hka, hva, _⟩ := Ask.bad_zero hb0
  rw [Ask.size] at hN
  rw [← hn] at hlen
  have HLEN := Lib.hid hlen
  have HN := Lib.hid hn
  have HR := Lib.hid hrow
  have HES := Lib.hid hes
  obtain ⟨V, hV⟩ : ∃ V, (Ask.mk k ka va nu l).nrm false = V := ⟨_, rfl⟩
  have HV := Lib.hid hV
  rw [hV]
  have HX2 := Lib.hid hx2
  have HF : Hid (4 ≤ k → ka = [] ∧ va = [] ∧ nu = 0) := Lib.hid (fun h => ⟨hka h, hva (by omega), hnu (by omega)⟩)
  obtain ⟨a1, ha1⟩ : ∃ a, bts ka = a := ⟨_, rfl⟩
  obtain ⟨a2, ha2⟩ : ∃ a, bts va = a := ⟨_, rfl⟩
  have HA1 := Lib.hid ha1
  have HA2 := Lib.hid ha2
  rw [ha1, ha2] at HX2 ⊢
  have HCAP := Lib.hid hcap
  have HMAX := Lib.hid hmax
  clear ih herr hx2 hn hrow hb0 hes hV ha1 ha2 u1 u2 hlen hnu hka hva hcap hmax
  obtain ⟨W0, hW0⟩ : ∃ W, W = (w.alloc (.cells #[.int .i64 k, .string a1, .string a2, .int .i64 nu, .slice ad n cap] 24)).alloc (.cells #[.int .i64 0, .string ⟨#[]⟩, .string ⟨#[]⟩, .int .i64 0, .slice none 0 0] 24) := ⟨_, rfl⟩
  have hb9 : Below w.heap.size w W0 := by rw [hW0]; exact ((Below.refl _ _).alloc (Nat.le_refl _) _).alloc (by simp) _
  have HB9 := Lib.hid hb9
  have hsz : W0.heap.size = w.heap.size + 2 := by rw [hW0]; simp
  have d0 : W0.cell? ⟨w.heap.size, 0, none⟩ = some (.int .i64 k) := by rw [hW0]; simp
  have d1 : W0.cell? ⟨w.heap.size, 1, none⟩ = some (.string a1) := by rw [hW0]; simp
  have d2 : W0.cell? ⟨w.heap.size, 2, none⟩ = some (.string a2) := by rw [hW0]; simp
  have d3 : W0.cell? ⟨w.heap.size, 3, none⟩ = some (.int .i64 nu) := by rw [hW0]; simp
  have d4 : W0.cell? ⟨w.heap.size, 4, none⟩ = some (.slice ad n cap) := by rw [hW0]; simp
  have r0 : W0.cell? ⟨w.heap.size + 1, 0, none⟩ = some (.int .i64 0) := by rw [hW0]; simp
  have r1 : W0.cell? ⟨w.heap.size + 1, 1, none⟩ = some (.string ⟨#[]⟩) := by rw [hW0]; simp
  have r2 : W0.cell? ⟨w.heap.size + 1, 2, none⟩ = some (.string ⟨#[]⟩) := by rw [hW0]; simp
  have r3 : W0.cell? ⟨w.heap.size + 1, 3, none⟩ = some (.int .i64 0) := by rw [hW0]; simp
  have r4 : W0.cell? ⟨w.heap.size + 1, 4, none⟩ = some (.slice none 0 0) := by rw [hW0]; simp
  have p0 : ∀ i, W0.frozen? ⟨w.heap.size + 1, i, none⟩ = false := fun i => by rw [hW0]; exact frozen_top _ _ _ _ _ (by simp)
  have pd4 : W0.frozen? ⟨w.heap.size, 4, none⟩ = false := by
    rw [hW0]
    exact (((Below.refl _ (w.alloc _)).alloc (Nat.le_refl _) _).frozen (p := ⟨w.heap.size, 4, none⟩) (by simp)).trans (frozen_top _ _ _ _ _ rfl)
  obtain ⟨cx, hcx⟩ : ∃ c, c = w.heap.size := ⟨_, rfl⟩
  rw [← hcx] at p0 pd4
  rw [← hcx] at d0 d1 d2 d3 d4 r0 r1 r2 r3 r4 hsz
  have HXA := Lib.hid (AskVP.stays (fun _ h => h) hb9.size (fun b h _ => hb9.block b (Nat.lt_of_lt_of_le h hA)) _ _ HX2.out)
  have hcx0 : cx < W0.heap.size := by omega
  have hcx1 : cx + 1 < W0.heap.size := by omega
  have q0 := p0 0
  have q1 := p0 1
  have q2 := p0 2
  have q3 := p0 3
  have q4 := p0 4
  have e4 : (k == 4) = false := by simp; omega
  obtain rfl : n = 2 := by rw [HLEN.out]; unfold Ask.inner; rw [if_pos h56]
  obtain ⟨rfl, rfl, rfl⟩ := HF.out (by omega)
  have HVV : Hid (V = Ask.mk k [] [] 0 (Ask.nrms false l)) := Lib.hid (by rw [← HV.out, Ask.nrm, if_neg (by omega), if_pos h56]; rfl)
  have HNN := Lib.hid hN
  have HCX := Lib.hid hcx
  have HSZ := Lib.hid hsz
  have HHA := Lib.hid hA
  have HCX0 := Lib.hid hcx0
  clear h56 hk1 hk6 hN hb9
  go_enter Tryd.func10, Tryd.ntmps10
  go_upto_region 1 with fail
  rw [← hW0, ← hcx]
  clear hW0 hcx hsz hA
  go_wp2_with fail
  go_loopg [6, 49] 2 (fun g x y wr => ∃ (j : Nat) (xa : Option Addr) (xm xc : Nat), j + g = 2 ∧ y = .int .i64 (j : Int) ∧ x = .slice xa xm xc ∧ xm = j ∧ Hid (PushI A W0.heap.size W0 wr (Ask.nrms false (l.take j)) (.slice xa xm xc)))
  case atStart => exact ⟨0, none, 0, 0, by omega, rfl, rfl, rfl, Lib.hid PushI.start⟩
  case round =>
    obtain ⟨j, xa, xm, xc, hj, rfl, rfl, rfl, HP⟩ := hrel
    by_cases hjn : xm < 2
    · obtain ⟨y, hy⟩ : ∃ y, l[xm]? = some y := ⟨_, List.getElem?_eq_getElem (by rw [← HN.out]; exact hjn)⟩
      obtain ⟨b, off, rfl, hb, hbA, hat⟩ := HR.out (by omega)
      have hAW : A ≤ W0.heap.size := by have := HHA.out; have := HB9.out.size; omega
      have hbel := HP.out.below
      have hat1 : AsksVP (fun b => b < A) wr l b off := AsksVP.stays (fun _ h => h) (Nat.le_trans HB9.out.size hbel.size) (fun b h hlt => (hbel.block b (by omega)).trans (HB9.out.block b hlt)) l b off hbA hb hat
      obtain ⟨k0, k1, k2, k3, ad', len', cap', c0, c1, c2, c3, c4, hyv⟩ := hat1.get' hy
      have hbr : b < wr.heap.size := by have := hbel.size; have := HB9.out.size; omega
      have hj1 : (0 : Int) ≤ (xm : Int) := by omega
      have hj2 : (xm : Int) < 2 := by omega
      obtain ⟨wx, hwx⟩ : ∃ wx, wx = wr.alloc (.cells #[.int .i64 k0, .string k1, .string k2, .int .i64 k3, .slice ad' len' cap'] 24) := ⟨_, rfl⟩
      have hbx : Below wr.heap.size wr wx := by rw [hwx]; exact (Below.refl _ _).alloc (Nat.le_refl _) _
      have HPX := Lib.hid (HP.out.step hbx hbel.size)
      have HOB : Hid (∀ k, Value.ownBlock (.slice xa xm xc) = some k → k < wx.heap.size) := Lib.hid (fun k h => by
        obtain ⟨cs, ho, _⟩ := HPX.out.cells
        exact (ho.lt k h).2)
      have HXS : Hid (W0.heap.size ≤ wx.heap.size ∧ A ≤ W0.heap.size) := Lib.hid ⟨Nat.le_trans hbel.size hbx.size, hAW⟩
      have HC := Lib.hid (HIH.out y _ wx A (by have := Ask.sizes_at hy; have := HNN.out; omega) (Ask.errs_at HES.out hy) (by have := HXS.out; omega) (AskVP.stays (fun _ h => h) hbx.size (fun b _ h => hbx.block b h) _ _ hyv))
      have HSUC := Lib.hid (nrms_take (q := false) hy)
      have HLL : Hid ((Ask.nrms false (l.take xm)).length = xm) := Lib.hid (by rw [nrms_len, List.length_take, ← HN.out]; omega)
      clear hat hat1 hy hyv hbel hbx
      go_wp2_with fail
      rw [← hwx]
      refine Calls.mono HC.out ?_
      rintro e' W3 ⟨x0, x1, x2, x3, xd, xl, xcc, rfl, hxv, hl⟩
      have HXV := Lib.hid hxv
      obtain ⟨cs, hown, hel⟩ := (HPX.out.step hl (HXS.out.1)).cells
      have HBE := Lib.hid (HPX.out.step hl HXS.out.1).below
      rw [HLL.out] at hown
      have HOWN := Lib.hid hown
      have HEL := Lib.hid hel
      have hszw : W0.heap.size ≤ W3.heap.size := Nat.le_trans HXS.out.1 hl.size
      clear hl hxv hown hel
      go_wp2_with (at_builtin; go_loud (refine wpList_pushN W3 (by rfl) _ _ 22 (by rfl) W0.heap.size 24 (.agg #[.int .i64 0, .string ⟨#[]⟩, .string ⟨#[]⟩, .int .i64 0, .slice none 0 0]) 5 72 Tryd.underlying22 infoAsk (by rfl) (by decide) (.slice xa xm xc) xm cs [.int .i64 x0, .string x1, .string x2, .int .i64 x3, .slice xd xl xcc] _ rfl (by rfl) HOWN.out (by rfl) (by rfl) (by intro u hu; simp at hu; rcases hu with rfl | rfl | rfl | rfl | rfl <;> rfl) (by unfold maxLen; omega) (by omega) hszw ?_; intro gg cap3 w5 hown hgrow hgb hgl2; have HP5 : Hid (PushI A W0.heap.size W0 w5 (Ask.nrms false (l.take (xm + 1))) (.slice (some ⟨gg, 0, none⟩) (xm + 1) cap3)) := Lib.hid (by rw [HSUC.out]; have h := PushI.push (by rw [HLL.out]; exact HOWN.out) HEL.out HBE.out HXV.out HOB.out HXS.out.1 HXS.out.2 hszw (by rw [HLL.out]; exact hown) hgrow hgb; rw [HLL.out] at h; exact h); clear hown hgrow hgb))
      go_roundg (2 - (xm + 1))
      case measure => omega
      case rel => exact ⟨xm + 1, some ⟨gg, 0, none⟩, xm + 1, cap3, by omega, by simp, rfl, rfl, HP5⟩
    · obtain rfl : xm = 2 := by omega
      have hP := HP.out
      rw [show l.take 2 = l from by rw [HN.out, List.take_length]] at hP
      have HPF := Lib.hid hP
      have hbel := hP.below
      have l0 := HCX0.out
      have e0 := (hbel.cell (p := ⟨cx, 0, none⟩) l0).trans d0
      have e1 := (hbel.cell (p := ⟨cx, 1, none⟩) l0).trans d1
      have e2 := (hbel.cell (p := ⟨cx, 2, none⟩) l0).trans d2
      have e3 := (hbel.cell (p := ⟨cx, 3, none⟩) l0).trans d3
      have e4' := (hbel.cell (p := ⟨cx, 4, none⟩) l0).trans d4
      have ez := (hbel.frozen (p := ⟨cx, 4, none⟩) l0).trans pd4
      have s0 := (hbel.cell (p := ⟨cx + 1, 0, none⟩) hcx1).trans r0
      have s1 := (hbel.cell (p := ⟨cx + 1, 1, none⟩) hcx1).trans r1
      have s2 := (hbel.cell (p := ⟨cx + 1, 2, none⟩) hcx1).trans r2
      have s3 := (hbel.cell (p := ⟨cx + 1, 3, none⟩) hcx1).trans r3
      have s4 := (hbel.cell (p := ⟨cx + 1, 4, none⟩) hcx1).trans r4
      have z0 := (hbel.frozen (p := ⟨cx + 1, 0, none⟩) hcx1).trans (p0 0)
      have z1 := (hbel.frozen (p := ⟨cx + 1, 1, none⟩) hcx1).trans (p0 1)
      have z2 := (hbel.frozen (p := ⟨cx + 1, 2, none⟩) hcx1).trans (p0 2)
      have z3 := (hbel.frozen (p := ⟨cx + 1, 3, none⟩) hcx1).trans (p0 3)
      have z4 := (hbel.frozen (p := ⟨cx + 1, 4, none⟩) hcx1).trans (p0 4)
      have hcxr : cx < wr.heap.size := Nat.lt_of_lt_of_le l0 hbel.size
      have hcx1r : cx + 1 < wr.heap.size := Nat.lt_of_lt_of_le hcx1 hbel.size
      clear hP hbel d0 d1 d2 d3 d4 r0 r1 r2 r3 r4 p0 pd4 q0 q1 q2 q3 q4 hcx0 hcx1 l0
      go_wp2_with fail
      refine bodyPost_ret (v := .agg #[.int .i64 k, .string a1, .string a2, .int .i64 0, .slice xa 2 xc]) (by simp [results, Tryd.results10, go_sem, s0, s1, s2, s3, s4]) rfl ?_
      have hcx := HCX.out
      have hsz := HSZ.out
      have hA := HHA.out
      obtain ⟨cs, hown, hel⟩ := HPF.out.cells
      obtain ⟨wf, hwf⟩ : ∃ wf, wf = five (wr.setCell ⟨cx, 4, none⟩ (.slice xa 2 xc)) (cx + 1) (.int .i64 k) (.string a1) (.string a2) (.int .i64 0) (.slice xa 2 xc) := ⟨_, rfl⟩
      have hbk : ∀ b, b ≠ cx → b ≠ cx + 1 → wf.heap[b]? = wr.heap[b]? := fun b h1 h2 => by rw [hwf, five_heap _ _ _ _ _ _ _ b h2, Below.heap_setCell _ _ _ _ h1]
      have hwb : Below w.heap.size w wf := by
        rw [hwf]
        refine five_below (Below.setCell ?_ (p := ⟨cx, 4, none⟩) (by show _ ≤ cx; omega) _) _ _ _ _ _ _ (by omega)
        exact HB9.out.trans (HPF.out.below.mono HB9.out.size)
      have hws : wr.heap.size = wf.heap.size := by rw [hwf, five_size]; simp
      show NrmQ A w V _ (five (wr.setCell ⟨cx, 4, none⟩ (.slice xa 2 xc)) (cx + 1) (.int .i64 k) (.string a1) (.string a2) (.int .i64 0) (.slice xa 2 xc))
      rw [← hwf]
      refine ⟨_, _, _, _, _, _, _, rfl, ?_, hwb⟩
      have hnl := nrms_len false l
      rw [← HN.out] at hnl
      rw [hnl] at hown
      obtain ⟨ga, gc, hu, hc1, hc2, hga⟩ := ownForm hown
      cases hu
      obtain ⟨g, rfl⟩ := hga (by omega)
      have hgb := ownBlock_ge hown (Nat.le_refl _) g rfl
      have hglt := (hown.lt g rfl).2
      rw [HVV.out, AskVP]
      refine ⟨_, _, _, by rw [← HA1.out, ← HA2.out], hnl.symm, hc1, by omega, by simp, by simp, fun _ => ⟨g, 0, rfl, by omega, .inr (by omega), ?_⟩⟩
      refine Elems.asks (Elems.stays (fun b h => ?_) (Nat.le_of_eq hws) (fun b h _ => hbk b ?_ ?_) hel) (fun i v hi => ?_)
      · rcases h.1 with h | h
        · exact .inl h
        · exact .inr (by omega)
      · rcases h.1 with h | h <;> omega
      · rcases h.1 with h | h <;> omega
      · rw [cell_of_block (p := ⟨g, 0 + i, none⟩) (hbk g (by omega) (by omega)), Nat.zero_add]
        have := hown.cells (g := g) rfl i v hi
        rwa [show (⟨g, 0, none⟩ : Addr).add i = ⟨g, i, none⟩ from by unfold Addr.add; split <;> simp_all] at this
end Go.Proofs.YtkelkpfjkjcmgaaDoor
