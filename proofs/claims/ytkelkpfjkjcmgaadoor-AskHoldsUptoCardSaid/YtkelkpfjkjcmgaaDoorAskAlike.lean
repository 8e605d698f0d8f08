/- Contract: Alike, the program's. -/
import Derived.Test.YtkelkpfjkjcmgaaDoorAskRefA
import Derived.Test.YtkelkpfjkjcmgaaDoorAskBit
import Derived.Test.YtkelkpfjkjcmgaaDoorAskHolds
import Derived.Deep.CutBlock
import Derived.Deep.DeepCutAuto
import Derived.RegionTactic
namespace Go.Proofs.YtkelkpfjkjcmgaaDoor
open Go.ChangeShapes Go.WideShapes Go.ChangeAt Go.RowKit
set_option linter.unusedVariables false
open Tp
/-- the atoms of two asks -/
def allAt (x y : Ask) : List Bs := addL (addL [] x.leaves) y.leaves
/-- an ask by the bits of a number -/
def evBit (s : Nat) (K : List Bs) (x : Ask) : Bool := x.ev fun z => bitOf s K z.txt
def alikeE (x y : Ask) : Int := if x.fault ≠ 0 then x.fault else if y.fault ≠ 0 then y.fault else if 12 < (allAt x y).length then 2 else 0
def alikeB (x y : Ask) : Bool := decide (alikeE x y = 0) && decide (∀ s, s < 2 ^ (allAt x y).length → evBit s (allAt x y) x = evBit s (allAt x y) y)
def AlikeQ (w : World) (x y : Ask) (e : Ending) (w' : World) : Prop := e = .returned (.tuple #[.bool (alikeB x y), .int .i64 (alikeE x y)]) ∧ Below w.heap.size w w'
theorem alike_bad {x y : Ask} {E : Int} (h : alikeE x y = E) (h0 : E ≠ 0) : alikeB x y = false := by
  unfold alikeB
  rw [h, show decide (E = 0) = false from by simpa using h0]; rfl
/-- the row of atoms, boxed -/
structure RowBox (K : List Bs) (x : Value) (w W : World) : Prop where
  box : ∃ (ca : Nat) (ra : Option Addr) (rc : Nat), x = .pointer (some ⟨ca, 0, none⟩) ∧ W.cell? ⟨ca, 0, none⟩ = some (.slice ra K.length rc) ∧ ca < W.heap.size ∧ Vals W ra (txv K)
  below : Below w.heap.size w W
theorem pow_lt {w : World} (h : Pow w) : 0 < w.heap.size := by
  unfold Pow Lib.TabIs World.var? at h
  rw [gPow] at h
  simp only [Option.bind_some] at h
  rcases Nat.lt_or_ge 0 w.heap.size with h' | h'
  · exact h'
  · rw [Array.getElem?_eq_none h'] at h; cases h
theorem lt_alloc (w : World) (o : Obj) : w.heap.size < (w.alloc o).heap.size := by simp
theorem Vals.setBox {w : World} {a : Option Addr} {K : List Bs} {c : Nat} (v : Value) (h : Vals w a (txv K)) (hc : w.cell? ⟨c, 0, none⟩ = some (.slice none 0 0)) : Vals (w.setCell ⟨c, 0, none⟩ v) a (txv K) := fun hl => by
  obtain ⟨b, off, e, h1, h2⟩ := h hl
  refine ⟨b, off, e, by simpa using h1, fun i u hi => ?_⟩
  rw [World.cell?_setCell_other]
  · exact h2 i u hi
  · intro e2
    have h3 := h2 i u hi
    rw [← e2, hc] at h3
    cases h3
    have := List.mem_of_getElem? hi
    unfold txv at this
    obtain ⟨t, _, ht⟩ := List.mem_map.1 this
    cases ht
theorem RowBox.made {K : List Bs} {wr w2 : World} {za : Option Addr} {zc : Nat} (hv : Vals w2 za (txv K)) (hb : Below wr.heap.size wr w2) : RowBox K (.pointer (some ⟨w2.heap.size, 0, none⟩)) wr (w2.alloc (.cells #[.slice za K.length zc] 41)) :=
  ⟨⟨_, za, zc, rfl, (cell_top _ _ _ _ _ rfl).trans rfl, lt_alloc _ _, hv.below ((Below.refl _ _).alloc (Nat.le_refl _) _) (Nat.le_refl _)⟩, hb.alloc hb.size _⟩
theorem RowBox.set {K : List Bs} {wr w2 : World} {za : Option Addr} {zc c : Nat} (hv : Vals w2 za (txv K)) (hb : Below wr.heap.size wr w2) (hc : w2.cell? ⟨c, 0, none⟩ = some (.slice none 0 0)) (h1 : wr.heap.size ≤ c) (h2 : c < w2.heap.size) : RowBox K (.pointer (some ⟨c, 0, none⟩)) wr (w2.setCell ⟨c, 0, none⟩ (.slice za K.length zc)) :=
  ⟨⟨_, za, zc, rfl, World.cell?_setCell_same _ _ _ hc, by simpa using h2, Vals.setBox _ hv hc⟩, hb.setCell (p := ⟨c, 0, none⟩) h1 _⟩
theorem leavess_mem {l : List Ask} {i : Nat} {y : Ask} {t : Bs} (h : l[i]? = some y) (ht : t ∈ y.leaves) : t ∈ Ask.leavess l := by
  induction l generalizing i with
  | nil => simp at h
  | cons z l ih =>
    rw [Ask.leavess, List.mem_append]
    cases i with
    | zero => simp at h; subst h; exact .inl ht
    | succ i => exact .inr (ih (i := i) (by simpa using h))
/-- the asks whose atoms a row holds -/
def InK (K : List Bs) (z : Ask) : Prop := ∀ t, t ∈ z.leaves → t ∈ K
theorem InK.sub (K : List Bs) (k : Int) (a b : Bs) (n : Int) (l : List Ask) (i : Nat) (y : Ask) (h : InK K (.mk k a b n l)) (h3 : ¬ k ≤ 3) (hy : l[i]? = some y) : InK K y := fun t ht => h t (by rw [Ask.leaves, if_neg h3]; exact leavess_mem hy ht)
theorem InK.atom {K : List Bs} {y : Ask} (h : InK K y) (h3 : y.kind ≤ 3) : y.txt ∈ K := by
  cases y with
  | mk k a b n l =>
    have h3 : k ≤ 3 := h3
    exact h _ (by rw [Ask.leaves, if_pos h3]; simp)
theorem value_bit (cs ca s : Nat) (ra : Option Addr) (rn rc : Nat) (K : List Bs) (hs : s < 4096) (hrn : rn = K.length) (hr : rn ≤ 12) (x : Ask) (v : Value) (w : World) (he : x.err = 0) (hK : InK K x) (hj : BitAt cs ca (s : Int) ra rn rc K w) (hx : AskV w x v) : Calls Tryd.prog 15 #[v, .func (.func 23) #[] #[.pointer (some ⟨cs, 0, none⟩), .pointer (some ⟨ca, 0, none⟩)]] w fun e w' => e = .returned (.bool (evBit s K x)) ∧ Below w.heap.size w w' :=
  value_in (InK K) (InK.sub K) 23 enBit #[.pointer (some ⟨cs, 0, none⟩), .pointer (some ⟨ca, 0, none⟩)] (fun z => bitOf s K z.txt) (BitAt cs ca (s : Int) ra rn rc K) (fun w w' h hb => h.below hb) (fun y v w hj hy he h3 hp => bit_any cs ca s ra rn rc K hs hrn hr y v w hj hy he h3 (InK.atom hp h3)) x.size x v w (Nat.le_refl _) he hK hj hx
/-- behind the first row of atoms -/
structure At1 (wr W w' : World) (K : List Bs) (a : Option Addr) (m cap : Nat) : Prop where
  len : m = K.length
  own : w'.ownsRow wr.heap.size 9 1 (.slice a m cap) m (txv K)
  lo : ∀ k, Value.ownBlock (.slice a m cap) = some k → W.heap.size ≤ k
theorem atoms_first (x : Ask) (v : Value) (wr : World) (he : x.err = 0) (hs : x.size ≤ 60) (hp : Pow wr) (hx : AskVP (fun b => b < wr.heap.size) wr x v) (W : World) (hW : Below wr.heap.size wr W) : Calls Tryd.prog 22 #[v, .slice none 0 0] W fun e w' => ∃ a m cap, e = .returned (.slice a m cap) ∧ At1 wr W w' (addL [] x.leaves) a m cap ∧ Below wr.heap.size wr w' ∧ (∀ q : Addr, q.block < W.heap.size → w'.cell? q = W.cell? q) ∧ (∀ q : Addr, q.block < W.heap.size → w'.frozen? q = W.frozen? q) ∧ W.heap.size ≤ w'.heap.size := by
  refine Calls.mono (atoms_all wr.heap.size x.size x v W [] none 0 0 (Nat.le_refl _) he rfl (by simp; omega) hW.size (pow_lt hp) (hp.below hW) (AskVP.stays (fun _ h => h) hW.size (fun b h _ => hW.block b h) _ _ hx) (World.ownsRow_nil _ _ _ _)) ?_
  rintro e w' ⟨a, m, cap, rfl, hm, hr⟩
  have hb := below_rowR hr
  exact ⟨a, m, cap, rfl, ⟨hm, by have := hr.own; rw [← hm] at this; exact this, fun k hk => by rcases hr.new k hk with h | h; cases h; exact h⟩, hW.trans (hb.mono hW.size), fun q hq => hb.cell hq, fun q hq => hb.frozen hq, hb.size⟩
theorem atoms_second (y : Ask) (v : Value) (wr : World) (he : y.err = 0) (hs : y.size ≤ 60) (hp : Pow wr) (hy : AskVP (fun b => b < wr.heap.size) wr y v) (K : List Bs) (hK : K.length ≤ 60) (Wc w1 : World) (a : Option Addr) (m cap : Nat) (h1 : At1 wr Wc w1 K a m cap) (hb1 : Below wr.heap.size wr w1) (W : World) (hW : Below w1.heap.size w1 W) : Calls Tryd.prog 22 #[v, .slice a m cap] W fun e w' => ∃ a' m' cap', e = .returned (.slice a' m' cap') ∧ Vals w' a' (txv (addL K y.leaves)) ∧ m' = (addL K y.leaves).length ∧ Below wr.heap.size wr w' ∧ (∀ q : Addr, q.block < Wc.heap.size → q.block < W.heap.size → w'.cell? q = W.cell? q) ∧ (∀ q : Addr, q.block < Wc.heap.size → q.block < W.heap.size → w'.frozen? q = W.frozen? q) ∧ (∀ q : Addr, w1.heap.size ≤ q.block → q.block < W.heap.size → w'.cell? q = W.cell? q) ∧ (∀ q : Addr, w1.heap.size ≤ q.block → q.block < W.heap.size → w'.frozen? q = W.frozen? q) ∧ W.heap.size ≤ w'.heap.size := by
  have hbW := hb1.trans (hW.mono hb1.size)
  refine Calls.mono (atoms_all wr.heap.size y.size y v W K a m cap (Nat.le_refl _) he h1.len (by omega) hbW.size (pow_lt hp) (hp.below hbW) (AskVP.stays (fun _ h => h) hbW.size (fun b h _ => hbW.block b h) _ _ hy) (ownsRow_below h1.own hW)) ?_
  rintro e w' ⟨a', m', cap', rfl, hm, hr⟩
  have hge := ownBlock_ge h1.own (Nat.le_refl _)
  have hne1 : ∀ q : Addr, q.block < Wc.heap.size → some q.block ≠ Value.ownBlock (.slice a m cap) := fun q hq e => by have := h1.lo _ e.symm; omega
  have hne2 : ∀ q : Addr, w1.heap.size ≤ q.block → some q.block ≠ Value.ownBlock (.slice a m cap) := fun q hq e => by have := (h1.own.lt _ e.symm).2; omega
  exact ⟨a', m', cap', rfl, vals_own hr.own, hm, hbW.grown hr.saves hbW.size hge, fun q h h2 => World.cell?_of_block (hr.saves.block _ h2 (hne1 q h)), fun q h h2 => World.frozen?_of_block (hr.saves.block _ h2 (hne1 q h)), fun q h h2 => World.cell?_of_block (hr.saves.block _ h2 (hne2 q h)), fun q h h2 => World.frozen?_of_block (hr.saves.block _ h2 (hne2 q h)), hr.saves.size⟩
set_option maxRecDepth 20000 in
set_option maxHeartbeats 64000000 in
theorem Alike_any (x y : Ask) (vx vy : Value) (w : World) (hsx : x.size ≤ 1000000000) (hsy : y.size ≤ 1000000000) (hp : Pow w) (hx : AskV w x vx) (hy : AskV w y vy) : Calls Tryd.prog 6 #[vx, vy] w (AlikeQ w x y) := by
  obtain ⟨k, a1, a2, nu, ad, n, cap, rfl⟩ := hx.form
  obtain ⟨k', a1', a2', nu', ad', n', cap', rfl⟩ := hy.form
  obtain ⟨W0, hW0⟩ : ∃ W, W = (w.alloc (.cells #[.int .i64 k, .string a1, .string a2, .int .i64 nu, .slice ad n cap] 24)).alloc (.cells #[.int .i64 k', .string a1', .string a2', .int .i64 nu', .slice ad' n' cap'] 24) := ⟨_, rfl⟩
  have hb9 : Below w.heap.size w W0 := by rw [hW0]; exact ((Below.refl _ _).alloc (Nat.le_refl _) _).alloc (by simp) _
  have hsz : W0.heap.size = w.heap.size + 2 := by rw [hW0]; simp
  obtain ⟨cx, hcx⟩ : ∃ c, c = w.heap.size := ⟨_, rfl⟩
  have d0 : W0.cell? ⟨cx, 0, none⟩ = some (.int .i64 k) := by rw [hW0, hcx]; simp
  have d1 : W0.cell? ⟨cx, 1, none⟩ = some (.string a1) := by rw [hW0, hcx]; simp
  have d2 : W0.cell? ⟨cx, 2, none⟩ = some (.string a2) := by rw [hW0, hcx]; simp
  have d3 : W0.cell? ⟨cx, 3, none⟩ = some (.int .i64 nu) := by rw [hW0, hcx]; simp
  have d4 : W0.cell? ⟨cx, 4, none⟩ = some (.slice ad n cap) := by rw [hW0, hcx]; simp
  have g0 : W0.cell? ⟨cx + 1, 0, none⟩ = some (.int .i64 k') := by rw [hW0, hcx]; simp
  have g1 : W0.cell? ⟨cx + 1, 1, none⟩ = some (.string a1') := by rw [hW0, hcx]; simp
  have g2 : W0.cell? ⟨cx + 1, 2, none⟩ = some (.string a2') := by rw [hW0, hcx]; simp
  have g3 : W0.cell? ⟨cx + 1, 3, none⟩ = some (.int .i64 nu') := by rw [hW0, hcx]; simp
  have g4 : W0.cell? ⟨cx + 1, 4, none⟩ = some (.slice ad' n' cap') := by rw [hW0, hcx]; simp
  have hcx0 : cx < W0.heap.size := by omega
  have hcx1 : cx + 1 < W0.heap.size := by omega
  have HXV := Lib.hid (AskV.below hb9 _ _ hx)
  have HYV := Lib.hid (AskV.below hb9 _ _ hy)
  have HP := Lib.hid (hp.below hb9)
  have HB9 := Lib.hid hb9
  obtain ⟨W1, hW1⟩ : ∃ W, W = W0.alloc (.cells #[.int .i64 k, .string a1, .string a2, .int .i64 nu, .slice ad n cap, .int .i64 k', .string a1', .string a2', .int .i64 nu', .slice ad' n' cap'] 24) := ⟨_, rfl⟩
  have hb1 : Below W0.heap.size W0 W1 := by rw [hW1]; exact (Below.refl _ _).alloc (Nat.le_refl _) _
  obtain ⟨cs, hcs⟩ : ∃ c, c = W0.heap.size := ⟨_, rfl⟩
  have m0 : W1.cell? ⟨cs, 0, none⟩ = some (.int .i64 k) := by rw [hW1]; exact (cell_top _ _ _ _ _ hcs).trans rfl
  have m1 : W1.cell? ⟨cs, 1, none⟩ = some (.string a1) := by rw [hW1]; exact (cell_top _ _ _ _ _ hcs).trans rfl
  have m2 : W1.cell? ⟨cs, 2, none⟩ = some (.string a2) := by rw [hW1]; exact (cell_top _ _ _ _ _ hcs).trans rfl
  have m3 : W1.cell? ⟨cs, 3, none⟩ = some (.int .i64 nu) := by rw [hW1]; exact (cell_top _ _ _ _ _ hcs).trans rfl
  have m4 : W1.cell? ⟨cs, 4, none⟩ = some (.slice ad n cap) := by rw [hW1]; exact (cell_top _ _ _ _ _ hcs).trans rfl
  have m5 : W1.cell? ⟨cs, 5, none⟩ = some (.int .i64 k') := by rw [hW1]; exact (cell_top _ _ _ _ _ hcs).trans rfl
  have m6 : W1.cell? ⟨cs, 6, none⟩ = some (.string a1') := by rw [hW1]; exact (cell_top _ _ _ _ _ hcs).trans rfl
  have m7 : W1.cell? ⟨cs, 7, none⟩ = some (.string a2') := by rw [hW1]; exact (cell_top _ _ _ _ _ hcs).trans rfl
  have m8 : W1.cell? ⟨cs, 8, none⟩ = some (.int .i64 nu') := by rw [hW1]; exact (cell_top _ _ _ _ _ hcs).trans rfl
  have m9 : W1.cell? ⟨cs, 9, none⟩ = some (.slice ad' n' cap') := by rw [hW1]; exact (cell_top _ _ _ _ _ hcs).trans rfl
  have lcs : cs < W1.heap.size := by rw [hW1, hcs]; simp
  have HB1 := Lib.hid hb1
  obtain ⟨E, hE⟩ : ∃ E, alikeE x y = E := ⟨_, rfl⟩
  have HE := Lib.hid hE
  obtain ⟨R, hR⟩ : ∃ R, alikeB x y = R := ⟨_, rfl⟩
  have HR := Lib.hid hR
  unfold AlikeQ
  rw [hE, hR]
  have HCX := Lib.hid hcx
  have HSZ := Lib.hid hsz
  have HXC : Hid (∀ W, Below W0.heap.size W0 W → Calls Tryd.prog 14 #[.agg #[.int .i64 k, .string a1, .string a2, .int .i64 nu, .slice ad n cap]] W fun e w' => e = .returned (.int .i64 x.fault) ∧ Below W.heap.size W w') := Lib.hid (fun W hW => Check_any x _ W hsx (AskV.below hW _ _ HXV.out))
  have HYC : Hid (∀ W, Below W0.heap.size W0 W → Calls Tryd.prog 14 #[.agg #[.int .i64 k', .string a1', .string a2', .int .i64 nu', .slice ad' n' cap']] W fun e w' => e = .returned (.int .i64 y.fault) ∧ Below W.heap.size W w') := Lib.hid (fun W hW => Check_any y _ W hsy (AskV.below hW _ _ HYV.out))
  obtain ⟨fx, hfx⟩ : ∃ e, x.fault = e := ⟨_, rfl⟩
  obtain ⟨fy, hfy⟩ : ∃ e, y.fault = e := ⟨_, rfl⟩
  rw [hfx] at HXC
  rw [hfy] at HYC
  have HFX := Lib.hid hfx
  have HFY := Lib.hid hfy
  clear hx hy hp hb9 hb1 hE hR hfx hfy hsz hsx hsy
  go_enter Tryd.func6, Tryd.ntmps6
  go_upto_region 1 with fail
  rw [← hW0, ← hcx]
  clear hW0 hcx
  go_wp2_with fail
  try rw [← hW1]
  try rw [← hcs]
  clear hW1 hcs
  go_loopg [16] 2 (fun g z wr => ∃ j : Nat, j + g = 2 ∧ z = .int .i64 (j : Int) ∧ Hid (1 ≤ j → fx = 0) ∧ Hid (2 ≤ j → fy = 0) ∧ Hid (Below W1.heap.size W1 wr))
  case atStart => exact ⟨0, by omega, rfl, Lib.hid (fun h => absurd h (by omega)), Lib.hid (fun h => absurd h (by omega)), Lib.hid (Below.refl _ _)⟩
  case round =>
    obtain ⟨j, hj, rfl, HF1, HF2, HB⟩ := hrel
    have hB := HB.out
    have HW0 := Lib.hid (HB1.out.trans (hB.mono HB1.out.size))
    have e0 := (hB.cell (p := ⟨cs, 0, none⟩) lcs).trans m0
    have e1 := (hB.cell (p := ⟨cs, 1, none⟩) lcs).trans m1
    have e2 := (hB.cell (p := ⟨cs, 2, none⟩) lcs).trans m2
    have e3 := (hB.cell (p := ⟨cs, 3, none⟩) lcs).trans m3
    have e4 := (hB.cell (p := ⟨cs, 4, none⟩) lcs).trans m4
    have e5 := (hB.cell (p := ⟨cs, 5, none⟩) lcs).trans m5
    have e6 := (hB.cell (p := ⟨cs, 6, none⟩) lcs).trans m6
    have e7 := (hB.cell (p := ⟨cs, 7, none⟩) lcs).trans m7
    have e8 := (hB.cell (p := ⟨cs, 8, none⟩) lcs).trans m8
    have e9 := (hB.cell (p := ⟨cs, 9, none⟩) lcs).trans m9
    have lcr : cs < wr.heap.size := Nat.lt_of_lt_of_le lcs hB.size
    have hj2 : j = 0 ∨ j = 1 ∨ j = 2 := by omega
    rcases hj2 with rfl | rfl | rfl
    · obtain ⟨wx, hwx⟩ : ∃ wx, wx = wr.alloc (.cells #[.int .i64 k, .string a1, .string a2, .int .i64 nu, .slice ad n cap] 24) := ⟨_, rfl⟩
      have hbx : Below wr.heap.size wr wx := by rw [hwx]; exact (Below.refl _ _).alloc (Nat.le_refl _) _
      have HBX := Lib.hid (hB.trans (hbx.mono hB.size))
      have HC := Lib.hid (HXC.out wx (HB1.out.trans (HBX.out.mono HB1.out.size)))
      clear hB hbx
      by_cases hf : fx = 0
      · subst hf
        go_wp2_with fail
        rw [← hwx]
        refine Calls.mono HC.out ?_
        rintro e' W3 ⟨rfl, hl⟩
        have HB3 := Lib.hid (HBX.out.trans (hl.mono HBX.out.size))
        clear hl hwx
        go_wp2_with fail
        go_roundg 1
        case measure => omega
        case rel => exact ⟨1, by omega, by simp, by first | exact Lib.hid (fun _ => rfl) | exact Lib.hid (fun _ => trivial), by first | exact Lib.hid (fun h => absurd h (by omega)) | exact Lib.hid (fun _ => trivial), HB3⟩
      · have hf2 : (fx != 0) = true := by simpa using hf
        have HER : Hid (E = fx) := Lib.hid (by
          rw [← HE.out]
          unfold alikeE
          rw [HFX.out, if_pos hf])
        have HRR : Hid (R = false) := Lib.hid (by rw [← HR.out]; exact alike_bad HE.out (by rw [HER.out]; exact hf))
        clear hf
        go_wp2_with fail
        rw [← hwx]
        refine Calls.mono HC.out ?_
        rintro e' W3 ⟨rfl, hl⟩
        have HB3 := Lib.hid (HBX.out.trans (hl.mono HBX.out.size))
        clear hl hwx
        go_wp2_with fail
        go_ret2
        exact ⟨by rw [HER.out, HRR.out]; rfl, (HB9.out.trans (HB1.out.mono HB9.out.size)).trans (HB3.out.mono (Nat.le_trans HB9.out.size HB1.out.size))⟩
    · obtain ⟨wx, hwx⟩ : ∃ wx, wx = wr.alloc (.cells #[.int .i64 k', .string a1', .string a2', .int .i64 nu', .slice ad' n' cap'] 24) := ⟨_, rfl⟩
      have hbx : Below wr.heap.size wr wx := by rw [hwx]; exact (Below.refl _ _).alloc (Nat.le_refl _) _
      have HBX := Lib.hid (hB.trans (hbx.mono hB.size))
      have HC := Lib.hid (HYC.out wx (HB1.out.trans (HBX.out.mono HB1.out.size)))
      clear hB hbx
      by_cases hf : fy = 0
      · subst hf
        go_wp2_with fail
        rw [← hwx]
        refine Calls.mono HC.out ?_
        rintro e' W3 ⟨rfl, hl⟩
        have HB3 := Lib.hid (HBX.out.trans (hl.mono HBX.out.size))
        clear hl hwx
        go_wp2_with fail
        go_roundg 0
        case measure => omega
        case rel => exact ⟨2, by omega, by simp, by first | exact Lib.hid (fun _ => HF1.out (by omega)) | exact Lib.hid (fun _ => trivial), by first | exact Lib.hid (fun _ => rfl) | exact Lib.hid (fun _ => trivial), HB3⟩
      · have hf2 : (fy != 0) = true := by simpa using hf
        have HER : Hid (E = fy) := Lib.hid (by
          rw [← HE.out]
          unfold alikeE
          rw [HFX.out, HF1.out (by omega), HFY.out, if_neg (by simp), if_pos hf])
        have HRR : Hid (R = false) := Lib.hid (by rw [← HR.out]; exact alike_bad HE.out (by rw [HER.out]; exact hf))
        clear hf
        go_wp2_with fail
        rw [← hwx]
        refine Calls.mono HC.out ?_
        rintro e' W3 ⟨rfl, hl⟩
        have HB3 := Lib.hid (HBX.out.trans (hl.mono HBX.out.size))
        clear hl hwx
        go_wp2_with fail
        go_ret2
        exact ⟨by rw [HER.out, HRR.out]; rfl, (HB9.out.trans (HB1.out.mono HB9.out.size)).trans (HB3.out.mono (Nat.le_trans HB9.out.size HB1.out.size))⟩
    · obtain rfl : fx = 0 := HF1.out (by omega)
      obtain rfl : fy = 0 := HF2.out (by omega)
      have hBW := HW0.out
      clear hB e0 e1 e2 e3 e4 e5 e6 e7 e8 e9 m0 m1 m2 m3 m4 m5 m6 m7 m8 m9
      have d0' := (hBW.cell (p := ⟨cx, 0, none⟩) hcx0).trans d0
      have d1' := (hBW.cell (p := ⟨cx, 1, none⟩) hcx0).trans d1
      have d2' := (hBW.cell (p := ⟨cx, 2, none⟩) hcx0).trans d2
      have d3' := (hBW.cell (p := ⟨cx, 3, none⟩) hcx0).trans d3
      have d4' := (hBW.cell (p := ⟨cx, 4, none⟩) hcx0).trans d4
      have g0' := (hBW.cell (p := ⟨cx + 1, 0, none⟩) hcx1).trans g0
      have g1' := (hBW.cell (p := ⟨cx + 1, 1, none⟩) hcx1).trans g1
      have g2' := (hBW.cell (p := ⟨cx + 1, 2, none⟩) hcx1).trans g2
      have g3' := (hBW.cell (p := ⟨cx + 1, 3, none⟩) hcx1).trans g3
      have g4' := (hBW.cell (p := ⟨cx + 1, 4, none⟩) hcx1).trans g4
      have lx0 : cx < wr.heap.size := Nat.lt_of_lt_of_le hcx0 hBW.size
      have lx1 : cx + 1 < wr.heap.size := Nat.lt_of_lt_of_le hcx1 hBW.size
      have HFA := Lib.hid (fault_err HFX.out)
      have HFB := Lib.hid (fault_err HFY.out)
      have HXP := Lib.hid (AskV.toP _ _ (AskV.below hBW _ _ HXV.out))
      have HYP := Lib.hid (AskV.toP _ _ (AskV.below hBW _ _ HYV.out))
      have HPW := Lib.hid (HP.out.below hBW)
      clear hBW lcr lcs d0 d1 d2 d3 d4 g0 g1 g2 g3 g4
      have HA0 : Hid (∀ W, Below wr.heap.size wr W → Calls Tryd.prog 22 #[.agg #[.int .i64 k, .string a1, .string a2, .int .i64 nu, .slice ad n cap], .slice none 0 0] W fun e w' => ∃ a m cap, e = .returned (.slice a m cap) ∧ At1 wr W w' (addL [] x.leaves) a m cap ∧ Below wr.heap.size wr w' ∧ (∀ q : Addr, q.block < W.heap.size → w'.cell? q = W.cell? q) ∧ (∀ q : Addr, q.block < W.heap.size → w'.frozen? q = W.frozen? q) ∧ W.heap.size ≤ w'.heap.size) := Lib.hid (fun W hW => atoms_first x _ wr HFA.out.1 HFA.out.2 HPW.out HXP.out W hW)
      have HA1 : Hid (∀ (Wc w1 : World) (a : Option Addr) (m cap : Nat), At1 wr Wc w1 (addL [] x.leaves) a m cap → Below wr.heap.size wr w1 → ∀ W, Below w1.heap.size w1 W → Calls Tryd.prog 22 #[.agg #[.int .i64 k', .string a1', .string a2', .int .i64 nu', .slice ad' n' cap'], .slice a m cap] W fun e w' => ∃ a' m' cap', e = .returned (.slice a' m' cap') ∧ Vals w' a' (txv (allAt x y)) ∧ m' = (allAt x y).length ∧ Below wr.heap.size wr w' ∧ (∀ q : Addr, q.block < Wc.heap.size → q.block < W.heap.size → w'.cell? q = W.cell? q) ∧ (∀ q : Addr, q.block < Wc.heap.size → q.block < W.heap.size → w'.frozen? q = W.frozen? q) ∧ (∀ q : Addr, w1.heap.size ≤ q.block → q.block < W.heap.size → w'.cell? q = W.cell? q) ∧ (∀ q : Addr, w1.heap.size ≤ q.block → q.block < W.heap.size → w'.frozen? q = W.frozen? q) ∧ W.heap.size ≤ w'.heap.size) := Lib.hid (fun Wc w1 a m cap h1 hb1 W hW => atoms_second y _ wr HFB.out.1 HFB.out.2 HPW.out HYP.out _ (by have h1 := addL_len [] x.leaves; have h2 := Ask.leaves_len x; have h3 := HFA.out.2; simp only [List.length_nil] at h1; omega) Wc w1 a m cap h1 hb1 W hW)
      have HKL : Hid ((allAt x y).length ≤ 120) := Lib.hid (by
        unfold allAt
        have h1 := addL_len [] x.leaves
        have h2 := Ask.leaves_len x
        have h3 := HFA.out.2
        have h4 := addL_len (addL [] x.leaves) y.leaves
        have h5 := Ask.leaves_len y
        have h6 := HFB.out.2
        simp only [List.length_nil] at h1
        omega)
      have nx1 : ¬ wr.heap.size = cx := by omega
      have nx2 : ¬ cx = wr.heap.size := by omega
      have nx3 : ¬ wr.heap.size = cx + 1 := by omega
      have nx4 : ¬ cx + 1 = wr.heap.size := by omega
      have d0'd : wr.drew.cell? ⟨cx, 0, none⟩ = some (.int .i64 k) := d0'
      have d1'd : wr.drew.cell? ⟨cx, 1, none⟩ = some (.string a1) := d1'
      have d2'd : wr.drew.cell? ⟨cx, 2, none⟩ = some (.string a2) := d2'
      have d3'd : wr.drew.cell? ⟨cx, 3, none⟩ = some (.int .i64 nu) := d3'
      have d4'd : wr.drew.cell? ⟨cx, 4, none⟩ = some (.slice ad n cap) := d4'
      have g0'd : wr.drew.cell? ⟨cx + 1, 0, none⟩ = some (.int .i64 k') := g0'
      have g1'd : wr.drew.cell? ⟨cx + 1, 1, none⟩ = some (.string a1') := g1'
      have g2'd : wr.drew.cell? ⟨cx + 1, 2, none⟩ = some (.string a2') := g2'
      have g3'd : wr.drew.cell? ⟨cx + 1, 3, none⟩ = some (.int .i64 nu') := g3'
      have g4'd : wr.drew.cell? ⟨cx + 1, 4, none⟩ = some (.slice ad' n' cap') := g4'
      go_upto_region 8 with fail
      go_cut [9] (fun z W => RowBox (allAt x y) z wr W)
      case first =>
        (go_region_held3 (fun W => W.cell? ⟨cx, 0, none⟩ = some (.int .i64 k) ∧ W.cell? ⟨cx, 1, none⟩ = some (.string a1) ∧ W.cell? ⟨cx, 2, none⟩ = some (.string a2) ∧ W.cell? ⟨cx, 3, none⟩ = some (.int .i64 nu) ∧ W.cell? ⟨cx, 4, none⟩ = some (.slice ad n cap) ∧ W.cell? ⟨cx + 1, 0, none⟩ = some (.int .i64 k') ∧ W.cell? ⟨cx + 1, 1, none⟩ = some (.string a1') ∧ W.cell? ⟨cx + 1, 2, none⟩ = some (.string a2') ∧ W.cell? ⟨cx + 1, 3, none⟩ = some (.int .i64 nu') ∧ W.cell? ⟨cx + 1, 4, none⟩ = some (.slice ad' n' cap')) (first | with_reducible exact ⟨d0', d1', d2', d3', d4', g0', g1', g2', g3', g4'⟩ | with_reducible exact ⟨d0'd, d1'd, d2'd, d3'd, d4'd, g0'd, g1'd, g2'd, g3'd, g4'd⟩ | with_reducible exact ⟨d0'a, d1'a, d2'a, d3'a, d4'a, g0'a, g1'a, g2'a, g3'a, g4'a⟩ | with_reducible exact ⟨d0'b, d1'b, d2'b, d3'b, d4'b, g0'b, g1'b, g2'b, g3'b, g4'b⟩ | with_reducible exact ⟨(World.cell?_alloc_lt _ _ ⟨cx, 0, none⟩ lx0).trans d0'd, (World.cell?_alloc_lt _ _ ⟨cx, 1, none⟩ lx0).trans d1'd, (World.cell?_alloc_lt _ _ ⟨cx, 2, none⟩ lx0).trans d2'd, (World.cell?_alloc_lt _ _ ⟨cx, 3, none⟩ lx0).trans d3'd, (World.cell?_alloc_lt _ _ ⟨cx, 4, none⟩ lx0).trans d4'd, (World.cell?_alloc_lt _ _ ⟨cx + 1, 0, none⟩ lx1).trans g0'd, (World.cell?_alloc_lt _ _ ⟨cx + 1, 1, none⟩ lx1).trans g1'd, (World.cell?_alloc_lt _ _ ⟨cx + 1, 2, none⟩ lx1).trans g2'd, (World.cell?_alloc_lt _ _ ⟨cx + 1, 3, none⟩ lx1).trans g3'd, (World.cell?_alloc_lt _ _ ⟨cx + 1, 4, none⟩ lx1).trans g4'd⟩ | with_reducible exact ⟨(World.cell?_alloc_lt _ _ ⟨cx, 0, none⟩ lx0).trans d0', (World.cell?_alloc_lt _ _ ⟨cx, 1, none⟩ lx0).trans d1', (World.cell?_alloc_lt _ _ ⟨cx, 2, none⟩ lx0).trans d2', (World.cell?_alloc_lt _ _ ⟨cx, 3, none⟩ lx0).trans d3', (World.cell?_alloc_lt _ _ ⟨cx, 4, none⟩ lx0).trans d4', (World.cell?_alloc_lt _ _ ⟨cx + 1, 0, none⟩ lx1).trans g0', (World.cell?_alloc_lt _ _ ⟨cx + 1, 1, none⟩ lx1).trans g1', (World.cell?_alloc_lt _ _ ⟨cx + 1, 2, none⟩ lx1).trans g2', (World.cell?_alloc_lt _ _ ⟨cx + 1, 3, none⟩ lx1).trans g3', (World.cell?_alloc_lt _ _ ⟨cx + 1, 4, none⟩ lx1).trans g4'⟩ | with_reducible exact ⟨(World.cell?_alloc_lt _ _ ⟨cx, 0, none⟩ lx0a).trans d0'a, (World.cell?_alloc_lt _ _ ⟨cx, 1, none⟩ lx0a).trans d1'a, (World.cell?_alloc_lt _ _ ⟨cx, 2, none⟩ lx0a).trans d2'a, (World.cell?_alloc_lt _ _ ⟨cx, 3, none⟩ lx0a).trans d3'a, (World.cell?_alloc_lt _ _ ⟨cx, 4, none⟩ lx0a).trans d4'a, (World.cell?_alloc_lt _ _ ⟨cx + 1, 0, none⟩ lx1a).trans g0'a, (World.cell?_alloc_lt _ _ ⟨cx + 1, 1, none⟩ lx1a).trans g1'a, (World.cell?_alloc_lt _ _ ⟨cx + 1, 2, none⟩ lx1a).trans g2'a, (World.cell?_alloc_lt _ _ ⟨cx + 1, 3, none⟩ lx1a).trans g3'a, (World.cell?_alloc_lt _ _ ⟨cx + 1, 4, none⟩ lx1a).trans g4'a⟩ | with_reducible exact ⟨(World.cell?_alloc_lt _ _ ⟨cx, 0, none⟩ lx0b).trans d0'b, (World.cell?_alloc_lt _ _ ⟨cx, 1, none⟩ lx0b).trans d1'b, (World.cell?_alloc_lt _ _ ⟨cx, 2, none⟩ lx0b).trans d2'b, (World.cell?_alloc_lt _ _ ⟨cx, 3, none⟩ lx0b).trans d3'b, (World.cell?_alloc_lt _ _ ⟨cx, 4, none⟩ lx0b).trans d4'b, (World.cell?_alloc_lt _ _ ⟨cx + 1, 0, none⟩ lx1b).trans g0'b, (World.cell?_alloc_lt _ _ ⟨cx + 1, 1, none⟩ lx1b).trans g1'b, (World.cell?_alloc_lt _ _ ⟨cx + 1, 2, none⟩ lx1b).trans g2'b, (World.cell?_alloc_lt _ _ ⟨cx + 1, 3, none⟩ lx1b).trans g3'b, (World.cell?_alloc_lt _ _ ⟨cx + 1, 4, none⟩ lx1b).trans g4'b⟩ | go_keep) (first
          | (go_at_call 22; have hxx := hat1.len; clear hxx; refine Calls.mono (HA1.out _ w1 _ _ _ hat1 hb1 _ (by first | exact Below.refl _ _ | go_grown)) ?_; rintro e w2 ⟨za, zm, zc, rfl, hvz, hmz, hb2, kc1, kf1, kc2, kf2, hs12⟩; have d0'b : w2.cell? ⟨cx, 0, none⟩ = some (.int .i64 k) := (hb2.cell (p := ⟨cx, 0, none⟩) lx0).trans d0'; have d1'b : w2.cell? ⟨cx, 1, none⟩ = some (.string a1) := (hb2.cell (p := ⟨cx, 1, none⟩) lx0).trans d1'; have d2'b : w2.cell? ⟨cx, 2, none⟩ = some (.string a2) := (hb2.cell (p := ⟨cx, 2, none⟩) lx0).trans d2'; have d3'b : w2.cell? ⟨cx, 3, none⟩ = some (.int .i64 nu) := (hb2.cell (p := ⟨cx, 3, none⟩) lx0).trans d3'; have d4'b : w2.cell? ⟨cx, 4, none⟩ = some (.slice ad n cap) := (hb2.cell (p := ⟨cx, 4, none⟩) lx0).trans d4'; have g0'b : w2.cell? ⟨cx + 1, 0, none⟩ = some (.int .i64 k') := (hb2.cell (p := ⟨cx + 1, 0, none⟩) lx1).trans g0'; have g1'b : w2.cell? ⟨cx + 1, 1, none⟩ = some (.string a1') := (hb2.cell (p := ⟨cx + 1, 1, none⟩) lx1).trans g1'; have g2'b : w2.cell? ⟨cx + 1, 2, none⟩ = some (.string a2') := (hb2.cell (p := ⟨cx + 1, 2, none⟩) lx1).trans g2'; have g3'b : w2.cell? ⟨cx + 1, 3, none⟩ = some (.int .i64 nu') := (hb2.cell (p := ⟨cx + 1, 3, none⟩) lx1).trans g3'; have g4'b : w2.cell? ⟨cx + 1, 4, none⟩ = some (.slice ad' n' cap') := (hb2.cell (p := ⟨cx + 1, 4, none⟩) lx1).trans g4'; have lx0b : cx < w2.heap.size := Nat.lt_of_lt_of_le lx0 hb2.size; have lx1b : cx + 1 < w2.heap.size := Nat.lt_of_lt_of_le lx1 hb2.size; (try have by1 : w2.cell? ⟨wr.heap.size, 0, none⟩ = some (.slice none 0 0) := (kc1 ⟨wr.heap.size, 0, none⟩ (lt_alloc wr (.cells #[.slice none 0 0] 41)) bl1).trans bx1); (try have bg1 : w2.frozen? ⟨wr.heap.size, 0, none⟩ = false := (kf1 ⟨wr.heap.size, 0, none⟩ (lt_alloc wr (.cells #[.slice none 0 0] 41)) bl1).trans bf1); (try have by2 : w2.cell? ⟨w1.heap.size, 0, none⟩ = some (.slice none 0 0) := (kc2 ⟨w1.heap.size, 0, none⟩ (Nat.le_refl _) (lt_alloc w1 (.cells #[.slice none 0 0] 41))).trans ((cell_top w1 #[.slice none 0 0] 41 _ 0 rfl).trans rfl)); (try have bg2 : w2.frozen? ⟨w1.heap.size, 0, none⟩ = false := (kf2 ⟨w1.heap.size, 0, none⟩ (Nat.le_refl _) (lt_alloc w1 (.cells #[.slice none 0 0] 41))).trans (frozen_top w1 #[.slice none 0 0] 41 _ 0 rfl)); (try have bl2 : wr.heap.size < w2.heap.size := Nat.lt_of_lt_of_le bl1 (Nat.le_trans (Nat.le_refl _) hs12)); (try have bl3 : w1.heap.size < w2.heap.size := Nat.lt_of_lt_of_le (lt_alloc w1 (.cells #[.slice none 0 0] 41)) hs12); clear kc1 kf1 kc2 kf2)
          | (go_at_call 22; refine Calls.mono (HA0.out _ (by first | exact Below.refl _ _ | go_grown)) ?_; rintro e w1 ⟨xa, xm, xc, rfl, hat1, hb1, hk1, hf1, hs1⟩; have d0'a : w1.cell? ⟨cx, 0, none⟩ = some (.int .i64 k) := (hb1.cell (p := ⟨cx, 0, none⟩) lx0).trans d0'; have d1'a : w1.cell? ⟨cx, 1, none⟩ = some (.string a1) := (hb1.cell (p := ⟨cx, 1, none⟩) lx0).trans d1'; have d2'a : w1.cell? ⟨cx, 2, none⟩ = some (.string a2) := (hb1.cell (p := ⟨cx, 2, none⟩) lx0).trans d2'; have d3'a : w1.cell? ⟨cx, 3, none⟩ = some (.int .i64 nu) := (hb1.cell (p := ⟨cx, 3, none⟩) lx0).trans d3'; have d4'a : w1.cell? ⟨cx, 4, none⟩ = some (.slice ad n cap) := (hb1.cell (p := ⟨cx, 4, none⟩) lx0).trans d4'; have g0'a : w1.cell? ⟨cx + 1, 0, none⟩ = some (.int .i64 k') := (hb1.cell (p := ⟨cx + 1, 0, none⟩) lx1).trans g0'; have g1'a : w1.cell? ⟨cx + 1, 1, none⟩ = some (.string a1') := (hb1.cell (p := ⟨cx + 1, 1, none⟩) lx1).trans g1'; have g2'a : w1.cell? ⟨cx + 1, 2, none⟩ = some (.string a2') := (hb1.cell (p := ⟨cx + 1, 2, none⟩) lx1).trans g2'; have g3'a : w1.cell? ⟨cx + 1, 3, none⟩ = some (.int .i64 nu') := (hb1.cell (p := ⟨cx + 1, 3, none⟩) lx1).trans g3'; have g4'a : w1.cell? ⟨cx + 1, 4, none⟩ = some (.slice ad' n' cap') := (hb1.cell (p := ⟨cx + 1, 4, none⟩) lx1).trans g4'; have lx0a : cx < w1.heap.size := Nat.lt_of_lt_of_le lx0 hb1.size; have lx1a : cx + 1 < w1.heap.size := Nat.lt_of_lt_of_le lx1 hb1.size; have ny1 : ¬ w1.heap.size = cx := (by omega); have ny2 : ¬ cx = w1.heap.size := (by omega); have ny3 : ¬ w1.heap.size = cx + 1 := (by omega); have ny4 : ¬ cx + 1 = w1.heap.size := (by omega); (try have bx1 : w1.cell? ⟨wr.heap.size, 0, none⟩ = some (.slice none 0 0) := (hk1 ⟨wr.heap.size, 0, none⟩ (lt_alloc wr (.cells #[.slice none 0 0] 41))).trans ((cell_top wr #[.slice none 0 0] 41 _ 0 rfl).trans rfl)); (try have bf1 : w1.frozen? ⟨wr.heap.size, 0, none⟩ = false := (hf1 ⟨wr.heap.size, 0, none⟩ (lt_alloc wr (.cells #[.slice none 0 0] 41))).trans (frozen_top wr #[.slice none 0 0] 41 _ 0 rfl)); (try have bl1 : wr.heap.size < w1.heap.size := Nat.lt_of_lt_of_le (lt_alloc wr (.cells #[.slice none 0 0] 41)) hs1); have HS1 := Lib.hid hs1; clear hk1 hf1 hs1)))
        all_goals
          go_wp2_with fail
          go_meet
        all_goals
          subst hmz
          first | exact RowBox.made hvz hb2 | exact RowBox.set hvz hb2 by2 hb1.size bl3 | exact RowBox.set hvz hb2 by1 (Nat.le_refl _) bl2
      case rest =>
        obtain ⟨⟨ca, ra, rc, rfl, hr0, hrl, hrv⟩, hbc⟩ := hcut
        have d0c := (hbc.cell (p := ⟨cx, 0, none⟩) lx0).trans d0'
        have d1c := (hbc.cell (p := ⟨cx, 1, none⟩) lx0).trans d1'
        have d2c := (hbc.cell (p := ⟨cx, 2, none⟩) lx0).trans d2'
        have d3c := (hbc.cell (p := ⟨cx, 3, none⟩) lx0).trans d3'
        have d4c := (hbc.cell (p := ⟨cx, 4, none⟩) lx0).trans d4'
        have g0c := (hbc.cell (p := ⟨cx + 1, 0, none⟩) lx1).trans g0'
        have g1c := (hbc.cell (p := ⟨cx + 1, 1, none⟩) lx1).trans g1'
        have g2c := (hbc.cell (p := ⟨cx + 1, 2, none⟩) lx1).trans g2'
        have g3c := (hbc.cell (p := ⟨cx + 1, 3, none⟩) lx1).trans g3'
        have g4c := (hbc.cell (p := ⟨cx + 1, 4, none⟩) lx1).trans g4'
        have ly0 : cx < wc.heap.size := Nat.lt_of_lt_of_le lx0 hbc.size
        have ly1 : cx + 1 < wc.heap.size := Nat.lt_of_lt_of_le lx1 hbc.size
        have HXW := Lib.hid (AskV.below hbc _ _ (AskVP.toV _ _ HXP.out))
        have HYW := Lib.hid (AskV.below hbc _ _ (AskVP.toV _ _ HYP.out))
        have HPC := Lib.hid (HPW.out.below hbc)
        have HBC := Lib.hid ((HB9.out.trans (HW0.out.mono HB9.out.size)).trans (hbc.mono (Nat.le_trans HB9.out.size HW0.out.size)))
        obtain ⟨K, hK⟩ : ∃ K, allAt x y = K := ⟨_, rfl⟩
        obtain ⟨N, hN⟩ : ∃ N, K.length = N := ⟨_, rfl⟩
        have hkl := HKL.out
        rw [hK, hN] at hkl
        rw [hK, hN] at hr0
        rw [hK] at hrv
        have HRV := Lib.hid hrv
        have HK := Lib.hid hK
        have HN := Lib.hid hN
        clear hrv hbc hK hN nx1 nx2 nx3 nx4 d0' d1' d2' d3' d4' g0' g1' g2' g3' g4' d0'd d1'd d2'd d3'd d4'd g0'd g1'd g2'd g3'd g4'd lx0 lx1
        by_cases h12 : 12 < N
        · have HER : Hid (E = 2) := Lib.hid (by
            rw [← HE.out]
            unfold alikeE
            rw [HFX.out, HFY.out, if_neg (by simp), if_neg (by simp), HK.out, HN.out, if_pos h12])
          have HRR : Hid (R = false) := Lib.hid (by rw [← HR.out]; exact alike_bad HE.out (by rw [HER.out]; decide))
          have h12' : (12 : Int) < (N : Int) := by omega
          clear h12
          go_wp2_with fail
          go_ret2
          exact ⟨by rw [HER.out, HRR.out]; rfl, HBC.out⟩
        · have HER : Hid (E = 0) := Lib.hid (by
            rw [← HE.out]
            unfold alikeE
            rw [HFX.out, HFY.out, if_neg (by simp), if_neg (by simp), HK.out, HN.out, if_neg h12])
          have HRR : Hid (R = decide (∀ s, s < 2 ^ N → evBit s K x = evBit s K y)) := Lib.hid (by
            rw [← HR.out]
            unfold alikeB
            rw [HE.out, HER.out, HK.out, HN.out]
            rfl)
          have h12' : ¬ (12 : Int) < (N : Int) := by omega
          have hN12 : N ≤ 12 := by omega
          obtain ⟨M, hM⟩ : ∃ M, 2 ^ N = M := ⟨_, rfl⟩
          have hM12 : M ≤ 4096 := by rw [← hM]; exact Nat.pow_le_pow_right (by decide) hN12
          have hsh : wrap64 ((2 : Int) ^ N) = (M : Int) := by
            have h : ((2 : Int) ^ N) = (M : Int) := by rw [← hM]; push_cast; rfl
            rw [h]
            have h9 := IntWalk.i64_in (M : Int) (by omega)
            first | exact h9 | simpa using h9 | (rw [wrap64]; omega)
          rw [hM] at HRR
          have HIX : Hid (InK K x ∧ InK K y) := Lib.hid (by
            rw [← HK.out]
            exact ⟨fun t ht => mem_addL (mem_addL_in ht), fun t ht => mem_addL_in ht⟩)
          clear h12 hM
          go_wp2_with fail
          go_loopg [36] M (fun g z wr => ∃ s : Nat, s + g = M ∧ z = .int .i64 (s : Int) ∧ Hid (∀ q, q < s → evBit q K x = evBit q K y) ∧ Hid (Below wc.heap.size wc wr))
          case atStart => exact ⟨0, by omega, rfl, Lib.hid (fun q h => absurd h (by omega)), Lib.hid (Below.refl _ _)⟩
          case round =>
            obtain ⟨s, hs, rfl, HQ, HBQ⟩ := hrel
            by_cases hsM : s < M
            · obtain ⟨W5, hW5⟩ : ∃ W, W = wr.alloc (.cells #[.int .i64 (s : Int)] 3) := ⟨_, rfl⟩
              have hb5 : Below wr.heap.size wr W5 := by rw [hW5]; exact (Below.refl _ _).alloc (Nat.le_refl _) _
              have hbw5 : Below wc.heap.size wc W5 := HBQ.out.trans (hb5.mono HBQ.out.size)
              have HB5 := Lib.hid hbw5
              obtain ⟨c5, hc5⟩ : ∃ c, c = wr.heap.size := ⟨_, rfl⟩
              have b5 : W5.cell? ⟨c5, 0, none⟩ = some (.int .i64 (s : Int)) := by rw [hW5]; exact (cell_top _ _ _ _ _ hc5).trans rfl
              have l5 : c5 < W5.heap.size := by rw [hW5, hc5]; simp
              have HJ5 : Hid (BitAt c5 ca (s : Int) ra N rc K W5) := Lib.hid ⟨b5, (hbw5.cell (p := ⟨ca, 0, none⟩) hrl).trans hr0, l5, Nat.lt_of_lt_of_le hrl hbw5.size, HRV.out.below hbw5 (Nat.le_refl _), HPC.out.below hbw5⟩
              have HV0 : Hid (∀ W, Below W5.heap.size W5 W → Calls Tryd.prog 15 #[.agg #[.int .i64 k, .string a1, .string a2, .int .i64 nu, .slice ad n cap], .func (.func 23) #[] #[.pointer (some ⟨c5, 0, none⟩), .pointer (some ⟨ca, 0, none⟩)]] W fun e w' => e = .returned (.bool (evBit s K x)) ∧ Below W.heap.size W w') := Lib.hid (fun W hW => value_bit c5 ca s ra N rc K (by omega) HN.out.symm hN12 x _ W HFA.out.1 HIX.out.1 (HJ5.out.below hW) (AskV.below (hbw5.trans (hW.mono hbw5.size)) _ _ HXW.out))
              have HV1 : Hid (∀ W, Below W5.heap.size W5 W → Calls Tryd.prog 15 #[.agg #[.int .i64 k', .string a1', .string a2', .int .i64 nu', .slice ad' n' cap'], .func (.func 23) #[] #[.pointer (some ⟨c5, 0, none⟩), .pointer (some ⟨ca, 0, none⟩)]] W fun e w' => e = .returned (.bool (evBit s K y)) ∧ Below W.heap.size W w') := Lib.hid (fun W hW => value_bit c5 ca s ra N rc K (by omega) HN.out.symm hN12 y _ W HFB.out.1 HIX.out.2 (HJ5.out.below hW) (AskV.below (hbw5.trans (hW.mono hbw5.size)) _ _ HYW.out))
              obtain ⟨bx, hbx⟩ : ∃ b, evBit s K x = b := ⟨_, rfl⟩
              obtain ⟨by', hby⟩ : ∃ b, evBit s K y = b := ⟨_, rfl⟩
              rw [hbx] at HV0
              rw [hby] at HV1
              have HBX := Lib.hid hbx
              have HBY := Lib.hid hby
              have d0w := (hbw5.cell (p := ⟨cx, 0, none⟩) ly0).trans d0c
              have d1w := (hbw5.cell (p := ⟨cx, 1, none⟩) ly0).trans d1c
              have d2w := (hbw5.cell (p := ⟨cx, 2, none⟩) ly0).trans d2c
              have d3w := (hbw5.cell (p := ⟨cx, 3, none⟩) ly0).trans d3c
              have d4w := (hbw5.cell (p := ⟨cx, 4, none⟩) ly0).trans d4c
              have g0w := (hbw5.cell (p := ⟨cx + 1, 0, none⟩) ly1).trans g0c
              have g1w := (hbw5.cell (p := ⟨cx + 1, 1, none⟩) ly1).trans g1c
              have g2w := (hbw5.cell (p := ⟨cx + 1, 2, none⟩) ly1).trans g2c
              have g3w := (hbw5.cell (p := ⟨cx + 1, 3, none⟩) ly1).trans g3c
              have g4w := (hbw5.cell (p := ⟨cx + 1, 4, none⟩) ly1).trans g4c
              have d0wd : W5.drew.cell? ⟨cx, 0, none⟩ = some (.int .i64 k) := d0w
              have d1wd : W5.drew.cell? ⟨cx, 1, none⟩ = some (.string a1) := d1w
              have d2wd : W5.drew.cell? ⟨cx, 2, none⟩ = some (.string a2) := d2w
              have d3wd : W5.drew.cell? ⟨cx, 3, none⟩ = some (.int .i64 nu) := d3w
              have d4wd : W5.drew.cell? ⟨cx, 4, none⟩ = some (.slice ad n cap) := d4w
              have g0wd : W5.drew.cell? ⟨cx + 1, 0, none⟩ = some (.int .i64 k') := g0w
              have g1wd : W5.drew.cell? ⟨cx + 1, 1, none⟩ = some (.string a1') := g1w
              have g2wd : W5.drew.cell? ⟨cx + 1, 2, none⟩ = some (.string a2') := g2w
              have g3wd : W5.drew.cell? ⟨cx + 1, 3, none⟩ = some (.int .i64 nu') := g3w
              have g4wd : W5.drew.cell? ⟨cx + 1, 4, none⟩ = some (.slice ad' n' cap') := g4w
              have lz0 : cx < W5.heap.size := Nat.lt_of_lt_of_le ly0 hbw5.size
              have lz1 : cx + 1 < W5.heap.size := Nat.lt_of_lt_of_le ly1 hbw5.size
              have hs1 : ((s : Int) < (M : Int)) := by omega
              clear hbx hby hb5 hbw5 b5 l5
              cases bx with
              | false =>
                cases by' with
                | false =>
                  go_upto_region 15 with fail
                  rw [← hW5, ← hc5]
                  clear hW5 hc5
                  (go_region_held3 (fun W => W.cell? ⟨cx, 0, none⟩ = some (.int .i64 k) ∧ W.cell? ⟨cx, 1, none⟩ = some (.string a1) ∧ W.cell? ⟨cx, 2, none⟩ = some (.string a2) ∧ W.cell? ⟨cx, 3, none⟩ = some (.int .i64 nu) ∧ W.cell? ⟨cx, 4, none⟩ = some (.slice ad n cap) ∧ W.cell? ⟨cx + 1, 0, none⟩ = some (.int .i64 k') ∧ W.cell? ⟨cx + 1, 1, none⟩ = some (.string a1') ∧ W.cell? ⟨cx + 1, 2, none⟩ = some (.string a2') ∧ W.cell? ⟨cx + 1, 3, none⟩ = some (.int .i64 nu') ∧ W.cell? ⟨cx + 1, 4, none⟩ = some (.slice ad' n' cap')) (first | with_reducible exact ⟨d0w, d1w, d2w, d3w, d4w, g0w, g1w, g2w, g3w, g4w⟩ | with_reducible exact ⟨d0wd, d1wd, d2wd, d3wd, d4wd, g0wd, g1wd, g2wd, g3wd, g4wd⟩ | with_reducible exact ⟨d0wa, d1wa, d2wa, d3wa, d4wa, g0wa, g1wa, g2wa, g3wa, g4wa⟩ | with_reducible exact ⟨d0wb, d1wb, d2wb, d3wb, d4wb, g0wb, g1wb, g2wb, g3wb, g4wb⟩ | go_keep) (first | (go_at_call 15; have hxx := hb1.size; clear hxx; refine Calls.mono (HV1.out _ ((show Below W5.heap.size W5 W5.drew from by go_grown).trans hb1)) ?_; rintro e w2 ⟨rfl, hb2⟩; have d0wb : w2.cell? ⟨cx, 0, none⟩ = some (.int .i64 k) := (hb2.cell (p := ⟨cx, 0, none⟩) (Nat.lt_of_lt_of_le lz0 hb1.size)).trans d0wa; have d1wb : w2.cell? ⟨cx, 1, none⟩ = some (.string a1) := (hb2.cell (p := ⟨cx, 1, none⟩) (Nat.lt_of_lt_of_le lz0 hb1.size)).trans d1wa; have d2wb : w2.cell? ⟨cx, 2, none⟩ = some (.string a2) := (hb2.cell (p := ⟨cx, 2, none⟩) (Nat.lt_of_lt_of_le lz0 hb1.size)).trans d2wa; have d3wb : w2.cell? ⟨cx, 3, none⟩ = some (.int .i64 nu) := (hb2.cell (p := ⟨cx, 3, none⟩) (Nat.lt_of_lt_of_le lz0 hb1.size)).trans d3wa; have d4wb : w2.cell? ⟨cx, 4, none⟩ = some (.slice ad n cap) := (hb2.cell (p := ⟨cx, 4, none⟩) (Nat.lt_of_lt_of_le lz0 hb1.size)).trans d4wa; have g0wb : w2.cell? ⟨cx + 1, 0, none⟩ = some (.int .i64 k') := (hb2.cell (p := ⟨cx + 1, 0, none⟩) (Nat.lt_of_lt_of_le lz1 hb1.size)).trans g0wa; have g1wb : w2.cell? ⟨cx + 1, 1, none⟩ = some (.string a1') := (hb2.cell (p := ⟨cx + 1, 1, none⟩) (Nat.lt_of_lt_of_le lz1 hb1.size)).trans g1wa; have g2wb : w2.cell? ⟨cx + 1, 2, none⟩ = some (.string a2') := (hb2.cell (p := ⟨cx + 1, 2, none⟩) (Nat.lt_of_lt_of_le lz1 hb1.size)).trans g2wa; have g3wb : w2.cell? ⟨cx + 1, 3, none⟩ = some (.int .i64 nu') := (hb2.cell (p := ⟨cx + 1, 3, none⟩) (Nat.lt_of_lt_of_le lz1 hb1.size)).trans g3wa; have g4wb : w2.cell? ⟨cx + 1, 4, none⟩ = some (.slice ad' n' cap') := (hb2.cell (p := ⟨cx + 1, 4, none⟩) (Nat.lt_of_lt_of_le lz1 hb1.size)).trans g4wa) | (go_at_call 15; refine Calls.mono (HV0.out _ (by first | exact Below.refl _ _ | go_grown)) ?_; rintro e w1 ⟨rfl, hb1⟩; have d0wa : w1.cell? ⟨cx, 0, none⟩ = some (.int .i64 k) := (hb1.cell (p := ⟨cx, 0, none⟩) lz0).trans d0w; have d1wa : w1.cell? ⟨cx, 1, none⟩ = some (.string a1) := (hb1.cell (p := ⟨cx, 1, none⟩) lz0).trans d1w; have d2wa : w1.cell? ⟨cx, 2, none⟩ = some (.string a2) := (hb1.cell (p := ⟨cx, 2, none⟩) lz0).trans d2w; have d3wa : w1.cell? ⟨cx, 3, none⟩ = some (.int .i64 nu) := (hb1.cell (p := ⟨cx, 3, none⟩) lz0).trans d3w; have d4wa : w1.cell? ⟨cx, 4, none⟩ = some (.slice ad n cap) := (hb1.cell (p := ⟨cx, 4, none⟩) lz0).trans d4w; have g0wa : w1.cell? ⟨cx + 1, 0, none⟩ = some (.int .i64 k') := (hb1.cell (p := ⟨cx + 1, 0, none⟩) lz1).trans g0w; have g1wa : w1.cell? ⟨cx + 1, 1, none⟩ = some (.string a1') := (hb1.cell (p := ⟨cx + 1, 1, none⟩) lz1).trans g1w; have g2wa : w1.cell? ⟨cx + 1, 2, none⟩ = some (.string a2') := (hb1.cell (p := ⟨cx + 1, 2, none⟩) lz1).trans g2w; have g3wa : w1.cell? ⟨cx + 1, 3, none⟩ = some (.int .i64 nu') := (hb1.cell (p := ⟨cx + 1, 3, none⟩) lz1).trans g3w; have g4wa : w1.cell? ⟨cx + 1, 4, none⟩ = some (.slice ad' n' cap') := (hb1.cell (p := ⟨cx + 1, 4, none⟩) lz1).trans g4w)))
                  all_goals
                    go_wp2_with fail
                    go_roundg (M - (s + 1))
                    case measure => omega
                    case rel =>
                      refine ⟨s + 1, by omega, by simp, Lib.hid (fun q hq => ?_), Lib.hid (HB5.out.trans ((((show Below W5.heap.size W5 W5.drew from by go_grown).trans hb1).trans (hb2.mono (by have := hb1.size; exact this))).mono HB5.out.size))⟩
                      by_cases e : q = s
                      · rw [e, HBX.out, HBY.out]
                      · exact HQ.out q (by omega)
                | true =>
                  have HRF : Hid (R = false) := Lib.hid (by
                    rw [HRR.out, decide_eq_false_iff_not]
                    intro h
                    have h2 := h s hsM
                    rw [HBX.out, HBY.out] at h2
                    cases h2)
                  go_upto_region 15 with fail
                  rw [← hW5, ← hc5]
                  clear hW5 hc5
                  (go_region_held3 (fun W => W.cell? ⟨cx, 0, none⟩ = some (.int .i64 k) ∧ W.cell? ⟨cx, 1, none⟩ = some (.string a1) ∧ W.cell? ⟨cx, 2, none⟩ = some (.string a2) ∧ W.cell? ⟨cx, 3, none⟩ = some (.int .i64 nu) ∧ W.cell? ⟨cx, 4, none⟩ = some (.slice ad n cap) ∧ W.cell? ⟨cx + 1, 0, none⟩ = some (.int .i64 k') ∧ W.cell? ⟨cx + 1, 1, none⟩ = some (.string a1') ∧ W.cell? ⟨cx + 1, 2, none⟩ = some (.string a2') ∧ W.cell? ⟨cx + 1, 3, none⟩ = some (.int .i64 nu') ∧ W.cell? ⟨cx + 1, 4, none⟩ = some (.slice ad' n' cap')) (first | with_reducible exact ⟨d0w, d1w, d2w, d3w, d4w, g0w, g1w, g2w, g3w, g4w⟩ | with_reducible exact ⟨d0wd, d1wd, d2wd, d3wd, d4wd, g0wd, g1wd, g2wd, g3wd, g4wd⟩ | with_reducible exact ⟨d0wa, d1wa, d2wa, d3wa, d4wa, g0wa, g1wa, g2wa, g3wa, g4wa⟩ | with_reducible exact ⟨d0wb, d1wb, d2wb, d3wb, d4wb, g0wb, g1wb, g2wb, g3wb, g4wb⟩ | go_keep) (first | (go_at_call 15; have hxx := hb1.size; clear hxx; refine Calls.mono (HV1.out _ ((show Below W5.heap.size W5 W5.drew from by go_grown).trans hb1)) ?_; rintro e w2 ⟨rfl, hb2⟩; have d0wb : w2.cell? ⟨cx, 0, none⟩ = some (.int .i64 k) := (hb2.cell (p := ⟨cx, 0, none⟩) (Nat.lt_of_lt_of_le lz0 hb1.size)).trans d0wa; have d1wb : w2.cell? ⟨cx, 1, none⟩ = some (.string a1) := (hb2.cell (p := ⟨cx, 1, none⟩) (Nat.lt_of_lt_of_le lz0 hb1.size)).trans d1wa; have d2wb : w2.cell? ⟨cx, 2, none⟩ = some (.string a2) := (hb2.cell (p := ⟨cx, 2, none⟩) (Nat.lt_of_lt_of_le lz0 hb1.size)).trans d2wa; have d3wb : w2.cell? ⟨cx, 3, none⟩ = some (.int .i64 nu) := (hb2.cell (p := ⟨cx, 3, none⟩) (Nat.lt_of_lt_of_le lz0 hb1.size)).trans d3wa; have d4wb : w2.cell? ⟨cx, 4, none⟩ = some (.slice ad n cap) := (hb2.cell (p := ⟨cx, 4, none⟩) (Nat.lt_of_lt_of_le lz0 hb1.size)).trans d4wa; have g0wb : w2.cell? ⟨cx + 1, 0, none⟩ = some (.int .i64 k') := (hb2.cell (p := ⟨cx + 1, 0, none⟩) (Nat.lt_of_lt_of_le lz1 hb1.size)).trans g0wa; have g1wb : w2.cell? ⟨cx + 1, 1, none⟩ = some (.string a1') := (hb2.cell (p := ⟨cx + 1, 1, none⟩) (Nat.lt_of_lt_of_le lz1 hb1.size)).trans g1wa; have g2wb : w2.cell? ⟨cx + 1, 2, none⟩ = some (.string a2') := (hb2.cell (p := ⟨cx + 1, 2, none⟩) (Nat.lt_of_lt_of_le lz1 hb1.size)).trans g2wa; have g3wb : w2.cell? ⟨cx + 1, 3, none⟩ = some (.int .i64 nu') := (hb2.cell (p := ⟨cx + 1, 3, none⟩) (Nat.lt_of_lt_of_le lz1 hb1.size)).trans g3wa; have g4wb : w2.cell? ⟨cx + 1, 4, none⟩ = some (.slice ad' n' cap') := (hb2.cell (p := ⟨cx + 1, 4, none⟩) (Nat.lt_of_lt_of_le lz1 hb1.size)).trans g4wa) | (go_at_call 15; refine Calls.mono (HV0.out _ (by first | exact Below.refl _ _ | go_grown)) ?_; rintro e w1 ⟨rfl, hb1⟩; have d0wa : w1.cell? ⟨cx, 0, none⟩ = some (.int .i64 k) := (hb1.cell (p := ⟨cx, 0, none⟩) lz0).trans d0w; have d1wa : w1.cell? ⟨cx, 1, none⟩ = some (.string a1) := (hb1.cell (p := ⟨cx, 1, none⟩) lz0).trans d1w; have d2wa : w1.cell? ⟨cx, 2, none⟩ = some (.string a2) := (hb1.cell (p := ⟨cx, 2, none⟩) lz0).trans d2w; have d3wa : w1.cell? ⟨cx, 3, none⟩ = some (.int .i64 nu) := (hb1.cell (p := ⟨cx, 3, none⟩) lz0).trans d3w; have d4wa : w1.cell? ⟨cx, 4, none⟩ = some (.slice ad n cap) := (hb1.cell (p := ⟨cx, 4, none⟩) lz0).trans d4w; have g0wa : w1.cell? ⟨cx + 1, 0, none⟩ = some (.int .i64 k') := (hb1.cell (p := ⟨cx + 1, 0, none⟩) lz1).trans g0w; have g1wa : w1.cell? ⟨cx + 1, 1, none⟩ = some (.string a1') := (hb1.cell (p := ⟨cx + 1, 1, none⟩) lz1).trans g1w; have g2wa : w1.cell? ⟨cx + 1, 2, none⟩ = some (.string a2') := (hb1.cell (p := ⟨cx + 1, 2, none⟩) lz1).trans g2w; have g3wa : w1.cell? ⟨cx + 1, 3, none⟩ = some (.int .i64 nu') := (hb1.cell (p := ⟨cx + 1, 3, none⟩) lz1).trans g3w; have g4wa : w1.cell? ⟨cx + 1, 4, none⟩ = some (.slice ad' n' cap') := (hb1.cell (p := ⟨cx + 1, 4, none⟩) lz1).trans g4w)))
                  all_goals
                    go_wp2_with fail
                    go_ret2
                    exact ⟨by rw [HER.out, HRF.out]; rfl, HBC.out.trans ((HB5.out.trans ((((show Below W5.heap.size W5 W5.drew from by go_grown).trans hb1).trans (hb2.mono (by have := hb1.size; exact this))).mono HB5.out.size)).mono HBC.out.size)⟩
              | true =>
                cases by' with
                | false =>
                  have HRF : Hid (R = false) := Lib.hid (by
                    rw [HRR.out, decide_eq_false_iff_not]
                    intro h
                    have h2 := h s hsM
                    rw [HBX.out, HBY.out] at h2
                    cases h2)
                  go_upto_region 15 with fail
                  rw [← hW5, ← hc5]
                  clear hW5 hc5
                  (go_region_held3 (fun W => W.cell? ⟨cx, 0, none⟩ = some (.int .i64 k) ∧ W.cell? ⟨cx, 1, none⟩ = some (.string a1) ∧ W.cell? ⟨cx, 2, none⟩ = some (.string a2) ∧ W.cell? ⟨cx, 3, none⟩ = some (.int .i64 nu) ∧ W.cell? ⟨cx, 4, none⟩ = some (.slice ad n cap) ∧ W.cell? ⟨cx + 1, 0, none⟩ = some (.int .i64 k') ∧ W.cell? ⟨cx + 1, 1, none⟩ = some (.string a1') ∧ W.cell? ⟨cx + 1, 2, none⟩ = some (.string a2') ∧ W.cell? ⟨cx + 1, 3, none⟩ = some (.int .i64 nu') ∧ W.cell? ⟨cx + 1, 4, none⟩ = some (.slice ad' n' cap')) (first | with_reducible exact ⟨d0w, d1w, d2w, d3w, d4w, g0w, g1w, g2w, g3w, g4w⟩ | with_reducible exact ⟨d0wd, d1wd, d2wd, d3wd, d4wd, g0wd, g1wd, g2wd, g3wd, g4wd⟩ | with_reducible exact ⟨d0wa, d1wa, d2wa, d3wa, d4wa, g0wa, g1wa, g2wa, g3wa, g4wa⟩ | with_reducible exact ⟨d0wb, d1wb, d2wb, d3wb, d4wb, g0wb, g1wb, g2wb, g3wb, g4wb⟩ | go_keep) (first | (go_at_call 15; have hxx := hb1.size; clear hxx; refine Calls.mono (HV1.out _ ((show Below W5.heap.size W5 W5.drew from by go_grown).trans hb1)) ?_; rintro e w2 ⟨rfl, hb2⟩; have d0wb : w2.cell? ⟨cx, 0, none⟩ = some (.int .i64 k) := (hb2.cell (p := ⟨cx, 0, none⟩) (Nat.lt_of_lt_of_le lz0 hb1.size)).trans d0wa; have d1wb : w2.cell? ⟨cx, 1, none⟩ = some (.string a1) := (hb2.cell (p := ⟨cx, 1, none⟩) (Nat.lt_of_lt_of_le lz0 hb1.size)).trans d1wa; have d2wb : w2.cell? ⟨cx, 2, none⟩ = some (.string a2) := (hb2.cell (p := ⟨cx, 2, none⟩) (Nat.lt_of_lt_of_le lz0 hb1.size)).trans d2wa; have d3wb : w2.cell? ⟨cx, 3, none⟩ = some (.int .i64 nu) := (hb2.cell (p := ⟨cx, 3, none⟩) (Nat.lt_of_lt_of_le lz0 hb1.size)).trans d3wa; have d4wb : w2.cell? ⟨cx, 4, none⟩ = some (.slice ad n cap) := (hb2.cell (p := ⟨cx, 4, none⟩) (Nat.lt_of_lt_of_le lz0 hb1.size)).trans d4wa; have g0wb : w2.cell? ⟨cx + 1, 0, none⟩ = some (.int .i64 k') := (hb2.cell (p := ⟨cx + 1, 0, none⟩) (Nat.lt_of_lt_of_le lz1 hb1.size)).trans g0wa; have g1wb : w2.cell? ⟨cx + 1, 1, none⟩ = some (.string a1') := (hb2.cell (p := ⟨cx + 1, 1, none⟩) (Nat.lt_of_lt_of_le lz1 hb1.size)).trans g1wa; have g2wb : w2.cell? ⟨cx + 1, 2, none⟩ = some (.string a2') := (hb2.cell (p := ⟨cx + 1, 2, none⟩) (Nat.lt_of_lt_of_le lz1 hb1.size)).trans g2wa; have g3wb : w2.cell? ⟨cx + 1, 3, none⟩ = some (.int .i64 nu') := (hb2.cell (p := ⟨cx + 1, 3, none⟩) (Nat.lt_of_lt_of_le lz1 hb1.size)).trans g3wa; have g4wb : w2.cell? ⟨cx + 1, 4, none⟩ = some (.slice ad' n' cap') := (hb2.cell (p := ⟨cx + 1, 4, none⟩) (Nat.lt_of_lt_of_le lz1 hb1.size)).trans g4wa) | (go_at_call 15; refine Calls.mono (HV0.out _ (by first | exact Below.refl _ _ | go_grown)) ?_; rintro e w1 ⟨rfl, hb1⟩; have d0wa : w1.cell? ⟨cx, 0, none⟩ = some (.int .i64 k) := (hb1.cell (p := ⟨cx, 0, none⟩) lz0).trans d0w; have d1wa : w1.cell? ⟨cx, 1, none⟩ = some (.string a1) := (hb1.cell (p := ⟨cx, 1, none⟩) lz0).trans d1w; have d2wa : w1.cell? ⟨cx, 2, none⟩ = some (.string a2) := (hb1.cell (p := ⟨cx, 2, none⟩) lz0).trans d2w; have d3wa : w1.cell? ⟨cx, 3, none⟩ = some (.int .i64 nu) := (hb1.cell (p := ⟨cx, 3, none⟩) lz0).trans d3w; have d4wa : w1.cell? ⟨cx, 4, none⟩ = some (.slice ad n cap) := (hb1.cell (p := ⟨cx, 4, none⟩) lz0).trans d4w; have g0wa : w1.cell? ⟨cx + 1, 0, none⟩ = some (.int .i64 k') := (hb1.cell (p := ⟨cx + 1, 0, none⟩) lz1).trans g0w; have g1wa : w1.cell? ⟨cx + 1, 1, none⟩ = some (.string a1') := (hb1.cell (p := ⟨cx + 1, 1, none⟩) lz1).trans g1w; have g2wa : w1.cell? ⟨cx + 1, 2, none⟩ = some (.string a2') := (hb1.cell (p := ⟨cx + 1, 2, none⟩) lz1).trans g2w; have g3wa : w1.cell? ⟨cx + 1, 3, none⟩ = some (.int .i64 nu') := (hb1.cell (p := ⟨cx + 1, 3, none⟩) lz1).trans g3w; have g4wa : w1.cell? ⟨cx + 1, 4, none⟩ = some (.slice ad' n' cap') := (hb1.cell (p := ⟨cx + 1, 4, none⟩) lz1).trans g4w)))
                  all_goals
                    go_wp2_with fail
                    go_ret2
                    exact ⟨by rw [HER.out, HRF.out]; rfl, HBC.out.trans ((HB5.out.trans ((((show Below W5.heap.size W5 W5.drew from by go_grown).trans hb1).trans (hb2.mono (by have := hb1.size; exact this))).mono HB5.out.size)).mono HBC.out.size)⟩
                | true =>
                  go_upto_region 15 with fail
                  rw [← hW5, ← hc5]
                  clear hW5 hc5
                  (go_region_held3 (fun W => W.cell? ⟨cx, 0, none⟩ = some (.int .i64 k) ∧ W.cell? ⟨cx, 1, none⟩ = some (.string a1) ∧ W.cell? ⟨cx, 2, none⟩ = some (.string a2) ∧ W.cell? ⟨cx, 3, none⟩ = some (.int .i64 nu) ∧ W.cell? ⟨cx, 4, none⟩ = some (.slice ad n cap) ∧ W.cell? ⟨cx + 1, 0, none⟩ = some (.int .i64 k') ∧ W.cell? ⟨cx + 1, 1, none⟩ = some (.string a1') ∧ W.cell? ⟨cx + 1, 2, none⟩ = some (.string a2') ∧ W.cell? ⟨cx + 1, 3, none⟩ = some (.int .i64 nu') ∧ W.cell? ⟨cx + 1, 4, none⟩ = some (.slice ad' n' cap')) (first | with_reducible exact ⟨d0w, d1w, d2w, d3w, d4w, g0w, g1w, g2w, g3w, g4w⟩ | with_reducible exact ⟨d0wd, d1wd, d2wd, d3wd, d4wd, g0wd, g1wd, g2wd, g3wd, g4wd⟩ | with_reducible exact ⟨d0wa, d1wa, d2wa, d3wa, d4wa, g0wa, g1wa, g2wa, g3wa, g4wa⟩ | with_reducible exact ⟨d0wb, d1wb, d2wb, d3wb, d4wb, g0wb, g1wb, g2wb, g3wb, g4wb⟩ | go_keep) (first | (go_at_call 15; have hxx := hb1.size; clear hxx; refine Calls.mono (HV1.out _ ((show Below W5.heap.size W5 W5.drew from by go_grown).trans hb1)) ?_; rintro e w2 ⟨rfl, hb2⟩; have d0wb : w2.cell? ⟨cx, 0, none⟩ = some (.int .i64 k) := (hb2.cell (p := ⟨cx, 0, none⟩) (Nat.lt_of_lt_of_le lz0 hb1.size)).trans d0wa; have d1wb : w2.cell? ⟨cx, 1, none⟩ = some (.string a1) := (hb2.cell (p := ⟨cx, 1, none⟩) (Nat.lt_of_lt_of_le lz0 hb1.size)).trans d1wa; have d2wb : w2.cell? ⟨cx, 2, none⟩ = some (.string a2) := (hb2.cell (p := ⟨cx, 2, none⟩) (Nat.lt_of_lt_of_le lz0 hb1.size)).trans d2wa; have d3wb : w2.cell? ⟨cx, 3, none⟩ = some (.int .i64 nu) := (hb2.cell (p := ⟨cx, 3, none⟩) (Nat.lt_of_lt_of_le lz0 hb1.size)).trans d3wa; have d4wb : w2.cell? ⟨cx, 4, none⟩ = some (.slice ad n cap) := (hb2.cell (p := ⟨cx, 4, none⟩) (Nat.lt_of_lt_of_le lz0 hb1.size)).trans d4wa; have g0wb : w2.cell? ⟨cx + 1, 0, none⟩ = some (.int .i64 k') := (hb2.cell (p := ⟨cx + 1, 0, none⟩) (Nat.lt_of_lt_of_le lz1 hb1.size)).trans g0wa; have g1wb : w2.cell? ⟨cx + 1, 1, none⟩ = some (.string a1') := (hb2.cell (p := ⟨cx + 1, 1, none⟩) (Nat.lt_of_lt_of_le lz1 hb1.size)).trans g1wa; have g2wb : w2.cell? ⟨cx + 1, 2, none⟩ = some (.string a2') := (hb2.cell (p := ⟨cx + 1, 2, none⟩) (Nat.lt_of_lt_of_le lz1 hb1.size)).trans g2wa; have g3wb : w2.cell? ⟨cx + 1, 3, none⟩ = some (.int .i64 nu') := (hb2.cell (p := ⟨cx + 1, 3, none⟩) (Nat.lt_of_lt_of_le lz1 hb1.size)).trans g3wa; have g4wb : w2.cell? ⟨cx + 1, 4, none⟩ = some (.slice ad' n' cap') := (hb2.cell (p := ⟨cx + 1, 4, none⟩) (Nat.lt_of_lt_of_le lz1 hb1.size)).trans g4wa) | (go_at_call 15; refine Calls.mono (HV0.out _ (by first | exact Below.refl _ _ | go_grown)) ?_; rintro e w1 ⟨rfl, hb1⟩; have d0wa : w1.cell? ⟨cx, 0, none⟩ = some (.int .i64 k) := (hb1.cell (p := ⟨cx, 0, none⟩) lz0).trans d0w; have d1wa : w1.cell? ⟨cx, 1, none⟩ = some (.string a1) := (hb1.cell (p := ⟨cx, 1, none⟩) lz0).trans d1w; have d2wa : w1.cell? ⟨cx, 2, none⟩ = some (.string a2) := (hb1.cell (p := ⟨cx, 2, none⟩) lz0).trans d2w; have d3wa : w1.cell? ⟨cx, 3, none⟩ = some (.int .i64 nu) := (hb1.cell (p := ⟨cx, 3, none⟩) lz0).trans d3w; have d4wa : w1.cell? ⟨cx, 4, none⟩ = some (.slice ad n cap) := (hb1.cell (p := ⟨cx, 4, none⟩) lz0).trans d4w; have g0wa : w1.cell? ⟨cx + 1, 0, none⟩ = some (.int .i64 k') := (hb1.cell (p := ⟨cx + 1, 0, none⟩) lz1).trans g0w; have g1wa : w1.cell? ⟨cx + 1, 1, none⟩ = some (.string a1') := (hb1.cell (p := ⟨cx + 1, 1, none⟩) lz1).trans g1w; have g2wa : w1.cell? ⟨cx + 1, 2, none⟩ = some (.string a2') := (hb1.cell (p := ⟨cx + 1, 2, none⟩) lz1).trans g2w; have g3wa : w1.cell? ⟨cx + 1, 3, none⟩ = some (.int .i64 nu') := (hb1.cell (p := ⟨cx + 1, 3, none⟩) lz1).trans g3w; have g4wa : w1.cell? ⟨cx + 1, 4, none⟩ = some (.slice ad' n' cap') := (hb1.cell (p := ⟨cx + 1, 4, none⟩) lz1).trans g4w)))
                  all_goals
                    go_wp2_with fail
                    go_roundg (M - (s + 1))
                    case measure => omega
                    case rel =>
                      refine ⟨s + 1, by omega, by simp, Lib.hid (fun q hq => ?_), Lib.hid (HB5.out.trans ((((show Below W5.heap.size W5 W5.drew from by go_grown).trans hb1).trans (hb2.mono (by have := hb1.size; exact this))).mono HB5.out.size))⟩
                      by_cases e : q = s
                      · rw [e, HBX.out, HBY.out]
                      · exact HQ.out q (by omega)
            · obtain rfl : s = M := by omega
              have HRF : Hid (R = true) := Lib.hid (by rw [HRR.out, decide_eq_true_iff]; exact HQ.out)
              have hs1 : ¬ ((s : Int) < (s : Int)) := by omega
              go_wp2_with fail
              go_ret2
              exact ⟨by rw [HER.out, HRF.out]; rfl, HBC.out.trans (HBQ.out.mono HBC.out.size)⟩
end Go.Proofs.YtkelkpfjkjcmgaaDoor
