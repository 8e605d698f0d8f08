/- Contracts: Fill's two closures: what they write. -/
import Derived.Test.YtooocllampkibaaDoorTmplMap
import Derived.Test.YtooocllampkibaaDoorTmplParse
import Derived.Test.YtooocllampkibaaDoorTmplNames
import Derived.Test.YtooocllampkibaaDoorTmplPut
import Derived.Lib.OthersKept
import Derived.Lib.FrozenHead
namespace Go.Proofs.YtooocllampkibaaDoor
open Go.ChangeShapes Go.WideShapes Go.ChangeAt Go.RowKit
set_option linter.unusedVariables false
open Tp
theorem BuilderAtF.below' {T e : TypeId} {B b : Nat} {p : Value} {bs : List Value} {W W' : World} (h : Lib.BuilderAtF T e B b p bs W) (hb : Below W.heap.size W W') : Lib.BuilderAtF T e B b p bs W' := by
  have hlt := h.lt
  obtain ⟨hB, v, hv, hown, hne⟩ := h
  exact ⟨hB, v, (hb.block b hlt).trans hv, hown.kept (row := none) ⟨hb.os, hb.tape, hb.output, hb.size, fun k hk _ => hb.block k hk⟩ (Classical.em _), hne⟩
theorem IsBuilderF.below' {T e : TypeId} {B b : Nat} {bs : List Value} {W W' : World} (h : Lib.IsBuilderF T e B b bs W) (hb : Below W.heap.size W W') : Lib.IsBuilderF T e B b bs W' :=
  h.elim (fun x => .inl (BuilderAtF.below' x hb)) (fun x => .inr (BuilderAtF.below' x hb))
theorem IsBuilderF.lt {T e : TypeId} {B b : Nat} {bs : List Value} {W : World} (h : Lib.IsBuilderF T e B b bs W) : b < W.heap.size := h.elim (·.lt) (·.lt)
/-- what Fill has written -/
structure FlI (b c8 gm q : Nat) (l : List Lab) (w0 : World) (m : Int) (W : Bs) (w : World) : Prop where
  bld : ∃ acc, Lib.IsBuilderF 48 5 b b (Lib.byteCells acc) w ∧ PutI acc W ∧ acc.length ≤ 140737488353232
  fn : w.heap[b + 1]? = some (.cells #[.func (.func 17) #[] #[.pointer (some ⟨b, 0, none⟩)]] 39 (0, 0))
  mc : w.cell? ⟨c8, 0, none⟩ = some (.map (some gm))
  map : BoxL gm q l w
  below : Below w0.heap.size w0 w
  base : w0.heap.size ≤ b
  lt8 : c8 < b
  ltm : gm < b
  pos : 0 < b
  max : w.cell? ⟨0, 0, none⟩ = some (.int .i64 m)
theorem heap_lt {w : World} {k : Nat} {o : Obj} (h : w.heap[k]? = some o) : k < w.heap.size := (Array.getElem?_eq_some_iff.1 h).1
theorem FlI.step {b c8 gm q : Nat} {l : List Lab} {w0 w w' : World} {m : Int} {W : Bs} (hI : FlI b c8 gm q l w0 m W w) (hb : Below w.heap.size w w') : FlI b c8 gm q l w0 m W w' := by
  obtain ⟨acc, h1, h2, h3⟩ := hI.bld
  have hlt := heap_lt hI.fn
  have l8 := hI.lt8
  have lm := hI.ltm
  have lp := hI.pos
  exact ⟨⟨acc, IsBuilderF.below' h1 hb, h2, h3⟩, (hb.block _ hlt).trans hI.fn, (hb.cell (p := ⟨c8, 0, none⟩) (show c8 < w.heap.size by omega)).trans hI.mc, hI.map.kept (hb.block _ (by omega)), hI.below.trans (hb.mono (by have := hI.base; omega)), hI.base, l8, lm, lp, (hb.cell (p := ⟨0, 0, none⟩) (show 0 < w.heap.size by omega)).trans hI.max⟩
theorem FlI.wrote {b c8 gm q : Nat} {l : List Lab} {w0 w w' : World} {m : Int} {W acc t : Bs} (hI : FlI b c8 gm q l w0 m W w) (hp : PutI acc W) (h2 : acc.length ≤ 2000) (ht : t.length ≤ 140737488351232) (hb : Lib.BuilderAtF 48 5 b b (.pointer (some ⟨b, 0, none⟩)) (Lib.byteCells (acc ++ t)) w') (hB : Below b w w') (hk : Lib.OthersKept 5 (some b) w w') : FlI b c8 gm q l w0 m (W ++ t) w' := by
  have l8 := hI.lt8
  have lm := hI.ltm
  have lp := hI.pos
  have e : put acc t = acc ++ t := by unfold put; rw [if_pos h2]
  refine ⟨⟨acc ++ t, .inr hb, by rw [← e]; exact hp.put t, by rw [List.length_append]; omega⟩, hk _ _ hI.fn (by simp) (by intro c fz h; cases h), (hB.cell (p := ⟨c8, 0, none⟩) l8).trans hI.mc, hI.map.kept (hB.block _ lm), hI.below.trans (hB.mono hI.base), hI.base, l8, lm, lp, (hB.cell (p := ⟨0, 0, none⟩) lp).trans hI.max⟩
theorem FlI.kept {b c8 gm q : Nat} {l : List Lab} {w0 w : World} {m : Int} {W acc t : Bs} (hI : FlI b c8 gm q l w0 m W w) (ha : Lib.IsBuilderF 48 5 b b (Lib.byteCells acc) w) (hp : PutI acc W) (h2 : ¬ acc.length ≤ 2000) (h3 : acc.length ≤ 140737488353232) : FlI b c8 gm q l w0 m (W ++ t) w := by
  have e : put acc t = acc := by unfold put; rw [if_neg h2]
  exact ⟨⟨acc, ha, by have := hp.put t; rwa [e] at this, h3⟩, hI.fn, hI.mc, hI.map, hI.below, hI.base, hI.lt8, hI.ltm, hI.pos, hI.max⟩
set_option maxRecDepth 20000 in
set_option maxHeartbeats 4000000 in
theorem put_any (b c8 gm q : Nat) (l : List Lab) (w0 : World) (m : Int) (W t : Bs) (w : World) (hI : FlI b c8 gm q l w0 m W w) (ht : t.length ≤ 140737488351232) : Calls Tryd.prog 17 #[.string (bts t), .pointer (some ⟨b, 0, none⟩)] w fun e w' => e = .returned (.tuple #[]) ∧ FlI b c8 gm q l w0 m (W ++ t) w' := by
  have HI := Lib.hid hI
  obtain ⟨acc, h1, h2, h3⟩ := hI.bld
  obtain ⟨n, hn⟩ : ∃ n, acc.length = n := ⟨_, rfl⟩
  have HN := Lib.hid hn
  have H1 := Lib.hid h1
  have H2 := Lib.hid h2
  have HT := Lib.hid ht
  have hlt := IsBuilderF.lt h1
  have HC := Lib.hid (Tryd.Builder_Len_f b b (Lib.byteCells acc) w h1)
  rw [Lib.byteCells_length, hn] at HC
  clear hI hn h1 h2
  by_cases h2000 : n ≤ 2000
  · have hb : (n : Int) ≤ 2000 := by omega
    have HW := Lib.hid (Any.Builder_WriteString_k Tryd.lays166 Tryd.Builder_Extra_166 b b (Lib.byteCells acc) (bts t) w H1.out (by rw [Lib.byteCells_length, HN.out, bts_size]; omega) (by omega))
    have HE : Hid (Lib.byteCells acc ++ Lib.strCells (bts t) = Lib.byteCells (acc ++ t)) := Lib.hid (by
      rw [Lib.strCells_eq, show (bts t).data.toList = t from rfl]; simp [Lib.byteCells])
    go_enter Tryd.func17, Tryd.ntmps17
    go_wp2_with fail
    refine Calls.mono HC.out ?_
    rintro e' w' ⟨rfl, rfl⟩
    go_wp2_with fail
    refine Calls.mono HW.out ?_
    rintro e' w'' ⟨rfl, hb1, hb2, hb3⟩
    have HR := Lib.hid (HI.out.wrote H2.out (by rw [HN.out]; exact h2000) HT.out (by rw [← HE.out]; exact hb1) hb2 hb3)
    clear hb1 hb2 hb3
    go_wp2_with fail
    go_end0
    exact ⟨rfl, HR.out⟩
  · have hb : ¬ (n : Int) ≤ 2000 := by omega
    have HR := Lib.hid (HI.out.kept (t := t) H1.out H2.out (by rw [HN.out]; exact h2000) (by rw [HN.out]; rw [HN.out] at h3; exact h3))
    go_enter Tryd.func17, Tryd.ntmps17
    go_wp2_with fail
    refine Calls.mono HC.out ?_
    rintro e' w' ⟨rfl, rfl⟩
    go_wp2_with fail
    go_end0
    exact ⟨rfl, HR.out⟩
theorem enters17 : Enters 17 := fun args w => by kernel_rfl
theorem enters20 : Enters 20 := fun args w => by kernel_rfl
set_option maxRecDepth 20000 in
set_option maxHeartbeats 4000000 in
theorem gap_any (b c8 gm q : Nat) (l : List Lab) (w0 : World) (m : Int) (W f : Bs) (w : World) (hI : FlI b c8 gm q l w0 m W w) (hf : f.length ≤ 2001) (hS : LabSizes l) : Calls Tryd.prog 20 #[.string (bts f), .pointer (some ⟨b + 1, 0, none⟩), .pointer (some ⟨c8, 0, none⟩)] w fun e w' => e = .returned (.tuple #[]) ∧ FlI b c8 gm q l w0 m (W ++ lookD l f) w' := by
  have hlt := heap_lt hI.fn
  have h1 : w.cell? ⟨b + 1, 0, none⟩ = some (.func (.func 17) #[] #[.pointer (some ⟨b, 0, none⟩)]) := by
    unfold World.cell?
    rw [hI.fn]; rfl
  have h2 := hI.mc
  have hrun := hI.map.get (k := f) (by unfold maxLen; omega)
  have HC := Lib.hid (put_any b c8 gm q l w0 m W (lookD l f) w hI (lookD_mem fun x hx => (hS x hx).2))
  have hen := enters17
  unfold Enters at hen
  obtain ⟨T, hT⟩ : ∃ T, bts f = T := ⟨_, rfl⟩
  obtain ⟨V, hV⟩ : ∃ V, bts (lookD l f) = V := ⟨_, rfl⟩
  rw [hT, hV] at hrun
  rw [hV] at HC
  rw [hT]
  clear hI hT hV
  go_enter Tryd.func20, Tryd.ntmps20
  go_wp2_with fail
  refine Calls.mono HC.out ?_
  rintro e' w' ⟨rfl, hI⟩
  have HI := Lib.hid hI
  clear hI
  go_wp2_with fail
  go_end0
  exact ⟨rfl, HI.out⟩
end Go.Proofs.YtooocllampkibaaDoor
