/- Contracts: a thing is added to the row, and to the heap. -/
import Derived.Test.YtfjoakhcgpckgaaHeapDown
namespace Go.Proofs.Ytfjoakhcgpckgaa
open Go.ChangeShapes Go.WideShapes Go.ChangeAt Go.RowKit
set_option linter.unusedVariables false
open Hp
theorem infoThing : (Try.prog.info? 177).map (fun i => (i.zero, i.size, i.bytes)) = some (some (.pointer none), 1, 8) := by kernel_rfl
theorem asThing (x : Value) (w : World) : (Instr.typeAssert (.iface 177 x) 20 177 false).run Try.prog w = .ok x w := by kernel_rfl
theorem HW.told {F : Nat → Prop} {gq gm : Nat} {born : Int} {v : Value} {ts : List Th} {t : Th} {j0 : Nat} {w : World} (h : HW F gq gm born v ts w) (ht : w.rowIs t.blk 179 4 (thF t j0)) (hn : ∀ (j : Nat) (a : Th), ts[j]? = some a → a.blk ≠ t.blk) (u : Value) : HW F gq gm born v ts (w.setCell ⟨t.blk, 3, none⟩ u) :=
  ⟨h.var.setOther (row_ne h.var ht (by decide)) _, h.fq, own_setOther h.row (own_ne h.row ht (by decide)) _, h.rowF, fun j a hj => ⟨(h.th j a hj).1, (h.th j a hj).2.setOther (a := ⟨t.blk, 3, none⟩) (hn j a hj) _⟩, h.inj⟩
theorem HW.pushed {F : Nat → Prop} {gq gm : Nat} {born : Int} {v : Value} {ts : List Th} {t : Th} {w w4 : World} {g cap : Nat} (h : HW F gq gm born v ts w) (ht : w.rowIs t.blk 179 4 (thF t ts.length)) (hF : F t.blk) (hn : ∀ (j : Nat) (a : Th), ts[j]? = some a → a.blk ≠ t.blk)
    (hown : w4.ownsRow 0 177 1 (.slice (some ⟨g, 0, none⟩) (ts.length + 1) cap) (ts.length + 1) (ptrs ts ++ [ptr1 t])) (hg : w.grownBy w4 v.ownBlock) (hb : v.ownBlock = some g ∨ w.heap.size ≤ g) (B : Nat) (hB : B ≤ w.heap.size) :
    HW (fun k => F k ∨ B ≤ k) gq gm born (.slice (some ⟨g, 0, none⟩) (ts.length + 1) cap) (ts ++ [t]) (w4.setCell ⟨gq, 0, none⟩ (.slice (some ⟨g, 0, none⟩) (ts.length + 1) cap)) := by
  have hv := rowIs_grown h.var hg (fun e => own_ne h.row h.var (by decide) e.symm)
  have key : ∀ (j : Nat) (a : Th), (ts ++ [t])[j]? = some a → (j < ts.length ∧ ts[j]? = some a) ∨ (j = ts.length ∧ a = t) := fun j a hj => by
    by_cases e : j < ts.length
    · rw [List.getElem?_append_left e] at hj; exact .inl ⟨e, hj⟩
    · rw [List.getElem?_append_right (by omega)] at hj
      have h0 := (List.getElem?_eq_some_iff.1 hj).1
      simp at h0
      have e0 : j - ts.length = 0 := by omega
      rw [e0] at hj
      simp at hj
      exact .inr ⟨by omega, hj.symm⟩
  refine ⟨(hv.set 0 _).congr fun c hc => ?_, .inl h.fq, ?_, fun k hk => ?_, fun j a hj => ?_, fun i j a b ha hb he => ?_⟩
  · unfold qF
    have : c = 0 ∨ c = 1 ∨ c = 2 := by omega
    rcases this with rfl | rfl | rfl <;> rfl
  · have e1 : ptrs (ts ++ [t]) = ptrs ts ++ [ptr1 t] := by simp [ptrs]
    rw [List.length_append, e1]
    exact own_setOther hown (own_ne hown hv (by decide)) _
  · obtain rfl : g = k := by simpa [Value.ownBlock] using hk
    rcases hb with e | e
    · exact .inl (h.rowF g e)
    · exact .inr (by omega)
  · rcases key j a hj with ⟨e, hj2⟩ | ⟨e, rfl⟩
    · have hr := (h.th j a hj2).2
      have hr2 := rowIs_grown hr hg (fun e => own_ne h.row hr (by decide) e.symm)
      exact ⟨.inl (h.th j a hj2).1, hr2.setOther (a := ⟨gq, 0, none⟩) (row_ne hr2 hv (by decide)) _⟩
    · subst e
      have hr2 := rowIs_grown ht hg (fun e => own_ne h.row ht (by decide) e.symm)
      exact ⟨.inl hF, hr2.setOther (a := ⟨gq, 0, none⟩) (row_ne hr2 hv (by decide)) _⟩
  · rcases key i a ha with ⟨e1, ha2⟩ | ⟨e1, rfl⟩ <;> rcases key j b hb with ⟨e2, hb2⟩ | ⟨e2, rfl⟩
    · exact h.inj i j a b ha2 hb2 he
    · exact (hn i a ha2 he).elim
    · exact (hn j b hb2 he.symm).elim
    · omega
theorem Kept.grown {F : Nat → Prop} {a w w' : World} {row : Option Nat} (h : Kept F a w) (hg : w.grownBy w' row) (hr : ∀ k, row = some k → F k ∨ a.heap.size ≤ k) : Kept F a w' := by
  have hb := (Below.refl 0 w).grown hg (Nat.zero_le _) (fun _ _ => Nat.zero_le _)
  refine ⟨hb.os.trans h.os, hb.tape.trans h.tape, hb.output.trans h.output, Nat.le_trans h.size hb.size, fun k hk hn => ?_⟩
  have e1 := h.block k hk hn
  rw [← e1]
  refine hg.block k (Nat.lt_of_lt_of_le hk h.size) fun e => ?_
  rcases hr k e.symm with h1 | h1
  · exact hn h1
  · omega
set_option maxRecDepth 20000 in
set_option maxHeartbeats 4000000 in
theorem RPush_any (F : Nat → Prop) (gq gm : Nat) (born : Int) (v : Value) (ts : List Th) (t : Th) (j0 : Nat) (w : World) (h : HW F gq gm born v ts w) (ht : w.rowIs t.blk 179 4 (thF t j0)) (hF : F t.blk) (hn : ∀ (j : Nat) (a : Th), ts[j]? = some a → a.blk ≠ t.blk) (h4 : ts.length ≤ 1000) :
    Calls Try.prog 275 #[.pointer (some ⟨gq, 0, none⟩), .iface 177 (ptr1 t)] w fun e w' => e = .returned (.tuple #[]) ∧ ∃ v', HW (fun k => F k ∨ w.heap.size ≤ k) gq gm born v' (ts ++ [t]) w' ∧ Kept F w w' := by
  have c0 := h.cell
  have lq := h.var.lt
  have c3 : w.cell? ⟨t.blk, 3, none⟩ = some (.int .i64 (j0 : Int)) := ht.cell (i := 3) (by omega)
  have f3 := ht.frozen 3
  have lt := ht.lt
  obtain ⟨n, hnn⟩ : ∃ n, ts.length = n := ⟨_, rfl⟩
  have HN := Lib.hid hnn
  have hsl : ∃ a cap, v = .slice a n cap := by
    rcases h.row.2 with ⟨e, h0⟩ | ⟨g, cap, cur, e, _⟩
    · exact ⟨none, 0, by rw [e, ← hnn, h0]⟩
    · exact ⟨_, cap, by rw [e, hnn]⟩
  obtain ⟨va, vc, rfl⟩ := hsl
  obtain ⟨W1, hW1⟩ : ∃ W, W = w.setCell ⟨t.blk, 3, none⟩ (.int .i64 (n : Int)) := ⟨_, rfl⟩
  have HH1 := Lib.hid (show HW F gq gm born (.slice va n vc) ts W1 from by rw [hW1]; exact h.told ht hn _)
  have HT1 := Lib.hid (show W1.rowIs t.blk 179 4 (thF t ts.length) from by rw [hW1, hnn]; exact th_at ht n)
  have HK1 := Lib.hid (show Kept F w W1 from by rw [hW1]; exact (Kept.refl F w).setCell (p := ⟨t.blk, 3, none⟩) (.inl hF) _)
  have hs1 : W1.heap.size = w.heap.size := by rw [hW1]; simp
  have HW1 := Lib.hid hW1
  have HR := Lib.hid (show W1.ownsRow 0 177 1 (.slice va n vc) n (ptrs ts) from by have := HH1.out.row; rwa [hnn] at this)
  have HF := Lib.hid hF
  have HNN := Lib.hid hn
  have H4 := Lib.hid h4
  have q0 := HH1.out.cell
  have lq1 : gq < W1.heap.size := by omega
  unfold ptr1
  have ta := asThing
  have HS1 := Lib.hid hs1
  clear h ht hF hn hnn h4 hW1 hs1
  go_enter Try.func275, Try.ntmps275
  go_upto_region 2 with fail
  rw [← HW1.out]
  clear c0 c3 f3
  go_wp2_with (at_builtin; go_loud (refine wpList_push _ (by rfl) _ _ 174 (by rfl) 0 177 (.pointer none) 8 Try.underlying174 infoThing (by rfl) (.slice va n vc) n (ptrs ts) (ptr1 t) _ rfl (by rfl) HR.out (by rfl) (by rfl) (by have := HN.out; have := H4.out; unfold maxLen; omega) (by have := HN.out; have := H4.out; omega) (Nat.zero_le _) ?_; intro gg cap3 w4 hown1 hgrow1 hgb hgl; have HO := Lib.hid hown1; have HG := Lib.hid hgrow1; have HGB := Lib.hid hgb; have hv4 := rowIs_grown HH1.out.var hgrow1 (fun e => own_ne HH1.out.row HH1.out.var (by decide) e.symm); have v0 := hv4.cell (i := 0) (by omega); have v1 := hv4.frozen 0; have v2 := hv4.lt; clear hown1 hgrow1 hgb hv4))
  have hpu := HH1.out.pushed HT1.out HF.out HNN.out (by have := HO.out; rwa [← HN.out] at this) HG.out HGB.out w.heap.size (by have := HS1.out; omega)
  rw [HN.out] at hpu
  have hkp := (HK1.out.grown HG.out (fun k hk => .inl (HH1.out.rowF k hk))).setCell (p := ⟨gq, 0, none⟩) (.inl HH1.out.fq) (.slice (some ⟨gg, 0, none⟩) (n + 1) cap3)
  go_end0
  exact ⟨rfl, _, hpu, hkp⟩
theorem push_up {ts : List Th} {t : Th} (h : Heap ts ts.length) : UpH (ts ++ [t]) (ts.length + 1) ts.length := by
  refine ⟨fun i a b h0 hi hne ha hb => ?_, fun i a b h0 hi hp hj ha hb => ?_⟩
  · have hp := par_lt h0
    rw [List.getElem?_append_left (by omega)] at ha hb
    exact h i a b h0 (by omega) ha hb
  · have := par_lt h0
    omega
theorem HW.wide {F G : Nat → Prop} {gq gm : Nat} {born : Int} {v : Value} {ts : List Th} {w : World} (h : HW F gq gm born v ts w) (hG : ∀ k, F k → G k) : HW G gq gm born v ts w :=
  ⟨h.var, hG _ h.fq, h.row, fun k hk => hG k (h.rowF k hk), fun j t hj => ⟨hG _ (h.th j t hj).1, (h.th j t hj).2⟩, h.inj⟩
set_option maxRecDepth 20000 in
set_option maxHeartbeats 1600000 in
theorem hPush_any (F : Nat → Prop) (gq gm : Nat) (born : Int) (v : Value) (ts : List Th) (t : Th) (j0 : Nat) (w : World) (h : HW F gq gm born v ts w) (hh : Heap ts ts.length) (ht : w.rowIs t.blk 179 4 (thF t j0)) (hF : F t.blk) (hn : ∀ (j : Nat) (a : Th), ts[j]? = some a → a.blk ≠ t.blk) (h4 : ts.length ≤ 900) :
    Calls Try.prog 110 #[hp gq, .iface 177 (ptr1 t)] w fun e w' => e = .returned (.tuple #[]) ∧ ∃ v' us, us.Perm (ts ++ [t]) ∧ Heap us us.length ∧ HW (fun k => F k ∨ w.heap.size ≤ k) gq gm born v' us w' ∧ Kept F w w' := by
  have HH := Lib.hid h
  have HP := Lib.hid hh
  have HT := Lib.hid ht
  have HF := Lib.hid hF
  have HN := Lib.hid hn
  have H4 := Lib.hid h4
  obtain ⟨n, hnn⟩ : ∃ n, ts.length = n := ⟨_, rfl⟩
  have HL := Lib.hid hnn
  have w0 : IntKind.i64.wrap (n : Int) = (n : Int) := IntWalk.i64_in _ (by omega)
  have w1 : ((n + 1 : Nat) : Int) - 1 = (n : Int) := by omega
  have n1 := nPush ⟨gq, 0, none⟩
  have n2 := nLen ⟨gq, 0, none⟩
  have m1 := mPush ⟨gq, 0, none⟩
  unfold hp
  clear h hh ht hF hn h4 hnn
  have hal : (ts ++ [t]).length = n + 1 := by rw [List.length_append, HL.out]; rfl
  have HAL := Lib.hid hal
  have HUP : Hid (UpH (ts ++ [t]) (n + 1) n) := Lib.hid (by have := push_up (t := t) HP.out; rwa [HL.out] at this)
  have HLE : Hid (n + 1 ≤ (ts ++ [t]).length ∧ (ts ++ [t]).length ≤ 1000) := Lib.hid (by have := H4.out; have h1 := HAL.out; have h2 := HL.out; omega)
  have hnn1 : n < n + 1 := by omega
  clear hal
  go_enter Try.func110, Try.ntmps110
  go_wp2_with (first
    | (go_at_call 275; refine Calls.mono (RPush_any F gq gm born v ts t j0 _ HH.out HT.out HF.out HN.out (by have := H4.out; omega)) ?_; rintro e w2 ⟨rfl, v', hH2, hK2⟩; have HH2 := Lib.hid hH2; have HK2 := Lib.hid hK2; have m2 := mLen hH2.cell; obtain ⟨g2, cap2, e2, -, -⟩ := hH2.slice (by rw [HAL.out]; omega); have HSL : Hid (∃ a cap, v' = .slice a (n + 1) cap) := Lib.hid ⟨_, cap2, by rw [e2, HAL.out]⟩; clear hH2 hK2 e2)
    | (go_at_call 270; refine Calls.mono (Len_any v' (n + 1) _ HSL.out) ?_; rintro e w3 ⟨rfl, hw3⟩; subst hw3)
    | (go_at_call 181; refine Calls.mono (up_any _ gq gm born v' (ts ++ [t]) (n + 1) n _ HH2.out HLE.out.1 hnn1 HUP.out HLE.out.2) ?_; rintro e w4 ⟨rfl, us, hHeap, hSame, hH4, hK4⟩))
  go_end0
  have hl : us.length = n + 1 := by rw [hSame.1.length_eq, List.length_append, HL.out]; rfl
  exact ⟨rfl, v', us, hSame.1, by rw [hl]; exact hHeap, hH4, HK2.out.trans hK4 (fun x hx => hx)⟩
end Go.Proofs.Ytfjoakhcgpckgaa
