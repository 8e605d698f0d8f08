/- Contracts: the last thing leaves the row; the first one leaves the heap. -/
import Derived.Test.YtfjoakhcgpckgaaHeapPush
namespace Go.Proofs.Ytfjoakhcgpckgaa
open Go.ChangeShapes Go.WideShapes Go.ChangeAt Go.RowKit
set_option linter.unusedVariables false
open Hp
theorem own_less {w : World} {E : TypeId} {g n cap : Nat} {xs : List Value} (h : w.ownsRow 0 E 1 (.slice (some ⟨g, 0, none⟩) (n + 1) cap) (n + 1) xs) : w.ownsRow 0 E 1 (.slice (some ⟨g, 0, none⟩) n cap) n (xs.take n) := by
  have hl : xs.length = n + 1 := by simpa using h.1
  refine ⟨by rw [List.length_take, hl]; omega, ?_⟩
  rcases h.2 with ⟨e, _⟩ | ⟨g', cap', cur, e, hb, hg, hnc, hcm, hcs, ht⟩
  · cases e
  · simp only [Value.slice.injEq, Option.some.injEq, Addr.mk.injEq] at e
    obtain ⟨⟨rfl, _, _⟩, _, rfl⟩ := e
    refine .inr ⟨g, cap, cur, rfl, hb, hg, by omega, hcm, hcs, ?_⟩
    rw [← ht, List.take_take]
    congr 1
    omega
theorem own_cap {w : World} {E : TypeId} {g n cap : Nat} {xs : List Value} (h : w.ownsRow 0 E 1 (.slice (some ⟨g, 0, none⟩) n cap) n xs) : n ≤ cap ∧ cap ≤ 9223372036854775807 := by
  rcases h.2 with ⟨e, _⟩ | ⟨g', cap', cur, e, hb, hg, hnc, hcm, hcs, ht⟩
  · cases e
  · simp only [Value.slice.injEq, Option.some.injEq, Addr.mk.injEq] at e
    obtain ⟨_, _, rfl⟩ := e
    unfold maxLen at hcm
    exact ⟨hnc, by omega⟩
theorem HW.popped {F : Nat → Prop} {gq gm : Nat} {born : Int} {g cap : Nat} {ts : List Th} {t : Th} {w : World} (h : HW F gq gm born (.slice (some ⟨g, 0, none⟩) (ts.length + 1) cap) (ts ++ [t]) w) :
    HW F gq gm born (.slice (some ⟨g, 0, none⟩) ts.length cap) ts (w.setCell ⟨gq, 0, none⟩ (.slice (some ⟨g, 0, none⟩) ts.length cap)) := by
  have hl : (ts ++ [t]).length = ts.length + 1 := by simp
  have hr := h.row
  rw [hl] at hr
  have hr2 := own_less hr
  have e1 : (ptrs (ts ++ [t])).take ts.length = ptrs ts := by simp [ptrs]
  rw [e1] at hr2
  have up : ∀ (j : Nat) (a : Th), ts[j]? = some a → (ts ++ [t])[j]? = some a := fun j a hj => by rw [List.getElem?_append_left (List.getElem?_eq_some_iff.1 hj).1]; exact hj
  refine ⟨(h.var.set 0 _).congr fun c hc => ?_, h.fq, own_setOther hr2 (own_ne hr2 h.var (by decide)) _, fun k hk => h.rowF k hk, fun j a hj => ?_, fun i j a b ha hb he => h.inj i j a b (up i a ha) (up j b hb) he⟩
  · unfold qF
    have : c = 0 ∨ c = 1 ∨ c = 2 := by omega
    rcases this with rfl | rfl | rfl <;> rfl
  · have q := h.th j a (up j a hj)
    exact ⟨q.1, q.2.setOther (a := ⟨gq, 0, none⟩) (row_ne q.2 h.var (by decide)) _⟩
set_option maxRecDepth 20000 in
set_option maxHeartbeats 1600000 in
theorem RPop_any (F : Nat → Prop) (gq gm : Nat) (born : Int) (v : Value) (ts : List Th) (t : Th) (w : World) (h : HW F gq gm born v (ts ++ [t]) w) (h4 : ts.length ≤ 1000) :
    Calls Try.prog 274 #[.pointer (some ⟨gq, 0, none⟩)] w fun e w' => e = .returned (.iface 177 (ptr1 t)) ∧ ∃ v', HW F gq gm born v' ts w' ∧ w'.rowIs t.blk 179 4 (thF t ts.length) ∧ Kept F w w' := by
  obtain ⟨g, cap, rfl, hg, hFg⟩ := h.slice (by simp)
  obtain ⟨n, hnn⟩ : ∃ n, ts.length = n := ⟨_, rfl⟩
  have hl : (ts ++ [t]).length = n + 1 := by rw [List.length_append, hnn]; rfl
  rw [hl] at h
  have c0 := h.cell
  have lq := h.var.lt
  have fq := h.var.frozen 0
  have ht : (ts ++ [t])[n]? = some t := by rw [List.getElem?_append_right (by omega), hnn]; simp
  have c1 := h.ptr ht
  unfold ptr1 at c1
  have hr := h.row
  rw [hl] at hr
  obtain ⟨k1, k2⟩ := own_cap hr
  have HN := Lib.hid hnn
  have HH := Lib.hid h
  have HT := Lib.hid ht
  have H4 := Lib.hid h4
  have w0 : IntKind.i64.wrap (n : Int) = (n : Int) := IntWalk.i64_in _ (by omega)
  have w1 : ((n + 1 : Nat) : Int) - 1 = (n : Int) := by omega
  have hn1 : (0 : Int) ≤ (n : Int) := by omega
  have hn2 : (n : Int) < ((n + 1 : Nat) : Int) := by omega
  have hn3 : (n : Int) ≤ (cap : Int) := by omega
  clear h ht hr hnn hl h4
  go_enter Try.func274, Try.ntmps274
  go_wp2_with fail
  have hp := HW.popped (F := F) (gq := gq) (gm := gm) (born := born) (g := g) (cap := cap) (ts := ts) (t := t) (w := w) (by rw [HN.out]; exact HH.out)
  rw [HN.out] at hp
  have q := (HH.out.th n t HT.out).2
  go_ret
  exact ⟨rfl, _, hp, by rw [HN.out]; exact q.setOther (a := ⟨gq, 0, none⟩) (row_ne q HH.out.var (by decide)) _, (Kept.refl F w).setCell (p := ⟨gq, 0, none⟩) (.inl HH.out.fq) _⟩
theorem last_of {us : List Th} {n : Nat} {a : Th} (hl : us.length = n + 1) (h : us[n]? = some a) : us = us.take n ++ [a] := by
  have e : us.take (n + 1) = us.take n ++ us[n]?.toList := List.take_add_one
  rw [h, List.take_of_length_le (by omega)] at e
  simpa using e
theorem pop_but {ts : List Th} {n : Nat} {a b : Th} (h : Heap ts (n + 1)) (ha : ts[0]? = some a) (hb : ts[n]? = some b) : ButH (swp ts 0 n) n 0 := by
  refine ⟨fun k x y h0 hk _ hp hx hy => ?_, fun k x y h0 hk hp hi => absurd hi (by omega)⟩
  have := par_lt h0
  rw [swp_at ha hb, if_neg (by omega), if_neg (by omega)] at hx hy
  exact h k x y h0 (by omega) hx hy
set_option maxRecDepth 20000 in
set_option maxHeartbeats 1600000 in
theorem hPop_any (F : Nat → Prop) (gq gm : Nat) (born : Int) (v : Value) (ts : List Th) (a : Th) (w : World) (h : HW F gq gm born v ts w) (hh : Heap ts ts.length) (ha : ts[0]? = some a) (h4 : ts.length ≤ 900) :
    Calls Try.prog 113 #[hp gq] w fun e w' => e = .returned (.iface 177 (ptr1 a)) ∧ ∃ v' us j, (us ++ [a]).Perm ts ∧ Heap us us.length ∧ HW F gq gm born v' us w' ∧ w'.rowIs a.blk 179 4 (thF a j) ∧ Kept F w w' := by
  have h0 := (List.getElem?_eq_some_iff.1 ha).1
  obtain ⟨n, hnn⟩ : ∃ n, ts.length = n + 1 := ⟨ts.length - 1, by omega⟩
  obtain ⟨b, hb⟩ : ∃ b, ts[n]? = some b := ⟨_, List.getElem?_eq_getElem (by omega)⟩
  have HH := Lib.hid h
  have HA := Lib.hid ha
  have HB := Lib.hid hb
  have HL := Lib.hid hnn
  have HBU := Lib.hid (pop_but (by rw [← hnn]; exact hh) ha hb)
  have HSW := Lib.hid (swp_perm ts 0 n)
  have HSL := Lib.hid (swp_length ts 0 n)
  have HSN : Hid ((swp ts 0 n)[n]? = some a) := Lib.hid (by rw [swp_at ha hb, if_pos rfl])
  obtain ⟨g2, cap2, e2, -, -⟩ := h.slice (by omega)
  have HSV : Hid (∃ a cap, v = .slice a (n + 1) cap) := Lib.hid ⟨_, cap2, by rw [e2, hnn]⟩
  have H4 := Lib.hid (show ts.length ≤ 1000 ∧ n ≤ 1000 from by omega)
  have w0 : IntKind.i64.wrap (n : Int) = (n : Int) := IntWalk.i64_in _ (by omega)
  have w1 : ((n + 1 : Nat) : Int) - 1 = (n : Int) := by omega
  have n1 := nPop ⟨gq, 0, none⟩
  have n2 := nLen ⟨gq, 0, none⟩
  have n3 := nSwap ⟨gq, 0, none⟩
  have m1 := mPop ⟨gq, 0, none⟩
  have m2 := mLen h.cell
  have m3 := mSwap h.cell
  clear h hh ha hb hnn h4 h0 e2
  unfold hp
  go_enter Try.func113, Try.ntmps113
  go_wp2_with (first
    | (go_at_call 270; refine Calls.mono (Len_any v (n + 1) _ HSV.out) ?_; rintro e w3 ⟨rfl, hw3⟩; subst hw3)
    | (go_at_call 272; refine Calls.mono (Swap_any F gq gm born v ts 0 n a b _ HH.out HA.out HB.out H4.out.1) ?_; rintro e w2 ⟨rfl, hH2, hK2⟩; have HH2 := Lib.hid hH2; have HK2 := Lib.hid hK2; clear hH2 hK2)
    | (go_at_call 182; refine Calls.mono (down_any F gq gm born v (swp ts 0 n) n 0 _ HH2.out (by rw [HSL.out, HL.out]; omega) (by omega) HBU.out (by rw [HSL.out]; exact H4.out.1)) ?_; rintro e w4 ⟨us, r, rfl, hE, hS, hH4, hK4⟩; have HE := Lib.hid hE; have HS := Lib.hid hS; have HH4 := Lib.hid hH4; have HK4 := Lib.hid hK4; clear hE hS hH4 hK4; obtain ⟨vs, hvs⟩ : ∃ vs, us = vs ++ [a] := ⟨us.take n, last_of (by rw [HS.out.1.length_eq, HSL.out, HL.out]) (by rw [HS.out.2 n (Nat.le_refl _)]; exact HSN.out)⟩; have HVS := Lib.hid hvs; have HH5 : Hid (HW F gq gm born v (vs ++ [a]) w4) := Lib.hid (hvs ▸ HH4.out); have HVL : Hid (vs.length ≤ 1000) := Lib.hid (by have h1 := HS.out.1.length_eq; rw [hvs, HSL.out, HL.out, List.length_append] at h1; have := H4.out; simp at h1; omega); clear hvs)
    | (go_at_call 274; refine Calls.mono (RPop_any F gq gm born v vs a _ HH5.out HVL.out) ?_; rintro e w6 ⟨rfl, v', hH6, hR6, hK6⟩))
  go_ret
  have hlen : vs.length = n := by
    have h1 := HS.out.1.length_eq
    rw [HVS.out, HSL.out, HL.out, List.length_append] at h1
    simpa using h1
  have hheap : Heap us n := by
    cases r with
    | true => exact HE.out.1 rfl
    | false =>
      obtain ⟨e1, e2⟩ := HE.out.2 rfl
      rw [e1]
      exact HBU.out.first e2
  refine ⟨rfl, v', vs, _, ?_, fun i x y p1 p2 p3 p4 => ?_, hH6, hR6, (HK2.out.trans HK4.out (fun x hx => .inl hx)).trans hK6 (fun x hx => .inl hx)⟩
  · rw [← HVS.out]; exact HS.out.1.trans HSW.out
  · have := par_lt p1
    refine hheap i x y p1 (by omega) ?_ ?_
    · rw [HVS.out, List.getElem?_append_left p2]; exact p3
    · rw [HVS.out, List.getElem?_append_left (by omega)]; exact p4
end Go.Proofs.Ytfjoakhcgpckgaa
