/- Contract: two things of the heap change places. -/
import Derived.Test.YtfjoakhcgpckgaaHeapW
namespace Go.Proofs.Ytfjoakhcgpckgaa
open Go.ChangeShapes Go.WideShapes Go.ChangeAt Go.RowKit
set_option linter.unusedVariables false
open Hp
/-- between the two halves of Swap: the row has changed, the things' own places not yet -/
structure HM (F : Nat → Prop) (gq gm : Nat) (born : Int) (v : Value) (us ts : List Th) (w : World) : Prop where
  var : w.rowIs gq 176 3 (qF v gm born)
  row : w.ownsRow 0 177 1 v us.length (ptrs us)
  th : ∀ (j : Nat) (t : Th), ts[j]? = some t → F t.blk ∧ w.rowIs t.blk 179 4 (thF t j)
/-- a cell of the row turns -/
theorem HM.set {F : Nat → Prop} {gq gm : Nat} {born : Int} {us ts : List Th} {w : World} {g n cap : Nat} (h : HM F gq gm born (.slice (some ⟨g, 0, none⟩) n cap) us ts w) (i : Nat) (b : Th) (hi : i < us.length) : HM F gq gm born (.slice (some ⟨g, 0, none⟩) n cap) (us.set i b) ts (w.setCell ⟨g, i, none⟩ (ptr1 b)) := by
  have hne : ∀ {c : Nat} {t : TypeId} {m : Nat} {f : Nat → Value}, w.rowIs c t m f → t ≠ 177 → c ≠ g := fun hc ht e => by
    subst e
    rcases h.row.2 with ⟨e2, _⟩ | ⟨g', cap', cur, e2, _, hg, _⟩
    · cases e2
    · simp only [Value.slice.injEq, Option.some.injEq, Addr.mk.injEq] at e2
      obtain ⟨⟨rfl, _⟩, _⟩ := e2
      obtain ⟨cs, hb, _⟩ := hc
      rw [hg] at hb
      simp at hb
      exact ht hb.2.symm
  refine ⟨h.var.setOther (hne h.var (by decide)) _, ?_, fun j t hj => ⟨(h.th j t hj).1, (h.th j t hj).2.setOther (hne (h.th j t hj).2 (by decide)) _⟩⟩
  have hl : n = us.length := by
    rcases h.row.2 with ⟨e2, _⟩ | ⟨g', cap', cur, e2, _⟩
    · cases e2
    · simp only [Value.slice.injEq] at e2
      exact e2.2.1
  subst hl
  have := (h.row.stored i (ptr1 b)).1
  rw [List.length_set]
  rwa [show ptrs (us.set i b) = (ptrs us).set i (ptr1 b) from by simp [ptrs, List.map_set]]
theorem HW.mid {F : Nat → Prop} {gq gm : Nat} {born : Int} {v : Value} {ts : List Th} {w : World} (h : HW F gq gm born v ts w) : HM F gq gm born v ts ts w := ⟨h.var, h.row, h.th⟩
theorem HW.drew {F : Nat → Prop} {gq gm : Nat} {born : Int} {v : Value} {ts : List Th} {w : World} (h : HW F gq gm born v ts w) : HW F gq gm born v ts w.drew := ⟨h.var.drew, h.fq, h.row, h.rowF, fun j t hj => ⟨(h.th j t hj).1, (h.th j t hj).2.drew⟩, h.inj⟩
theorem HM.drew {F : Nat → Prop} {gq gm : Nat} {born : Int} {v : Value} {us ts : List Th} {w : World} (h : HM F gq gm born v us ts w) : HM F gq gm born v us ts w.drew := ⟨h.var.drew, h.row, fun j t hj => ⟨(h.th j t hj).1, (h.th j t hj).2.drew⟩⟩
theorem own_setOther {w : World} {E : TypeId} {v : Value} {n : Nat} {xs : List Value} (h : w.ownsRow 0 E 1 v n xs) {p : Addr} (hne : v.ownBlock ≠ some p.block) (u : Value) : (w.setCell p u).ownsRow 0 E 1 v n xs := by
  refine ⟨h.1, ?_⟩
  rcases h.2 with h2 | ⟨g, cap, cur, rfl, hb, hg, h3⟩
  · exact .inl h2
  · exact .inr ⟨g, cap, cur, rfl, hb, by rw [Below.heap_setCell w p u g fun e => hne (by rw [← e]; rfl)]; exact hg, h3⟩
/-- blocks of other types are others -/
theorem row_ne {w : World} {b c : Nat} {t s : TypeId} {n m : Nat} {f g : Nat → Value} (h : w.rowIs b t n f) (k : w.rowIs c s m g) (ht : t ≠ s) : b ≠ c := fun e => by
  subst e
  obtain ⟨cs, hb, _⟩ := h
  obtain ⟨ds, hc, _⟩ := k
  rw [hb] at hc
  simp at hc
  exact ht hc.2
theorem own_ne {w : World} {E : TypeId} {v : Value} {n : Nat} {xs : List Value} (h : w.ownsRow 0 E 1 v n xs) {c : Nat} {t : TypeId} {m : Nat} {f : Nat → Value} (hc : w.rowIs c t m f) (ht : t ≠ E) : v.ownBlock ≠ some c := fun e => by
  rcases h.2 with ⟨rfl, _⟩ | ⟨g, cap, cur, rfl, hb, hg, h3⟩
  · cases e
  · obtain rfl : g = c := by simpa [Value.ownBlock] using e
    obtain ⟨cs, hb2, _⟩ := hc
    rw [hg] at hb2
    simp at hb2
    exact ht hb2.2.symm
/-- a thing is told its place -/
theorem th_at {w : World} {t : Th} {j : Nat} (h : w.rowIs t.blk 179 4 (thF t j)) (k : Nat) : (w.setCell ⟨t.blk, 3, none⟩ (.int .i64 (k : Int))).rowIs t.blk 179 4 (thF t k) :=
  (h.set 3 _).congr fun c hc => by
    unfold thF
    have : c = 0 ∨ c = 1 ∨ c = 2 ∨ c = 3 := by omega
    rcases this with rfl | rfl | rfl | rfl <;> rfl
theorem HM.done {F : Nat → Prop} {gq gm : Nat} {born : Int} {v : Value} {ts : List Th} {i k : Nat} {a b : Th} {w0 w : World} (h0 : HW F gq gm born v ts w0) (ha : ts[i]? = some a) (hb : ts[k]? = some b) (h : HM F gq gm born v (swp ts i k) ts w) :
    HW F gq gm born v (swp ts i k) ((w.setCell ⟨b.blk, 3, none⟩ (.int .i64 (i : Int))).setCell ⟨a.blk, 3, none⟩ (.int .i64 (k : Int))) := by
  have qa := (h.th i a ha).2
  have qb := (h.th k b hb).2
  refine ⟨(h.var.setOther (row_ne h.var qb (by decide)) _).setOther (row_ne h.var qa (by decide)) _, h0.fq, ?_, fun x hx => h0.rowF x hx, fun j t hj => ?_, fun x y c d hx hy he => ?_⟩
  · exact own_setOther (own_setOther h.row (own_ne h.row qb (by decide)) _) (own_ne h.row qa (by decide)) _
  · rw [swp_at ha hb] at hj
    by_cases e1 : j = k
    · subst e1
      rw [if_pos rfl] at hj
      cases hj
      refine ⟨(h.th i a ha).1, ?_⟩
      by_cases e2 : a.blk = b.blk
      · have hij := h0.inj i j a b ha hb e2
        subst hij
        obtain rfl : a = b := by rw [ha] at hb; exact Option.some.inj hb
        exact th_at (th_at qa i) i
      · exact th_at (qa.setOther (a := ⟨b.blk, 3, none⟩) e2 _) j
    · rw [if_neg e1] at hj
      by_cases e2 : j = i
      · subst e2
        rw [if_pos rfl] at hj
        cases hj
        have hne : b.blk ≠ a.blk := fun e => e1 (h0.inj k j b a hb ha e).symm
        exact ⟨(h.th k b hb).1, (th_at qb j).setOther (a := ⟨a.blk, 3, none⟩) hne _⟩
      · rw [if_neg e2] at hj
        have n1 : t.blk ≠ b.blk := fun e => e1 (h0.inj j k t b hj hb e)
        have n2 : t.blk ≠ a.blk := fun e => e2 (h0.inj j i t a hj ha e)
        exact ⟨(h.th j t hj).1, ((h.th j t hj).2.setOther (a := ⟨b.blk, 3, none⟩) n1 _).setOther (a := ⟨a.blk, 3, none⟩) n2 _⟩
  · rw [swp_at ha hb] at hx hy
    have key : ∀ (x : Nat) (c : Th), (if x = k then some a else if x = i then some b else ts[x]?) = some c → ∃ x', ts[x']? = some c ∧ x = (if x' = i then k else if x' = k then i else x') := fun x c hx => by
      by_cases e1 : x = k
      · rw [if_pos e1] at hx
        cases hx
        exact ⟨i, ha, by rw [if_pos rfl]; exact e1⟩
      · rw [if_neg e1] at hx
        by_cases e2 : x = i
        · rw [if_pos e2] at hx
          cases hx
          refine ⟨k, hb, ?_⟩
          rw [if_neg (fun e => e1 (e2.trans e.symm)), if_pos rfl]
          exact e2
        · rw [if_neg e2] at hx
          exact ⟨x, hx, by rw [if_neg e2, if_neg e1]⟩
    obtain ⟨x', p1, p2⟩ := key x c hx
    obtain ⟨y', q1, q2⟩ := key y d hy
    have := h0.inj x' y' c d p1 q1 he
    subst this
    rw [p2, q2]
set_option maxHeartbeats 4000000 in
theorem Swap_any (F : Nat → Prop) (gq gm : Nat) (born : Int) (v : Value) (ts : List Th) (i k : Nat) (a b : Th) (w : World) (h : HW F gq gm born v ts w) (ha : ts[i]? = some a) (hb : ts[k]? = some b) (h4 : ts.length ≤ 1000) :
    Calls Try.prog 272 #[v, .int .i64 i, .int .i64 k] w fun e w' => e = .returned (.tuple #[]) ∧ HW F gq gm born v (swp ts i k) w' ∧ Kept F w w' := by
  have hi := (List.getElem?_eq_some_iff.1 ha).1
  have hk := (List.getElem?_eq_some_iff.1 hb).1
  obtain ⟨g, cap, rfl, hg, hFg⟩ := h.slice (by omega)
  have c1 := h.ptr ha
  have c2 := h.ptr hb
  have c3 := h.row.frozenAt (g := g) i
  have c4 := h.row.frozenAt (g := g) k
  obtain ⟨n, hn⟩ : ∃ n, n = ts.length := ⟨_, rfl⟩
  have HH := Lib.hid h
  have HN := Lib.hid hn
  have HA := Lib.hid ha
  have HB := Lib.hid hb
  rw [← hn] at hi hk h4 HH ⊢
  have hi1 : (0 : Int) ≤ (i : Int) := by omega
  have hi2 : (i : Int) < (n : Int) := by omega
  have hk1 : (0 : Int) ≤ (k : Int) := by omega
  have hk2 : (k : Int) < (n : Int) := by omega
  unfold ptr1 at c1 c2
  clear h ha hb hn
  go_enter Try.func272, Try.ntmps272
  go_upto_region 0 with fail
  go_cut [18] (fun _ W => HM F gq gm born (.slice (some ⟨g, 0, none⟩) n cap) (swp ts i k) ts W ∧ Kept F w W)
  case first =>
    by_cases hik : i = k
    · subst hik
      obtain rfl : a = b := by have h1 := HA.out; rw [HB.out] at h1; exact (Option.some.inj h1).symm
      go_region
      all_goals
        go_wp2_with fail
        go_meet
        exact ⟨by rw [swp_eq HA.out HB.out]; exact ((HH.out.mid.set i a (by rw [← HN.out]; exact hi)).set i a (by rw [List.length_set, ← HN.out]; exact hi)).drew, ((((Kept.refl F w).setCell (p := ⟨g, i, none⟩) (.inl hFg) _).setCell (p := ⟨g, i, none⟩) (.inl hFg) _)).drew⟩
    · have hki : ¬ k = i := fun e => hik e.symm
      go_region
      all_goals
        go_wp2_with fail
        go_meet
        exact ⟨by rw [swp_eq HA.out HB.out]; exact ((HH.out.mid.set i b (by rw [← HN.out]; exact hi)).set k a (by rw [List.length_set, ← HN.out]; exact hk)).drew, ((((Kept.refl F w).setCell (p := ⟨g, i, none⟩) (.inl hFg) _).setCell (p := ⟨g, k, none⟩) (.inl hFg) _)).drew⟩
  case rest =>
    obtain ⟨hm, hK⟩ := hcut
    have HMM := Lib.hid hm
    have HK := Lib.hid hK
    have sl := swp_length ts i k
    have d1 := hm.row.cells (g := g) rfl i (ptr1 b) (ptrs_at (by rw [swp_at HA.out HB.out]; by_cases e : i = k <;> simp [e]; have h1 := HA.out; have h2 := HB.out; rw [e] at h1; rw [h1] at h2; exact (Option.some.inj h2)))
    have d2 := hm.row.cells (g := g) rfl k (ptr1 a) (ptrs_at (by rw [swp_at HA.out HB.out, if_pos rfl]))
    rw [show (⟨g, 0, none⟩ : Addr).add i = ⟨g, i, none⟩ from by unfold Addr.add; split <;> simp_all] at d1
    rw [show (⟨g, 0, none⟩ : Addr).add k = ⟨g, k, none⟩ from by unfold Addr.add; split <;> simp_all] at d2
    unfold ptr1 at d1 d2
    have lg : g < wc.heap.size := by have := hK.size; omega
    have ra := (hm.th i a HA.out).2
    have rb := (hm.th k b HB.out).2
    have xa : wc.cell? ⟨a.blk, 3, none⟩ = some (.int .i64 (i : Int)) := ra.cell (i := 3) (by omega)
    have xb : wc.cell? ⟨b.blk, 3, none⟩ = some (.int .i64 (k : Int)) := rb.cell (i := 3) (by omega)
    have fa := ra.frozen 3
    have fb := rb.frozen 3
    have la := ra.lt
    have lb := rb.lt
    have HD := Lib.hid (HM.done HH.out HA.out HB.out hm)
    have hFa := (hm.th i a HA.out).1
    have hFb := (hm.th k b HB.out).1
    clear hm hK sl c1 c2 c3 c4 ra rb
    by_cases hab : a.blk = b.blk
    · obtain rfl : i = k := HH.out.inj i k a b HA.out HB.out hab
      obtain rfl : a = b := by have h1 := HA.out; rw [HB.out] at h1; exact (Option.some.inj h1).symm
      clear hab
      go_wp2_with fail
      go_region
      all_goals
        go_wp2_with fail
        go_end0
        exact ⟨rfl, HD.out.drew, ((HK.out.setCell (p := ⟨a.blk, 3, none⟩) (.inl hFa) _).setCell (p := ⟨a.blk, 3, none⟩) (.inl hFa) _).drew⟩
    · have hba : ¬ b.blk = a.blk := fun e => hab e.symm
      go_wp2_with fail
      go_region
      all_goals
        go_wp2_with fail
        go_end0
        exact ⟨rfl, HD.out.drew, ((HK.out.setCell (p := ⟨b.blk, 3, none⟩) (.inl hFb) _).setCell (p := ⟨a.blk, 3, none⟩) (.inl hFa) _).drew⟩
end Go.Proofs.Ytfjoakhcgpckgaa
